/- srr's Now, Turn and Load. -/
import Derived.Test.YtlbcfkkeoedhdaaSrrNew
import Derived.Handy
namespace Go.Proofs.Ytlbcfkkeoedhdaa
open Go.RowKit

theorem srr_cell {w : World} {b : Nat} {vl vb : Value} {s : SrrS} {F : HP} (h : Sat w (srrAt b vl vb s • F)) :
    w.cell? ⟨b, 0, none⟩ = some (.int .i64 s.pos) ∧ w.cell? ⟨b, 1, none⟩ = some (.int .i64 s.round) ∧ w.cell? ⟨b, 2, none⟩ = some vl ∧ w.cell? ⟨b, 3, none⟩ = some vb ∧ b < w.heap.size ∧
    w.frozen? ⟨b, 0, none⟩ = false ∧ w.frozen? ⟨b, 1, none⟩ = false ∧ w.frozen? ⟨b, 2, none⟩ = false ∧ Rd w vl 1 (i64s s.left) ∧ Rd w vb 1 (i64s s.brings) := by
  have h1 : Sat w (pc b #[.int .i64 s.pos, .int .i64 s.round, vl, vb] • (sl vl 1 (i64s s.left) • sl vb 1 (i64s s.brings) • F)) := h.perm (by unfold srrAt; ac_rfl)
  exact ⟨by simp [h1.cell], by simp [h1.cell], by simp [h1.cell], by simp [h1.cell], h1.lt, h1.free _, h1.free _, h1.free _, h1.drop.rd, h1.drop.swap.rd⟩

theorem now_any (b : Nat) (s : SrrS) (F : HP) (w : World) (hS : Sat w (srrRep b s • F)) :
    Calls Try.prog 14 #[.pointer (some ⟨b, 0, none⟩)] w fun e w' => e = .returned (.int .i64 s.pos) ∧ w = w' := by
  obtain ⟨⟨vl, vb⟩, hS⟩ := Sat.ex.1 hS
  obtain ⟨c0, _⟩ := srr_cell hS
  clear hS
  go_enter Try.func14, Try.ntmps14
  go_wp2
  go_ret
  exact ⟨rfl, rfl⟩

def TurnPost (s : SrrS) (w : World) (e : Ending) (w' : World) : Prop :=
  ∃ ao n c, e = .returned (.agg #[.int .i64 s.pos, .int .i64 s.round, .slice ao n c]) ∧ Made w w' (sl (.slice ao n c) 1 (i64s s.left)) ∧ s.left.length = n ∧ n ≤ c ∧ c ≤ maxLen

theorem cell_made {w wc : World} {A : HP} (h : Made w wc A) {p : Addr} (hp : p.block < w.heap.size) {v : Option Value} (hv : w.cell? p = v) : wc.cell? p = v := (h.below.cell hp).trans hv
theorem free_made {w wc : World} {A : HP} (h : Made w wc A) {p : Addr} (hp : p.block < w.heap.size) {v : Bool} (hv : w.frozen? p = v) : wc.frozen? p = v := (h.below.frozen hp).trans hv

set_option maxHeartbeats 1600000 in
theorem turn_any (b : Nat) (s : SrrS) (F : HP) (w : World) (hS : Sat w (srrRep b s • F)) (hlen : s.left.length ≤ 1000000) :
    Calls Try.prog 17 #[.pointer (some ⟨b, 0, none⟩)] w (TurnPost s w) := by
  obtain ⟨⟨vl, vb⟩, hS⟩ := Sat.ex.1 hS
  obtain ⟨c0, c1, c2, c3, hb, f0, f1, f2, hr, _⟩ := srr_cell hS
  obtain ⟨ao, n, c, hv, _⟩ := hr.shape
  dsimp only at hv
  subst hv
  have HR := Lib.hid hr
  have hne : b ≠ w.heap.size := by omega
  have hne2 : w.heap.size ≠ b := by omega
  have HB : Hid ((i64s s.left).length * 8 ≤ 140737488355328) := by show (i64s s.left).length * 8 ≤ 140737488355328; simp [i64s]; omega
  clear hS hr c3 f0 f1 f2
  go_enter Try.func17, Try.ntmps17
  go_wp2
  go_region_held3 (fun w' => w'.cell? ⟨b, 0, none⟩ = some (.int .i64 s.pos) ∧ w'.cell? ⟨b, 1, none⟩ = some (.int .i64 s.round) ∧ w'.cell? ⟨b, 2, none⟩ = some (.slice ao n c)) (go_keep)
    ((go_at_call 25; refine (clone_i64 _ (i64s s.left) _ ?_ (oneCell_ints _ _) HB.out).mono ?_; exact (HR.out.alloc _).drew; rintro e wc ⟨aoc, nc, cc, rfl, hcl⟩
      have k0 := cell_made hcl.1 (p := ⟨b, 0, none⟩) (v := some (.int .i64 s.pos)) (by simp; omega) (by simp [go_sem, c0, hb])
      have k1 := cell_made hcl.1 (p := ⟨b, 1, none⟩) (v := some (.int .i64 s.round)) (by simp; omega) (by simp [go_sem, c1, hb])
      have k2 := cell_made hcl.1 (p := ⟨b, 2, none⟩) (v := some (.slice ao n c)) (by simp; omega) (by simp [go_sem, c2, hb])
      have k3 := cell_made hcl.1 (p := ⟨w.heap.size, 0, none⟩) (v := some (.int .i64 0)) (by simp) (by simp [go_sem])
      have k4 := cell_made hcl.1 (p := ⟨w.heap.size, 1, none⟩) (v := some (.int .i64 0)) (by simp) (by simp [go_sem])
      have k5 := cell_made hcl.1 (p := ⟨w.heap.size, 2, none⟩) (v := some (.slice none 0 0)) (by simp) (by simp [go_sem])
      have k6 := free_made hcl.1 (p := ⟨w.heap.size, 0, none⟩) (v := false) (by simp) (by simp [go_sem])
      have k7 := free_made hcl.1 (p := ⟨w.heap.size, 1, none⟩) (v := false) (by simp) (by simp [go_sem])
      have k8 := free_made hcl.1 (p := ⟨w.heap.size, 2, none⟩) (v := false) (by simp) (by simp [go_sem])
      have HC := Lib.hid hcl
      clear hcl))
  go_wp2
  obtain ⟨hm, g1, g2, g3, _⟩ := HC.out
  refine bodyPost_ret (v := .agg #[.int .i64 s.pos, .int .i64 s.round, .slice aoc nc cc]) (by simp [results, Try.results17, go_sem, k3, k4, k5]) rfl ⟨aoc, nc, cc, rfl, ?_, by simpa [i64s] using g1, g2, g3⟩
  have a := hm.sat (F := pc w.heap.size #[.int .i64 0, .int .i64 0, .slice none 0 0] • ownW w) ((Sat.own w).box _ _)
  exact ⟨(((a.swap.set (i := 0) (.int .i64 s.pos)).set (i := 1) (.int .i64 s.round)).set (i := 2) (.slice aoc nc cc)).drop, (((((Same.refl w).alloc _).drew).trans hm.2).setCell _ _ |>.setCell _ _).setCell _ _⟩

end Go.Proofs.Ytlbcfkkeoedhdaa
