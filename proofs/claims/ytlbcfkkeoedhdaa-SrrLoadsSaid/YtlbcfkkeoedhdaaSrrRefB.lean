/- The document's members that take turns: New, Turn, Sent. -/
import Derived.Test.YtlbcfkkeoedhdaaSrrTurn
import Derived.Test.YtlbcfkkeoedhdaaSrrRefA
import Derived.Deep.QuietTactic
import Derived.BigQuiet
import Derived.StillTailTactics
namespace Go.Proofs.Ytlbcfkkeoedhdaa
open Go.RowKit

/-- The document's Srr in memory. -/
def refAt (b : Nat) (vw vl : Value) (ws : List Int) (q : Int) (s : SrrS) : HP := pc b #[vw, .int .i64 q, .int .i64 s.pos, .int .i64 s.round, vl] • sl vw 1 (i64s ws) • sl vl 1 (i64s s.left)
def refRep (b : Nat) (ws : List Int) (q : Int) (s : SrrS) : HP := ex fun p : Value × Value => refAt b p.1 p.2 ws q s

theorem rturn_ok (a q : Int) (w : World) (ha : 1 ≤ a ∧ a ≤ 1000) (hq : 1 ≤ q ∧ q ≤ 65536) :
    Calls Try.prog 24 #[.int .i64 a, .int .i64 q] w fun e w' => e = .returned (.int .i64 (a * q)) ∧ w = w' := by
  have h : 1 ≤ a * q ∧ a * q ≤ 65536000 := by
    have h1 : 1 * 1 ≤ a * q := Int.mul_le_mul ha.1 hq.1 (by omega) (by omega)
    have h2 : a * q ≤ 1000 * 65536 := Int.mul_le_mul ha.2 hq.2 (by omega) (by omega)
    omega
  have hw : IntKind.i64.wrap (a * q) = a * q := IntWalk.i64_in _ (by omega)
  clear ha hq
  obtain ⟨h1, h2⟩ := h
  go_enter Try.func24, Try.ntmps24
  go_wp2
  go_ret
  exact ⟨rfl, rfl⟩

theorem ref_cell {w : World} {b : Nat} {vw vl : Value} {ws : List Int} {q : Int} {s : SrrS} {F : HP} (h : Sat w (refAt b vw vl ws q s • F)) :
    w.cell? ⟨b, 0, none⟩ = some vw ∧ w.cell? ⟨b, 1, none⟩ = some (.int .i64 q) ∧ w.cell? ⟨b, 2, none⟩ = some (.int .i64 s.pos) ∧ w.cell? ⟨b, 3, none⟩ = some (.int .i64 s.round) ∧ w.cell? ⟨b, 4, none⟩ = some vl ∧ b < w.heap.size ∧
    (∀ i, w.frozen? ⟨b, i, none⟩ = false) ∧ Rd w vw 1 (i64s ws) ∧ Rd w vl 1 (i64s s.left) := by
  have h1 : Sat w (pc b #[vw, .int .i64 q, .int .i64 s.pos, .int .i64 s.round, vl] • (sl vw 1 (i64s ws) • sl vl 1 (i64s s.left) • F)) := h.perm (by unfold refAt; ac_rfl)
  exact ⟨by simp [h1.cell], by simp [h1.cell], by simp [h1.cell], by simp [h1.cell], by simp [h1.cell], h1.lt, h1.free, h1.drop.rd, h1.drop.swap.rd⟩

theorem rnow_any (b : Nat) (ws : List Int) (q : Int) (s : SrrS) (F : HP) (w : World) (hS : Sat w (refRep b ws q s • F)) :
    Calls Try.prog 15 #[.pointer (some ⟨b, 0, none⟩)] w fun e w' => e = .returned (.int .i64 s.pos) ∧ w = w' := by
  obtain ⟨⟨vw, vl⟩, hS⟩ := Sat.ex.1 hS
  obtain ⟨_, _, c2, _⟩ := ref_cell hS
  clear hS
  go_enter Try.func15, Try.ntmps15
  go_wp2
  go_ret
  exact ⟨rfl, rfl⟩

/-- An empty row of a block of its own. -/
theorem Sat.empty {w : World} {A : HP} (h : Sat w A) (t : TypeId) {m : Nat} (hm : m = w.heap.size) : Sat (w.alloc (.cells #[] t)).drew (sl (.slice (some ⟨m, 0, none⟩) 0 0) 1 [] • A) := by
  subst hm
  exact ((h.box #[] t).sl_mk (by simp) (Nat.le_refl _) (by simp [maxLen]) (by simp) (by simp)).drew

set_option maxHeartbeats 1600000 in
theorem rturnOf_any (b : Nat) (ws : List Int) (q : Int) (s : SrrS) (F : HP) (w : World) (hS : Sat w (refRep b ws q s • F)) (hlen : s.left.length ≤ 1000000) :
    Calls Try.prog 18 #[.pointer (some ⟨b, 0, none⟩)] w (TurnPost s w) := by
  obtain ⟨⟨vw, vl⟩, hS⟩ := Sat.ex.1 hS
  obtain ⟨c0, c1, c2, c3, c4, hb, _, _, hr⟩ := ref_cell hS
  obtain ⟨ao, n, c, hv, _⟩ := hr.shape
  dsimp only at hv
  subst hv
  have HR := Lib.hid hr
  have hne : b ≠ w.heap.size := by omega
  have hne2 : w.heap.size ≠ b := by omega
  have HB : Hid (s.left.length ≤ 1000000) := hlen
  clear hS hr c0 c1 hlen
  go_enter Try.func18, Try.ntmps18
  go_wp2
  go_region_held3 (fun w' => w'.cell? ⟨b, 2, none⟩ = some (.int .i64 s.pos) ∧ w'.cell? ⟨b, 3, none⟩ = some (.int .i64 s.round) ∧ w'.cell? ⟨b, 4, none⟩ = some (.slice ao n c)) (go_keep)
    ((refine step_append_sl (o := ⟨some 19, _, _, _, _, _⟩) rfl el_i64 _ _ rfl (v := .slice (some ⟨w.heap.size + 1, 0, none⟩) 0 0) (xs := []) (news := i64s s.left) (R := pc w.heap.size #[.int .i64 0, .int .i64 0, .slice none 0 0] • ownW w) rfl rfl (((Sat.own w).box _ _).empty _ (by simp)) ((HR.out.alloc _).alloc _).drew (oneCell_ints _ _) (by have := HB.out; simp [i64s, maxLen]; omega) (by have := HB.out; simp [i64s]; omega) ?_
      intro aoc nc cc wc QQ
      have hcl : Made w wc (sl (.slice aoc nc cc) 1 (i64s s.left) • pc w.heap.size #[.int .i64 0, .int .i64 0, .slice none 0 0]) := ⟨QQ.out.1.perm (by simp only [List.nil_append]; ac_rfl), (((Same.refl w).alloc _).alloc _).drew.trans QQ.out.2.1⟩
      have k0 := cell_made hcl (p := ⟨b, 2, none⟩) (v := some (.int .i64 s.pos)) hb c2
      have k1 := cell_made hcl (p := ⟨b, 3, none⟩) (v := some (.int .i64 s.round)) hb c3
      have k2 := cell_made hcl (p := ⟨b, 4, none⟩) (v := some (.slice ao n c)) hb c4
      have hpc : Sat wc (pc w.heap.size #[.int .i64 0, .int .i64 0, .slice none 0 0] • (sl (.slice aoc nc cc) 1 (i64s s.left) • ownW w)) := hcl.1.perm (by ac_rfl)
      have k3 : wc.cell? ⟨w.heap.size, 0, none⟩ = some (.int .i64 0) := by rw [hpc.cell]; rfl
      have k4 : wc.cell? ⟨w.heap.size, 1, none⟩ = some (.int .i64 0) := by rw [hpc.cell]; rfl
      have k5 : wc.cell? ⟨w.heap.size, 2, none⟩ = some (.slice none 0 0) := by rw [hpc.cell]; rfl
      have k6 := hpc.free 0
      have k7 := hpc.free 1
      have k8 := hpc.free 2
      have HC := Lib.hid (And.intro hcl (And.intro hpc QQ.out.2.2))
      clear hcl hpc QQ))
  go_wp2
  obtain ⟨hm, hpc, g1, g2, g3, _⟩ := HC.out
  refine bodyPost_ret (v := .agg #[.int .i64 s.pos, .int .i64 s.round, .slice aoc nc cc]) (by simp [results, Try.results18, go_sem, k3, k4, k5]) rfl ⟨aoc, nc, cc, rfl, ?_, by simpa [i64s] using g1, g2, g3⟩
  exact ⟨(((hpc.set (i := 0) (.int .i64 s.pos)).set (i := 1) (.int .i64 s.round)).set (i := 2) (.slice aoc nc cc)).drop, ((hm.2.setCell _ _).setCell _ _).setCell _ _⟩

theorem Sat.boxAt {w : World} {A : HP} (h : Sat w A) (c : Array Value) (t : TypeId) {m : Nat} (hm : m = w.heap.size) : Sat (w.alloc (.cells c t)) (pc m c • A) := hm ▸ h.box c t

theorem Sat.asrow {w : World} {R : HP} {m n : Nat} {mc : Array Value} {z : Value} (h : Sat w (pc m mc • R)) (hm : mc.toList = List.replicate n z) (b3 : n ≤ 9223372036854775807) : Sat w (sl (.slice (some ⟨m, 0, none⟩) n n) 1 (List.replicate n z) • R) := by
  refine h.sl_mk (by simp) (Nat.le_refl _) (by unfold maxLen; omega) ?_ ?_
  · have := congrArg List.length hm
    simp at this
    omega
  · rw [hm]; simp
theorem i64s_repl (n : Nat) : i64s (List.replicate n 0) = List.replicate n (.int .i64 0) := by simp [i64s]
/-- What follows, from whatever world of which this holds. -/
theorem wp_forget {P : Program} {c : Code} {Q : Exit → Act → World → Prop} {a : Act} {w : World} (S : World → Prop) (h : S w) (hk : ∀ w, S w → c.wp P Q a w) : c.wp P Q a w := hk w h

def RefNewPost (ws : List Int) (q : Int) (w : World) (e : Ending) (w' : World) : Prop :=
  (¬ OkW ws q ∧ e = .returned (.pointer none) ∧ w = w') ∨
  (OkW ws q ∧ ∃ b, e = .returned (.pointer (some ⟨b, 0, none⟩)) ∧ Made w w' (refRep b ws q (SrrS.new ws q)))

set_option maxHeartbeats 1600000 in
theorem refNew_any (ao : Option Addr) (n c : Nat) (ws : List Int) (q : Int) (w : World) (hx : Rd w (.slice ao n c) 1 (i64s ws)) :
    Calls Try.prog 11 #[.slice ao n c, .int .i64 q] w (RefNewPost ws q w) := by
  obtain ⟨hl, hnc, hcm⟩ := hx.len
  have hn : ws.length = n := by simpa [i64s] using hl
  have HX := Lib.hid hx
  have HN := Lib.hid hn
  by_cases hok : OkW ws q
  · have HO := Lib.hid hok
    have hd : decide (OkW ws q) = true := by simpa using hok
    have hn16 : n ≤ 16 := by have := hok.2.1; omega
    have hn1 : 1 ≤ n := by have := hok.1; omega
    obtain ⟨te, mc, hmk, hmc⟩ := make_fact el_i64 rfl n (by omega) (by omega)
    clear hok hx hn hl hcm hnc
    go_enter Try.func11, Try.ntmps11
    go_wp2_with fail
    (with_reducible refine (right_any _ _ _ _ _ _ HX.out).mono ?_)
    rintro e w2 ⟨rfl, rfl⟩
    go_wp2_with fail
    go_region_held3 (fun _ => True) (trivial) ((first
      | (refine step_append_sl (o := ⟨some 12, _, _, _, _, _⟩) rfl el_int _ _ rfl (v := .slice (some ⟨w.heap.size, 0, none⟩) 0 0) (xs := []) (news := i64s ws) (R := ownW w) rfl rfl ((Sat.own w).empty _ rfl) (HX.out.alloc _).drew (oneCell_ints _ _) (by have := HN.out; simp [i64s, maxLen]; omega) (by have := HN.out; simp [i64s]; omega) ?_; intro aoc nc cc wc QQ)
      | (refine step_append_sl (o := ⟨some 12, _, _, _, _, _⟩) rfl el_int _ _ rfl (v := .slice (some ⟨w.heap.size, 0, none⟩) 0 0) (xs := []) (news := i64s ws) (R := pc (w.heap.size + 1) mc • ownW w) rfl rfl ((((Sat.own w).empty _ rfl).boxAt mc _ (by simp)).swap).drew ((HX.out.alloc _).alloc _).drew (oneCell_ints _ _) (by have := HN.out; simp [i64s, maxLen]; omega) (by have := HN.out; simp [i64s]; omega) ?_; intro aoc nc cc wc QQ)
      | (refine step_append_sl (o := ⟨some 12, _, _, _, _, _⟩) rfl el_int _ _ rfl (v := .slice (some ⟨w.heap.size + 1, 0, none⟩) 0 0) (xs := []) (news := i64s ws) (R := pc w.heap.size mc • ownW w) rfl rfl (((Sat.own w).box mc _).empty _ (by simp)) ((HX.out.alloc _).alloc _).drew (oneCell_ints _ _) (by have := HN.out; simp [i64s, maxLen]; omega) (by have := HN.out; simp [i64s]; omega) ?_; intro aoc nc cc wc QQ)))
    · obtain ⟨q1, q2, q3, q4, _, _⟩ := QQ.out
      have HL : Hid (ws.length = nc) := by show ws.length = nc; simpa [i64s] using q3
      go_step
      go_step
      refine wp_forget (S := fun W => Sat W (pc (wc.heap.size + 1) #[.slice aoc nc cc, .int .i64 q, .int .i64 0, .int .i64 0, .slice (some ⟨wc.heap.size, 0, none⟩) n n] • (sl (.slice aoc nc cc) 1 (i64s ws) • sl (.slice (some ⟨wc.heap.size, 0, none⟩) n n) 1 (i64s (List.replicate n 0)) • ownW w)) ∧ Same w W) ⟨?_, ?_⟩ ?_
      · exact ((q1.boxsl (n := n) (mc := mc) te (xs := i64s (List.replicate n 0)) (by rw [hmc.out]; simp [i64s]) (by simp [i64s]) (by omega)).boxAt (m := wc.heap.size + 1) _ _ (by simp)).perm (by simp only [List.nil_append]; ac_rfl)
      · exact (((((Same.refl w).alloc _).drew.trans q2).alloc _).alloc _)
      rintro w5 ⟨hS, hsm⟩
      have c4 : w5.cell? ⟨wc.heap.size + 1, 4, none⟩ = some (.slice (some ⟨wc.heap.size, 0, none⟩) n n) := by rw [hS.cell]; rfl
      have hlen0 : 0 < ws.length := by have := HN.out; omega
      obtain ⟨g, o, rfl, _, hck, _⟩ := gi_rd (k := 0) (HX.out.own0 hsm hS.drop.drop.drop) (by omega)
      have hS2 : Sat w5 (sl (.slice (some ⟨wc.heap.size, 0, none⟩) n n) 1 (i64s (List.replicate n 0)) • (pc (wc.heap.size + 1) #[.slice aoc nc cc, .int .i64 q, .int .i64 0, .int .i64 0, .slice (some ⟨wc.heap.size, 0, none⟩) n n] • sl (.slice aoc nc cc) 1 (i64s ws) • ownW w)) := hS.perm (by ac_rfl)
      obtain ⟨_, _, he, _, hc0, _⟩ := gi_rd (k := 0) hS2.rd (by omega)
      cases he
      obtain ⟨_, _, _, _, he, _, _, _, _, _, hfz⟩ := hS2.sl_at (by simp [i64s]; omega)
      cases he
      have hf0 := hfz 0
      rw [Nat.add_zero] at hck hc0
      rw [SrrS.gi_replicate] at hc0
      have hA := HO.out.2.2.1 _ (gi_mem hlen0)
      have HA := Lib.hid (And.intro hA HO.out.2.2.2)
      have HS := Lib.hid (And.intro hS2 hsm)
      have hn0 : 0 < n := by omega
      clear hS hsm hS2 hfz hA q1 q2 q3 q4 hmk
      go_wp2_with fail
      go_still_tail 11, (by kernel_rfl)
      still_call ((rturn_ok _ _ _ HA.out.1 HA.out.2).mono fun _ _ h => ⟨h.1, h.2.symm⟩)
      repeat still_step
      refine wpStill_nil ?_
      change wpList _ _ _ _ _ w5.drew
      go_wp2
      go_ret
      refine .inr ⟨HO.out, wc.heap.size + 1, rfl, ?_⟩
      have a := (HS.out.1.sl_set (k := 0) (.int .i64 (gi ws 0 * q)) (by simp [i64s]; omega))
      rw [Nat.zero_add, i64s_set] at a
      refine ⟨Sat.ex.2 ⟨(.slice aoc nc cc, .slice (some ⟨wc.heap.size, 0, none⟩) n n), ?_⟩, (HS.out.2.setCell _ _).drew⟩
      unfold refAt SrrS.new
      rw [HN.out]
      exact a.perm (by simp only [Int.natCast_zero]; ac_rfl)
    · obtain ⟨q1, q2, q3, q4, _, _⟩ := QQ.out
      have HL : Hid (ws.length = nc) := by show ws.length = nc; simpa [i64s] using q3
      go_step
      go_step
      refine wp_forget (S := fun W => Sat W (pc (wc.heap.size) #[.slice aoc nc cc, .int .i64 q, .int .i64 0, .int .i64 0, .slice (some ⟨w.heap.size + 1, 0, none⟩) n n] • (sl (.slice aoc nc cc) 1 (i64s ws) • sl (.slice (some ⟨w.heap.size + 1, 0, none⟩) n n) 1 (i64s (List.replicate n 0)) • ownW w)) ∧ Same w W) ⟨?_, ?_⟩ ?_
      · exact ((q1.perm (by ac_rfl : _ = pc (w.heap.size + 1) mc • (sl (.slice aoc nc cc) 1 ([] ++ i64s ws) • ownW w))).asrow (n := n) (z := .int .i64 0) hmc.out (by omega) |>.boxAt _ _ rfl).perm (by rw [i64s_repl]; simp only [List.nil_append]; ac_rfl)
      · exact ((((Same.refl w).alloc _).alloc _).drew.trans q2).alloc _
      rintro w5 ⟨hS, hsm⟩
      have c4 : w5.cell? ⟨wc.heap.size, 4, none⟩ = some (.slice (some ⟨w.heap.size + 1, 0, none⟩) n n) := by rw [hS.cell]; rfl
      have hlen0 : 0 < ws.length := by have := HN.out; omega
      obtain ⟨g, o, rfl, _, hck, _⟩ := gi_rd (k := 0) (HX.out.own0 hsm hS.drop.drop.drop) (by omega)
      have hS2 : Sat w5 (sl (.slice (some ⟨w.heap.size + 1, 0, none⟩) n n) 1 (i64s (List.replicate n 0)) • (pc (wc.heap.size) #[.slice aoc nc cc, .int .i64 q, .int .i64 0, .int .i64 0, .slice (some ⟨w.heap.size + 1, 0, none⟩) n n] • sl (.slice aoc nc cc) 1 (i64s ws) • ownW w)) := hS.perm (by ac_rfl)
      obtain ⟨_, _, he, _, hc0, _⟩ := gi_rd (k := 0) hS2.rd (by omega)
      cases he
      obtain ⟨_, _, _, _, he, _, _, _, _, _, hfz⟩ := hS2.sl_at (by simp [i64s]; omega)
      cases he
      have hf0 := hfz 0
      rw [Nat.add_zero] at hck hc0
      rw [SrrS.gi_replicate] at hc0
      have hA := HO.out.2.2.1 _ (gi_mem hlen0)
      have HA := Lib.hid (And.intro hA HO.out.2.2.2)
      have HS := Lib.hid (And.intro hS2 hsm)
      have hn0 : 0 < n := by omega
      clear hS hsm hS2 hfz hA q1 q2 q3 q4 hmk
      go_wp2_with fail
      go_still_tail 11, (by kernel_rfl)
      still_call ((rturn_ok _ _ _ HA.out.1 HA.out.2).mono fun _ _ h => ⟨h.1, h.2.symm⟩)
      repeat still_step
      refine wpStill_nil ?_
      change wpList _ _ _ _ _ w5.drew
      go_wp2
      go_ret
      refine .inr ⟨HO.out, wc.heap.size, rfl, ?_⟩
      have a := (HS.out.1.sl_set (k := 0) (.int .i64 (gi ws 0 * q)) (by simp [i64s]; omega))
      rw [Nat.zero_add, i64s_set] at a
      refine ⟨Sat.ex.2 ⟨(.slice aoc nc cc, .slice (some ⟨w.heap.size + 1, 0, none⟩) n n), ?_⟩, (HS.out.2.setCell _ _).drew⟩
      unfold refAt SrrS.new
      rw [HN.out]
      exact a.perm (by simp only [Int.natCast_zero]; ac_rfl)
    · obtain ⟨q1, q2, q3, q4, _, _⟩ := QQ.out
      have HL : Hid (ws.length = nc) := by show ws.length = nc; simpa [i64s] using q3
      go_step
      go_step
      refine wp_forget (S := fun W => Sat W (pc (wc.heap.size) #[.slice aoc nc cc, .int .i64 q, .int .i64 0, .int .i64 0, .slice (some ⟨w.heap.size, 0, none⟩) n n] • (sl (.slice aoc nc cc) 1 (i64s ws) • sl (.slice (some ⟨w.heap.size, 0, none⟩) n n) 1 (i64s (List.replicate n 0)) • ownW w)) ∧ Same w W) ⟨?_, ?_⟩ ?_
      · exact ((q1.perm (by ac_rfl : _ = pc (w.heap.size) mc • (sl (.slice aoc nc cc) 1 ([] ++ i64s ws) • ownW w))).asrow (n := n) (z := .int .i64 0) hmc.out (by omega) |>.boxAt _ _ rfl).perm (by rw [i64s_repl]; simp only [List.nil_append]; ac_rfl)
      · exact ((((Same.refl w).alloc _).alloc _).drew.trans q2).alloc _
      rintro w5 ⟨hS, hsm⟩
      have c4 : w5.cell? ⟨wc.heap.size, 4, none⟩ = some (.slice (some ⟨w.heap.size, 0, none⟩) n n) := by rw [hS.cell]; rfl
      have hlen0 : 0 < ws.length := by have := HN.out; omega
      obtain ⟨g, o, rfl, _, hck, _⟩ := gi_rd (k := 0) (HX.out.own0 hsm hS.drop.drop.drop) (by omega)
      have hS2 : Sat w5 (sl (.slice (some ⟨w.heap.size, 0, none⟩) n n) 1 (i64s (List.replicate n 0)) • (pc (wc.heap.size) #[.slice aoc nc cc, .int .i64 q, .int .i64 0, .int .i64 0, .slice (some ⟨w.heap.size, 0, none⟩) n n] • sl (.slice aoc nc cc) 1 (i64s ws) • ownW w)) := hS.perm (by ac_rfl)
      obtain ⟨_, _, he, _, hc0, _⟩ := gi_rd (k := 0) hS2.rd (by omega)
      cases he
      obtain ⟨_, _, _, _, he, _, _, _, _, _, hfz⟩ := hS2.sl_at (by simp [i64s]; omega)
      cases he
      have hf0 := hfz 0
      rw [Nat.add_zero] at hck hc0
      rw [SrrS.gi_replicate] at hc0
      have hA := HO.out.2.2.1 _ (gi_mem hlen0)
      have HA := Lib.hid (And.intro hA HO.out.2.2.2)
      have HS := Lib.hid (And.intro hS2 hsm)
      have hn0 : 0 < n := by omega
      clear hS hsm hS2 hfz hA q1 q2 q3 q4 hmk
      go_wp2_with fail
      go_still_tail 11, (by kernel_rfl)
      still_call ((rturn_ok _ _ _ HA.out.1 HA.out.2).mono fun _ _ h => ⟨h.1, h.2.symm⟩)
      repeat still_step
      refine wpStill_nil ?_
      change wpList _ _ _ _ _ w5.drew
      go_wp2
      go_ret
      refine .inr ⟨HO.out, wc.heap.size, rfl, ?_⟩
      have a := (HS.out.1.sl_set (k := 0) (.int .i64 (gi ws 0 * q)) (by simp [i64s]; omega))
      rw [Nat.zero_add, i64s_set] at a
      refine ⟨Sat.ex.2 ⟨(.slice aoc nc cc, .slice (some ⟨w.heap.size, 0, none⟩) n n), ?_⟩, (HS.out.2.setCell _ _).drew⟩
      unfold refAt SrrS.new
      rw [HN.out]
      exact a.perm (by simp only [Int.natCast_zero]; ac_rfl)
  · have HO := Lib.hid hok
    have hd : decide (OkW ws q) = false := by simpa using hok
    clear hok hx hn hl hcm hnc
    go_enter Try.func11, Try.ntmps11
    go_wp2_with fail
    (with_reducible refine (right_any _ _ _ _ _ _ HX.out).mono ?_)
    rintro e w2 ⟨rfl, rfl⟩
    go_wp2_with fail
    go_ret
    exact .inl ⟨HO.out, rfl, rfl⟩

end Go.Proofs.Ytlbcfkkeoedhdaa
