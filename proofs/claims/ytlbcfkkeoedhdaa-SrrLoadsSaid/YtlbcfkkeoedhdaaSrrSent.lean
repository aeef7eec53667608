/- The program's Sent does what the model's 'sent' does. -/
import Derived.Test.YtlbcfkkeoedhdaaChecked
import Derived.Test.YtlbcfkkeoedhdaaSL
import Derived.Test.YtlbcfkkeoedhdaaSrrM
import Derived.WalkKit
import Derived.Deep.LoopGhost
import Derived.Deep.QuietTactic
import Derived.BigQuiet
namespace Go.Proofs.Ytlbcfkkeoedhdaa
open Go.RowKit

def i64s (l : List Int) : List Value := l.map (Value.int .i64)

/-- The program's Srr in memory. -/
def srrAt (b : Nat) (vl vb : Value) (s : SrrS) : HP := pc b #[.int .i64 s.pos, .int .i64 s.round, vl, vb] • sl vl 1 (i64s s.left) • sl vb 1 (i64s s.brings)
def srrRep (b : Nat) (s : SrrS) : HP := ex fun p : Value × Value => srrAt b p.1 p.2 s

def SentPost (b : Nat) (s : SrrS) (n : Int) (F : HP) (w : World) (e : Ending) (w' : World) : Prop :=
  e = .returned (.bool (decide (s.round < (s.sent n).round))) ∧ Sat w' (srrRep b (s.sent n) • F) ∧ Same w w'

/-- What is known of the cells. -/
theorem srr_cells {w : World} {b : Nat} {vl vb : Value} {s : SrrS} {F : HP} (h : Sat w (srrAt b vl vb s • F)) (hI : s.InvL) :
    ∃ lb lo lc bb bo bc, vl = .slice (some ⟨lb, lo, none⟩) s.brings.length lc ∧ vb = .slice (some ⟨bb, bo, none⟩) s.brings.length bc ∧
      b < w.heap.size ∧ lb < w.heap.size ∧ bb < w.heap.size ∧ b ≠ lb ∧ b ≠ bb ∧ lb ≠ bb ∧ s.brings.length ≤ lc ∧ s.brings.length ≤ bc ∧ lc ≤ maxLen ∧ bc ≤ maxLen ∧
      w.cell? ⟨b, 0, none⟩ = some (.int .i64 s.pos) ∧ w.cell? ⟨b, 1, none⟩ = some (.int .i64 s.round) ∧ w.cell? ⟨b, 2, none⟩ = some vl ∧ w.cell? ⟨b, 3, none⟩ = some vb ∧
      w.frozen? ⟨b, 0, none⟩ = false ∧ w.frozen? ⟨b, 1, none⟩ = false ∧ 
      (∀ j, j < s.brings.length → w.cell? ⟨lb, lo + j, none⟩ = some (.int .i64 (gi s.left j)) ∧ w.frozen? ⟨lb, lo + j, none⟩ = false) ∧
      (∀ j, j < s.brings.length → w.cell? ⟨bb, bo + j, none⟩ = some (.int .i64 (gi s.brings j))) := by
  have hp := hI.pos
  have hl := hI.len
  have h1 : Sat w (pc b #[.int .i64 s.pos, .int .i64 s.round, vl, vb] • (sl vl 1 (i64s s.left) • sl vb 1 (i64s s.brings) • F)) := h.perm (by unfold srrAt; ac_rfl)
  have h2 : Sat w (sl vl 1 (i64s s.left) • (pc b #[.int .i64 s.pos, .int .i64 s.round, vl, vb] • sl vb 1 (i64s s.brings) • F)) := h.perm (by unfold srrAt; ac_rfl)
  have h3 : Sat w (sl vb 1 (i64s s.brings) • (pc b #[.int .i64 s.pos, .int .i64 s.round, vl, vb] • sl vl 1 (i64s s.left) • F)) := h.perm (by unfold srrAt; ac_rfl)
  obtain ⟨lb, lo, lc, ln, rfl, l2, l3, l4, l5, l6, l7⟩ := h2.sl_at (by simp [i64s]; omega)
  obtain ⟨bb, bo, bc, bn, rfl, b2, b3, b4, b5, b6, b7⟩ := h3.sl_at (by simp [i64s]; omega)
  have e1 : ln = s.brings.length := by simp [i64s] at l2; omega
  have e2 : bn = s.brings.length := by simp [i64s] at b2; omega
  subst e1 e2
  refine ⟨lb, lo, lc, bb, bo, bc, rfl, rfl, h1.lt, l5, b5, ?_, ?_, ?_, l3, b3, l4, b4, by simp [h1.cell], by simp [h1.cell], by simp [h1.cell], by simp [h1.cell], h1.free _, h1.free _, fun j hj => ⟨?_, l7 _⟩, fun j hj => ?_⟩
  · exact h1.sl_neq
  · exact h1.rot.sl_neq
  · exact h2.rot.sl_neq2
  · rw [l6 j (by simp [i64s]; omega)]
    simp [i64s, gi_eq, show j < s.left.length by omega]
  · rw [b6 j (by simp [i64s]; omega)]
    simp [i64s, gi_eq, hj]

theorem srr_facts {w : World} {b lb lo n lc bb bo m bc : Nat} {s : SrrS} {F : HP} (h : Sat w (srrAt b (.slice (some ⟨lb, lo, none⟩) n lc) (.slice (some ⟨bb, bo, none⟩) m bc) s • F)) (hI : s.InvL) :
      n = s.brings.length ∧ m = s.brings.length ∧
      b < w.heap.size ∧ lb < w.heap.size ∧ bb < w.heap.size ∧ b ≠ lb ∧ b ≠ bb ∧ lb ≠ bb ∧ s.brings.length ≤ lc ∧ s.brings.length ≤ bc ∧ lc ≤ 9223372036854775807 ∧ bc ≤ 9223372036854775807 ∧
      w.cell? ⟨b, 0, none⟩ = some (.int .i64 s.pos) ∧ w.cell? ⟨b, 1, none⟩ = some (.int .i64 s.round) ∧ w.cell? ⟨b, 2, none⟩ = some (.slice (some ⟨lb, lo, none⟩) n lc) ∧ w.cell? ⟨b, 3, none⟩ = some (.slice (some ⟨bb, bo, none⟩) m bc) ∧
      w.frozen? ⟨b, 0, none⟩ = false ∧ w.frozen? ⟨b, 1, none⟩ = false ∧ 
      (∀ j, j < s.brings.length → w.cell? ⟨lb, lo + j, none⟩ = some (.int .i64 (gi s.left j)) ∧ w.frozen? ⟨lb, lo + j, none⟩ = false) ∧
      (∀ j, j < s.brings.length → w.cell? ⟨bb, bo + j, none⟩ = some (.int .i64 (gi s.brings j))) := by
  obtain ⟨lb', lo', lc', bb', bo', bc', e1, e2, r⟩ := srr_cells h hI
  simp only [Value.slice.injEq, Option.some.injEq, Addr.mk.injEq, and_true] at e1 e2
  obtain ⟨⟨rfl, rfl⟩, rfl, rfl⟩ := e1
  obtain ⟨⟨rfl, rfl⟩, rfl, rfl⟩ := e2
  unfold maxLen at r
  exact ⟨rfl, rfl, r⟩

set_option maxHeartbeats 800000 in
set_option maxRecDepth 100000 in
theorem sent_no (b : Nat) (n : Int) (w : World) (h : n < 1 ∨ 2048 < n) :
    Calls Try.prog 12 #[.pointer (some ⟨b, 0, none⟩), .int .i64 n] w fun e w' => e = .returned (.bool false) ∧ w' = w := by
  by_cases h1 : n < 1
  · clear h
    go_enter Try.func12, Try.ntmps12
    go_wp2
    go_ret
    exact ⟨rfl, rfl⟩
  · have h2 : 2048 < n := by omega
    clear h
    go_enter Try.func12, Try.ntmps12
    go_wp2
    go_ret
    exact ⟨rfl, rfl⟩

def SentRel (b : Nat) (vl vb : Value) (s1 : SrrS) (F : HP) (w0 : World) (k : Nat) (w : World) : Prop :=
  ∃ c : SrrS, k = c.mu ∧ c.brings = s1.brings ∧ c.fin = s1.fin ∧ c.InvL ∧ s1.round ≤ c.round ∧ c.round + c.mu ≤ s1.round + s1.mu ∧ Sat w (srrAt b vl vb c • F) ∧ Same w0 w

theorem i64s_set (l : List Int) (i : Nat) (x : Int) : (i64s l).set i (.int .i64 x) = i64s (l.set i x) := by simp [i64s, List.map_set]

theorem sent_start {b : Nat} {lb lo n lc : Nat} {vb : Value} {s : SrrS} {x : Int} {F : HP} {w : World} (hI : s.Inv) (h1 : 1 ≤ x) (h2 : x ≤ 2048)
    (h : Sat w (srrAt b (.slice (some ⟨lb, lo, none⟩) n lc) vb s • F)) :
    SentRel b (.slice (some ⟨lb, lo, none⟩) n lc) vb (s.pay x) F w (s.pay x).mu ((w.setCell ⟨lb, lo + s.pos, none⟩ (.int .i64 (s.cur - x))).drew) := by
  refine ⟨s.pay x, rfl, rfl, rfl, SrrS.pay_inv hI h1 h2, Int.le_refl _, Int.le_refl _, ?_, (Same.refl w).setCell _ _ |>.drew⟩
  have h' : Sat w (sl (.slice (some ⟨lb, lo, none⟩) n lc) 1 (i64s s.left) • (pc b #[.int .i64 s.pos, .int .i64 s.round, .slice (some ⟨lb, lo, none⟩) n lc, vb] • sl vb 1 (i64s s.brings) • F)) := h.perm (by unfold srrAt; ac_rfl)
  have hs := h'.sl_set (k := s.pos) (.int .i64 (s.cur - x)) (by simp [i64s, hI.len, hI.pos])
  rw [i64s_set] at hs
  exact Sat.drew (hs.perm (by unfold srrAt SrrS.pay; ac_rfl))

theorem SentRel.drew {b : Nat} {vl vb : Value} {s1 : SrrS} {F : HP} {w0 w : World} {k : Nat} (h : SentRel b vl vb s1 F w0 k w) : SentRel b vl vb s1 F w0 k w.drew := by
  obtain ⟨c, h1, h2, h3, h4, h5, h6, h7, h8⟩ := h
  exact ⟨c, h1, h2, h3, h4, h5, h6, h7, h8.drew⟩

theorem sent_step1 {b lb lo n lc : Nat} {vb : Value} {s1 c : SrrS} {F : HP} {w0 w : World} (hw : ¬ c.pos + 1 = c.brings.length) (hc : ¬ 0 < c.cur) (hbr : c.brings = s1.brings) (hfin : c.fin = s1.fin) (hI : c.InvL)
    (h0 : s1.round ≤ c.round) (hrd : c.round + c.mu ≤ s1.round + s1.mu) (hS : Sat w (srrAt b (.slice (some ⟨lb, lo, none⟩) n lc) vb c • F)) (hm : Same w0 w) :
    SentRel b (.slice (some ⟨lb, lo, none⟩) n lc) vb s1 F w0 c.step.mu ((w.setCell ⟨b, 0, none⟩ (.int .i64 (c.pos + 1))).setCell ⟨lb, lo + (c.pos + 1), none⟩ (.int .i64 (gi c.left (c.pos + 1) + gi c.brings (c.pos + 1)))) := by
  have hc' : c.cur ≤ 0 := by omega
  have hp := hI.pos
  have e : c.nextPos = c.pos + 1 := by unfold SrrS.nextPos; rw [if_neg hw]
  have e2 : c.nextRound = c.round := by unfold SrrS.nextRound; rw [if_neg hw]
  have hr := SrrS.step_round c
  have hmu := SrrS.step_mu hI hc'
  refine ⟨c.step, rfl, hbr, by rw [← SrrS.fin_step hI hc']; exact hfin, SrrS.step_inv hI hc', by omega, by omega, ?_, (hm.setCell _ _).setCell _ _⟩
  have a1 : Sat w (pc b #[.int .i64 c.pos, .int .i64 c.round, .slice (some ⟨lb, lo, none⟩) n lc, vb] • (sl (.slice (some ⟨lb, lo, none⟩) n lc) 1 (i64s c.left) • sl vb 1 (i64s c.brings) • F)) := hS.perm (by unfold srrAt; ac_rfl)
  have a2 := ((a1.set (i := 0) (.int .i64 (c.pos + 1))).swap).sl_set (k := c.pos + 1) (.int .i64 (gi c.left (c.pos + 1) + gi c.brings (c.pos + 1))) (by simp [i64s, hI.len]; omega)
  rw [i64s_set] at a2
  refine a2.perm ?_
  unfold srrAt SrrS.step
  rw [e, e2]
  simp
  ac_rfl

theorem sent_step2 {b lb lo n lc : Nat} {vb : Value} {s1 c : SrrS} {F : HP} {w0 w : World} (hw : c.pos + 1 = c.brings.length) (hc : ¬ 0 < c.cur) (hbr : c.brings = s1.brings) (hfin : c.fin = s1.fin) (hI : c.InvL)
    (h0 : s1.round ≤ c.round) (hrd : c.round + c.mu ≤ s1.round + s1.mu) (hS : Sat w (srrAt b (.slice (some ⟨lb, lo, none⟩) n lc) vb c • F)) (hm : Same w0 w) :
    SentRel b (.slice (some ⟨lb, lo, none⟩) n lc) vb s1 F w0 c.step.mu ((((w.setCell ⟨b, 0, none⟩ (.int .i64 (c.pos + 1))).setCell ⟨b, 0, none⟩ (.int .i64 0)).setCell ⟨b, 1, none⟩ (.int .i64 (c.round + 1))).setCell ⟨lb, lo, none⟩ (.int .i64 (gi c.left 0 + gi c.brings 0))) := by
  have hc' : c.cur ≤ 0 := by omega
  have hp := hI.pos
  have e : c.nextPos = 0 := by unfold SrrS.nextPos; rw [if_pos hw]
  have e2 : c.nextRound = c.round + 1 := by unfold SrrS.nextRound; rw [if_pos hw]
  have hr := SrrS.step_round c
  have hmu := SrrS.step_mu hI hc'
  refine ⟨c.step, rfl, hbr, by rw [← SrrS.fin_step hI hc']; exact hfin, SrrS.step_inv hI hc', by omega, by omega, ?_, (((hm.setCell _ _).setCell _ _).setCell _ _).setCell _ _⟩
  have a1 : Sat w (pc b #[.int .i64 c.pos, .int .i64 c.round, .slice (some ⟨lb, lo, none⟩) n lc, vb] • (sl (.slice (some ⟨lb, lo, none⟩) n lc) 1 (i64s c.left) • sl vb 1 (i64s c.brings) • F)) := hS.perm (by unfold srrAt; ac_rfl)
  have a2 := ((((a1.set (i := 0) (.int .i64 (c.pos + 1))).set (i := 0) (.int .i64 0)).set (i := 1) (.int .i64 (c.round + 1))).swap).sl_set (k := 0) (.int .i64 (gi c.left 0 + gi c.brings 0)) (by simp [i64s, hI.len]; omega)
  rw [i64s_set] at a2
  refine a2.perm ?_
  unfold srrAt SrrS.step
  rw [e, e2]
  simp
  ac_rfl

theorem sent_done {b : Nat} {vl vb : Value} {s c : SrrS} {x : Int} {F : HP} {w0 w : World} (hc : 0 < c.cur) (hfin : c.fin = (s.pay x).fin) (hS : Sat w (srrAt b vl vb c • F)) (hm : Same w0 w) :
    SentPost b s x F w0 (.returned (.bool (decide (s.round < c.round)))) w := by
  have e : s.sent x = c := by unfold SrrS.sent; rw [← hfin, SrrS.fin_pos hc]
  unfold SentPost
  rw [e]
  exact ⟨rfl, Sat.ex.2 ⟨(vl, vb), hS⟩, hm⟩

theorem SentPost.drew {b : Nat} {s : SrrS} {x : Int} {F : HP} {w0 w : World} {e : Ending} (h : SentPost b s x F w0 e w) : SentPost b s x F w0 e w.drew := ⟨h.1, h.2.1, h.2.2.drew⟩

set_option maxHeartbeats 4000000 in
set_option maxRecDepth 100000 in
theorem sent_ok (b : Nat) (s : SrrS) (x : Int) (F : HP) (w : World) (hI : s.Inv) (hr : 0 ≤ s.round ∧ s.round ≤ 1152921504606846976) (hlen : s.brings.length ≤ 1000000) (h1 : 1 ≤ x) (h2 : x ≤ 2048) (hS : Sat w (srrRep b s • F)) :
    Calls Try.prog 12 #[.pointer (some ⟨b, 0, none⟩), .int .i64 x] w (SentPost b s x F w) := by
  obtain ⟨⟨vl, vb⟩, hS⟩ := Sat.ex.1 hS
  obtain ⟨lb, lo, lc, bb, bo, bc, rfl, rfl, q1, q2, q3, q4, q5, q6, q7, q8, q9, q10, c0, c1, c2, c3, f0, f1, cl, cb⟩ := srr_cells hS hI.toInvL
  obtain ⟨cl1, fl1⟩ := cl s.pos hI.pos
  have hpos := hI.pos
  have hcur : gi s.left s.pos = s.cur := rfl
  rw [hcur] at cl1
  clear hcur
  have hst := sent_start hI h1 h2 hS
  have hh := hI.has
  have ht := hI.top
  have hl := (hI.least _ hI.pos).2
  have g1 : s.cur ≤ 65536000 := by omega
  unfold maxLen at q9 q10
  have HI : Hid s.Inv := hI
  have HS : Hid (SentRel b (.slice (some ⟨lb, lo, none⟩) s.brings.length lc) (.slice (some ⟨bb, bo, none⟩) s.brings.length bc) (s.pay x) F w (s.pay x).mu ((w.setCell ⟨lb, lo + s.pos, none⟩ (.int .i64 (s.cur - x))).drew)) := hst
  clear hst hI hS cl cb ht hl
  go_enter Try.func12, Try.ntmps12
  go_wp2
  go_region
  go_wp2
  go_loopg [] ((s.pay x).mu) (fun k wr => SentRel b (.slice (some ⟨lb, lo, none⟩) s.brings.length lc) (.slice (some ⟨bb, bo, none⟩) s.brings.length bc) (s.pay x) F w k wr)
  case atStart =>
    exact HS.out
  case round =>
    clear c0 c1 c2 c3 f0 f1 cl1 fl1 q1 q2 q3 q4 q5 q6 HS
    obtain ⟨c, rfl, hbr, hfin, hIc, hr0, hrd, hSc, hsm⟩ := hrel
    obtain ⟨e1, e2, q1, q2, q3, q4, q5, q6, q7', q8', q9', q10', c0, c1, c2, c3, f0, f1, cl, cb⟩ := srr_facts hSc hIc
    have hpc := hIc.pos
    have hmle := SrrS.mu_le (SrrS.pay_inv HI.out h1 h2)
    have hr0' : s.round ≤ c.round := hr0
    have hlen : s.brings.length ≤ 1000000 := hlen
    have hr1 : 0 ≤ c.round := by omega
    have hr2 : c.round ≤ 1152921504606846976 + 2048000000 := by
      have : (s.pay x).round = s.round := rfl
      have : (s.pay x).brings.length = s.brings.length := rfl
      omega
    obtain ⟨cl1, fl1⟩ := cl c.pos hpc
    have hcur : gi c.left c.pos = c.cur := rfl
    rw [hcur] at cl1
    have HF : Hid (c.brings = (s.pay x).brings ∧ c.fin = (s.pay x).fin ∧ c.InvL ∧ s.brings.length = c.brings.length ∧ (s.pay x).round ≤ c.round ∧ c.round + c.mu ≤ (s.pay x).round + (s.pay x).mu) := ⟨hbr, hfin, hIc, e1, hr0, hrd⟩
    have hb1 := hIc.least
    have hb2 := hIc.low
    have hb3 := hIc.rest
    clear hcur hfin hbr e2 hmle hr0 hrd hlen
    rw [e1] at c2 c3
    by_cases hc : 0 < c.cur
    · clear cl cb hb1 hb2 hb3
      rw [e1]
      clear e1
      go_wp2
      go_region
      go_wp2
      go_ret
      exact (sent_done hc HF.out.2.1 hSc hsm).drew
    · by_cases hw : c.pos + 1 = c.brings.length
      · obtain ⟨cl2, fl2⟩ := cl 0 (by omega)
        have cb2 := cb 0 (by omega)
        have hb1 := hb1 0 (by omega)
        have hb2 := hb2 0 (by omega)
        have hb3 : gi c.left 0 ≤ 0 := by
          by_cases e : 0 = c.pos
          · rw [e]; show c.cur ≤ 0; omega
          · exact hb3 0 (by omega) e
        simp only [Nat.add_zero] at cl2 cb2 fl2
        have h0 : 0 < c.brings.length := by omega
        clear cl cb
        have HW : Hid (c.pos + 1 = c.brings.length) := hw
        have hw' : (((c.pos : Int) + 1) == (c.brings.length : Int)) = true := by simp; omega
        have hw' : (((c.pos : Int) + 1) == (c.brings.length : Int)) = true := by simp; omega
        clear hw e1
        go_wp2
        go_region
        go_wp2
        go_region
        go_wp2
        go_region
        go_wp2
        go_roundg (c.step.mu)
        case measure => exact SrrS.step_mu HF.out.2.2.1 (by omega)
        case rel =>
          obtain ⟨g1, g2, g3, g4, g5, g6⟩ := HF.out
          rw [g4]
          exact (sent_step2 HW.out (by omega) g1 g2 g3 g5 g6 (g4 ▸ hSc) hsm).drew.drew.drew
      · obtain ⟨cl2, fl2⟩ := cl (c.pos + 1) (by omega)
        have cb2 := cb (c.pos + 1) (by omega)
        have hb1 := hb1 (c.pos + 1) (by omega)
        have hb2 := hb2 (c.pos + 1) (by omega)
        have hb3 := hb3 (c.pos + 1) (by omega) (by omega)
        clear cl cb
        have hw' : (((c.pos : Int) + 1) == (c.brings.length : Int)) = false := by simp; omega
        clear e1
        go_wp2
        go_region
        go_wp2
        go_region
        go_wp2
        go_region
        go_wp2
        go_roundg (c.step.mu)
        case measure => exact SrrS.step_mu HF.out.2.2.1 (by omega)
        case rel =>
          obtain ⟨g1, g2, g3, g4, g5, g6⟩ := HF.out
          rw [g4]
          exact (sent_step1 (by omega) (by omega) g1 g2 g3 g5 g6 (g4 ▸ hSc) hsm).drew.drew.drew

end Go.Proofs.Ytlbcfkkeoedhdaa
