/- The document's Sent does what the model's 'sent' does. -/
import Derived.Test.YtlbcfkkeoedhdaaSrrRefB
import Derived.Deep.LoopGhost
import Derived.Deep.CutRange
namespace Go.Proofs.Ytlbcfkkeoedhdaa
open Go.RowKit

theorem Same.drewN {a w : World} (h : Same a w) (k : Nat) : Same a (w.drewN k) := ⟨h.os, h.tape, h.output, h.size⟩

/-- In Sent: where it was, and the turn that goes on. -/
def RS (b tb : Nat) (vw vl0 vl : Value) (ws : List Int) (q : Int) (s0 c : SrrS) (F : HP) : HP :=
  pc tb #[.int .i64 c.pos, .int .i64 c.round, vl] • sl vl 1 (i64s c.left) • pc b #[vw, .int .i64 q, .int .i64 s0.pos, .int .i64 s0.round, vl0] • sl vw 1 (i64s ws) • sl vl0 1 (i64s s0.left) • F

theorem rs_facts {w : World} {b tb : Nat} {vw vl0 vl : Value} {ws : List Int} {q : Int} {s0 c : SrrS} {F : HP} (h : Sat w (RS b tb vw vl0 vl ws q s0 c F)) :
    w.cell? ⟨tb, 0, none⟩ = some (.int .i64 c.pos) ∧ w.cell? ⟨tb, 1, none⟩ = some (.int .i64 c.round) ∧ w.cell? ⟨tb, 2, none⟩ = some vl ∧ (∀ i, w.frozen? ⟨tb, i, none⟩ = false) ∧
    w.cell? ⟨b, 0, none⟩ = some vw ∧ w.cell? ⟨b, 1, none⟩ = some (.int .i64 q) ∧ w.cell? ⟨b, 2, none⟩ = some (.int .i64 s0.pos) ∧ w.cell? ⟨b, 3, none⟩ = some (.int .i64 s0.round) ∧ w.cell? ⟨b, 4, none⟩ = some vl0 ∧ (∀ i, w.frozen? ⟨b, i, none⟩ = false) ∧ tb ≠ b ∧ Rd w vl 1 (i64s c.left) ∧ Rd w vw 1 (i64s ws) := by
  have h2 : Sat w (pc b #[vw, .int .i64 q, .int .i64 s0.pos, .int .i64 s0.round, vl0] • (pc tb #[.int .i64 c.pos, .int .i64 c.round, vl] • sl vl 1 (i64s c.left) • sl vw 1 (i64s ws) • sl vl0 1 (i64s s0.left) • F)) := h.perm (by unfold RS; ac_rfl)
  have h3 : Sat w (sl vw 1 (i64s ws) • (pc tb #[.int .i64 c.pos, .int .i64 c.round, vl] • sl vl 1 (i64s c.left) • pc b #[vw, .int .i64 q, .int .i64 s0.pos, .int .i64 s0.round, vl0] • sl vl0 1 (i64s s0.left) • F)) := h.perm (by unfold RS; ac_rfl)
  unfold RS at h
  exact ⟨by simp [h.cell], by simp [h.cell], by simp [h.cell], h.free, by simp [h2.cell], by simp [h2.cell], by simp [h2.cell], by simp [h2.cell], by simp [h2.cell], h2.free, (h2.neq).symm, h.drop.rd, h3.rd⟩

/-- A number of the row that the turn has. -/
theorem rs_left {w : World} {b tb : Nat} {vw vl0 : Value} {ao : Option Addr} {n lc : Nat} {ws : List Int} {q : Int} {s0 c : SrrS} {F : HP} (h : Sat w (RS b tb vw vl0 (.slice ao n lc) ws q s0 c F)) {k : Nat} (hk : k < n) :
    ∃ g o, ao = some ⟨g, o, none⟩ ∧ c.left.length = n ∧ w.cell? ⟨g, o + k, none⟩ = some (.int .i64 (gi c.left k)) ∧ w.frozen? ⟨g, o + k, none⟩ = false ∧
      ∀ x, Sat (w.setCell ⟨g, o + k, none⟩ (.int .i64 x)) (RS b tb vw vl0 (.slice ao n lc) ws q s0 { c with left := c.left.set k x } F) := by
  have h2 : Sat w (sl (.slice ao n lc) 1 (i64s c.left) • (pc tb #[.int .i64 c.pos, .int .i64 c.round, .slice ao n lc] • pc b #[vw, .int .i64 q, .int .i64 s0.pos, .int .i64 s0.round, vl0] • sl vw 1 (i64s ws) • sl vl0 1 (i64s s0.left) • F)) := h.perm (by unfold RS; ac_rfl)
  obtain ⟨g, o, rfl, hl, hc, _⟩ := gi_rd h2.rd hk
  obtain ⟨_, _, _, _, he, _, _, _, _, _, hf⟩ := h2.sl_at (by simp [i64s]; omega)
  cases he
  refine ⟨g, o, rfl, hl, hc, hf _, fun x => ?_⟩
  have a := h2.sl_set (k := k) (.int .i64 x) (by simp [i64s]; omega)
  rw [i64s_set] at a
  exact a.perm (by unfold RS; ac_rfl)

theorem rs_set {w : World} {b tb : Nat} {vw vl0 vl : Value} {ws : List Int} {q : Int} {s0 c : SrrS} {F : HP} (h : Sat w (RS b tb vw vl0 vl ws q s0 c F)) (p : Nat) (v : Int) (hv : v = p) : Sat (w.setCell ⟨tb, 0, none⟩ (.int .i64 v)) (RS b tb vw vl0 vl ws q s0 { c with pos := p } F) := by
  subst hv
  unfold RS at h ⊢
  exact (h.set (i := 0) (.int .i64 p))
theorem rs_set1 {w : World} {b tb : Nat} {vw vl0 vl : Value} {ws : List Int} {q : Int} {s0 c : SrrS} {F : HP} (h : Sat w (RS b tb vw vl0 vl ws q s0 c F)) (r : Int) : Sat (w.setCell ⟨tb, 1, none⟩ (.int .i64 r)) (RS b tb vw vl0 vl ws q s0 { c with round := r } F) := by
  unfold RS at h ⊢
  exact (h.set (i := 1) (.int .i64 r))

def RSentRel (b tb : Nat) (vw vl0 vl : Value) (ws : List Int) (q : Int) (s0 s1 : SrrS) (F : HP) (w0 : World) (k : Nat) (w : World) : Prop :=
  ∃ c : SrrS, k = c.mu ∧ c.brings = s1.brings ∧ c.fin = s1.fin ∧ c.InvL ∧ s1.round ≤ c.round ∧ c.round + c.mu ≤ s1.round + s1.mu ∧ Sat w (RS b tb vw vl0 vl ws q s0 c F) ∧ Same w0 w

theorem rsent_step {b tb : Nat} {vw vl0 vl : Value} {ws : List Int} {q : Int} {s0 s1 c c' : SrrS} {F : HP} {w0 w : World} (hc : ¬ 0 < c.cur) (hbr : c.brings = s1.brings) (hfin : c.fin = s1.fin) (hI : c.InvL)
    (h0 : s1.round ≤ c.round) (hrd : c.round + c.mu ≤ s1.round + s1.mu) (he : c' = c.step) (hS : Sat w (RS b tb vw vl0 vl ws q s0 c' F)) (hm : Same w0 w) :
    RSentRel b tb vw vl0 vl ws q s0 s1 F w0 c.step.mu w := by
  subst he
  have hc' : c.cur ≤ 0 := by omega
  have hr := SrrS.step_round c
  have hmu := SrrS.step_mu hI hc'
  exact ⟨c.step, rfl, hbr, by rw [← SrrS.fin_step hI hc']; exact hfin, SrrS.step_inv hI hc', by omega, by omega, hS, hm⟩

def RSentPost (b : Nat) (ws : List Int) (q : Int) (s : SrrS) (n : Int) (F : HP) (w : World) (e : Ending) (w' : World) : Prop :=
  e = .returned (.bool (decide (s.round < (s.sent n).round))) ∧ Sat w' (refRep b ws q (s.sent n) • F) ∧ Same w w'

theorem rsent_no (b : Nat) (n : Int) (w : World) (h : n < 1 ∨ 2048 < n) :
    Calls Try.prog 13 #[.pointer (some ⟨b, 0, none⟩), .int .i64 n] w fun e w' => e = .returned (.bool false) ∧ w = w' := by
  by_cases h1 : n < 1
  · clear h
    go_enter Try.func13, Try.ntmps13
    go_wp2
    go_ret
    exact ⟨rfl, rfl⟩
  · have h2 : 2048 < n := by omega
    clear h
    go_enter Try.func13, Try.ntmps13
    go_wp2
    go_ret
    exact ⟨rfl, rfl⟩

set_option maxHeartbeats 4000000 in
set_option maxRecDepth 100000 in
theorem rsent_ok (b : Nat) (ws : List Int) (q : Int) (s : SrrS) (x : Int) (F : HP) (w : World) (hI : s.Inv) (hbr : s.brings = ws.map (· * q)) (hok : OkW ws q) (hr : 0 ≤ s.round ∧ s.round ≤ 1152921504606846976) (h1 : 1 ≤ x) (h2 : x ≤ 2048) (hS : Sat w (refRep b ws q s • F)) :
    Calls Try.prog 13 #[.pointer (some ⟨b, 0, none⟩), .int .i64 x] w (RSentPost b ws q s x F w) := by
  obtain ⟨⟨vw, vl0⟩, hS1⟩ := Sat.ex.1 hS
  obtain ⟨_, _, _, _, _, _, _, hrw, _⟩ := ref_cell hS1
  obtain ⟨wo, wn, wc, hv, hwl, _⟩ := hrw.shape
  dsimp only at hv hS1
  subst hv
  have HW : Hid (wn = ws.length) := by show wn = ws.length; simpa [i64s] using hwl.symm
  clear hrw hwl
  have hlb : s.brings.length = ws.length := by rw [hbr]; simp
  have hll : s.left.length = ws.length := by rw [hI.len, hlb]
  have h16 : ws.length ≤ 16 := hok.2.1
  obtain ⟨hr1, hr2⟩ := hr
  have HI := Lib.hid (And.intro hI (And.intro hbr (And.intro hok (And.intro hlb hll))))
  have hS0 := hS
  have HS := Lib.hid hS1
  clear hI hbr hok hS hS1 hlb
  go_enter Try.func13, Try.ntmps13
  go_wp2_with fail
  (with_reducible refine (rturnOf_any b ws q s F _ hS0 ?_).mono ?_)
  · omega
  rintro e w1 ⟨ao, n, c, rfl, hM, hn, hnc, _⟩
  have hnw : n = ws.length := by omega
  have HM := Lib.hid hM
  have HN := Lib.hid hnw
  have hn16 : n ≤ 16 := by omega
  clear hM hS0 hn hnc hll hnw
  go_wp2_with fail
  refine wp_forget (S := fun W => Sat W (RS b w1.heap.size (.slice wo wn wc) vl0 (.slice ao n c) ws q s s F) ∧ Same w W) ⟨?_, ?_⟩ ?_
  · exact ((HM.out.sat HS.out).box _ _).perm (by unfold RS refAt; ac_rfl)
  · exact HM.out.2.alloc _
  generalize w1.heap.size = tb
  rintro w2 ⟨hS2, hsm⟩
  have hpn : s.pos < n := by have := HI.out.1.pos; have := HI.out.2.2.2.1; have := HN.out; omega
  obtain ⟨c0, c1, c2, f0, d0, d1, d2, d3, d4, g0, hne, _, hw⟩ := rs_facts hS2
  obtain ⟨g, o, rfl, _, hcl, hfl, hset⟩ := rs_left hS2 hpn
  have hcur : gi s.left s.pos = s.cur := rfl
  rw [hcur] at hcl
  have hb1 := HI.out.1.has
  have hb2 : s.cur ≤ 65536000 := by
    have := HI.out.1.top
    have := (HI.out.1.least _ HI.out.1.pos).2
    omega
  have HS2 := Lib.hid (And.intro (hset (s.cur - x)) hsm)
  have i1 : (s.pos : Int) < (n : Int) := by omega
  clear hcur hset hS2 hsm f0 g0 d0 d1 d2 d3 d4 hw HM HS c1
  go_wp2_with fail
  go_still_tail 13, (by kernel_rfl)
  change wpList _ _ _ _ _ w2.drew
  go_wp2_with fail
  have HI1 : Hid (SrrS.InvL (s.pay x)) := SrrS.pay_inv HI.out.1 h1 h2
  go_loopg [] ((s.pay x).mu) (fun k wr => RSentRel b tb (.slice wo wn wc) vl0 (.slice (some ⟨g, o, none⟩) n c) ws q s (s.pay x) F w k wr)
  case atStart =>
    exact ⟨s.pay x, rfl, rfl, rfl, HI1.out, Int.le_refl _, Int.le_refl _, HS2.out.1, (HS2.out.2.setCell _ _).drew⟩
  case round =>
    clear c0 c2 hcl hfl HS2
    obtain ⟨s2, rfl, hbr, hfin, hIc, hr0, hrd, hSc, hsm⟩ := hrel
    have hbn : s2.brings.length = n := by rw [hbr]; show s.brings.length = n; have := HI.out.2.2.2.1; have := HN.out; omega
    have hp2 : s2.pos < n := hbn ▸ hIc.pos
    have hmle := SrrS.mu_le HI1.out
    have hr3 : s.round ≤ s2.round := hr0
    have hr4 : s2.round ≤ 1152921504606846976 + 2048000000 := by
      have : (s.pay x).round = s.round := rfl
      have : (s.pay x).brings.length = s.brings.length := rfl
      have := HI.out.2.2.2.1
      omega
    obtain ⟨c0, c1, c2, f0, d0, d1, d2, d3, d4, g0, hne, _, hw⟩ := rs_facts hSc
    obtain ⟨_, _, he, hln, hcl, _, _⟩ := rs_left hSc hp2
    cases he
    have hcur : gi s2.left s2.pos = s2.cur := rfl
    rw [hcur] at hcl
    have f00 := f0 0
    have f01 := f0 1
    have g2 := g0 2
    have g3 := g0 3
    have g4 := g0 4
    have i1 : (s2.pos : Int) < (n : Int) := by omega
    have HF := Lib.hid (And.intro hbr (And.intro hfin (And.intro hIc (And.intro hr0 (And.intro hrd (And.intro hSc (And.intro hsm (And.intro hbn hln))))))))
    clear hbr hfin hIc hr0 hrd hSc hsm hcur f0 g0 hmle hbn hln hw
    by_cases hc : 0 < s2.cur
    · go_wp2_with fail
      go_big_quiet (fail)
      go_wp2_with fail
      go_ret
      obtain ⟨hbr, hfin, hIc, hr0, hrd, hSc, hsm, hbn, hln⟩ := HF.out
      have e : s.sent x = s2 := by
        unfold SrrS.sent
        rw [← hfin, SrrS.fin_pos hc]
      unfold RSentPost
      rw [e]
      refine ⟨ret_bool ?_, ?_, ((((hsm.drewN _).setCell _ _).setCell _ _).setCell _ _)⟩
      · rw [Bool.eq_iff_iff]; simp; omega
      · have a : Sat wr (pc b #[.slice wo wn wc, .int .i64 q, .int .i64 s.pos, .int .i64 s.round, vl0] • (sl (.slice wo wn wc) 1 (i64s ws) • sl (.slice (some ⟨g, o, none⟩) n c) 1 (i64s s2.left) • F • (pc tb #[.int .i64 s2.pos, .int .i64 s2.round, .slice (some ⟨g, o, none⟩) n c] • sl vl0 1 (i64s s.left)))) := hSc.perm (by unfold RS; ac_rfl)
        have a2 := ((a.set (i := 2) (.int .i64 s2.pos)).set (i := 3) (.int .i64 s2.round)).set (i := 4) (.slice (some ⟨g, o, none⟩) n c)
        have a3 : Sat _ (refAt b (.slice wo wn wc) (.slice (some ⟨g, o, none⟩) n c) ws q s2 • F) := Sat.left (a2.perm (by unfold refAt; simp; ac_rfl : _ = (refAt b (.slice wo wn wc) (.slice (some ⟨g, o, none⟩) n c) ws q s2 • F) • (pc tb #[.int .i64 s2.pos, .int .i64 s2.round, .slice (some ⟨g, o, none⟩) n c] • sl vl0 1 (i64s s.left))))
        exact Sat.ex.2 ⟨(_, _), a3⟩
    · have hl0 : 0 < n := by omega
      by_cases hwn : s2.pos + 1 = n
      · have hq : (((s2.pos : Int) + 1) == (wn : Int)) = true := by have := HW.out; have := HN.out; simp; omega
        have HWN := Lib.hid hwn
        clear hwn
        go_wp2_with fail
        go_big_quiet (fail)
        go_upto_region 10 with (fail)
        refine wp_forget (S := fun W => Sat W (RS b tb (.slice wo wn wc) vl0 (.slice (some ⟨g, o, none⟩) n c) ws q s { s2 with pos := s2.nextPos, round := s2.nextRound } F) ∧ Same w W) ⟨?_, ?_⟩ ?_
        · have e : s2.nextPos = 0 := by unfold SrrS.nextPos; rw [if_pos (by rw [HF.out.2.2.2.2.2.2.2.1]; exact HWN.out)]
          have e2 : s2.nextRound = s2.round + 1 := by unfold SrrS.nextRound; rw [if_pos (by rw [HF.out.2.2.2.2.2.2.2.1]; exact HWN.out)]
          rw [e, e2]
          exact rs_set1 (rs_set (rs_set HF.out.2.2.2.2.2.1 (s2.pos + 1) _ (by omega)) 0 _ rfl) _
        · exact ((((HF.out.2.2.2.2.2.2.1.setCell _ _).drewN _).setCell _ _).setCell _ _)
        clear c0 c1 c2 f00 f01 d0 d1 d2 d3 d4 g2 g3 g4 hcl
        rintro w3 ⟨hS3, hsm3⟩
        obtain ⟨np, hnp⟩ : ∃ k, s2.nextPos = k := ⟨_, rfl⟩
        have hnpn : np < n := by
          have := SrrS.nextPos_lt HF.out.2.2.1
          rw [hnp, HF.out.2.2.2.2.2.2.2.1] at this
          exact this
        obtain ⟨rd, hrdd⟩ : ∃ k, s2.nextRound = k := ⟨_, rfl⟩
        rw [hnp, hrdd] at hS3
        obtain ⟨c0, c1, c2, f0, d0, d1, d2, d3, d4, g0, _, _, hww⟩ := rs_facts hS3
        obtain ⟨_, _, he, _, hcl, hfl, hset⟩ := rs_left hS3 hnpn
        cases he
        have hnw : np < ws.length := by have := HN.out; omega
        obtain ⟨gw, ow, rfl, _, hcw, _⟩ := gi_rd (k := np) hww (by have := HW.out; omega)
        have hA := HI.out.2.2.1.2.2.1 _ (gi_mem hnw)
        have hmul := mul_ok HI.out.2.2.1 hnw
        have hlow := HF.out.2.2.1.low np (by have := HF.out.2.2.2.2.2.2.2.1; omega)
        have hup : gi s2.left np ≤ 0 := by
          by_cases e : np = s2.pos
          · rw [e]; show s2.cur ≤ 0; omega
          · exact HF.out.2.2.1.rest np (by have := HF.out.2.2.2.2.2.2.2.1; omega) e
        obtain ⟨hm1, hm2⟩ := hmul
        have HA := Lib.hid (And.intro hA HI.out.2.2.1.2.2.2)
        have HSET := Lib.hid (And.intro (hset (gi s2.left np + gi ws np * q)) hsm3)
        have HNP := Lib.hid (And.intro hnp hrdd)
        have j1 : (np : Int) < (n : Int) := by omega
        have j2 : (np : Int) < (wn : Int) := by have := HW.out; omega
        dsimp only at c0 c1 hcl
        clear hset hS3 hsm3 hww hA hnp hrdd f0 g0 c1 d2 d3 d4
        go_wp2_with fail
        go_still_tail 25, (by kernel_rfl)
        still_call ((rturn_ok _ _ _ HA.out.1 HA.out.2).mono fun _ _ h => ⟨h.1, h.2.symm⟩)
        repeat still_step
        refine wpStill_nil ?_
        change wpList _ _ _ _ _ w3.drew
        go_wp2_with fail
        go_roundg (s2.step.mu)
        case measure => exact SrrS.step_mu HF.out.2.2.1 (by omega)
        case rel =>
          obtain ⟨hbr, hfin, hIc, hr0, hrd, hSc, hsm, hbn, hln⟩ := HF.out
          refine rsent_step (by omega) hbr hfin hIc hr0 hrd ?_ HSET.out.1 ((HSET.out.2.setCell _ _).drew)
          unfold SrrS.step
          rw [HNP.out.1, HNP.out.2]
          have e : gi s2.brings np = gi ws np * q := by rw [hbr]; show gi s.brings np = _; rw [HI.out.2.1]; exact SrrS.gi_map _ _ _ hnw
          rw [e]
      · have hq : (((s2.pos : Int) + 1) == (wn : Int)) = false := by have := HW.out; have := HN.out; simp; omega
        have HWN := Lib.hid hwn
        clear hwn
        go_wp2_with fail
        go_big_quiet (fail)
        go_upto_region 10 with (fail)
        refine wp_forget (S := fun W => Sat W (RS b tb (.slice wo wn wc) vl0 (.slice (some ⟨g, o, none⟩) n c) ws q s { s2 with pos := s2.nextPos, round := s2.nextRound } F) ∧ Same w W) ⟨?_, ?_⟩ ?_
        · have e : s2.nextPos = s2.pos + 1 := by unfold SrrS.nextPos; rw [if_neg (by rw [HF.out.2.2.2.2.2.2.2.1]; exact HWN.out)]
          have e2 : s2.nextRound = s2.round := by unfold SrrS.nextRound; rw [if_neg (by rw [HF.out.2.2.2.2.2.2.2.1]; exact HWN.out)]
          rw [e, e2]
          exact rs_set HF.out.2.2.2.2.2.1 (s2.pos + 1) _ (by omega)
        · exact ((HF.out.2.2.2.2.2.2.1.setCell _ _).drewN _)
        clear c0 c1 c2 f00 f01 d0 d1 d2 d3 d4 g2 g3 g4 hcl
        rintro w3 ⟨hS3, hsm3⟩
        obtain ⟨np, hnp⟩ : ∃ k, s2.nextPos = k := ⟨_, rfl⟩
        have hnpn : np < n := by
          have := SrrS.nextPos_lt HF.out.2.2.1
          rw [hnp, HF.out.2.2.2.2.2.2.2.1] at this
          exact this
        obtain ⟨rd, hrdd⟩ : ∃ k, s2.nextRound = k := ⟨_, rfl⟩
        rw [hnp, hrdd] at hS3
        obtain ⟨c0, c1, c2, f0, d0, d1, d2, d3, d4, g0, _, _, hww⟩ := rs_facts hS3
        obtain ⟨_, _, he, _, hcl, hfl, hset⟩ := rs_left hS3 hnpn
        cases he
        have hnw : np < ws.length := by have := HN.out; omega
        obtain ⟨gw, ow, rfl, _, hcw, _⟩ := gi_rd (k := np) hww (by have := HW.out; omega)
        have hA := HI.out.2.2.1.2.2.1 _ (gi_mem hnw)
        have hmul := mul_ok HI.out.2.2.1 hnw
        have hlow := HF.out.2.2.1.low np (by have := HF.out.2.2.2.2.2.2.2.1; omega)
        have hup : gi s2.left np ≤ 0 := by
          by_cases e : np = s2.pos
          · rw [e]; show s2.cur ≤ 0; omega
          · exact HF.out.2.2.1.rest np (by have := HF.out.2.2.2.2.2.2.2.1; omega) e
        obtain ⟨hm1, hm2⟩ := hmul
        have HA := Lib.hid (And.intro hA HI.out.2.2.1.2.2.2)
        have HSET := Lib.hid (And.intro (hset (gi s2.left np + gi ws np * q)) hsm3)
        have HNP := Lib.hid (And.intro hnp hrdd)
        have j1 : (np : Int) < (n : Int) := by omega
        have j2 : (np : Int) < (wn : Int) := by have := HW.out; omega
        dsimp only at c0 c1 hcl
        clear hset hS3 hsm3 hww hA hnp hrdd f0 g0 c1 d2 d3 d4
        go_wp2_with fail
        go_still_tail 25, (by kernel_rfl)
        still_call ((rturn_ok _ _ _ HA.out.1 HA.out.2).mono fun _ _ h => ⟨h.1, h.2.symm⟩)
        repeat still_step
        refine wpStill_nil ?_
        change wpList _ _ _ _ _ w3.drew
        go_wp2_with fail
        go_roundg (s2.step.mu)
        case measure => exact SrrS.step_mu HF.out.2.2.1 (by omega)
        case rel =>
          obtain ⟨hbr, hfin, hIc, hr0, hrd, hSc, hsm, hbn, hln⟩ := HF.out
          refine rsent_step (by omega) hbr hfin hIc hr0 hrd ?_ HSET.out.1 ((HSET.out.2.setCell _ _).drew)
          unfold SrrS.step
          rw [HNP.out.1, HNP.out.2]
          have e : gi s2.brings np = gi ws np * q := by rw [hbr]; show gi s.brings np = _; rw [HI.out.2.1]; exact SrrS.gi_map _ _ _ hnw
          rw [e]

end Go.Proofs.Ytlbcfkkeoedhdaa
