/- The document's Load: whether there is one, of anything. -/
import Derived.Test.YtlbcfkkeoedhdaaSrrRefS
import Derived.Test.YtlbcfkkeoedhdaaSrrLoad
namespace Go.Proofs.Ytlbcfkkeoedhdaa
open Go.RowKit

def RLoadPost (ws : List Int) (q : Int) (pos rd : Int) (ls : List Int) (w : World) (e : Ending) (w' : World) : Prop :=
  ((¬ LoadOk ws q pos rd ls ∧ e = .returned (.pointer none)) ∨ (LoadOk ws q pos rd ls ∧ ∃ b, e = .returned (.pointer (some ⟨b, 0, none⟩)))) ∧ Made w w' emp

set_option maxHeartbeats 1600000 in
theorem rload_no (ao : Option Addr) (n c : Nat) (ws : List Int) (q : Int) (pos rd : Int) (lo : Option Addr) (ln lc : Nat) (ls : List Int) (w : World)
    (hx : Rd w (.slice ao n c) 1 (i64s ws)) (hy : Rd w (.slice lo ln lc) 1 (i64s ls))
    (hno : ¬ OkW ws q ∨ OkW ws q ∧ (¬ ln = n ∨ ln = n ∧ (pos < 0 ∨ 0 ≤ pos ∧ ((n : Int) ≤ pos ∨ pos < n ∧ (rd < 0 ∨ 0 ≤ rd ∧ 1099511627776 < rd))))) :
    Calls Try.prog 22 #[.slice ao n c, .int .i64 q, .agg #[.int .i64 pos, .int .i64 rd, .slice lo ln lc]] w (RLoadPost ws q pos rd ls w) := by
  have HX := Lib.hid hx
  have hn : ws.length = n := by simpa [i64s] using hx.len.1
  have hm : ls.length = ln := by simpa [i64s] using hy.len.1
  have HNO : Hid (¬ LoadOk ws q pos rd ls) := by
    rintro ⟨h1, h2, h3, h4, h5, h6, _⟩
    rcases hno with h | ⟨_, h | ⟨_, h | ⟨_, h | ⟨_, h | ⟨_, h⟩⟩⟩⟩⟩
    · exact h h1
    all_goals omega
  clear hx hn hm hy
  rcases hno with h | ⟨hok, h⟩
  · have HO := Lib.hid h
    clear h
    go_enter Try.func22, Try.ntmps22
    go_wp2_with (go_at_call 11; refine (refNew_any _ _ _ _ _ _ (HX.out.alloc _)).mono ?_; rintro e w1 (⟨_, rfl, rfl⟩ | ⟨hyes, _⟩); rotate_left; exact absurd hyes HO.out)
    go_ret
    exact ⟨.inl ⟨HNO.out, rfl⟩, sat_emp ((Sat.own w).box _ _).drop, (Same.refl w).alloc _⟩
  · have HO := Lib.hid hok
    clear hok
    rcases h with h | ⟨h1, h | ⟨h2, h | ⟨h3, h | ⟨h4, h⟩⟩⟩⟩
    · have hd : ((ln : Int) != (n : Int)) = true := by simp; omega
      go_enter Try.func22, Try.ntmps22
      go_wp2_with (go_at_call 11; refine (refNew_any _ _ _ _ _ _ (HX.out.alloc _)).mono ?_; rintro e w1 (⟨hno, _⟩ | ⟨_, b, rfl, hm⟩); exact absurd HO.out hno; have k2 := cell_made hm (p := ⟨w.heap.size, 2, none⟩) (by simp) rfl; simp [go_sem] at k2; have HM := Lib.hid hm; clear hm)
      go_ret
      exact ⟨.inl ⟨HNO.out, rfl⟩, sat_emp (HM.out.sat ((Sat.own w).box _ _).drop).drop, ((Same.refl w).alloc _).trans HM.out.2⟩
    all_goals
      subst h1
      go_enter Try.func22, Try.ntmps22
      go_wp2_with (go_at_call 11; refine (refNew_any _ _ _ _ _ _ (HX.out.alloc _)).mono ?_; rintro e w1 (⟨hno, _⟩ | ⟨_, b, rfl, hm⟩); exact absurd HO.out hno; have k2 := cell_made hm (p := ⟨w.heap.size, 2, none⟩) (by simp) rfl; have k0 := cell_made hm (p := ⟨w.heap.size, 0, none⟩) (by simp) rfl; have k1 := cell_made hm (p := ⟨w.heap.size, 1, none⟩) (by simp) rfl; simp [go_sem] at k2 k0 k1; have HM := Lib.hid hm; clear hm)
      go_ret
      exact ⟨.inl ⟨HNO.out, rfl⟩, sat_emp (HM.out.sat ((Sat.own w).box _ _).drop).drop, ((Same.refl w).alloc _).trans HM.out.2⟩

/-- What holds in the loop. -/
def RLRel (b tb : Nat) (vw vl : Value) (ws : List Int) (q : Int) (a : Nat) (rd : Int) (ts : Value) (ls : List Int) (w : World) (k : Nat) (wr : World) : Prop :=
  Sat wr (refAt b vw vl ws q (SrrS.new ws q) • pc tb #[.int .i64 a, .int .i64 rd, ts] • ownW w) ∧ Same w wr ∧ ∀ j, j < k → okLeft ls (ws.map (· * q)) a j

theorem RLRel.cells {b tb : Nat} {vw vl : Value} {ws : List Int} {q : Int} {a : Nat} {rd : Int} {ts : Value} {R : HP} {wr : World} (h : Sat wr (refAt b vw vl ws q (SrrS.new ws q) • pc tb #[.int .i64 a, .int .i64 rd, ts] • R)) :
    wr.cell? ⟨tb, 0, none⟩ = some (.int .i64 a) ∧ wr.cell? ⟨tb, 1, none⟩ = some (.int .i64 rd) ∧ wr.cell? ⟨tb, 2, none⟩ = some ts := by
  have h1 : Sat wr (pc tb #[.int .i64 a, .int .i64 rd, ts] • (refAt b vw vl ws q (SrrS.new ws q) • R)) := h.perm (by ac_rfl)
  exact ⟨by simp [h1.cell], by simp [h1.cell], by simp [h1.cell]⟩
theorem RLRel.drewN {b tb : Nat} {vw vl : Value} {ws : List Int} {q : Int} {a : Nat} {rd : Int} {ts : Value} {ls : List Int} {w wr : World} {k : Nat} (h : RLRel b tb vw vl ws q a rd ts ls w k wr) (m : Nat) : RLRel b tb vw vl ws q a rd ts ls w k (wr.drewN m) := ⟨h.1, h.2.1.drewN m, h.2.2⟩
theorem RLRel.succ {b tb : Nat} {vw vl : Value} {ws : List Int} {q : Int} {a : Nat} {rd : Int} {ts : Value} {ls : List Int} {w wr : World} {k : Nat} (h : RLRel b tb vw vl ws q a rd ts ls w k wr) (hk : okLeft ls (ws.map (· * q)) a k) : RLRel b tb vw vl ws q a rd ts ls w (k + 1) wr :=
  ⟨h.1, h.2.1, fun j hj => by
    by_cases e : j = k
    · subst e; exact hk
    · exact h.2.2 j (by omega)⟩
theorem RLRel.fails {b tb : Nat} {vw vl : Value} {ws : List Int} {q : Int} {a : Nat} {rd : Int} {ts : Value} {ls : List Int} {w wr : World} {k : Nat} (h : RLRel b tb vw vl ws q a rd ts ls w k wr) (hk : k < ws.length) (hno : ¬ okLeft ls (ws.map (· * q)) a k) :
    RLoadPost ws q a rd ls w (.returned (.pointer none)) wr := by
  refine ⟨.inl ⟨?_, rfl⟩, sat_emp h.1.drop.drop, h.2.1⟩
  rintro ⟨_, _, _, _, _, _, h7⟩
  exact hno (by simpa using h7 k hk)

theorem rturn_q (a q : Int) (w : World) (k : Nat) (ha : 1 ≤ a ∧ a ≤ 1000) (hq : 1 ≤ q ∧ q ≤ 65536) :
    Calls Try.prog 24 #[.int .i64 a, .int .i64 q] (w.drewN k) fun e w' => e = .returned (.int .i64 (a * q)) ∧ w' = w.drewN k :=
  (rturn_ok a q (w.drewN k) ha hq).mono fun _ _ h => ⟨h.1, h.2.symm⟩

set_option maxHeartbeats 4000000 in
set_option maxRecDepth 100000 in
theorem rload_yes (ao : Option Addr) (n c : Nat) (ws : List Int) (q : Int) (a : Nat) (rd : Int) (lo : Option Addr) (lc : Nat) (ls : List Int) (w : World)
    (hx : Rd w (.slice ao n c) 1 (i64s ws)) (hy : Rd w (.slice lo n lc) 1 (i64s ls)) (hok : OkW ws q) (ha : a < n) (hr1 : 0 ≤ rd) (hr2 : rd ≤ 1099511627776) :
    Calls Try.prog 22 #[.slice ao n c, .int .i64 q, .agg #[.int .i64 a, .int .i64 rd, .slice lo n lc]] w (RLoadPost ws q a rd ls w) := by
  have HX := Lib.hid hx
  have HY := Lib.hid hy
  have HN : Hid (ws.length = n) := by show ws.length = n; simpa [i64s] using hx.len.1
  have HM : Hid (ls.length = n) := by show ls.length = n; simpa [i64s] using hy.len.1
  have HO := Lib.hid hok
  have hn16 : n ≤ 16 := by have := hok.2.1; have := HN.out; omega
  have hd1 : decide ((a : Int) < 0) = false := by simp
  have hd2 : decide (rd < 0) = false := by simp; omega
  have hd3 : decide (1099511627776 < rd) = false := by simp; omega
  have hd4 : decide (n ≤ a) = false := by simp; omega
  clear hx hy hok
  go_enter Try.func22, Try.ntmps22
  go_wp2_with (go_at_call 11; refine (refNew_any _ _ _ _ _ _ (HX.out.alloc _)).mono ?_; rintro e w1 (⟨hno, _⟩ | ⟨_, b, rfl, hm⟩); exact absurd HO.out hno; have k2 := cell_made hm (p := ⟨w.heap.size, 2, none⟩) (by simp) rfl; have k0 := cell_made hm (p := ⟨w.heap.size, 0, none⟩) (by simp) rfl; have k1 := cell_made hm (p := ⟨w.heap.size, 1, none⟩) (by simp) rfl; simp [go_sem] at k2 k0 k1; have HM1 := Lib.hid hm; clear hm)
  obtain ⟨⟨vw, vl⟩, hS⟩ := Sat.ex.1 (HM1.out.sat ((Sat.own w).box #[.int .i64 a, .int .i64 rd, .slice lo n lc] _))
  dsimp only at hS
  have HS : Hid (RLRel b w.heap.size vw vl ws q a rd (.slice lo n lc) ls w 0 w1) := ⟨hS, ((Same.refl w).alloc _).trans HM1.out.2, fun j hj => by omega⟩
  clear hS HM1 k0 k1 k2
  generalize w.heap.size = tb at *
  go_loopg [8] n (fun m i wr => ∃ k : Nat, m = n - k ∧ k ≤ n ∧ i = .int .i64 k ∧ RLRel b tb vw vl ws q a rd (.slice lo n lc) ls w k wr)
  case atStart => exact ⟨0, rfl, Nat.zero_le _, rfl, HS.out⟩
  case round =>
    clear HS
    obtain ⟨k, rfl, hk, rfl, hR⟩ := hrel
    obtain ⟨t0, t1, t2⟩ := RLRel.cells hR.1
    have HR := Lib.hid hR
    by_cases hkn : k < n
    · obtain ⟨g, o, rfl, _, hck, _⟩ := gi_rd (HY.out.own0 hR.2.1 hR.1.drop.drop) hkn
      have hkw : k < ws.length := by have := HN.out; omega
      have i1 : (k : Int) < (n : Int) := by omega
      clear hR
      by_cases hka : k = a
      · obtain ⟨gw, ow, rfl, _, hcw, _⟩ := gi_rd (HX.out.own0 HR.out.2.1 HR.out.1.drop.drop) hkn
        have hA := HO.out.2.2.1 _ (gi_mem hkw)
        have hgm : gi (ws.map (· * q)) k = gi ws k * q := SrrS.gi_map _ _ _ hkw
        have HG := Lib.hid (And.intro hgm hA)
        subst hka
        clear hgm hA
        by_cases h1 : gi ls k < 1
        · have g1 : decide (gi ls k < 1) = true := by simpa using h1
          have H1 := Lib.hid h1
          clear h1
          go_wp2_with fail
          go_big_quiet (fail)
          go_wp2_with fail
          go_ret
          exact (HR.out.drewN _).fails (by have := HN.out; omega) (by unfold okLeft; rw [if_pos rfl]; have := H1.out; omega)
        · have g1 : decide (gi ls k < 1) = false := by simpa using h1
          have H1 := Lib.hid h1
          clear h1
          by_cases h2 : gi ws k * q < gi ls k
          · have g2 : decide (gi ws k * q < gi ls k) = true := by simpa using h2
            have H2 := Lib.hid h2
            clear h2
            go_wp2_with fail
            go_big_quiet ((go_at_call 24; exact Calls.quiet_of_same (rturn_q _ _ _ _ HG.out.2 HO.out.2.2.2)))
            go_wp2_with fail
            go_ret
            exact (HR.out.drewN _).fails (by have := HN.out; omega) (by unfold okLeft; rw [if_pos rfl, HG.out.1]; have := H2.out; omega)
          · have g2 : decide (gi ws k * q < gi ls k) = false := by simpa using h2
            have H2 := Lib.hid h2
            clear h2
            go_wp2_with fail
            go_big_quiet ((go_at_call 24; exact Calls.quiet_of_same (rturn_q _ _ _ _ HG.out.2 HO.out.2.2.2)))
            go_wp2_with fail
            go_roundg (n - (k + 1))
            case rel => exact ⟨k + 1, rfl, by omega, by go_num, (HR.out.succ (by unfold okLeft; rw [if_pos rfl, HG.out.1]; have := H1.out; have := H2.out; omega)).drewN _⟩
            case measure => omega
      · have e1 : ((k : Int) == (a : Int)) = false := by simp; omega
        have e2 : ((k : Int) != (a : Int)) = true := by simp; omega
        have HK := Lib.hid hka
        clear hka
        by_cases h1 : 0 < gi ls k
        · have g1 : decide (0 < gi ls k) = true := by simpa using h1
          have H1 := Lib.hid h1
          clear h1
          go_wp2_with fail
          go_big_quiet (fail)
          go_wp2_with fail
          go_ret
          exact (HR.out.drewN _).fails (by have := HN.out; omega) (by unfold okLeft; rw [if_neg HK.out]; have := H1.out; omega)
        · have g1 : decide (0 < gi ls k) = false := by simpa using h1
          have H1 := Lib.hid h1
          clear h1
          by_cases h2 : gi ls k < -2047
          · have g2 : decide (gi ls k < -2047) = true := by simpa using h2
            have H2 := Lib.hid h2
            clear h2
            go_wp2_with fail
            go_big_quiet (fail)
            go_wp2_with fail
            go_ret
            exact (HR.out.drewN _).fails (by have := HN.out; omega) (by unfold okLeft; rw [if_neg HK.out]; have := H2.out; omega)
          · have g2 : decide (gi ls k < -2047) = false := by simpa using h2
            have H2 := Lib.hid h2
            clear h2
            go_wp2_with fail
            go_big_quiet (fail)
            go_wp2_with fail
            go_roundg (n - (k + 1))
            case rel => exact ⟨k + 1, rfl, by omega, by go_num, (HR.out.succ (by unfold okLeft; rw [if_neg HK.out]; have := H1.out; have := H2.out; omega)).drewN _⟩
            case measure => omega
    · have e : k = n := by omega
      subst e
      have HB : Hid (LoadOk ws q a rd ls) := ⟨HO.out, by rw [HM.out, HN.out], by omega, by have := HN.out; omega, hr1, hr2, fun j hj => by simpa using hR.2.2 j (by have := HN.out; omega)⟩
      have HY2 := Lib.hid (HY.out.own0 hR.2.1 hR.1.drop.drop)
      have hne : b ≠ tb := (hR.1.perm (by unfold refAt; ac_rfl : _ = pc b #[vw, .int .i64 q, .int .i64 (SrrS.new ws q).pos, .int .i64 (SrrS.new ws q).round, vl] • pc tb #[.int .i64 a, .int .i64 rd, .slice lo k lc] • (sl vw 1 (i64s ws) • sl vl 1 (i64s (SrrS.new ws q).left) • ownW w))).neq
      have hne2 : tb ≠ b := hne.symm
      clear hR
      go_wp2_with fail
      go_region_held3 (fun w' => w'.cell? ⟨tb, 0, none⟩ = some (.int .i64 a) ∧ w'.cell? ⟨tb, 1, none⟩ = some (.int .i64 rd) ∧ w'.cell? ⟨tb, 2, none⟩ = some (.slice lo k lc)) (go_keep)
        ((refine step_append_sl (o := ⟨some 104, _, _, _, _, _⟩) rfl el_i64 _ _ rfl (v := .slice (some ⟨wr.heap.size, 0, none⟩) 0 0) (xs := []) (news := i64s ls) (R := refAt b vw vl ws q (SrrS.new ws q) • pc tb #[.int .i64 a, .int .i64 rd, .slice lo k lc] • ownW w) rfl rfl (HR.out.1.empty _ rfl) (HY2.out.alloc _).drew (oneCell_ints _ _) (by have := HM.out; simp [i64s, maxLen]; omega) (by have := HM.out; simp [i64s]; omega) ?_
          intro aoc nc cc wc QQ
          have hr : Sat wc (refAt b vw vl ws q (SrrS.new ws q) • pc tb #[.int .i64 a, .int .i64 rd, .slice lo k lc] • ownW w) := QQ.out.1.drop
          have HC := Lib.hid (And.intro hr ((HR.out.2.1.alloc _).drew.trans QQ.out.2.1))
          obtain ⟨k0, k1, k2⟩ := RLRel.cells hr
          obtain ⟨_, _, k3, k4, k5, _, kf, _⟩ := ref_cell hr
          have k6 := kf 2
          have k7 := kf 3
          have k8 := kf 4
          clear hr QQ kf))
      go_wp2_with fail
      go_ret
      refine ⟨.inr ⟨HB.out, b, rfl⟩, sat_emp ?_, (((HC.out.2.setCell _ _).setCell _ _).setCell _ _)⟩
      have s := HC.out.1
      unfold refAt at s
      have s2 : Sat wc (pc b #[vw, .int .i64 q, .int .i64 (SrrS.new ws q).pos, .int .i64 (SrrS.new ws q).round, vl] • (sl vw 1 (i64s ws) • sl vl 1 (i64s (SrrS.new ws q).left) • pc tb #[.int .i64 a, .int .i64 rd, .slice lo k lc] • ownW w)) := s.perm (by ac_rfl)
      exact ((((s2.set (i := 2) (.int .i64 a)).set (i := 3) (.int .i64 rd)).set (i := 4) (.slice aoc nc cc))).drop.drop.drop.drop

theorem rload_at (ao : Option Addr) (n c : Nat) (ws : List Int) (q : Int) (pos rd : Int) (lo : Option Addr) (lc : Nat) (ls : List Int) (w : World) (a : Nat) (hp : pos = a)
    (hx : Rd w (.slice ao n c) 1 (i64s ws)) (hy : Rd w (.slice lo n lc) 1 (i64s ls)) (hok : OkW ws q) (ha : a < n) (hr1 : 0 ≤ rd) (hr2 : rd ≤ 1099511627776) :
    Calls Try.prog 22 #[.slice ao n c, .int .i64 q, .agg #[.int .i64 pos, .int .i64 rd, .slice lo n lc]] w (RLoadPost ws q pos rd ls w) := by
  subst hp
  exact rload_yes ao n c ws q a rd lo lc ls w hx hy hok ha hr1 hr2

/-- The document's Load, of anything. -/
theorem rload_any (ao : Option Addr) (n c : Nat) (ws : List Int) (q : Int) (pos rd : Int) (lo : Option Addr) (ln lc : Nat) (ls : List Int) (w : World)
    (hx : Rd w (.slice ao n c) 1 (i64s ws)) (hy : Rd w (.slice lo ln lc) 1 (i64s ls)) :
    Calls Try.prog 22 #[.slice ao n c, .int .i64 q, .agg #[.int .i64 pos, .int .i64 rd, .slice lo ln lc]] w (RLoadPost ws q pos rd ls w) := by
  by_cases h1 : OkW ws q
  · by_cases h2 : ln = n
    · by_cases h3 : 0 ≤ pos ∧ pos < n ∧ 0 ≤ rd ∧ rd ≤ 1099511627776
      · subst h2
        exact rload_at ao ln c ws q pos rd lo lc ls w pos.toNat (by omega) hx hy h1 (by omega) h3.2.2.1 h3.2.2.2
      · exact rload_no ao n c ws q pos rd lo ln lc ls w hx hy (.inr ⟨h1, .inr ⟨h2, by omega⟩⟩)
    · exact rload_no ao n c ws q pos rd lo ln lc ls w hx hy (.inr ⟨h1, .inl h2⟩)
  · exact rload_no ao n c ws q pos rd lo ln lc ls w hx hy (.inl h1)

end Go.Proofs.Ytlbcfkkeoedhdaa
