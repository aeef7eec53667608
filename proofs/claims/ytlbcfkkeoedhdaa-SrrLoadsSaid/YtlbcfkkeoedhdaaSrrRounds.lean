/- SrrRounds: a round begins just when the turn comes behind the last one; within a round turns rise. -/
import Derived.Test.YtlbcfkkeoedhdaaSrrOne
namespace Go.Proofs.Ytlbcfkkeoedhdaa
open Go.RowKit

theorem SrrS.sent_rises {s : SrrS} {n : Int} (hI : s.Inv) (h1 : 1 ≤ n) (h2 : n ≤ 2048) : s.round < (s.sent n).round ∨ ((s.sent n).round = s.round ∧ s.pos ≤ (s.sent n).pos) := by
  refine (SrrS.fin_ind (fun c => s.round < c.round ∨ (c.round = s.round ∧ s.pos ≤ c.pos)) (SrrS.pay_inv hI h1 h2) (.inr ⟨rfl, Nat.le_refl _⟩) (fun c hc _ hp => ?_)).1
  show s.round < c.nextRound ∨ (c.nextRound = s.round ∧ s.pos ≤ c.nextPos)
  unfold SrrS.nextRound SrrS.nextPos
  split
  · left; rcases hp with hp | hp <;> omega
  · rcases hp with hp | hp
    · left; omega
    · right; omega

/-- What holds at the head of a round of a law on turns. -/
def TurnsRel (b : Nat) (ws : List Int) (q : Int) (w : World) (k : Nat) (wr : World) : Prop :=
  ∃ s : SrrS, s.Inv ∧ s.brings = ws.map (· * q) ∧ 0 ≤ s.round ∧ s.round ≤ 32768 * k ∧ Sat wr (srrRep b s • ownW w) ∧ Same w wr

theorem TurnsRel.start {b : Nat} {ws : List Int} {q : Int} {w w1 w2 : World} (hok : OkW ws q) (hb : Below w.heap.size w w1) (hM : Made w1 w2 (srrRep b (SrrS.new ws q))) : TurnsRel b ws q w 0 w2 :=
  ⟨_, SrrS.new_inv hok.1 hok.2.2.1 hok.2.2.2, rfl, Int.le_refl _, by simp [SrrS.new], hM.sat (sat_below hb), (same_below hb).trans hM.2⟩
theorem TurnsRel.below {b : Nat} {ws : List Int} {q : Int} {w wr : World} {k : Nat} (h : TurnsRel b ws q w k wr) : Below w.heap.size w wr := by
  obtain ⟨s, _, _, _, _, hS, hm⟩ := h
  exact (hS.perm (sep_comm _ _)).below hm

set_option maxHeartbeats 1600000 in
set_option maxRecDepth 100000 in
theorem walk_SrrRounds_big (ao : Option Addr) (n c : Nat) (q : Int) (bo : Option Addr) (m d : Nat) (w : World) (hn : n ≤ 9223372036854775807) (hm : m ≤ 9223372036854775807) (h : 900 < n ∨ n ≤ 900 ∧ 400 < m) :
    Calls Try.prog 8 #[.slice ao n c, .int .i64 q, .slice bo m d] w (LawPost w) := by
  rcases h with h | ⟨h0, h⟩ <;>
  · go_enter Try.func8, Try.ntmps8
    go_wp2_with fail
    (with_reducible refine (head_any w).mono ?_)
    rintro e w1 ⟨rfl, hb1⟩
    have H1 := Lib.hid hb1
    clear hb1
    go_wp2_with fail
    go_ret
    exact ⟨rfl, H1.out⟩

set_option maxHeartbeats 1600000 in
set_option maxRecDepth 100000 in
theorem walk_SrrRounds_no (ao : Option Addr) (n c : Nat) (ws : List Int) (q : Int) (bo : Option Addr) (m d : Nat) (w : World) (hx : Rd w (.slice ao n c) 1 (i64s ws)) (hn : n ≤ 900) (hm : m ≤ 400) (hno : ¬ OkW ws q) :
    Calls Try.prog 8 #[.slice ao n c, .int .i64 q, .slice bo m d] w (LawPost w) := by
  have HX := Lib.hid hx
  have hd : decide (OkW ws q) = false := by simpa using hno
  have HO := Lib.hid hno
  clear hx hno
  go_enter Try.func8, Try.ntmps8
  go_wp2_with fail
  (with_reducible refine (head_any w).mono ?_)
  rintro e w1 ⟨rfl, hb1⟩
  have H1 := Lib.hid hb1
  have HX1 := Lib.hid (HX.out.below hb1)
  clear hb1
  go_wp2_with fail
  (with_reducible refine (srrNew_any _ _ _ _ _ _ HX1.out).mono ?_)
  rintro e w2 (⟨_, rfl, rfl⟩ | ⟨hyes, _⟩)
  rotate_left
  · exact absurd hyes HO.out
  go_wp2_with fail
  (with_reducible refine (right_any _ _ _ _ _ _ HX1.out).mono ?_)
  rintro e w2 ⟨rfl, rfl⟩
  go_wp2_with fail
  go_ret
  exact ⟨rfl, H1.out⟩

set_option maxHeartbeats 8000000 in
set_option maxRecDepth 100000 in
theorem walk_SrrRounds_yes (ao : Option Addr) (n c : Nat) (ws : List Int) (q : Int) (bo : Option Addr) (m d : Nat) (zs : List Int) (w : World) (hx : Rd w (.slice ao n c) 1 (i64s ws)) (hy : Rd w (.slice bo m d) 1 (zs.map (Value.int .u16)))
    (hz : ∀ x ∈ zs, 0 ≤ x ∧ x ≤ 65535) (hm : m ≤ 400) (hok : OkW ws q) :
    Calls Try.prog 8 #[.slice ao n c, .int .i64 q, .slice bo m d] w (LawPost w) := by
  have HX := Lib.hid hx
  have HY := Lib.hid hy
  have HZ := Lib.hid hz
  have HO := Lib.hid hok
  have HN : Hid (ws.length = n) := by show ws.length = n; simpa [i64s] using hx.len.1
  have HM : Hid (zs.length = m) := by show zs.length = m; simpa using hy.len.1
  have hn16 : n ≤ 16 := by have := hok.2.1; have := HN.out; omega
  clear hx hy hz hok
  go_enter Try.func8, Try.ntmps8
  go_wp2_with fail
  (with_reducible refine (head_any w).mono ?_)
  rintro e w1 ⟨rfl, hb1⟩
  have H1 := Lib.hid hb1
  have HX1 := Lib.hid (HX.out.below hb1)
  clear hb1
  go_wp2_with fail
  (with_reducible refine (srrNew_any _ _ _ _ _ _ HX1.out).mono ?_)
  rintro e w2 (⟨hno, _⟩ | ⟨_, b, rfl, hM⟩)
  · exact absurd HO.out hno
  have H2 := Lib.hid (TurnsRel.start HO.out H1.out hM)
  clear hM H1 HX1
  go_wp2_with fail
  go_loopg [9] m (fun g i wr => ∃ k : Nat, g = m - k ∧ k ≤ m ∧ i = .int .i64 k ∧ TurnsRel b ws q w k wr)
  case atStart => exact ⟨0, rfl, Nat.zero_le _, rfl, H2.out⟩
  case round =>
    clear H2
    obtain ⟨k, rfl, hk, rfl, hR⟩ := hrel
    by_cases hkm : k < m
    · obtain ⟨s, hI, hbr, hr0, hr1, hS, hsm⟩ := hR
      have hlen : s.left.length ≤ 1000000 := by have := hI.len; rw [hbr] at this; simp at this; have := HN.out; omega
      have HB : Hid (s.brings.length = n) := by show s.brings.length = n; rw [hbr]; simp; exact HN.out
      have HS := Lib.hid (And.intro hI (And.intro hbr (And.intro hS hsm)))
      have HL := Lib.hid hlen
      have hS0 := hS
      have hY1 := HY.out.own0 hsm hS.drop
      obtain ⟨g, o, rfl, _, _, _⟩ := ik_rd hY1 hkm
      have hzk := HZ.out (gi zs k) (gi_mem (by have := HM.out; omega))
      obtain ⟨hz1, hz2⟩ := hzk
      clear hI hbr hS hsm hlen hY1
      go_wp2_with fail
      (with_reducible refine (turn_any b s _ _ hS0 HL.out).mono ?_)
      rintro e w3 ⟨ao1, n1, c1, rfl, hM1, _⟩
      have hA : Sat (w3.alloc (.cells #[.int .i64 s.pos, .int .i64 s.round, .slice ao1 n1 c1] 33)) (srrRep b s • pc w3.heap.size #[.int .i64 s.pos, .int .i64 s.round, .slice ao1 n1 c1] • ownW w) := ((hM1.sat HS.out.2.2.1).drop.box _ _).swap
      have hB : Same w (w3.alloc (.cells #[.int .i64 s.pos, .int .i64 s.round, .slice ao1 n1 c1] 33)) := (HS.out.2.2.2.trans hM1.2).alloc _
      have hck := (ik_rd (HY.out.own0 hB hA.drop.drop) hkm)
      obtain ⟨g', o', hgo, _, hck, _⟩ := hck
      cases hgo
      have HA := Lib.hid (And.intro hA hB)
      clear hA hB hM1 hS0
      go_wp2_with fail
      obtain ⟨s', hs'⟩ : ∃ s', s.sent (1 + gi zs k % 2048) = s' := ⟨_, rfl⟩
      have hx1 : 1 ≤ 1 + gi zs k % 2048 := by omega
      have hx2 : 1 + gi zs k % 2048 ≤ 2048 := by omega
      have hi2 := SrrS.sent_inv HS.out.1 hx1 hx2
      have hrd2 := SrrS.sent_round HS.out.1 hx1 hx2
      have hri := SrrS.sent_rises HS.out.1 hx1 hx2
      rw [hs'] at hi2 hrd2 hri
      have HSS := Lib.hid hs'
      have HI2 := Lib.hid hi2
      have hr2 : s.round ≤ s'.round ∧ s'.round ≤ s.round + 32768 := by have := HB.out; omega
      have HRI := Lib.hid hri
      obtain ⟨hr3, hr4⟩ := hr2
      clear hs' hi2 hrd2 hri
      (with_reducible refine (sent_lit b s s' _ _ _ _ HS.out.1 ⟨hr0, ?_⟩ ?_ hx1 hx2 HA.out.1 HSS.out rfl).mono ?_)
      · omega
      · have := HB.out; omega
      rintro e w4 ⟨rfl, hS4, hm4⟩
      have HS4 := Lib.hid (And.intro hS4 (HA.out.2.trans hm4))
      have hS4' := hS4
      clear hS4 hm4 HA
      go_wp2_with fail
      (with_reducible refine (turn_any b s' _ _ hS4' ?_).mono ?_)
      · have := HI2.out.1.len; rw [this, HI2.out.2]; have := HB.out; omega
      rintro e w5 ⟨ao2, n2, c2, rfl, hM2, _⟩
      have hA5 := (hM2.sat HS4.out.1).drop
      have hm5 := HS4.out.2.trans hM2.2
      have x0 : w5.cell? ⟨w3.heap.size, 0, none⟩ = some (.int .i64 s.pos) := by rw [hA5.drop.cell]; rfl
      have x1 : w5.cell? ⟨w3.heap.size, 1, none⟩ = some (.int .i64 s.round) := by rw [hA5.drop.cell]; rfl
      have hlt5 := hA5.drop.lt
      have hne5 : w3.heap.size ≠ w5.heap.size := by omega
      have HA5 : Hid (TurnsRel b ws q w (k + 1) (w5.alloc (.cells #[.int .i64 s'.pos, .int .i64 s'.round, .slice ao2 n2 c2] 33))) :=
        ⟨s', HI2.out.1, HI2.out.2.trans HS.out.2.1, by omega, by omega, (hA5.swap.drop).keep (fun _ hk => Below.heap_alloc _ _ _ hk), hm5.alloc _⟩
      clear hA5 hm5 hM2 hS4' HS4
      rcases HRI.out with hlt | ⟨heq, hpos⟩
      · have hp0 : n = 1 → s'.pos = 0 := fun h => by have := HI2.out.1.pos; rw [HI2.out.2, HB.out] at this; omega
        by_cases hq1 : s'.round = s.round + 1
        · have hq1' : (s'.round == s.round + 1) = true := by simp; omega
          have HQ := Lib.hid hq1
          clear hq1
          by_cases hn1 : n = 1
          · have hp0' : ((s'.pos : Int) != 0) = false := by simp; exact hp0 hn1
            have hn1' : ((n : Int) == 1) = true := by simp; omega
            clear hp0 hn1
            go_wp2_with fail
            go_roundg (m - (k + 1))
            case measure => omega
            case rel => exact ⟨k + 1, rfl, by omega, by go_num, HA5.out⟩
          · have hn1' : ((n : Int) == 1) = false := by simp; omega
            clear hp0
            go_wp2_with fail
            go_roundg (m - (k + 1))
            case measure => omega
            case rel => exact ⟨k + 1, rfl, by omega, by go_num, HA5.out⟩
        · have hq1' : (s'.round == s.round + 1) = false := by simp; omega
          clear hp0
          go_wp2_with fail
          go_roundg (m - (k + 1))
          case measure => omega
          case rel => exact ⟨k + 1, rfl, by omega, by go_num, HA5.out⟩
      · have hlt' : ¬ s.round < s'.round := by omega
        have hlt2 : ¬ s'.round < s.round := by omega
        have hlt3 : decide (s.round < s'.round) = false := by simp; omega
        have hpos' : ¬ s'.pos < s.pos := by omega
        have HQ := Lib.hid heq
        clear heq
        go_wp2_with fail
        go_roundg (m - (k + 1))
        case measure => omega
        case rel => exact ⟨k + 1, rfl, by omega, by go_num, HA5.out⟩
    · have e : k = m := by omega
      subst e
      have HR := Lib.hid hR
      clear hR
      go_wp2_with fail
      go_ret
      exact ⟨rfl, HR.out.below⟩


theorem walk_SrrRounds (ao : Option Addr) (n c : Nat) (ws : List Int) (q : Int) (bo : Option Addr) (m d : Nat) (zs : List Int) (w : World) (hx : Rd w (.slice ao n c) 1 (i64s ws)) (_ : ws.length = n) (_ : ∀ x ∈ ws, -9223372036854775808 ≤ x ∧ x ≤ 9223372036854775807) (_ : n * 8 ≤ 140737488351232)
    (_ : -9223372036854775808 ≤ q ∧ q ≤ 9223372036854775807) (hy : Rd w (.slice bo m d) 1 (zs.map (Value.int .u16))) (_ : zs.length = m) (hz : ∀ x ∈ zs, 0 ≤ x ∧ x ≤ 65535) (_ : m * 2 ≤ 140737488351232) :
    Calls Try.prog 8 #[.slice ao n c, .int .i64 q, .slice bo m d] w (LawPost w) := by
  by_cases h : 900 < n ∨ n ≤ 900 ∧ 400 < m
  · exact walk_SrrRounds_big ao n c q bo m d w (by omega) (by omega) h
  · by_cases hok : OkW ws q
    · exact walk_SrrRounds_yes ao n c ws q bo m d zs w hx hy hz (by omega) hok
    · exact walk_SrrRounds_no ao n c ws q bo m d w hx (by omega) (by omega) hok

end Go.Proofs.Ytlbcfkkeoedhdaa
