/- SrrPlays: whose turn it is, whether a round begins, and where it is, are the document's, of any weights and quantum, whatever is sent. -/
import Derived.Test.YtlbcfkkeoedhdaaSrrRounds
import Derived.Test.YtlbcfkkeoedhdaaSrrRefS
namespace Go.Proofs.Ytlbcfkkeoedhdaa
open Go.RowKit

/-- Where it is when so many bytes were to be sent: if that may not be, where it was. -/
def SrrS.nxt (s : SrrS) (x : Int) : SrrS := if 1 ≤ x ∧ x ≤ 2048 then s.sent x else s
theorem SrrS.nxt_inv {s : SrrS} (x : Int) (h : s.Inv) : (s.nxt x).Inv ∧ (s.nxt x).brings = s.brings := by
  unfold SrrS.nxt
  split
  · rename_i hx; exact SrrS.sent_inv h hx.1 hx.2
  · exact ⟨h, rfl⟩
theorem SrrS.nxt_round {s : SrrS} (x : Int) (h : s.Inv) : s.round ≤ (s.nxt x).round ∧ (s.nxt x).round ≤ s.round + s.brings.length * 2048 := by
  unfold SrrS.nxt
  split
  · rename_i hx; exact SrrS.sent_round h hx.1 hx.2
  · exact ⟨Int.le_refl _, by omega⟩

def NxtPost (A : SrrS → HP) (s s' : SrrS) (F : HP) (w : World) (e : Ending) (w' : World) : Prop :=
  e = .returned (.bool (decide (s.round < s'.round))) ∧ Sat w' (A s' • F) ∧ Same w w'

theorem sent_nxt (b : Nat) (s s' : SrrS) (x : Int) (F : HP) (w : World) (hI : s.Inv) (hr : 0 ≤ s.round ∧ s.round ≤ 1152921504606846976) (hlen : s.brings.length ≤ 1000000) (hS : Sat w (srrRep b s • F)) (hs : s.nxt x = s') :
    Calls Try.prog 12 #[.pointer (some ⟨b, 0, none⟩), .int .i64 x] w (NxtPost (srrRep b) s s' F w) := by
  subst hs
  unfold SrrS.nxt
  split
  · rename_i hx
    exact (sent_ok b s x F w hI hr hlen hx.1 hx.2 hS).mono fun _ _ h => h
  · refine (sent_no b x w (by omega)).mono fun e w' ⟨h1, h2⟩ => ?_
    subst h2
    exact ⟨by rw [h1]; simp, hS, Same.refl _⟩

theorem rsent_nxt (b : Nat) (ws : List Int) (q : Int) (s s' : SrrS) (x : Int) (F : HP) (w : World) (hI : s.Inv) (hbr : s.brings = ws.map (· * q)) (hok : OkW ws q) (hr : 0 ≤ s.round ∧ s.round ≤ 1152921504606846976) (hS : Sat w (refRep b ws q s • F)) (hs : s.nxt x = s') :
    Calls Try.prog 13 #[.pointer (some ⟨b, 0, none⟩), .int .i64 x] w (NxtPost (refRep b ws q) s s' F w) := by
  subst hs
  unfold SrrS.nxt
  split
  · rename_i hx
    exact (rsent_ok b ws q s x F w hI hbr hok hr hx.1 hx.2 hS).mono fun _ _ h => h
  · refine (rsent_no b x w (by omega)).mono fun e w' ⟨h1, h2⟩ => ?_
    subst h2
    exact ⟨by rw [h1]; simp, hS, Same.refl _⟩

theorem same_refl (p r : Int) (l : List Int) (o1 : Option Addr) (n1 c1 : Nat) (o2 : Option Addr) (n2 c2 : Nat) (w : World) (hx : Rd w (.slice o1 n1 c1) 1 (i64s l)) (hy : Rd w (.slice o2 n2 c2) 1 (i64s l)) :
    Calls Try.prog 16 #[.agg #[.int .i64 p, .int .i64 r, .slice o1 n1 c1], .agg #[.int .i64 p, .int .i64 r, .slice o2 n2 c2]] w fun e w' => e = .returned (.bool true) ∧ Made w w' emp :=
  (same_any p r o1 n1 c1 l p r o2 n2 c2 l w hx hy).mono fun _ _ h => ⟨by rw [h.1]; simp [sameT], h.2⟩

theorem made_drop {w w' : World} {A F : HP} (h : Made w w' A) (hS : Sat w F) : Sat w' F := (h.sat hS).drop

set_option maxHeartbeats 1600000 in
set_option maxRecDepth 100000 in
theorem walk_SrrPlays_big (ao : Option Addr) (n c : Nat) (q : Int) (bo : Option Addr) (m d : Nat) (w : World) (hn : n ≤ 9223372036854775807) (hm : m ≤ 9223372036854775807) (h : 900 < n ∨ n ≤ 900 ∧ 400 < m) :
    Calls Try.prog 3 #[.slice ao n c, .int .i64 q, .slice bo m d] w (LawPost w) := by
  rcases h with h | ⟨h0, h⟩ <;>
  · go_enter Try.func3, Try.ntmps3
    go_wp2_with fail
    (with_reducible refine (head_any w).mono ?_)
    rintro e w1 ⟨rfl, hb1⟩
    have H1 := Lib.hid hb1
    clear hb1
    go_wp2_with fail
    go_ret
    exact ⟨rfl, H1.out⟩

set_option maxHeartbeats 1600000 in
set_option maxRecDepth 100000 in
theorem walk_SrrPlays_no (ao : Option Addr) (n c : Nat) (ws : List Int) (q : Int) (bo : Option Addr) (m d : Nat) (w : World) (hx : Rd w (.slice ao n c) 1 (i64s ws)) (hn : n ≤ 900) (hm : m ≤ 400) (hno : ¬ OkW ws q) :
    Calls Try.prog 3 #[.slice ao n c, .int .i64 q, .slice bo m d] w (LawPost w) := by
  have HX := Lib.hid hx
  have HO := Lib.hid hno
  clear hx hno
  go_enter Try.func3, Try.ntmps3
  go_wp2_with fail
  (with_reducible refine (head_any w).mono ?_)
  rintro e w1 ⟨rfl, hb1⟩
  have H1 := Lib.hid hb1
  have HX1 := Lib.hid (HX.out.below hb1)
  clear hb1
  go_wp2_with fail
  (with_reducible refine (srrNew_any _ _ _ _ _ _ HX1.out).mono ?_)
  rintro e w2 (⟨_, rfl, rfl⟩ | ⟨hyes, _⟩)
  rotate_left
  · exact absurd hyes HO.out
  go_wp2_with fail
  (with_reducible refine (refNew_any _ _ _ _ _ _ HX1.out).mono ?_)
  rintro e w2 (⟨_, rfl, rfl⟩ | ⟨hyes, _⟩)
  rotate_left
  · exact absurd hyes HO.out
  go_wp2_with fail
  go_ret
  exact ⟨rfl, H1.out⟩

/-- What holds at the head of a round. -/
def PlaysRel (b rb : Nat) (ws : List Int) (q : Int) (w : World) (k : Nat) (wr : World) : Prop :=
  ∃ s : SrrS, s.Inv ∧ s.brings = ws.map (· * q) ∧ 0 ≤ s.round ∧ s.round ≤ 32768 * k ∧ Sat wr (srrRep b s • refRep rb ws q s • ownW w) ∧ Same w wr

set_option maxHeartbeats 8000000 in
set_option maxRecDepth 100000 in
theorem walk_SrrPlays_yes (ao : Option Addr) (n c : Nat) (ws : List Int) (q : Int) (bo : Option Addr) (m d : Nat) (ys : List Int) (w : World) (hx : Rd w (.slice ao n c) 1 (i64s ws)) (hy : Rd w (.slice bo m d) 1 (i64s ys)) (hm : m ≤ 400) (hok : OkW ws q) :
    Calls Try.prog 3 #[.slice ao n c, .int .i64 q, .slice bo m d] w (LawPost w) := by
  have HX := Lib.hid hx
  have HY := Lib.hid hy
  have HO := Lib.hid hok
  have HN : Hid (ws.length = n) := by show ws.length = n; simpa [i64s] using hx.len.1
  have hn16 : n ≤ 16 := by have := hok.2.1; have := HN.out; omega
  clear hx hy hok
  go_enter Try.func3, Try.ntmps3
  go_wp2_with fail
  (with_reducible refine (head_any w).mono ?_)
  rintro e w1 ⟨rfl, hb1⟩
  have H1 := Lib.hid hb1
  have HX1 := Lib.hid (HX.out.below hb1)
  clear hb1
  go_wp2_with fail
  (with_reducible refine (srrNew_any _ _ _ _ _ _ HX1.out).mono ?_)
  rintro e w2 (⟨hno, _⟩ | ⟨_, b, rfl, hM⟩)
  · exact absurd HO.out hno
  have HM := Lib.hid hM
  have HX2 := Lib.hid (hM.rd HX1.out)
  clear hM
  go_wp2_with fail
  (with_reducible refine (refNew_any _ _ _ _ _ _ HX2.out).mono ?_)
  rintro e w3 (⟨hno, _⟩ | ⟨_, rb, rfl, hM3⟩)
  · exact absurd HO.out hno
  have h2 : PlaysRel b rb ws q w 0 w3 :=
    ⟨_, SrrS.new_inv HO.out.1 HO.out.2.2.1 HO.out.2.2.2, rfl, Int.le_refl _, by simp [SrrS.new], (hM3.sat (HM.out.sat (sat_below H1.out))).swap, ((same_below H1.out).trans HM.out.2).trans hM3.2⟩
  have H2 := Lib.hid h2
  clear h2 HM hM3 H1 HX1 HX2
  go_wp2_with fail
  go_loopg [10] m (fun g i wr => ∃ k : Nat, g = m - k ∧ k ≤ m ∧ i = .int .i64 k ∧ PlaysRel b rb ws q w k wr)
  case atStart => exact ⟨0, rfl, Nat.zero_le _, rfl, H2.out⟩
  case round =>
    clear H2
    obtain ⟨k, rfl, hk, rfl, hR⟩ := hrel
    by_cases hkm : k < m
    · obtain ⟨s, hI, hbr, hr0, hr1, hS, hsm⟩ := hR
      have hsl : s.brings.length = n := by rw [hbr]; simp; exact HN.out
      obtain ⟨g, o, rfl, _, hck, _⟩ := gi_rd (HY.out.own0 hsm hS.drop.drop) hkm
      obtain ⟨x, hx⟩ : ∃ x, gi ys k = x := ⟨_, rfl⟩
      rw [hx] at hck
      obtain ⟨s', hs'⟩ : ∃ s', s.nxt x = s' := ⟨_, rfl⟩
      have hi2 := SrrS.nxt_inv x hI
      have hrd2 := SrrS.nxt_round x hI
      rw [hs'] at hi2 hrd2
      have HS := Lib.hid (And.intro hI (And.intro hbr (And.intro hS hsm)))
      have HL := Lib.hid (And.intro hsl (And.intro hx hs'))
      have HI2 := Lib.hid hi2
      obtain ⟨hr3, hr4⟩ := hrd2
      clear hI hbr hS hsm hsl hx hs' hi2
      go_wp2_with fail
      (with_reducible refine (sent_nxt b s s' _ _ _ HS.out.1 ⟨hr0, ?_⟩ ?_ HS.out.2.2.1 HL.out.2.2).mono ?_)
      · omega
      · have := HL.out.1; omega
      rintro e w4 ⟨rfl, hS4, hm4⟩
      have H4 := Lib.hid (And.intro hS4 (HS.out.2.2.2.trans hm4))
      obtain ⟨g', o', he, _, hck, _⟩ := gi_rd (HY.out.own0 H4.out.2 hS4.drop.drop) hkm
      cases he
      rw [HL.out.2.1] at hck
      clear hS4 hm4
      go_wp2_with fail
      (with_reducible refine (rsent_nxt rb ws q s s' _ _ _ HS.out.1 HS.out.2.1 HO.out ⟨hr0, ?_⟩ H4.out.1.swap HL.out.2.2).mono ?_)
      · omega
      rintro e w5 ⟨rfl, hS5, hm5⟩
      have H5 := Lib.hid (And.intro hS5 (H4.out.2.trans hm5))
      clear hS5 hm5 H4
      go_wp2_with fail
      (with_reducible refine (now_any b s' _ _ H5.out.1.swap).mono ?_)
      rintro e w6 ⟨rfl, rfl⟩
      go_wp2_with fail
      (with_reducible refine (rnow_any rb ws q s' _ _ H5.out.1).mono ?_)
      rintro e w6 ⟨rfl, rfl⟩
      go_wp2_with fail
      have hll : s'.left.length ≤ 1000000 := by
        rw [HI2.out.1.len, HI2.out.2]
        have := HL.out.1
        omega
      have HLL := Lib.hid hll
      clear hll
      (with_reducible refine (turn_any b s' _ _ H5.out.1.swap HLL.out).mono ?_)
      rintro e w6 ⟨a1, n1, c1, rfl, hM6, _⟩
      have H6 := Lib.hid (And.intro (hM6.sat H5.out.1) (H5.out.2.trans hM6.2))
      clear hM6
      go_wp2_with fail
      (with_reducible refine (rturnOf_any rb ws q s' _ _ H6.out.1.swap HLL.out).mono ?_)
      rintro e w7 ⟨a2, n2, c2, rfl, hM7, _⟩
      have H7 := Lib.hid (And.intro (hM7.sat H6.out.1) (H6.out.2.trans hM7.2))
      clear hM7
      go_wp2_with fail
      (with_reducible refine (same_refl _ _ s'.left _ _ _ _ _ _ _ H7.out.1.drop.rd H7.out.1.rd).mono ?_)
      rintro e w8 ⟨rfl, hM8⟩
      have H8 : Hid (PlaysRel b rb ws q w (k + 1) w8) :=
        ⟨s', HI2.out.1, HI2.out.2.trans HS.out.2.1, by omega, by have := HL.out.1; omega, (made_drop hM8 H7.out.1).drop.drop.swap, H7.out.2.trans hM8.2⟩
      clear hM8
      go_wp2_with fail
      go_roundg (m - (k + 1))
      case measure => omega
      case rel => exact ⟨k + 1, rfl, by omega, by go_num, H8.out⟩
    · have e : k = m := by omega
      subst e
      have HR : Hid (Below w.heap.size w wr) := by
        obtain ⟨s, _, _, _, _, hS, hsm⟩ := hR
        exact (hS.drop.drop.perm (sep_emp _).symm).below hsm
      clear hR
      go_wp2_with fail
      go_ret
      exact ⟨rfl, HR.out⟩

theorem walk_SrrPlays (ao : Option Addr) (n c : Nat) (ws : List Int) (q : Int) (bo : Option Addr) (m d : Nat) (ys : List Int) (w : World) (hx : Rd w (.slice ao n c) 1 (i64s ws)) (_ : ws.length = n) (_ : ∀ x ∈ ws, -9223372036854775808 ≤ x ∧ x ≤ 9223372036854775807) (_ : n * 8 ≤ 140737488351232)
    (_ : -9223372036854775808 ≤ q ∧ q ≤ 9223372036854775807) (hy : Rd w (.slice bo m d) 1 (i64s ys)) (_ : ys.length = m) (_ : ∀ x ∈ ys, -9223372036854775808 ≤ x ∧ x ≤ 9223372036854775807) (_ : m * 8 ≤ 140737488351232) :
    Calls Try.prog 3 #[.slice ao n c, .int .i64 q, .slice bo m d] w (LawPost w) := by
  by_cases h : 900 < n ∨ n ≤ 900 ∧ 400 < m
  · exact walk_SrrPlays_big ao n c q bo m d w (by omega) (by omega) h
  · by_cases hok : OkW ws q
    · exact walk_SrrPlays_yes ao n c ws q bo m d ys w hx hy (by omega) hok
    · exact walk_SrrPlays_no ao n c ws q bo m d w hx (by omega) (by omega) hok

end Go.Proofs.Ytlbcfkkeoedhdaa
