/- SrrLoads: one that is loaded where another one is goes on as that does, whatever is sent; what may not be is none. -/
import Derived.Test.YtlbcfkkeoedhdaaSrrPlays
import Derived.Test.YtlbcfkkeoedhdaaSrrRefL
namespace Go.Proofs.Ytlbcfkkeoedhdaa
open Go.RowKit

theorem SrrS.load_ok {s : SrrS} {ws : List Int} {q : Int} (hok : OkW ws q) (hI : s.Inv) (hbr : s.brings = ws.map (· * q)) (hr : 0 ≤ s.round ∧ s.round ≤ 1099511627776) : LoadOk ws q s.pos s.round s.left := by
  have hl : s.brings.length = ws.length := by rw [hbr]; simp
  have hp := hI.pos
  refine ⟨hok, by rw [hI.len, hl], by omega, by omega, hr.1, hr.2, fun k hk => ?_⟩
  unfold okLeft
  simp only [Int.toNat_natCast]
  split
  · rename_i e
    subst e
    rw [← hbr]
    exact ⟨hI.has, hI.top⟩
  · rename_i hne
    exact ⟨hI.low k (by omega), hI.rest k (by omega) hne⟩

/-- The turn that came in, in its variable, and what came in. -/
def tBox (tb : Nat) (pos rd : Int) (lo : Option Addr) (ln lc : Nat) (w : World) : HP := pc tb #[.int .i64 pos, .int .i64 rd, .slice lo ln lc] • ownW w
theorem tBox.start {w w1 : World} {pos rd : Int} {lo : Option Addr} {ln lc : Nat} {t : TypeId} (h : Below (w.alloc (.cells #[.int .i64 pos, .int .i64 rd, .slice lo ln lc] t)).heap.size (w.alloc (.cells #[.int .i64 pos, .int .i64 rd, .slice lo ln lc] t)) w1) :
    Sat w1 (tBox w.heap.size pos rd lo ln lc w) ∧ Same w w1 :=
  ⟨((Sat.own w).box _ _).keep fun k hk => h.block k hk, ((Same.refl w).alloc _).trans (same_below h)⟩
theorem tBox.cells {wr w : World} {tb : Nat} {pos rd : Int} {lo : Option Addr} {ln lc : Nat} {R : HP} (h : Sat wr (tBox tb pos rd lo ln lc w • R)) :
    wr.cell? ⟨tb, 0, none⟩ = some (.int .i64 pos) ∧ wr.cell? ⟨tb, 1, none⟩ = some (.int .i64 rd) ∧ wr.cell? ⟨tb, 2, none⟩ = some (.slice lo ln lc) := by
  have h1 : Sat wr (pc tb #[.int .i64 pos, .int .i64 rd, .slice lo ln lc] • (ownW w • R)) := h.perm (by unfold tBox; ac_rfl)
  exact ⟨by simp [h1.cell], by simp [h1.cell], by simp [h1.cell]⟩
theorem tBox.own {wr w : World} {tb : Nat} {pos rd : Int} {lo : Option Addr} {ln lc : Nat} {R : HP} (h : Sat wr (tBox tb pos rd lo ln lc w • R)) : Sat wr (ownW w) :=
  ((h.perm (by unfold tBox; ac_rfl) : Sat wr (ownW w • (pc tb #[.int .i64 pos, .int .i64 rd, .slice lo ln lc] • R)))).left
theorem Sat.emp_r {w : World} {A : HP} (h : Sat w A) : Sat w (A • emp) := h.perm (sep_emp A).symm

set_option maxHeartbeats 1600000 in
set_option maxRecDepth 100000 in
theorem walk_SrrLoads_big (ao : Option Addr) (n c : Nat) (q : Int) (bo : Option Addr) (m d : Nat) (yo : Option Addr) (m2 d2 : Nat) (pos rd : Int) (lo : Option Addr) (ln lc : Nat) (w : World) (hn : n ≤ 9223372036854775807) (hm : m ≤ 140737488351232) (hm2 : m2 ≤ 140737488351232) (hl : ln ≤ 9223372036854775807) (h : 900 < n ∨ n ≤ 900 ∧ (400 < m + m2 ∨ m + m2 ≤ 400 ∧ 900 < ln)) :
    Calls Try.prog 5 #[.slice ao n c, .int .i64 q, .slice bo m d, .slice yo m2 d2, .agg #[.int .i64 pos, .int .i64 rd, .slice lo ln lc]] w (LawPost w) := by
  rcases h with h | ⟨h0, h | ⟨h1, h⟩⟩ <;>
  · go_enter Try.func5, Try.ntmps5
    go_wp2_with fail
    (with_reducible refine (head_any _).mono ?_)
    rintro e w1 ⟨rfl, hb1⟩
    obtain ⟨hs, hsm⟩ := tBox.start hb1
    obtain ⟨t0, t1, t2⟩ := tBox.cells hs.emp_r
    have H1 : Hid (Below w.heap.size w w1) := (hs.perm (by unfold tBox; ac_rfl) : Sat w1 (ownW w • pc w.heap.size #[.int .i64 pos, .int .i64 rd, .slice lo ln lc])).below hsm
    clear hb1 hs hsm
    go_wp2_with fail
    go_ret
    exact ⟨rfl, H1.out⟩

set_option maxHeartbeats 1600000 in
set_option maxRecDepth 100000 in
theorem walk_SrrLoads_no (ao : Option Addr) (n c : Nat) (ws : List Int) (q : Int) (bo : Option Addr) (m d : Nat) (yo : Option Addr) (m2 d2 : Nat) (pos rd : Int) (lo : Option Addr) (ln lc : Nat) (ls : List Int) (w : World) (hx : Rd w (.slice ao n c) 1 (i64s ws)) (hl : Rd w (.slice lo ln lc) 1 (i64s ls)) (hn : n ≤ 900) (hm : m + m2 ≤ 400) (hln : ln ≤ 900) (hno : ¬ OkW ws q) :
    Calls Try.prog 5 #[.slice ao n c, .int .i64 q, .slice bo m d, .slice yo m2 d2, .agg #[.int .i64 pos, .int .i64 rd, .slice lo ln lc]] w (LawPost w) := by
  have HX := Lib.hid hx
  have HL := Lib.hid hl
  have hd : decide (OkW ws q) = false := by simpa using hno
  have HO := Lib.hid hno
  clear hx hl hno
  go_enter Try.func5, Try.ntmps5
  go_wp2_with fail
  (with_reducible refine (head_any _).mono ?_)
  rintro e w1 ⟨rfl, hb1⟩
  obtain ⟨hs, hsm⟩ := tBox.start hb1
  obtain ⟨t0, t1, t2⟩ := tBox.cells hs.emp_r
  have H1 := Lib.hid (And.intro hs hsm)
  have HX1 := Lib.hid (HX.out.own0 hsm (tBox.own hs.emp_r))
  have HL1 := Lib.hid (HL.out.own0 hsm (tBox.own hs.emp_r))
  clear hb1 hs hsm
  go_wp2_with fail
  (with_reducible refine (srrNew_any _ _ _ _ _ _ HX1.out).mono ?_)
  rintro e w2 (⟨_, rfl, rfl⟩ | ⟨hyes, _⟩)
  rotate_left
  · exact absurd hyes HO.out
  go_wp2_with fail
  (with_reducible refine (right_any _ _ _ _ _ _ HX1.out).mono ?_)
  rintro e w2 ⟨rfl, rfl⟩
  go_wp2_with fail
  (with_reducible refine (load_any _ _ _ _ _ _ _ _ _ _ _ _ HX1.out HL1.out).mono ?_)
  rintro e w2 (⟨_, rfl, hM⟩ | ⟨hyes, _⟩)
  rotate_left
  · exact absurd hyes.1 HO.out
  have H2 : Hid (Below w.heap.size w w2) := ((made_drop hM H1.out.1).perm (by unfold tBox; ac_rfl) : Sat w2 (ownW w • pc w.heap.size #[.int .i64 pos, .int .i64 rd, .slice lo ln lc])).below (H1.out.2.trans hM.2)
  clear hM
  go_wp2_with fail
  go_ret
  exact ⟨rfl, H2.out⟩

theorem sent_keep {w : World} {g o n k : Nat} {l : List Int} {x : Int} (h : ∃ g1 o1, (some ⟨g, o, none⟩ : Option Addr) = some ⟨g1, o1, none⟩ ∧ l.length = n ∧ w.cell? ⟨g1, o1 + k, none⟩ = some (.int .i64 (gi l k)) ∧ g1 < w.heap.size) (hx : gi l k = x) : w.cell? ⟨g, o + k, none⟩ = some (.int .i64 x) := by
  obtain ⟨g1, o1, he, _, hc, _⟩ := h
  cases he
  rw [← hx]
  exact hc

theorem sep_rot3 (A B C D : HP) : A • B • C • D = C • A • B • D := by ac_rfl
theorem same_eq (p r p' r' : Int) (l l' : List Int) (o1 : Option Addr) (n1 c1 : Nat) (o2 : Option Addr) (n2 c2 : Nat) (w : World) (hp : p = p') (hr : r = r') (hl : l = l') (hx : Rd w (.slice o1 n1 c1) 1 (i64s l)) (hy : Rd w (.slice o2 n2 c2) 1 (i64s l')) :
    Calls Try.prog 16 #[.agg #[.int .i64 p, .int .i64 r, .slice o1 n1 c1], .agg #[.int .i64 p', .int .i64 r', .slice o2 n2 c2]] w fun e w' => e = .returned (.bool true) ∧ Made w w' emp := by
  subst hp hr hl
  exact same_refl p r l o1 n1 c1 o2 n2 c2 w hx hy

def LoadsA (b tb : Nat) (ws : List Int) (q : Int) (pos rd : Int) (lo : Option Addr) (ln lc : Nat) (w : World) (k : Nat) (wr : World) : Prop :=
  ∃ s : SrrS, s.Inv ∧ s.brings = ws.map (· * q) ∧ 0 ≤ s.round ∧ s.round ≤ 32768 * k ∧ Sat wr (srrRep b s • tBox tb pos rd lo ln lc w) ∧ Same w wr
def LoadsB (b xb tb : Nat) (ws : List Int) (q : Int) (pos rd : Int) (lo : Option Addr) (ln lc : Nat) (w : World) (k : Nat) (wr : World) : Prop :=
  ∃ s : SrrS, s.Inv ∧ s.brings = ws.map (· * q) ∧ 0 ≤ s.round ∧ s.round ≤ 32768 * k ∧ Sat wr (srrRep b s • srrRep xb s • tBox tb pos rd lo ln lc w) ∧ Same w wr

set_option maxHeartbeats 8000000 in
set_option maxRecDepth 100000 in
theorem walk_SrrLoads_yes (ao : Option Addr) (n c : Nat) (ws : List Int) (q : Int) (bo : Option Addr) (m d : Nat) (zs : List Int) (yo : Option Addr) (m2 d2 : Nat) (ys : List Int) (pos rd : Int) (lo : Option Addr) (ln lc : Nat) (ls : List Int) (w : World) (hx : Rd w (.slice ao n c) 1 (i64s ws)) (hy : Rd w (.slice bo m d) 1 (zs.map (Value.int .u16)))
    (hz : ∀ x ∈ zs, 0 ≤ x ∧ x ≤ 65535) (hy2 : Rd w (.slice yo m2 d2) 1 (i64s ys)) (hl : Rd w (.slice lo ln lc) 1 (i64s ls)) (hm : m + m2 ≤ 400) (hln : ln ≤ 900) (hok : OkW ws q) :
    Calls Try.prog 5 #[.slice ao n c, .int .i64 q, .slice bo m d, .slice yo m2 d2, .agg #[.int .i64 pos, .int .i64 rd, .slice lo ln lc]] w (LawPost w) := by
  have HX := Lib.hid hx
  have HY := Lib.hid hy
  have HY2 := Lib.hid hy2
  have HL := Lib.hid hl
  have HZ := Lib.hid hz
  have HO := Lib.hid hok
  have HN : Hid (ws.length = n) := by show ws.length = n; simpa [i64s] using hx.len.1
  have HM : Hid (zs.length = m) := by show zs.length = m; simpa using hy.len.1
  have hn16 : n ≤ 16 := by have := hok.2.1; have := HN.out; omega
  clear hx hy hz hok hl hy2
  go_enter Try.func5, Try.ntmps5
  go_wp2_with fail
  (with_reducible refine (head_any _).mono ?_)
  rintro e w1 ⟨rfl, hb1⟩
  obtain ⟨hs, hsm⟩ := tBox.start hb1
  obtain ⟨t0, t1, t2⟩ := tBox.cells hs.emp_r
  have H1 := Lib.hid (And.intro hs hsm)
  have HX1 := Lib.hid (HX.out.own0 hsm (tBox.own hs.emp_r))
  clear hb1 hs hsm
  go_wp2_with fail
  (with_reducible refine (srrNew_any _ _ _ _ _ _ HX1.out).mono ?_)
  rintro e w2 (⟨hno, _⟩ | ⟨_, b, rfl, hM⟩)
  · exact absurd HO.out hno
  have h2 : LoadsA b w.heap.size ws q pos rd lo ln lc w 0 w2 :=
    ⟨_, SrrS.new_inv HO.out.1 HO.out.2.2.1 HO.out.2.2.2, rfl, Int.le_refl _, by simp [SrrS.new], hM.sat H1.out.1, H1.out.2.trans hM.2⟩
  have H2 := Lib.hid h2
  clear h2 hM H1 HX1 t0 t1 t2
  generalize w.heap.size = tb at *
  go_wp2_with fail
  go_loopg [13] m (fun g i wr => ∃ k : Nat, g = m - k ∧ k ≤ m ∧ i = .int .i64 k ∧ LoadsA b tb ws q pos rd lo ln lc w k wr)
  case atStart => exact ⟨0, rfl, Nat.zero_le _, rfl, H2.out⟩
  case round =>
    clear H2
    obtain ⟨k, rfl, hk, rfl, s, hI, hbr, hr0, hr1, hS, hsm⟩ := hrel
    have hsl : s.brings.length = n := by rw [hbr]; simp; exact HN.out
    by_cases hkm : k < m
    · obtain ⟨g, o, rfl, _, hck, _⟩ := ik_rd (HY.out.own0 hsm (tBox.own hS.drop.emp_r)) hkm
      have hzk := HZ.out (gi zs k) (gi_mem (by have := HM.out; omega))
      obtain ⟨hz1, hz2⟩ := hzk
      obtain ⟨s', hs'⟩ : ∃ s', s.nxt (1 + gi zs k % 2048) = s' := ⟨_, rfl⟩
      have hi2 := SrrS.nxt_inv (1 + gi zs k % 2048) hI
      have hrd2 := SrrS.nxt_round (1 + gi zs k % 2048) hI
      rw [hs'] at hi2 hrd2
      have HS := Lib.hid (And.intro hI (And.intro hbr (And.intro hS hsm)))
      have HLL := Lib.hid (And.intro hsl hs')
      have HI2 := Lib.hid hi2
      obtain ⟨hr3, hr4⟩ := hrd2
      clear hI hbr hS hsm hsl hs' hi2
      go_wp2_with fail
      (with_reducible refine (sent_nxt b s s' _ _ _ HS.out.1 ⟨hr0, ?_⟩ ?_ HS.out.2.2.1 HLL.out.2).mono ?_)
      · omega
      · have := HLL.out.1; omega
      rintro e w4 ⟨rfl, hS4, hm4⟩
      have H4 : Hid (LoadsA b tb ws q pos rd lo ln lc w (k + 1) w4) := ⟨s', HI2.out.1, HI2.out.2.trans HS.out.2.1, by omega, by have := HLL.out.1; omega, hS4, HS.out.2.2.2.trans hm4⟩
      clear hS4 hm4
      go_wp2_with fail
      go_roundg (m - (k + 1))
      case measure => omega
      case rel => exact ⟨k + 1, rfl, by omega, by go_num, H4.out⟩
    · have e : k = m := by omega
      subst e
      have hlo := SrrS.load_ok HO.out hI hbr ⟨hr0, by omega⟩
      have hll : s.left.length ≤ 1000000 := by rw [hI.len]; omega
      have HS := Lib.hid (And.intro hI (And.intro hbr (And.intro hS (And.intro hsm (And.intro hlo hll)))))
      clear hI hbr hS hsm hlo hll hsl
      go_wp2_with fail
      (with_reducible refine (turn_any b s _ _ HS.out.2.2.1 HS.out.2.2.2.2.2).mono ?_)
      rintro e w3 ⟨a1, n1, c1, rfl, hM3, _⟩
      have H3 := Lib.hid (And.intro (hM3.sat HS.out.2.2.1) (HS.out.2.2.2.1.trans hM3.2))
      have HX3 := Lib.hid (HX.out.own0 H3.out.2 (tBox.own H3.out.1.drop.drop.emp_r))
      clear hM3
      go_wp2_with fail
      (with_reducible refine (load_any _ _ _ _ _ _ _ _ _ _ _ _ HX3.out H3.out.1.rd).mono ?_)
      rintro e w4 (⟨hno, _⟩ | ⟨_, xb, rfl, hM4⟩)
      · exact absurd HS.out.2.2.2.2.1 hno
      have h4 : LoadsB b xb tb ws q pos rd lo ln lc w k w4 := by
        have e : (⟨(s.pos : Int).toNat, s.round, s.left, ws.map (· * q)⟩ : SrrS) = s := by
          rw [← HS.out.2.1]; simp
        rw [e] at hM4
        exact ⟨s, HS.out.1, HS.out.2.1, hr0, hr1, (hM4.sat H3.out.1.drop).swap, H3.out.2.trans hM4.2⟩
      have H4 := Lib.hid h4
      clear h4 hM4 HX3 H3 HS hr0 hr1
      go_wp2_with fail
      go_loopg [15] m2 (fun g i wr => ∃ j : Nat, g = m2 - j ∧ j ≤ m2 ∧ i = .int .i64 j ∧ LoadsB b xb tb ws q pos rd lo ln lc w (k + j) wr)
      case atStart => exact ⟨0, rfl, Nat.zero_le _, rfl, H4.out⟩
      case round =>
        clear H4
        obtain ⟨j, rfl, hj, rfl, s, hI, hbr, hr0, hr1, hS, hsm⟩ := hrel
        have hsl : s.brings.length = n := by rw [hbr]; simp; exact HN.out
        by_cases hjm : j < m2
        · obtain ⟨g, o, rfl, _, hck, _⟩ := gi_rd (HY2.out.own0 hsm (tBox.own hS.drop.drop.emp_r)) hjm
          obtain ⟨x, hx⟩ : ∃ x, gi ys j = x := ⟨_, rfl⟩
          rw [hx] at hck
          obtain ⟨s', hs'⟩ : ∃ s', s.nxt x = s' := ⟨_, rfl⟩
          have hi2 := SrrS.nxt_inv x hI
          have hrd2 := SrrS.nxt_round x hI
          rw [hs'] at hi2 hrd2
          have HS := Lib.hid (And.intro hI (And.intro hbr (And.intro hS hsm)))
          have HLL := Lib.hid (And.intro hsl (And.intro hx hs'))
          have HI2 := Lib.hid hi2
          obtain ⟨hr3, hr4⟩ := hrd2
          have hrk : s.round ≤ 1152921504606846976 := by omega
          have hbl : s.brings.length ≤ 1000000 := by omega
          have HRB := Lib.hid (And.intro (And.intro hr0 hrk) hbl)
          have i1 : (j : Int) < (m2 : Int) := by omega
          clear hI hbr hS hsm hsl hx hs' hi2 hrk hbl
          go_wp2_with fail
          go_region_held3 (fun w' => w'.cell? ⟨g, o + j, none⟩ = some (.int .i64 x)) (go_keep) ((first
            | (go_at_call 14; (with_reducible refine (now_any b s (srrRep xb s • tBox tb pos rd lo ln lc w) _ ?_).mono ?_); exact HS.out.2.2.1.drew; rintro e w6 ⟨rfl, rfl⟩)
            | (go_at_call 14; (with_reducible refine (now_any xb s (srrRep b s • tBox tb pos rd lo ln lc w) _ ?_).mono ?_); exact HS.out.2.2.1.swap.drew; rintro e w6 ⟨rfl, rfl⟩)
            | (go_at_call 12; (with_reducible refine (sent_nxt b s s' _ (srrRep xb s • tBox tb pos rd lo ln lc w) _ HS.out.1 HRB.out.1 HRB.out.2 ?_ HLL.out.2.2).mono ?_); exact HS.out.2.2.1.drew; rintro e w6 ⟨rfl, hS6, hm6⟩; have H6 := Lib.hid (And.intro hS6 (HS.out.2.2.2.drew.trans hm6)); have hck6 := sent_keep (gi_rd (HY2.out.own0 H6.out.2 (tBox.own H6.out.1.drop.drop.emp_r)) hjm) HLL.out.2.1; clear hS6 hm6)
            | (go_at_call 12; (with_reducible refine (sent_nxt xb s s' _ (srrRep b s' • tBox tb pos rd lo ln lc w) _ HS.out.1 HRB.out.1 HRB.out.2 ?_ HLL.out.2.2).mono ?_); exact H6.out.1.swap; rintro e w7 ⟨rfl, hS7, hm7⟩; have H7 := Lib.hid (And.intro hS7 (H6.out.2.trans hm7)); have hck7 := sent_keep (gi_rd (HY2.out.own0 H7.out.2 (tBox.own H7.out.1.drop.drop.emp_r)) hjm) HLL.out.2.1; clear hS7 hm7)))
          have H8 : Hid (LoadsB b xb tb ws q pos rd lo ln lc w (k + (j + 1)) w7) := ⟨s', HI2.out.1, HI2.out.2.trans HS.out.2.1, by omega, by have := HLL.out.1; omega, H7.out.1.swap, H7.out.2⟩
          clear H6 H7 hck6 hck7
          go_wp2_with fail
          go_roundg (m2 - (j + 1))
          case measure => omega
          case rel => exact ⟨j + 1, rfl, by omega, by go_num, H8.out⟩
        · have e : j = m2 := by omega
          subst e
          obtain ⟨t0, t1, t2⟩ := tBox.cells hS.drop.drop.emp_r
          have hll : s.left.length ≤ 1000000 := by rw [hI.len]; omega
          have HXr := Lib.hid (HX.out.own0 hsm (tBox.own hS.drop.drop.emp_r))
          have HLr := Lib.hid (HL.out.own0 hsm (tBox.own hS.drop.drop.emp_r))
          have HS := Lib.hid (And.intro hS (And.intro hsm hll))
          clear hI hbr hr0 hr1 hS hsm hsl hll hj
          go_wp2_with fail
          (with_reducible refine (load_any _ _ _ _ _ _ _ _ _ _ _ _ HXr.out HLr.out).mono ?_)
          rintro e w4 (⟨hno, rfl, hM4⟩ | ⟨hyes, yb, rfl, hM4⟩)
          · have H4 := Lib.hid (And.intro (made_drop hM4 HS.out.1) (HS.out.2.1.trans hM4.2))
            have HNO := Lib.hid hno
            obtain ⟨t0, t1, t2⟩ := tBox.cells H4.out.1.drop.drop.emp_r
            have HX4 := Lib.hid (HX.out.own0 H4.out.2 (tBox.own H4.out.1.drop.drop.emp_r))
            have HL4 := Lib.hid (HL.out.own0 H4.out.2 (tBox.own H4.out.1.drop.drop.emp_r))
            clear hno hM4
            go_wp2_with fail
            (with_reducible refine (rload_any _ _ _ _ _ _ _ _ _ _ _ _ HX4.out HL4.out).mono ?_)
            rintro e w5 ⟨⟨_, rfl⟩ | ⟨hyes, _⟩, hM5⟩
            rotate_left
            · exact absurd hyes HNO.out
            have H5 := Lib.hid (And.intro (made_drop hM5 H4.out.1) (H4.out.2.trans hM5.2))
            clear hM5
            go_wp2_with fail
            (with_reducible refine (turn_any b s _ _ H5.out.1 HS.out.2.2).mono ?_)
            rintro e w6 ⟨a1, n1, c1, rfl, hM6, _⟩
            have H6 := Lib.hid (And.intro (hM6.sat H5.out.1) (H5.out.2.trans hM6.2))
            clear hM6
            go_wp2_with fail
            (with_reducible refine (turn_any xb s _ _ (H6.out.1.perm (sep_rot3 _ _ _ _)) HS.out.2.2).mono ?_)
            rintro e w7 ⟨a2, n2, c2, rfl, hM7, _⟩
            have H7 := Lib.hid (And.intro (hM7.sat H6.out.1) (H6.out.2.trans hM7.2))
            clear hM7
            go_wp2_with fail
            (with_reducible refine (same_refl _ _ s.left _ _ _ _ _ _ _ H7.out.1.drop.rd H7.out.1.rd).mono ?_)
            rintro e w8 ⟨rfl, hM8⟩
            have H8 : Hid (Below w.heap.size w w8) := (((made_drop hM8 H7.out.1).drop.drop.drop.drop.perm (by unfold tBox; ac_rfl) : Sat w8 (ownW w • pc tb #[.int .i64 pos, .int .i64 rd, .slice lo ln lc]))).below (H7.out.2.trans hM8.2)
            clear hM8
            go_wp2_with fail
            go_ret
            exact ⟨rfl, H8.out⟩
          · have hpos : ((pos.toNat : Nat) : Int) = pos := by have := hyes.2.2.1; omega
            have hlen2 : ls.length ≤ 1000000 := by have := hyes.2.1; have := HN.out; omega
            obtain ⟨sy, hsy⟩ : ∃ sy : SrrS, (⟨pos.toNat, rd, ls, ws.map (· * q)⟩ : SrrS) = sy := ⟨_, rfl⟩
            rw [hsy] at hM4
            have HSY : Hid ((sy.pos : Int) = pos ∧ sy.round = rd ∧ sy.left = ls ∧ sy.left.length ≤ 1000000) := by subst hsy; exact ⟨hpos, rfl, rfl, hlen2⟩
            have H4 := Lib.hid (And.intro (hM4.sat HS.out.1) (HS.out.2.1.trans hM4.2))
            have HYES := Lib.hid hyes
            obtain ⟨t0, t1, t2⟩ := tBox.cells H4.out.1.drop.drop.drop.emp_r
            have HX4 := Lib.hid (HX.out.own0 H4.out.2 (tBox.own H4.out.1.drop.drop.drop.emp_r))
            have HL4 := Lib.hid (HL.out.own0 H4.out.2 (tBox.own H4.out.1.drop.drop.drop.emp_r))
            clear hyes hM4 hsy hpos hlen2
            go_wp2_with fail
            (with_reducible refine (rload_any _ _ _ _ _ _ _ _ _ _ _ _ HX4.out HL4.out).mono ?_)
            rintro e w5 ⟨⟨hno, _⟩ | ⟨_, zb, rfl⟩, hM5⟩
            · exact absurd HYES.out hno
            have H5 := Lib.hid (And.intro (made_drop hM5 H4.out.1) (H4.out.2.trans hM5.2))
            obtain ⟨t0, t1, t2⟩ := tBox.cells H5.out.1.drop.drop.drop.emp_r
            clear hM5
            go_wp2_with fail
            go_region_held3 (fun w' => w'.cell? ⟨tb, 0, none⟩ = some (.int .i64 pos) ∧ w'.cell? ⟨tb, 1, none⟩ = some (.int .i64 rd) ∧ w'.cell? ⟨tb, 2, none⟩ = some (.slice lo ln lc)) (go_keep) ((first
              | (go_at_call 17; (with_reducible refine (turn_any yb sy (srrRep b s • srrRep xb s • tBox tb pos rd lo ln lc w) _ ?_ HSY.out.2.2.2).mono ?_); exact H5.out.1.drew; rintro e w6 ⟨a1, n1, c1, rfl, hM6, _⟩; have H6 := Lib.hid (And.intro (hM6.sat H5.out.1.drew) (H5.out.2.drew.trans hM6.2)); have tt6 := tBox.cells H6.out.1.drop.drop.drop.drop.emp_r; obtain ⟨t60, t61, t62⟩ := tt6; have HL6 := Lib.hid (HL.out.own0 H6.out.2 (tBox.own H6.out.1.drop.drop.drop.drop.emp_r)); clear hM6)
              | (go_at_call 16; (with_reducible refine (same_eq _ _ _ _ sy.left ls _ _ _ _ _ _ _ HSY.out.1 HSY.out.2.1 HSY.out.2.2.1 H6.out.1.rd HL6.out).mono ?_); rintro e w7 ⟨rfl, hM7⟩; have H7 := Lib.hid (And.intro (made_drop hM7 H6.out.1) (H6.out.2.trans hM7.2)); have tt7 := tBox.cells H7.out.1.drop.drop.drop.drop.emp_r; obtain ⟨t70, t71, t72⟩ := tt7; clear hM7)
              | (go_at_call 17; (with_reducible refine (turn_any b s (srrRep xb s • tBox tb pos rd lo ln lc w) _ ?_ HS.out.2.2).mono ?_); exact H7.out.1.drop.drop; rintro e w8 ⟨a2, n2, c2, rfl, hM8, _⟩; have H8 := Lib.hid (And.intro (hM8.sat H7.out.1.drop.drop) (H7.out.2.trans hM8.2)); have tt8 := tBox.cells H8.out.1.drop.drop.drop.emp_r; obtain ⟨t80, t81, t82⟩ := tt8; clear hM8)
              | (go_at_call 17; (with_reducible refine (turn_any xb s (srrRep b s • tBox tb pos rd lo ln lc w) _ ?_ HS.out.2.2).mono ?_); exact H8.out.1.drop.swap; rintro e w9 ⟨a3, n3, c3, rfl, hM9, _⟩; have H9 := Lib.hid (And.intro (hM9.sat H8.out.1) (H8.out.2.trans hM9.2)); have tt9 := tBox.cells H9.out.1.drop.drop.drop.drop.emp_r; obtain ⟨t90, t91, t92⟩ := tt9; clear hM9)
              | (go_at_call 16; (with_reducible refine (same_eq _ _ _ _ s.left s.left _ _ _ _ _ _ _ rfl rfl rfl H9.out.1.drop.rd H9.out.1.rd).mono ?_); rintro e w10 ⟨rfl, hM10⟩; have H10 := Lib.hid (And.intro (made_drop hM10 H9.out.1) (H9.out.2.trans hM10.2)); have tt10 := tBox.cells H10.out.1.drop.drop.drop.drop.emp_r; obtain ⟨t100, t101, t102⟩ := tt10; clear hM10)))
            go_wp2_with fail
            go_ret
            exact ⟨rfl, (((H10.out.1.drop.drop.drop.drop).perm (by unfold tBox; ac_rfl) : Sat w10 (ownW w • pc tb #[.int .i64 pos, .int .i64 rd, .slice lo ln lc]))).below H10.out.2⟩

theorem walk_SrrLoads (ao : Option Addr) (n c : Nat) (ws : List Int) (q : Int) (bo : Option Addr) (m d : Nat) (zs : List Int) (yo : Option Addr) (m2 d2 : Nat) (ys : List Int) (pos rd : Int) (lo : Option Addr) (ln lc : Nat) (ls : List Int) (w : World)
    (hx : Rd w (.slice ao n c) 1 (i64s ws)) (_ : ws.length = n) (_ : ∀ x ∈ ws, -9223372036854775808 ≤ x ∧ x ≤ 9223372036854775807) (hn : n * 8 ≤ 140737488351232) (_ : -9223372036854775808 ≤ q ∧ q ≤ 9223372036854775807)
    (hy : Rd w (.slice bo m d) 1 (zs.map (Value.int .u16))) (_ : zs.length = m) (hz : ∀ x ∈ zs, 0 ≤ x ∧ x ≤ 65535) (hm : m * 2 ≤ 140737488351232)
    (hy2 : Rd w (.slice yo m2 d2) 1 (i64s ys)) (_ : ys.length = m2) (_ : ∀ x ∈ ys, -9223372036854775808 ≤ x ∧ x ≤ 9223372036854775807) (hm2 : m2 * 8 ≤ 140737488351232)
    (_ : -9223372036854775808 ≤ pos ∧ pos ≤ 9223372036854775807) (_ : -9223372036854775808 ≤ rd ∧ rd ≤ 9223372036854775807) (hl : Rd w (.slice lo ln lc) 1 (i64s ls)) (_ : ls.length = ln) (_ : ∀ x ∈ ls, -9223372036854775808 ≤ x ∧ x ≤ 9223372036854775807) :
    Calls Try.prog 5 #[.slice ao n c, .int .i64 q, .slice bo m d, .slice yo m2 d2, .agg #[.int .i64 pos, .int .i64 rd, .slice lo ln lc]] w (LawPost w) := by
  have hln := hl.len
  unfold maxLen at hln
  by_cases h : 900 < n ∨ n ≤ 900 ∧ (400 < m + m2 ∨ m + m2 ≤ 400 ∧ 900 < ln)
  · exact walk_SrrLoads_big ao n c q bo m d yo m2 d2 pos rd lo ln lc w (by omega) (by omega) (by omega) (by omega) h
  · by_cases hok : OkW ws q
    · exact walk_SrrLoads_yes ao n c ws q bo m d zs yo m2 d2 ys pos rd lo ln lc ls w hx hy hz hy2 hl (by omega) (by omega) hok
    · exact walk_SrrLoads_no ao n c ws q bo m d yo m2 d2 pos rd lo ln lc ls w hx hl (by omega) (by omega) (by omega) hok

end Go.Proofs.Ytlbcfkkeoedhdaa
