/- The reference's Right, Bound and Same. -/
import Derived.Test.YtlbcfkkeoedhdaaSrrLoad
namespace Go.Proofs.Ytlbcfkkeoedhdaa
open Go.RowKit

set_option maxHeartbeats 1600000 in
theorem right_any (ao : Option Addr) (n c : Nat) (ws : List Int) (q : Int) (w : World) (hx : Rd w (.slice ao n c) 1 (i64s ws)) :
    Calls Try.prog 19 #[.slice ao n c, .int .i64 q] w fun e w' => e = .returned (.bool (decide (OkW ws q))) ∧ w = w' := by
  have HX := Lib.hid hx
  obtain ⟨hl, hnc, hcm⟩ := hx.len
  have HN : Hid (ws.length = n) := by show ws.length = n; simpa [i64s] using hl
  have hb : n ≤ 9223372036854775807 := by unfold maxLen at hcm; omega
  clear hx hl hcm hnc
  go_enter Try.func19, Try.ntmps19
  go_wp2
  go_loop [5] (fun i => ∃ k : Nat, k ≤ n ∧ i = .int .i64 k ∧ ∀ j, j < k → 1 ≤ gi ws j ∧ gi ws j ≤ 1000) (fun i => n - (intOf i).toNat)
  case atStart => exact ⟨0, Nat.zero_le _, rfl, fun j hj => by omega⟩
  case round =>
    obtain ⟨k, hk, rfl, hno⟩ := hrel
    have HO := Lib.hid hno
    clear hno
    by_cases hlt : k < n
    · obtain ⟨g, o, rfl, _, hck, _⟩ := gi_rd HX.out hlt
      by_cases h1 : gi ws k < 1
      · go_wp2
        go_ret
        refine ⟨?_, rfl⟩
        have : ¬ OkW ws q := fun h => by have := h.2.2.1 _ (gi_mem (l := ws) (k := k) (by have := HN.out; omega)); omega
        simp [this]
      · by_cases h2 : 1000 < gi ws k
        · go_wp2
          go_ret
          refine ⟨?_, rfl⟩
          have : ¬ OkW ws q := fun h => by have := h.2.2.1 _ (gi_mem (l := ws) (k := k) (by have := HN.out; omega)); omega
          simp [this]
        · go_wp2
          go_round
          case rel => exact ⟨k + 1, by omega, by go_num, fun j hj => by
            by_cases e : j = k
            · subst e; omega
            · exact HO.out j (by omega)⟩
          case measure => simp [intOf]; omega
    · have e : k = n := by omega
      subst e
      have HA : Hid (∀ x ∈ ws, 1 ≤ x ∧ x ≤ 1000) := by
        intro x hx
        obtain ⟨j, hj, rfl⟩ := List.getElem_of_mem hx
        have := HO.out j (by have := HN.out; omega)
        simpa [gi_eq, hj] using this
      have hE : decide (OkW ws q) = (decide (1 ≤ k) && decide (k ≤ 16) && decide (1 ≤ q) && decide (q ≤ 65536)) := by
        have := HN.out
        rw [Bool.eq_iff_iff]
        simp only [decide_eq_true_eq, Bool.and_eq_true]
        unfold OkW
        constructor
        · rintro ⟨h1, h2, _, h3, h4⟩; exact ⟨⟨⟨by omega, by omega⟩, h3⟩, h4⟩
        · rintro ⟨⟨⟨h1, h2⟩, h3⟩, h4⟩; exact ⟨by omega, by omega, HA.out, h3, h4⟩
      have HE := Lib.hid hE
      clear hE
      by_cases d1 : 1 ≤ k <;> by_cases d2 : k ≤ 16 <;> by_cases d3 : 1 ≤ q <;> by_cases d4 : q ≤ 65536 <;>
      first
      | (exfalso; omega)
      | (go_wp2
         go_ret
         refine ⟨?_, rfl⟩
         have h := HE.out
         simp [d1, d2, d3, d4] at h
         first
         | exact ret_bool (show false = decide (OkW ws q) by first | (simp [h]; done) | (simp [h]; omega))
         | exact ret_bool (show true = decide (OkW ws q) by first | (simp [h]; done) | (simp [h]; omega)))

/-- The reference's bound of two weights. -/
def bound (a b q m : Int) : Int := if 1 ≤ a ∧ a ≤ 1000 ∧ 1 ≤ b ∧ b ≤ 1000 ∧ 1 ≤ q ∧ q ≤ 65536 ∧ 0 ≤ m ∧ m ≤ 2048 then a * b * q + m * (a + b) else 0

set_option maxHeartbeats 1600000 in
theorem bound_ok (a b q m : Int) (w : World) (ha : 1 ≤ a ∧ a ≤ 1000) (hb : 1 ≤ b ∧ b ≤ 1000) (hq : 1 ≤ q ∧ q ≤ 65536) (hm : 0 ≤ m ∧ m ≤ 2048) :
    Calls Try.prog 20 #[.int .i64 a, .int .i64 b, .int .i64 q, .int .i64 m] w fun e w' => e = .returned (.int .i64 (bound a b q m)) ∧ w = w' := by
  have hE : bound a b q m = a * b * q + m * (a + b) := by unfold bound; rw [if_pos (by omega)]
  have h1 : 1 * 1 ≤ a * b := Int.mul_le_mul ha.1 hb.1 (by omega) (by omega)
  have h2 : a * b ≤ 1000 * 1000 := Int.mul_le_mul ha.2 hb.2 (by omega) (by omega)
  have h3 : 1 * 1 ≤ a * b * q := Int.mul_le_mul (by omega) hq.1 (by omega) (by omega)
  have h4 : a * b * q ≤ 1000000 * 65536 := Int.mul_le_mul (by omega) hq.2 (by omega) (by omega)
  have h5 : 0 ≤ m * (a + b) := Int.mul_nonneg (by omega) (by omega)
  have h6 : m * (a + b) ≤ 2048 * 2000 := Int.mul_le_mul (by omega) (by omega) (by omega) (by omega)
  have HE := Lib.hid hE
  obtain ⟨ha1, ha2⟩ := ha
  obtain ⟨hb1, hb2⟩ := hb
  obtain ⟨hq1, hq2⟩ := hq
  obtain ⟨hm1, hm2⟩ := hm
  clear hE
  go_enter Try.func20, Try.ntmps20
  go_wp2
  go_ret
  exact ⟨by rw [HE.out]; rfl, rfl⟩

def sameT (p1 r1 : Int) (l1 : List Int) (p2 r2 : Int) (l2 : List Int) : Bool := decide (p1 = p2 ∧ r1 = r2 ∧ l1 = l2)
def SamePost (p1 r1 : Int) (l1 : List Int) (p2 r2 : Int) (l2 : List Int) (w : World) (e : Ending) (w' : World) : Prop := e = .returned (.bool (sameT p1 r1 l1 p2 r2 l2)) ∧ Made w w' emp

theorem gi_ext {l m : List Int} (h : l.length = m.length) (he : ∀ j, j < l.length → gi l j = gi m j) : l = m := by
  apply List.ext_getElem h
  intro j h1 h2
  have := he j h1
  simpa [gi_eq, h1, h2] using this

def SameRel (t1 t2 : Nat) (A B : Array Value) (w wr : World) : Prop := Sat wr (pc t1 A • pc t2 B • ownW w) ∧ Same w wr
theorem SameRel.drew {t1 t2 : Nat} {A B : Array Value} {w wr : World} (h : SameRel t1 t2 A B w wr) : SameRel t1 t2 A B w wr.drew := ⟨h.1, h.2.drew⟩
theorem SameRel.post {t1 t2 : Nat} {A B : Array Value} {w wr : World} (h : SameRel t1 t2 A B w wr) : Made w wr emp := ⟨sat_emp h.1.drop.drop, h.2⟩

theorem same_start (w : World) (A B : Array Value) (t : TypeId) : SameRel w.heap.size (w.heap.size + 1) A B w ((w.alloc (.cells A t)).alloc (.cells B t)) := by
  refine ⟨?_, ((Same.refl w).alloc _).alloc _⟩
  have := (((Sat.own w).box A t).box B t).swap
  rwa [World.size_alloc] at this

set_option maxHeartbeats 3200000 in
theorem same_any (p1 r1 : Int) (o1 : Option Addr) (n1 c1 : Nat) (l1 : List Int) (p2 r2 : Int) (o2 : Option Addr) (n2 c2 : Nat) (l2 : List Int) (w : World)
    (hx : Rd w (.slice o1 n1 c1) 1 (i64s l1)) (hy : Rd w (.slice o2 n2 c2) 1 (i64s l2)) :
    Calls Try.prog 16 #[.agg #[.int .i64 p1, .int .i64 r1, .slice o1 n1 c1], .agg #[.int .i64 p2, .int .i64 r2, .slice o2 n2 c2]] w (SamePost p1 r1 l1 p2 r2 l2 w) := by
  have HX := Lib.hid hx
  have HY := Lib.hid hy
  have HN : Hid (l1.length = n1) := by show l1.length = n1; simpa [i64s] using hx.len.1
  have HM : Hid (l2.length = n2) := by show l2.length = n2; simpa [i64s] using hy.len.1
  have hb1 : n1 ≤ 9223372036854775807 := by have := hx.len; unfold maxLen at this; omega
  clear hx hy
  have hst := same_start w #[.int .i64 p1, .int .i64 r1, .slice o1 n1 c1] #[.int .i64 p2, .int .i64 r2, .slice o2 n2 c2] 33
  have HS := Lib.hid hst
  clear hst
  have hno : ¬ (p1 = p2 ∧ r1 = r2 ∧ l1 = l2) → sameT p1 r1 l1 p2 r2 l2 = false := fun h => by unfold sameT; simpa using h
  have HF := Lib.hid hno
  clear hno
  by_cases e1 : p1 = p2
  · by_cases e2 : r1 = r2
    · by_cases e3 : n1 = n2
      · subst e1 e2 e3
        go_enter Try.func16, Try.ntmps16
        go_wp2
        go_loopg [5] n1 (fun m i wr => ∃ k : Nat, m = n1 - k ∧ k ≤ n1 ∧ i = .int .i64 k ∧ (∀ j, j < k → gi l1 j = gi l2 j) ∧ SameRel w.heap.size (w.heap.size + 1) #[.int .i64 p1, .int .i64 r1, .slice o1 n1 c1] #[.int .i64 p1, .int .i64 r1, .slice o2 n1 c2] w wr)
        case atStart => exact ⟨0, rfl, Nat.zero_le _, rfl, fun j hj => by omega, HS.out⟩
        case round =>
          clear HS
          obtain ⟨k, rfl, hk, rfl, hno, hR⟩ := hrel
          have HO := Lib.hid hno
          clear hno
          have x2 : wr.cell? ⟨w.heap.size, 2, none⟩ = some (.slice o1 n1 c1) := by rw [hR.1.cell]; rfl
          have y2 : wr.cell? ⟨w.heap.size + 1, 2, none⟩ = some (.slice o2 n1 c2) := by rw [hR.1.drop.cell]; rfl
          have HR := Lib.hid hR
          by_cases hkn : k < n1
          · obtain ⟨g1, f1, rfl, _, hc1, _⟩ := gi_rd (HX.out.own0 hR.2 hR.1.drop.drop) hkn
            obtain ⟨g2, f2, rfl, _, hc2, _⟩ := gi_rd (HY.out.own0 hR.2 hR.1.drop.drop) hkn
            clear hR
            by_cases hd : gi l1 k = gi l2 k
            · have hd' : (gi l1 k != gi l2 k) = false := by simp [hd]
              have HD := Lib.hid hd
              clear hd
              go_wp2
              go_region
              go_wp2
              go_roundg (n1 - (k + 1))
              case measure => omega
              case rel => exact ⟨k + 1, rfl, by omega, by go_num, fun j hj => by
                by_cases e : j = k
                · subst e; exact HD.out
                · exact HO.out j (by omega), HR.out.drew⟩
            · have hd' : (gi l1 k != gi l2 k) = true := by simp [hd]
              have HD := Lib.hid hd
              clear hd
              go_wp2
              go_region
              go_wp2
              go_ret
              exact ⟨ret_bool (HF.out (fun h => HD.out (by rw [h.2.2]))).symm, HR.out.post.drew⟩
          · have e : k = n1 := by omega
            subst e
            clear hR
            go_wp2
            go_ret
            refine ⟨?_, HR.out.post⟩
            have : l1 = l2 := gi_ext (by rw [HN.out, HM.out]) (fun j hj => HO.out j (by have := HN.out; omega))
            unfold sameT
            simp [this]
      · subst e1 e2
        have e3' : ((n1 : Int) != (n2 : Int)) = true := by simp; omega
        have HD := Lib.hid e3
        clear e3
        go_enter Try.func16, Try.ntmps16
        go_wp2
        go_ret
        exact ⟨ret_bool (HF.out (fun h => HD.out (by rw [← HN.out, ← HM.out, h.2.2]))).symm, HS.out.post⟩
    · subst e1
      have e2' : (r1 != r2) = true := by simp [e2]
      have HD := Lib.hid e2
      clear e2
      go_enter Try.func16, Try.ntmps16
      go_wp2
      go_ret
      exact ⟨ret_bool (HF.out (fun h => HD.out h.2.1)).symm, HS.out.post⟩
  · have e1' : (p1 != p2) = true := by simp [e1]
    have HD := Lib.hid e1
    clear e1
    go_enter Try.func16, Try.ntmps16
    go_wp2
    go_ret
    exact ⟨ret_bool (HF.out (fun h => HD.out h.1)).symm, HS.out.post⟩

end Go.Proofs.Ytlbcfkkeoedhdaa
