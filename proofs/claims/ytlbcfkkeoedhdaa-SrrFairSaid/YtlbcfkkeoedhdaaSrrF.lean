/- Fairness of turns, over lists alone. -/
import Derived.Test.YtlbcfkkeoedhdaaSrrP
namespace Go.Proofs.Ytlbcfkkeoedhdaa
namespace SrrS

/-- Nobody lacks as much as the longest packet. -/
def Low (m : Int) (s : SrrS) : Prop := ∀ j, j < s.brings.length → 1 - m ≤ gi s.left j

theorem low_sent {m : Int} {s : SrrS} {n : Int} (hI : s.Inv) (h : Low m s) (h1 : 1 ≤ n) (h2 : n ≤ 2048) (hn : n ≤ m) : Low m (s.sent n) := by
  have hh := hI.has
  have h0 : Low m (s.pay n) := fun j hj => by
    have hj' : j < s.brings.length := hj
    show 1 - m ≤ gi (s.left.set s.pos _) j
    rw [getD_set _ _ _ _ (by rw [hI.len]; exact hI.pos)]
    split
    · omega
    · exact h j hj'
  refine (fin_ind (fun c => Low m c) (pay_inv hI h1 h2) h0 (fun c hc _ hp j hj => ?_)).1
  have hj' : j < c.brings.length := hj
  rw [step_left hc]
  have := hp j hj'
  split
  · rename_i e
    subst e
    have := (hc.least _ hj').1
    omega
  · exact this

theorem low_new {ws : List Int} {q m : Int} (h : 1 ≤ m) (h1 : 1 ≤ ws.length) (h2 : ∀ x ∈ ws, 1 ≤ x ∧ x ≤ 1000) (h3 : 1 ≤ q ∧ q ≤ 65536) : Low m (new ws q) := fun j hj => by
  have hj' : j < ws.length := by simpa [new] using hj
  show 1 - m ≤ gi ((List.replicate ws.length 0).set 0 (gi ws 0 * q)) j
  rw [getD_set _ _ _ _ (by simp; omega), gi_replicate]
  have := h2 _ (gi_mem (l := ws) (k := 0) (by omega))
  have a : 1 * 1 ≤ gi ws 0 * q := Int.mul_le_mul this.1 h3.1 (by omega) (by omega)
  split <;> omega

theorem fair_nums {a b q X Ti Tj u v m : Int} (ha : 1 ≤ a) (hb : 1 ≤ b) (hq : 1 ≤ q) (hX : X = a * b * q) (h : (Ti - Tj ≤ 0 ∧ u ≤ a * q + (m - 1)) ∨ (Ti - Tj ≤ 1 ∧ u ≤ m - 1)) (hv : v ≤ m - 1) :
    b * (Ti * (a * q) + u) - a * (Tj * (b * q) - v) ≤ X + m * (a + b) := by
  have e1 : b * (Ti * (a * q)) = Ti * X := by rw [hX]; ac_rfl
  have e2 : a * (Tj * (b * q)) = Tj * X := by rw [hX]; ac_rfl
  have e3 : b * (a * q) = X := by rw [hX]; ac_rfl
  have hab : 1 * 1 ≤ a * b := Int.mul_le_mul ha hb (by omega) (by omega)
  have hX0 : 1 * 1 ≤ a * b * q := Int.mul_le_mul (by omega) hq (by omega) (by omega)
  have e4 : m * (a + b) = m * a + m * b := Int.mul_add _ _ _
  have e5 : a * v ≤ a * (m - 1) := Int.mul_le_mul_of_nonneg_left hv (by omega)
  have e6 : a * (m - 1) = m * a - a := by rw [Int.mul_sub, Int.mul_one, Int.mul_comm]
  have e7 : b * (m - 1) = m * b - b := by rw [Int.mul_sub, Int.mul_one, Int.mul_comm]
  have e8 : Ti * X - Tj * X = (Ti - Tj) * X := (Int.sub_mul _ _ _).symm
  rw [Int.mul_add, Int.mul_sub, e1, e2]
  rcases h with ⟨h1, h2⟩ | ⟨h1, h2⟩
  · have e9 : b * u ≤ b * (a * q + (m - 1)) := Int.mul_le_mul_of_nonneg_left h2 (by omega)
    rw [Int.mul_add, e3] at e9
    have e10 : (Ti - Tj) * X ≤ 0 * X := Int.mul_le_mul_of_nonneg_right h1 (by omega)
    omega
  · have e9 : b * u ≤ b * (m - 1) := Int.mul_le_mul_of_nonneg_left h2 (by omega)
    have e10 : (Ti - Tj) * X ≤ 1 * X := Int.mul_le_mul_of_nonneg_right h1 (by omega)
    omega

/-- Between a state and a later one, in which i's packet goes. -/
theorem fair_two {ws : List Int} {q m n : Int} {A C : List Int} {s e : SrrS} (hws : ∀ x ∈ ws, 1 ≤ x ∧ x ≤ 1000) (hq : 1 ≤ q) (hs : s.Inv) (he : e.Inv) (hbs : s.brings = ws.map (· * q)) (hbe : e.brings = ws.map (· * q))
    (hA : Acc A s) (hC : Acc C e) (ls : Low m s) (_ : Low m e) (hn : n ≤ m) (j : Nat) (hj : j < ws.length) (hne : j ≠ e.pos) :
    gi ws j * (gi C e.pos + n - gi A e.pos) - gi ws e.pos * (gi C j - gi A j) ≤ gi ws e.pos * gi ws j * q + m * (gi ws e.pos + gi ws j) := by
  have hls : s.brings.length = ws.length := by rw [hbs]; simp
  have hle : e.brings.length = ws.length := by rw [hbe]; simp
  have hi : e.pos < ws.length := hle ▸ he.pos
  have b1 : ∀ k, k < ws.length → gi s.brings k = gi ws k * q := fun k hk => by rw [hbs]; exact gi_map _ _ _ hk
  have b2 : ∀ k, k < ws.length → gi e.brings k = gi ws k * q := fun k hk => by rw [hbe]; exact gi_map _ _ _ hk
  have a1 := hA.2 e.pos (by omega)
  have a2 := hA.2 j (by omega)
  have c1 := hC.2 e.pos (by omega)
  have c2 := hC.2 j (by omega)
  rw [b1 _ hi] at a1
  rw [b1 _ hj] at a2
  rw [b2 _ hi] at c1
  rw [b2 _ hj] at c2
  have l1 := ls e.pos (by omega)
  have l2 := ls j (by omega)
  have l3 := he.has
  have l4 := he.rest j (by omega) hne
  have w1 := (hws _ (gi_mem hi)).1
  have w2 := (hws _ (gi_mem hj)).1
  have t1 : turnsOf e e.pos = e.round + 1 := by unfold turnsOf; simp
  have t2 : turnsOf e j = e.round + if j ≤ e.pos then 1 else 0 := rfl
  have t3 : turnsOf s e.pos = s.round + if e.pos ≤ s.pos then 1 else 0 := rfl
  have t4 : turnsOf s j = s.round + if j ≤ s.pos then 1 else 0 := rfl
  have key := fair_nums (a := gi ws e.pos) (b := gi ws j) (q := q) (X := gi ws e.pos * gi ws j * q) (Ti := turnsOf e e.pos - turnsOf s e.pos) (Tj := turnsOf e j - turnsOf s j)
    (u := gi s.left e.pos - gi e.left e.pos + n) (v := gi e.left j - gi s.left j) (m := m) w1 w2 hq rfl ?_ (by omega)
  · have f1 : gi C e.pos + n - gi A e.pos = (turnsOf e e.pos - turnsOf s e.pos) * (gi ws e.pos * q) + (gi s.left e.pos - gi e.left e.pos + n) := by
      rw [Int.sub_mul]; omega
    have f2 : gi C j - gi A j = (turnsOf e j - turnsOf s j) * (gi ws j * q) - (gi e.left j - gi s.left j) := by
      rw [Int.sub_mul]; omega
    rw [f1, f2]
    exact key
  · have l3' : 1 ≤ gi e.left e.pos := l3
    by_cases h : e.pos = s.pos
    · left
      refine ⟨?_, ?_⟩
      · rw [t1, t2, t3, t4, h]
        simp
        omega
      · have := hs.top
        unfold cur at this
        rw [← h, b1 _ hi] at this
        omega
    · right
      have := hs.rest e.pos (by omega) h
      refine ⟨?_, by omega⟩
      rw [t1, t2, t3, t4]
      by_cases x1 : j ≤ e.pos <;> by_cases x2 : e.pos ≤ s.pos <;> by_cases x3 : j ≤ s.pos <;> simp only [x1, x2, x3, if_true, if_false] <;> omega

end SrrS
end Go.Proofs.Ytlbcfkkeoedhdaa
