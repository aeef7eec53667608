/- What is true of turns, over lists alone: what went is what turns brought, less what is left. -/
import Derived.Test.YtlbcfkkeoedhdaaSrrM
namespace Go.Proofs.Ytlbcfkkeoedhdaa
namespace SrrS

/-- How many turns the j-th has had. -/
def turnsOf (s : SrrS) (j : Nat) : Int := s.round + if j ≤ s.pos then 1 else 0
/-- What went, of each. -/
def Acc (sums : List Int) (s : SrrS) : Prop := sums.length = s.brings.length ∧ ∀ j, j < s.brings.length → gi sums j + gi s.left j = s.turnsOf j * gi s.brings j

theorem acc_step {sums : List Int} {s : SrrS} (hI : s.InvL) (h : Acc sums s) : Acc sums s.step := by
  refine ⟨h.1, fun j hj => ?_⟩
  have hj' : j < s.brings.length := hj
  have h0 := h.2 j hj'
  have hp := hI.pos
  rw [step_left hI]
  show _ = turnsOf s.step j * gi s.brings j
  have e : turnsOf s.step j = turnsOf s j + if s.nextPos = j then 1 else 0 := by
    unfold turnsOf step nextPos nextRound
    dsimp only
    by_cases hw : s.pos + 1 = s.brings.length
    · simp only [hw, if_true]
      have h2 : j ≤ s.pos := by omega
      simp only [h2, if_true]
      by_cases h3 : 0 = j
      · simp [← h3]
      · have : ¬ j ≤ 0 := by omega
        simp [this, h3]
    · simp only [hw, if_false]
      by_cases h3 : s.pos + 1 = j
      · have : ¬ j ≤ s.pos := by omega
        have : j ≤ s.pos + 1 := by omega
        simp [*]
      · by_cases h4 : j ≤ s.pos
        · have : j ≤ s.pos + 1 := by omega
          simp [*]
        · have : ¬ j ≤ s.pos + 1 := by omega
          simp [*]
  rw [e]
  by_cases hn : s.nextPos = j
  · subst hn
    simp only [if_true]
    rw [Int.add_mul, Int.one_mul]
    omega
  · simp only [hn, if_false, Int.add_zero]
    exact h0

theorem acc_sent {sums : List Int} {s : SrrS} {n : Int} (hI : s.Inv) (h : Acc sums s) (h1 : 1 ≤ n) (h2 : n ≤ 2048) : Acc (sums.set s.pos (gi sums s.pos + n)) (s.sent n) := by
  have hp := hI.pos
  have h0 : Acc (sums.set s.pos (gi sums s.pos + n)) (s.pay n) := by
    refine ⟨by rw [List.length_set]; exact h.1, fun j hj => ?_⟩
    have hj' : j < s.brings.length := hj
    have a := h.2 j hj'
    show gi (sums.set s.pos _) j + gi (s.left.set s.pos _) j = turnsOf s j * gi s.brings j
    rw [getD_set _ _ _ _ (by rw [h.1]; exact hp), getD_set _ _ _ _ (by rw [hI.len]; exact hp)]
    by_cases e : s.pos = j
    · subst e
      simp only [if_true]
      unfold cur
      omega
    · simp only [e, if_false]
      exact a
  exact (fin_ind (fun c => Acc (sums.set s.pos (gi sums s.pos + n)) c) (pay_inv hI h1 h2) h0 (fun c hc _ ha => acc_step hc ha)).1

theorem acc_new (ws : List Int) (q : Int) (h : 1 ≤ ws.length) : Acc (List.replicate ws.length 0) (new ws q) := by
  refine ⟨by simp [new], fun j hj => ?_⟩
  have hj' : j < ws.length := by simpa [new] using hj
  rw [gi_replicate]
  show 0 + gi ((List.replicate ws.length 0).set 0 (gi ws 0 * q)) j = turnsOf (new ws q) j * gi (ws.map (· * q)) j
  rw [getD_set _ _ _ _ (by simp; omega), gi_replicate, gi_map _ _ _ hj']
  unfold turnsOf new
  dsimp only
  by_cases e : 0 = j
  · subst e; simp
  · have : ¬ j ≤ 0 := by omega
    simp [this, e]

/-- One alone: the round is what went, by what a turn brings. -/
theorem one_round {s : SrrS} {sum B : Int} (hI : s.Inv) (hb : s.brings = [B]) (h : Acc [sum] s) : s.round = sum / B ∧ s.pos = 0 ∧ 0 < B := by
  have hp : s.pos = 0 := by have := hI.pos; rw [hb] at this; simpa using this
  have h0 := h.2 0 (by rw [hb]; simp)
  have hl := hI.has
  have ht := hI.top
  have hB : gi s.brings 0 = B := by rw [hb]; rfl
  have hc : s.cur = gi s.left 0 := by unfold cur; rw [hp]
  rw [hp, hB] at ht
  rw [hB] at h0
  rw [hc] at hl ht
  have e : turnsOf s 0 = s.round + 1 := by unfold turnsOf; simp
  rw [e, Int.add_mul, Int.one_mul] at h0
  have hs : gi [sum] 0 = sum := rfl
  rw [hs] at h0
  refine ⟨?_, hp, by omega⟩
  have : sum = s.round * B + (B - gi s.left 0) := by omega
  rw [this, Int.add_comm, Int.add_mul_ediv_right _ _ (by omega), Int.ediv_eq_zero_of_lt (by omega) (by omega)]
  omega

end SrrS
end Go.Proofs.Ytlbcfkkeoedhdaa
