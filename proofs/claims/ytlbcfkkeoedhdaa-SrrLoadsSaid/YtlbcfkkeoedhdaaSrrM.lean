/- Members that take turns and may overdraw, over lists alone: where the turn is, the round, what each has left, and what a turn brings. -/
import Derived.WalkKit
namespace Go.Proofs.Ytlbcfkkeoedhdaa

/-- The j-th of a list of numbers. -/
def gi (l : List Int) (j : Nat) : Int := l.getD j 0
theorem gi_zero (y : Int) (l : List Int) : gi (y :: l) 0 = y := rfl
theorem gi_succ (y : Int) (l : List Int) (j : Nat) : gi (y :: l) (j + 1) = gi l j := rfl
theorem gi_eq (l : List Int) (j : Nat) : gi l j = l[j]?.getD 0 := by simp [gi]

structure SrrS where
  pos : Nat
  round : Int
  left : List Int
  brings : List Int

namespace SrrS

def cur (s : SrrS) : Int := gi s.left s.pos
def nextPos (s : SrrS) : Nat := if s.pos + 1 = s.brings.length then 0 else s.pos + 1
def nextRound (s : SrrS) : Int := if s.pos + 1 = s.brings.length then s.round + 1 else s.round
/-- The turn goes on to the next one. -/
def step (s : SrrS) : SrrS := { s with pos := s.nextPos, round := s.nextRound, left := s.left.set s.nextPos (gi s.left s.nextPos + gi s.brings s.nextPos) }

def lack (l : List Int) : Nat := (l.map fun x => (1 - x).toNat).sum
def mu (s : SrrS) : Nat := lack s.left
def adv : Nat → SrrS → SrrS
  | 0, s => s
  | k + 1, s => if 0 < s.cur then s else adv k s.step
def fin (s : SrrS) : SrrS := adv s.mu s
def pay (s : SrrS) (n : Int) : SrrS := { s with left := s.left.set s.pos (s.cur - n) }
def sent (s : SrrS) (n : Int) : SrrS := (s.pay n).fin

/-- In the loop: whose turn it is may have nothing. -/
structure InvL (s : SrrS) : Prop where
  len : s.left.length = s.brings.length
  pos : s.pos < s.brings.length
  least : ∀ j, j < s.brings.length → 1 ≤ gi s.brings j ∧ gi s.brings j ≤ 65536000
  low : ∀ j, j < s.brings.length → -2047 ≤ gi s.left j
  rest : ∀ j, j < s.brings.length → j ≠ s.pos → gi s.left j ≤ 0
  top : s.cur ≤ gi s.brings s.pos
/-- Whose turn it is has something left. -/
structure Inv (s : SrrS) : Prop extends InvL s where
  has : 1 ≤ s.cur

theorem lack_set (l : List Int) (i : Nat) (x : Int) (h : i < l.length) : lack (l.set i x) + (1 - gi l i).toNat = lack l + (1 - x).toNat := by
  unfold lack
  induction l generalizing i with
  | nil => simp at h
  | cons y l ih =>
    cases i with
    | zero => simp [gi_zero]; omega
    | succ i =>
      have := ih i (by simpa using h)
      simp only [List.set_cons_succ, List.map_cons, List.sum_cons, gi_succ]
      omega

theorem lack_ge (l : List Int) (i : Nat) (h : i < l.length) : (1 - gi l i).toNat ≤ lack l := by
  have := lack_set l i 1 h
  omega

theorem nextPos_lt {s : SrrS} (h : s.InvL) : s.nextPos < s.brings.length := by
  unfold nextPos
  have := h.pos
  split <;> omega

theorem getD_set (l : List Int) (i j : Nat) (x : Int) (h : i < l.length) : gi (l.set i x) j = if i = j then x else gi l j := by
  simp only [gi_eq, List.getElem?_set]
  by_cases e : i = j
  · subst e; simp [h]
  · simp [e]

theorem step_left {s : SrrS} (h : s.InvL) (j : Nat) : gi s.step.left j = if s.nextPos = j then gi s.left s.nextPos + gi s.brings s.nextPos else gi s.left j := by
  unfold step
  exact getD_set _ _ _ _ (by rw [h.len]; exact nextPos_lt h)

theorem step_inv {s : SrrS} (h : s.InvL) (hc : s.cur ≤ 0) : s.step.InvL := by
  have hp := nextPos_lt h
  have hall : ∀ j, j < s.brings.length → gi s.left j ≤ 0 := fun j hj => by
    by_cases e : j = s.pos
    · subst e; exact hc
    · exact h.rest j hj e
  have hb := h.least _ hp
  refine ⟨by simp [step, h.len], hp, h.least, fun j hj => ?_, fun j hj hne => ?_, ?_⟩
  · rw [step_left h]
    have := h.low j hj
    split
    · rename_i e; subst e; omega
    · exact this
  · rw [step_left h, if_neg (fun e => hne e.symm)]
    exact hall j hj
  · unfold cur
    rw [step_left h]
    show (if s.nextPos = s.nextPos then _ else _) ≤ gi s.brings s.nextPos
    rw [if_pos rfl]
    have := hall _ hp
    omega

theorem step_mu {s : SrrS} (h : s.InvL) (hc : s.cur ≤ 0) : s.step.mu < s.mu := by
  have hp := nextPos_lt h
  have hb := h.least _ hp
  have hn : gi s.left s.nextPos ≤ 0 := by
    by_cases e : s.nextPos = s.pos
    · rw [e]; exact hc
    · exact h.rest _ hp e
  have := lack_set s.left s.nextPos (gi s.left s.nextPos + gi s.brings s.nextPos) (by rw [h.len]; exact hp)
  unfold mu
  show lack (s.left.set _ _) < _
  omega

theorem step_round (s : SrrS) : s.round ≤ s.step.round ∧ s.step.round ≤ s.round + 1 := by
  unfold step nextRound
  dsimp only
  split <;> omega

theorem adv_enough {s : SrrS} (h : s.InvL) : ∀ k, s.mu ≤ k → adv k s = adv s.mu s := by
  have key : ∀ n (s : SrrS), s.InvL → s.mu ≤ n → ∀ k, s.mu ≤ k → adv k s = adv s.mu s := by
    intro n
    induction n with
    | zero =>
      intro s h hn k hk
      have e : s.mu = 0 := by omega
      rw [e]
      cases k with
      | zero => rfl
      | succ k =>
        have := lack_ge s.left s.pos (by rw [h.len]; exact h.pos)
        have hc : 0 < s.cur := by unfold cur; unfold mu at e; omega
        simp [adv, hc]
    | succ n ih =>
      intro s h hn k hk
      by_cases hc : 0 < s.cur
      · cases hm : s.mu <;> cases k <;> simp [adv, hc]
      · have hlt := step_mu h (by omega)
        have hi := step_inv h (by omega)
        obtain ⟨k, rfl⟩ : ∃ j, k = j + 1 := ⟨k - 1, by omega⟩
        obtain ⟨m, hm⟩ : ∃ j, s.mu = j + 1 := ⟨s.mu - 1, by omega⟩
        rw [hm]
        simp only [adv, hc, if_false]
        rw [ih _ hi (by omega) k (by omega), ih _ hi (by omega) m (by omega)]
  exact key _ s h (Nat.le_refl _)

theorem fin_pos {s : SrrS} (hc : 0 < s.cur) : s.fin = s := by
  unfold fin
  cases s.mu <;> simp [adv, hc]

theorem fin_step {s : SrrS} (h : s.InvL) (hc : s.cur ≤ 0) : s.fin = s.step.fin := by
  have hlt := step_mu h hc
  have hi := step_inv h hc
  unfold fin
  obtain ⟨m, hm⟩ : ∃ j, s.mu = j + 1 := ⟨s.mu - 1, by omega⟩
  rw [hm]
  simp only [adv, show ¬ 0 < s.cur by omega, if_false]
  exact adv_enough hi m (by omega)

/-- What holds of all that comes by turns that go on, ends where somebody has something. -/
theorem fin_ind {s : SrrS} (P : SrrS → Prop) (h : s.InvL) (h0 : P s) (hs : ∀ c, c.InvL → c.cur ≤ 0 → P c → P c.step) : P s.fin ∧ s.fin.Inv := by
  have key : ∀ n (s : SrrS), s.InvL → s.mu ≤ n → P s → P s.fin ∧ s.fin.Inv := by
    intro n
    induction n with
    | zero =>
      intro s h hn hp
      have := lack_ge s.left s.pos (by rw [h.len]; exact h.pos)
      have hc : 0 < s.cur := by unfold cur; unfold mu at hn; omega
      rw [fin_pos hc]
      exact ⟨hp, ⟨h, by omega⟩⟩
    | succ n ih =>
      intro s h hn hp
      by_cases hc : 0 < s.cur
      · rw [fin_pos hc]; exact ⟨hp, ⟨h, by omega⟩⟩
      · rw [fin_step h (by omega)]
        exact ih _ (step_inv h (by omega)) (by have := step_mu h (by omega); omega) (hs s h (by omega) hp)
  exact key _ s h (Nat.le_refl _) h0

theorem pay_inv {s : SrrS} {n : Int} (h : s.Inv) (h1 : 1 ≤ n) (h2 : n ≤ 2048) : (s.pay n).InvL := by
  have hp : s.pos < s.left.length := by rw [h.len]; exact h.pos
  have hg : ∀ j, gi (s.pay n).left j = if s.pos = j then s.cur - n else gi s.left j := fun j => getD_set _ _ _ _ hp
  have hh := h.has
  refine ⟨by simp [pay, h.len], h.pos, h.least, fun j hj => ?_, fun j hj hne => ?_, ?_⟩
  · rw [hg]
    split
    · omega
    · exact h.low j hj
  · rw [hg, if_neg (fun e => hne e.symm)]
    exact h.rest j hj hne
  · unfold cur
    rw [hg]
    show (if s.pos = s.pos then _ else _) ≤ gi s.brings s.pos
    rw [if_pos rfl]
    have := h.top
    omega

theorem sent_inv {s : SrrS} {n : Int} (h : s.Inv) (h1 : 1 ≤ n) (h2 : n ≤ 2048) : (s.sent n).Inv ∧ (s.sent n).brings = s.brings := by
  have := fin_ind (fun c => c.brings = s.brings) (pay_inv h h1 h2) rfl (fun c _ _ e => e)
  exact ⟨this.2, this.1⟩

theorem lack_le (l : List Int) (k : Nat) (h : ∀ j, j < l.length → (1 - gi l j).toNat ≤ k) : lack l ≤ l.length * k := by
  unfold lack
  induction l with
  | nil => simp
  | cons y l ih =>
    have h0 := h 0 (by simp)
    have := ih fun j hj => by simpa [gi_succ] using h (j + 1) (by simpa using hj)
    simp only [List.map_cons, List.sum_cons, List.length_cons, Nat.add_mul, Nat.one_mul] at *
    simp [gi_zero] at h0
    omega

theorem mu_le {s : SrrS} (h : s.InvL) : s.mu ≤ s.brings.length * 2048 := by
  rw [← h.len]
  refine lack_le _ _ fun j hj => ?_
  have := h.low j (by rw [← h.len]; exact hj)
  omega

theorem sent_round {s : SrrS} {n : Int} (h : s.Inv) (h1 : 1 ≤ n) (h2 : n ≤ 2048) : s.round ≤ (s.sent n).round ∧ (s.sent n).round ≤ s.round + s.brings.length * 2048 := by
  have hm := mu_le (pay_inv h h1 h2)
  have := (fin_ind (fun c => s.round ≤ c.round ∧ c.round + c.mu ≤ s.round + (s.pay n).mu) (pay_inv h h1 h2) ⟨Int.le_refl _, Int.le_refl _⟩ (fun c hi hc hp => by
    have a := step_round c
    have b := step_mu hi hc
    omega)).1
  have e : (s.pay n).brings.length = s.brings.length := rfl
  rw [e] at hm
  refine ⟨this.1, ?_⟩
  have := this.2
  show s.sent n |>.round |> (· ≤ _)
  unfold sent
  omega

/-- One that has just begun. -/
def new (ws : List Int) (q : Int) : SrrS := { pos := 0, round := 0, left := (List.replicate ws.length 0).set 0 (gi ws 0 * q), brings := ws.map (· * q) }

theorem gi_map (f : Int → Int) (l : List Int) (j : Nat) (h : j < l.length) : gi (l.map f) j = f (gi l j) := by
  simp [gi_eq, h]
theorem gi_replicate (n j : Nat) : gi (List.replicate n 0) j = 0 := by
  simp only [gi_eq, List.getElem?_replicate]
  split <;> rfl
theorem gi_mem {l : List Int} {k : Nat} (h : k < l.length) : gi l k ∈ l := by
  rw [gi_eq, List.getElem?_eq_getElem h]
  exact List.getElem_mem h

theorem new_inv {ws : List Int} {q : Int} (h1 : 1 ≤ ws.length) (h2 : ∀ x ∈ ws, 1 ≤ x ∧ x ≤ 1000) (h3 : 1 ≤ q ∧ q ≤ 65536) : (new ws q).Inv := by
  have hb : ∀ j, j < ws.length → gi (ws.map (· * q)) j = gi ws j * q := fun j hj => gi_map _ _ _ hj
  have hr : ∀ j, j < ws.length → 1 ≤ gi ws j * q ∧ gi ws j * q ≤ 65536000 := fun j hj => by
    have := h2 _ (gi_mem hj)
    have a : 1 * 1 ≤ gi ws j * q := Int.mul_le_mul this.1 h3.1 (by omega) (by omega)
    have b : gi ws j * q ≤ 1000 * 65536 := Int.mul_le_mul this.2 h3.2 (by omega) (by omega)
    omega
  have hl : ∀ j, gi (new ws q).left j = if 0 = j then gi ws 0 * q else 0 := fun j => by
    unfold new
    rw [getD_set _ _ _ _ (by simp; omega), gi_replicate]
  have h0 := hr 0 (by omega)
  have e : (new ws q).brings.length = ws.length := by simp [new]
  refine ⟨⟨by simp [new], by rw [e]; exact h1, fun j hj => ?_, fun j hj => ?_, fun j hj hne => ?_, ?_⟩, ?_⟩
  · rw [e] at hj; show 1 ≤ gi (ws.map (· * q)) j ∧ _; rw [show gi (new ws q).brings j = gi (ws.map (· * q)) j from rfl, hb j hj]; exact hr j hj
  · rw [hl]; split <;> omega
  · rw [hl, if_neg (fun e => hne e.symm)]; exact Int.le_refl _
  · unfold cur; rw [hl]; show (if 0 = 0 then _ else _) ≤ gi (ws.map (· * q)) 0; rw [hb 0 h1]; simp
  · unfold cur; rw [hl]; show 1 ≤ if 0 = 0 then _ else _; simp; exact h0.1

end SrrS
end Go.Proofs.Ytlbcfkkeoedhdaa
