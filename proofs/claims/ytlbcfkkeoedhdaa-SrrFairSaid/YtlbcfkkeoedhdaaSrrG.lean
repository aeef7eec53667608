/- The course of members that take turns, packet by packet, over lists alone: whose turn it was, what went of each, and what was the longest; and how far two are apart in any row of it. -/
import Derived.Test.YtlbcfkkeoedhdaaSrrF
namespace Go.Proofs.Ytlbcfkkeoedhdaa
open Go.RowKit
namespace SrrS

/-- How long the i-th packet is. -/
def pkt (zs : List Int) (i : Nat) : Int := 1 + gi zs i % 2048
/-- Where it is when i packets have gone. -/
def crs (ws : List Int) (q : Int) (zs : List Int) : Nat → SrrS
  | 0 => new ws q
  | i + 1 => (crs ws q zs i).sent (pkt zs i)
/-- What has gone of each then. -/
def went (ws : List Int) (q : Int) (zs : List Int) : Nat → List Int
  | 0 => List.replicate ws.length 0
  | i + 1 => (went ws q zs i).set (crs ws q zs i).pos (gi (went ws q zs i) (crs ws q zs i).pos + pkt zs i)
/-- The longest of the first i. -/
def most (zs : List Int) : Nat → Int
  | 0 => 0
  | i + 1 => max (most zs i) (pkt zs i)

theorem pkt_bd (zs : List Int) (i : Nat) : 1 ≤ pkt zs i ∧ pkt zs i ≤ 2048 := by unfold pkt; omega
theorem most_bd (zs : List Int) : ∀ k, 0 ≤ most zs k ∧ most zs k ≤ 2048
  | 0 => by simp [most]
  | k + 1 => by have := most_bd zs k; have := pkt_bd zs k; unfold most; omega
theorem pkt_most (zs : List Int) : ∀ k i, i < k → pkt zs i ≤ most zs k
  | 0, i, h => by omega
  | k + 1, i, h => by
    show pkt zs i ≤ max (most zs k) (pkt zs k)
    by_cases e : i = k
    · subst e; omega
    · have := pkt_most zs k i (by omega); omega

theorem most_mono (zs : List Int) (i : Nat) : ∀ k, i ≤ k → most zs i ≤ most zs k
  | 0, h => by obtain rfl : i = 0 := by omega
               exact Int.le_refl _
  | k + 1, h => by
    by_cases e : i = k + 1
    · subst e; exact Int.le_refl _
    · have := most_mono zs i k (by omega)
      show most zs i ≤ max (most zs k) (pkt zs k)
      omega

theorem low_le {m m' : Int} {s : SrrS} (h : Low m s) (hm : m ≤ m') : Low m' s := fun j hj => by have := h j hj; omega

theorem crs_ok {ws : List Int} {q : Int} (zs : List Int) (h1 : 1 ≤ ws.length) (h2 : ∀ x ∈ ws, 1 ≤ x ∧ x ≤ 1000) (h3 : 1 ≤ q ∧ q ≤ 65536) : ∀ k, (crs ws q zs k).Inv ∧ (crs ws q zs k).brings = ws.map (· * q) ∧ Acc (went ws q zs k) (crs ws q zs k) ∧ 0 ≤ (crs ws q zs k).round ∧ (crs ws q zs k).round ≤ ws.length * 2048 * k ∧
    (∀ m, 1 ≤ m → most zs k ≤ m → Low m (crs ws q zs k)) ∧ (∀ j, j < ws.length → 0 ≤ gi (went ws q zs k) j ∧ gi (went ws q zs k) j ≤ 2048 * k)
  | 0 => ⟨new_inv h1 h2 h3, rfl, acc_new ws q h1, Int.le_refl _, by simp [crs, new], fun m hm _ => low_new hm h1 h2 h3, fun j _ => by unfold went; rw [gi_replicate]; omega⟩
  | k + 1 => by
    obtain ⟨a1, a2, a3, a4, a5, a6, a7⟩ := crs_ok zs h1 h2 h3 k
    obtain ⟨p1, p2⟩ := pkt_bd zs k
    have i1 := sent_inv a1 p1 p2
    have i2 := sent_round a1 p1 p2
    have hl : (crs ws q zs k).brings.length = ws.length := by rw [a2]; simp
    rw [hl] at i2
    refine ⟨i1.1, i1.2.trans a2, acc_sent a1 a3 p1 p2, ?_, ?_, fun m hm hk => ?_, fun j hj => ?_⟩
    · show 0 ≤ (sent _ _).round
      omega
    · show (sent _ _).round ≤ _
      have e : ((ws.length : Int) * 2048 * ((k + 1 : Nat) : Int)) = ws.length * 2048 * k + ws.length * 2048 := by
        rw [Int.natCast_add, Int.mul_add]; simp
      omega
    · unfold most at hk
      exact low_sent a1 (a6 m hm (by omega)) p1 p2 (by omega)
    · have := a7 j hj
      show 0 ≤ gi (List.set _ _ _) j ∧ gi (List.set _ _ _) j ≤ _
      rw [getD_set _ _ _ _ (by rw [a3.1, hl, ← hl]; exact a1.pos)]
      split
      · rename_i e; subst e; omega
      · omega

/-- What went of j from one packet on, to another one. -/
def rowSum (ws : List Int) (q : Int) (zs : List Int) (s e j : Nat) : Int := gi (went ws q zs e) j - gi (went ws q zs s) j
def rowSums (ws : List Int) (q : Int) (zs : List Int) (s e : Nat) : List Int := (List.range ws.length).map (rowSum ws q zs s e)
def whoL (ws : List Int) (q : Int) (zs : List Int) (k : Nat) : List Int := (List.range k).map fun i => ((crs ws q zs i).pos : Int)
def manyL (zs : List Int) (k : Nat) : List Int := (List.range k).map (pkt zs)

theorem gi_range (f : Nat → Int) {k i : Nat} (h : i < k) : gi ((List.range k).map f) i = f i := by simp [gi_eq, h]
theorem whoL_len (ws : List Int) (q : Int) (zs : List Int) (k : Nat) : (whoL ws q zs k).length = k := by simp [whoL]
theorem manyL_len (zs : List Int) (k : Nat) : (manyL zs k).length = k := by simp [manyL]
theorem rowSums_len (ws : List Int) (q : Int) (zs : List Int) (s e : Nat) : (rowSums ws q zs s e).length = ws.length := by simp [rowSums]
theorem whoL_succ (ws : List Int) (q : Int) (zs : List Int) (k : Nat) : whoL ws q zs (k + 1) = whoL ws q zs k ++ [((crs ws q zs k).pos : Int)] := by simp [whoL, List.range_succ]
theorem manyL_succ (zs : List Int) (k : Nat) : manyL zs (k + 1) = manyL zs k ++ [pkt zs k] := by simp [manyL, List.range_succ]
theorem rowSums_self (ws : List Int) (q : Int) (zs : List Int) (s : Nat) : rowSums ws q zs s s = List.replicate ws.length 0 := by
  apply List.ext_getElem (by simp [rowSums])
  intro i h1 h2
  simp [rowSums, rowSum]

theorem rowSums_succ {ws : List Int} {q : Int} {zs : List Int} (h1 : 1 ≤ ws.length) (h2 : ∀ x ∈ ws, 1 ≤ x ∧ x ≤ 1000) (h3 : 1 ≤ q ∧ q ≤ 65536) (s e : Nat) :
    (rowSums ws q zs s e).set (crs ws q zs e).pos (rowSum ws q zs s e (crs ws q zs e).pos + pkt zs e) = rowSums ws q zs s (e + 1) := by
  obtain ⟨a1, a2, a3, _⟩ := crs_ok zs h1 h2 h3 e
  have hl : (crs ws q zs e).brings.length = ws.length := by rw [a2]; simp
  apply List.ext_getElem (by simp [rowSums])
  intro i hi1 hi2
  have hi : i < ws.length := by simpa [rowSums] using hi2
  have hg : gi (went ws q zs (e + 1)) i = if (crs ws q zs e).pos = i then gi (went ws q zs e) (crs ws q zs e).pos + pkt zs e else gi (went ws q zs e) i :=
    getD_set _ _ _ _ (by rw [a3.1]; exact a1.pos)
  rw [List.getElem_set]
  simp only [rowSums, List.getElem_map, List.getElem_range, rowSum, hg]
  split
  · rename_i e'; subst e'; omega
  · rfl

theorem mul_bd {a b : Int} (h1 : 0 ≤ a ∧ a ≤ 1000) (h2 : 0 ≤ b ∧ b ≤ 200000) : 0 ≤ a * b ∧ a * b ≤ 200000000 := by
  refine ⟨Int.mul_nonneg h1.1 h2.1, ?_⟩
  have : a * b ≤ 1000 * 200000 := Int.mul_le_mul h1.2 h2.2 h2.1 (by omega)
  omega

/-- What goes from one packet on is not less than nothing. -/
theorem went_mono {ws : List Int} {q : Int} {zs : List Int} (h1 : 1 ≤ ws.length) (h2 : ∀ x ∈ ws, 1 ≤ x ∧ x ≤ 1000) (h3 : 1 ≤ q ∧ q ≤ 65536) (j s : Nat) : ∀ d, gi (went ws q zs s) j ≤ gi (went ws q zs (s + d)) j
  | 0 => Int.le_refl _
  | d + 1 => by
    have ih := went_mono h1 h2 h3 (zs := zs) j s d
    obtain ⟨a1, a2, a3, _⟩ := crs_ok zs h1 h2 h3 (s + d)
    have hg : gi (went ws q zs (s + d + 1)) j = if (crs ws q zs (s + d)).pos = j then gi (went ws q zs (s + d)) (crs ws q zs (s + d)).pos + pkt zs (s + d) else gi (went ws q zs (s + d)) j :=
      getD_set _ _ _ _ (by rw [a3.1]; exact a1.pos)
    rw [show s + (d + 1) = s + d + 1 from rfl, hg]
    have := pkt_bd zs (s + d)
    split
    · rename_i e; subst e; omega
    · exact ih

theorem rowSum_bd {ws : List Int} {q : Int} {zs : List Int} (h1 : 1 ≤ ws.length) (h2 : ∀ x ∈ ws, 1 ≤ x ∧ x ≤ 1000) (h3 : 1 ≤ q ∧ q ≤ 65536) {s e j : Nat} (hs : s ≤ e) (hj : j < ws.length) (he : e ≤ 90) : 0 ≤ rowSum ws q zs s e j ∧ rowSum ws q zs s e j ≤ 184320 := by
  have m := went_mono (zs := zs) h1 h2 h3 j s (e - s)
  rw [show s + (e - s) = e by omega] at m
  have a := (crs_ok zs h1 h2 h3 s).2.2.2.2.2.2 j hj
  have b := (crs_ok zs h1 h2 h3 e).2.2.2.2.2.2 j hj
  unfold rowSum
  omega

/-- No two are further apart than their bound. -/
theorem fair {ws : List Int} {q : Int} {zs : List Int} {k : Nat} (h1 : 1 ≤ ws.length) (h2 : ∀ x ∈ ws, 1 ≤ x ∧ x ≤ 1000) (h3 : 1 ≤ q ∧ q ≤ 65536) {s e j : Nat} (hs : s ≤ e) (he : e < k) (hj : j < ws.length) :
    gi ws j * rowSum ws q zs s (e + 1) (crs ws q zs e).pos - gi ws (crs ws q zs e).pos * rowSum ws q zs s (e + 1) j ≤ gi ws (crs ws q zs e).pos * gi ws j * q + most zs k * (gi ws (crs ws q zs e).pos + gi ws j) := by
  obtain ⟨a1, a2, a3, _, _, a6, _⟩ := crs_ok zs h1 h2 h3 s
  obtain ⟨b1, b2, b3, _, _, b6, _⟩ := crs_ok zs h1 h2 h3 e
  have hl : (crs ws q zs e).brings.length = ws.length := by rw [b2]; simp
  have hp : (crs ws q zs e).pos < ws.length := hl ▸ b1.pos
  have hpk := pkt_most zs k e he
  have hpb := pkt_bd zs e
  have hmm : ∀ i, i ≤ k → most zs i ≤ most zs k := fun i hi => most_mono zs i k hi
  have hg : ∀ i, gi (went ws q zs (e + 1)) i = if (crs ws q zs e).pos = i then gi (went ws q zs e) (crs ws q zs e).pos + pkt zs e else gi (went ws q zs e) i := fun i =>
    getD_set _ _ _ _ (by rw [b3.1]; exact b1.pos)
  have w1 := h2 _ (gi_mem hj)
  have w2 := h2 _ (gi_mem hp)
  by_cases hne : j = (crs ws q zs e).pos
  · subst hne
    have x1 : 0 ≤ gi ws (crs ws q zs e).pos * gi ws (crs ws q zs e).pos * q := Int.mul_nonneg (Int.mul_nonneg (by omega) (by omega)) (by omega)
    have x2 : 0 ≤ most zs k * (gi ws (crs ws q zs e).pos + gi ws (crs ws q zs e).pos) := Int.mul_nonneg (most_bd zs k).1 (by omega)
    omega
  · have key := fair_two (ws := ws) (q := q) (m := most zs k) (n := pkt zs e) h2 h3.1 a1 b1 a2 b2 a3 b3 (a6 _ (by omega) (hmm _ (by omega))) (b6 _ (by omega) (hmm _ (by omega))) hpk j hj hne
    unfold rowSum
    rw [hg, hg, if_pos rfl, if_neg (fun h => hne h.symm)]
    exact key
end SrrS
end Go.Proofs.Ytlbcfkkeoedhdaa
