/- Slices in the separation logic: reading one, appending to one that is owned, making one; each as a law for the walk and for a region that draws its order. -/
import Derived.Test.YtlbcfkkeoedhdaaSL
import Derived.Deep.RegionHeld3
import Derived.Deep.RegionLaw
import Derived.Lib.Hide
namespace Go.Proofs.Ytlbcfkkeoedhdaa
open Go.RowKit

/-- A slice reads as these cells in this world. -/
def Rd (w : World) (v : Value) (sz : Nat) (xs : List Value) : Prop :=
  ∃ ao n c, v = .slice ao n c ∧ n ≤ c ∧ c ≤ maxLen ∧ xs.length = n * sz ∧ (ao = Option.none → c = 0) ∧
    ∀ j u, xs[j]? = some u → ∃ g o, ao = some ⟨g, o, Option.none⟩ ∧ g < w.heap.size ∧ w.cell? ⟨g, o + j, Option.none⟩ = some u

theorem Rd.nil (w : World) (sz : Nat) : Rd w (.slice none 0 0) sz [] := ⟨_, _, _, rfl, Nat.le_refl _, by simp [maxLen], by simp, fun _ => rfl, by simp⟩

theorem Rd.of {w w' : World} {v : Value} {sz : Nat} {xs : List Value} (h : Rd w v sz xs) (hs : w.heap.size ≤ w'.heap.size) (hk : ∀ k, k < w.heap.size → w'.heap[k]? = w.heap[k]?) : Rd w' v sz xs := by
  obtain ⟨ao, n, c, h1, h2, h3, h4, h5, h6⟩ := h
  refine ⟨ao, n, c, h1, h2, h3, h4, h5, fun j u hu => ?_⟩
  obtain ⟨g, o, e, hg, hc⟩ := h6 j u hu
  exact ⟨g, o, e, by omega, by rw [World.cell?_of_block (hk g hg)]; exact hc⟩
theorem Rd.below {w w' : World} {v : Value} {sz : Nat} {xs : List Value} (h : Rd w v sz xs) (hb : Below w.heap.size w w') : Rd w' v sz xs := h.of hb.size hb.block
theorem Rd.own0 {W w : World} {v : Value} {sz : Nat} {xs : List Value} (h : Rd W v sz xs) (hs : Same W w) (ho : Sat w (ownW W)) : Rd w v sz xs := h.of hs.size fun _ hk => ho.own_at0 hk
theorem Rd.own {W w : World} {v : Value} {sz : Nat} {xs : List Value} {R : HP} (h : Rd W v sz xs) (hs : Same W w) (ho : Sat w (ownW W • R)) : Rd w v sz xs := h.of hs.size fun _ hk => ho.own_at hk
theorem Rd.alloc {w : World} {v : Value} {sz : Nat} {xs : List Value} (h : Rd w v sz xs) (o : Obj) : Rd (w.alloc o) v sz xs := h.below ((Below.refl _ _).alloc (Nat.le_refl _) _)
theorem Rd.drew {w : World} {v : Value} {sz : Nat} {xs : List Value} (h : Rd w v sz xs) : Rd w.drew v sz xs := h

theorem Sat.rd {w : World} {v : Value} {sz : Nat} {xs : List Value} {R : HP} (h : Sat w (sl v sz xs • R)) : Rd w v sz xs := by
  rcases h.row with ⟨rfl, rfl, _⟩ | ⟨g, o, cap, n, cur, h1, h2, h3, h4, h5, h6, h7⟩
  · exact Rd.nil w sz
  · refine ⟨_, _, _, h1, h3, h4, h2, by simp, fun j u hu => ⟨g, o, rfl, h7.lt, ?_⟩⟩
    rw [h7.cell]
    rw [← h6, List.getElem?_take] at hu
    split at hu
    · simpa using hu
    · cases hu

/-- The length, and each cell, of a slice that reads so. -/
theorem Rd.len {w : World} {ao : Option Addr} {n c sz : Nat} {xs : List Value} (h : Rd w (.slice ao n c) sz xs) : xs.length = n * sz ∧ n ≤ c ∧ c ≤ maxLen := by
  obtain ⟨ao', n', c', h1, h2, h3, h4, h5, h6⟩ := h
  cases h1
  exact ⟨h4, h2, h3⟩
theorem Rd.shape {w : World} {v : Value} {sz : Nat} {xs : List Value} (h : Rd w v sz xs) : ∃ ao n c, v = .slice ao n c ∧ xs.length = n * sz ∧ n ≤ c ∧ c ≤ maxLen := by
  obtain ⟨ao', n', c', h1, h2, h3, h4, h5, h6⟩ := h
  exact ⟨_, _, _, h1, h4, h2, h3⟩
theorem Rd.at {w : World} {v : Value} {sz : Nat} {xs : List Value} (h : Rd w v sz xs) (hx : 0 < xs.length) :
    ∃ g o n c, v = .slice (some ⟨g, o, none⟩) n c ∧ xs.length = n * sz ∧ n ≤ c ∧ c ≤ maxLen ∧ g < w.heap.size ∧ ∀ k, k < xs.length → w.cell? ⟨g, o + k, none⟩ = xs[k]? := by
  obtain ⟨ao, n, c, rfl, h2, h3, h4, h5, h6⟩ := h
  obtain ⟨g, o, rfl, hg, hc⟩ := h6 0 xs[0] (by simp)
  refine ⟨g, o, n, c, rfl, h4, h2, h3, hg, fun k hk => ?_⟩
  obtain ⟨g', o', e, _, hc⟩ := h6 k xs[k] (by simp [hk])
  cases e
  rw [hc]
  simp [hk]

theorem heap_setCells {b : Nat} {t : TypeId} (vs : List Value) : ∀ (o : Nat) (w : World) (c : Array Value), w.heap[b]? = some (.cells c t (0, 0)) → o + vs.length ≤ c.size →
    ∃ c' : Array Value, (w.setCells b o vs).heap[b]? = some (.cells c' t (0, 0)) ∧ c'.toList = c.toList.take o ++ vs ++ c.toList.drop (o + vs.length) ∧ Same w (w.setCells b o vs) ∧ ∀ k, k ≠ b → (w.setCells b o vs).heap[k]? = w.heap[k]? := by
  induction vs with
  | nil => intro o w c h hs; exact ⟨c, h, by simp, Same.refl w, fun _ _ => rfl⟩
  | cons v vs ih =>
    intro o w c h hs
    simp only [List.length_cons] at hs
    obtain ⟨c', h1, h2, h3, h4⟩ := ih (o + 1) (w.setCell ⟨b, o, none⟩ v) (c.setIfInBounds o v) (heap_setCell_row v h) (by simp; omega)
    refine ⟨c', h1, ?_, ((Same.refl w).setCell _ _).trans h3, fun k hk => by rw [World.setCells, h4 k hk, Below.heap_setCell _ _ _ _ hk]⟩
    rw [h2, Array.toList_setIfInBounds]
    have e1 : List.take (o + 1) (c.toList.set o v) = List.take o c.toList ++ [v] := by
      rw [List.take_succ_eq_append_getElem (by simp; omega)]
      simp [List.take_set_of_le]
    have e2 : List.drop (o + 1 + vs.length) (c.toList.set o v) = List.drop (o + (vs.length + 1)) c.toList := by
      rw [List.drop_set_of_lt (by omega)]
      congr 1
      omega
    rw [e1, e2]
    simp

theorem row_grow {c c' : Array Value} {o n sz : Nat} {xs news : List Value} (h6 : (c.toList.drop o).take (n * sz) = xs) (hx : xs.length = n * sz)
    (hc : c'.toList = c.toList.take (o + n * sz) ++ news ++ c.toList.drop (o + n * sz + news.length)) (hs : o + n * sz + news.length ≤ c.size) :
    c'.size = c.size ∧ (c'.toList.drop o).take (n * sz + news.length) = xs ++ news := by
  constructor
  · have := congrArg List.length hc
    simp at this
    omega
  · rw [hc, List.append_assoc, List.drop_append_of_le_length (by simp; omega), List.drop_take]
    have e : o + n * sz - o = n * sz := by omega
    rw [e, h6, ← hx, ← List.append_assoc, ← List.length_append]
    exact List.take_left

section
variable {P : Program} (w : World)

theorem run_append_row (t ty e : TypeId) (i : TypeInfo) (z : Value) (size bytes : Nat) (ht : P.underlying t = some (.slice e)) (hi : P.info? e = some i) (hz : i.zero = some z)
    (hsize : i.size = size) (hby : i.bytes = bytes) (hzs : z.cells.size = size) (hsz : 0 < size)
    (v x : Value) (xs news : List Value) (R : HP) (hS : Sat w (sl v size xs • R)) (hx : Rd w x size news) (h1 : ∀ u ∈ news, u.oneCell' = true)
    (h63 : xs.length + news.length ≤ maxLen * size) (hbytes : (xs.length + news.length) * bytes ≤ 140737488355328 * size) :
    ∃ v' w', (Builtin.append_ #[t, t] ty #[v, x]).run P w = .ok v' w' ∧ Sat w' (sl v' size (xs ++ news) • R) ∧ Same w w' ∧ (v' = .slice none 0 0 ↔ v = .slice none 0 0 ∧ news = []) := by
  obtain ⟨ao, m, c, rfl, h2, h3, h4, h5, h6⟩ := hx
  have hR : Sat w R := hS.drop
  have key : ∀ n, xs.length = n * size → n + m ≤ maxLen ∧ (n + m) * bytes ≤ 140737488355328 := by
    intro n hn
    rw [hn, h4, ← Nat.add_mul] at h63 hbytes
    refine ⟨Nat.le_of_mul_le_mul_right h63 hsz, ?_⟩
    have : (n + m) * bytes * size ≤ 140737488355328 * size := by rw [Nat.mul_right_comm]; exact hbytes
    exact Nat.le_of_mul_le_mul_right this hsz
  cases ao with
  | none =>
    have hc0 := h5 rfl
    obtain rfl : m = 0 := by omega
    subst hc0
    obtain rfl : news = [] := List.eq_nil_of_length_eq_zero (by simpa using h4)
    refine ⟨v, w, ?_, by simpa using hS, Same.refl w, by simp⟩
    rcases hS.row with ⟨rfl, rfl, _⟩ | ⟨g, o, cap, n, cur, rfl, g2, g3, g4, g5, g6, g7⟩
    · simp [Builtin.append_, run_underlying ht, sizeOf, typeInfo, hi, Builtin.lenOf, Builtin.firstCells]
    · simp [Builtin.append_, run_underlying ht, sizeOf, typeInfo, hi, Builtin.lenOf, Builtin.firstCells, g3, storeCells]
  | some ad =>
    have hc : ∀ j u, news[j]? = some u → w.cell? (ad.add j) = some u := by
      intro j u hu
      obtain ⟨g, o, e, _, hcell⟩ := h6 j u hu
      cases e
      rw [Addr.add_lit]
      exact hcell
    rcases hS.row with ⟨rfl, rfl, _⟩ | ⟨g, o, cap, n, cur, rfl, g2, g3, g4, g5, g6, g7⟩
    · obtain ⟨k1, k2⟩ := key 0 (by simp)
      obtain ⟨v', w', hr, ho, hg, hn⟩ := run_append_own (P := P) w w.heap.size t ty e i z size bytes ht hi hz hsize hby hzs hsz (.slice none 0 0) 0 [] (World.ownsRow_nil w _ e size) ad m c news h4 hc h1 k1 k2 (Nat.le_refl _)
      refine ⟨v', w', hr, hR.of_owns (by simpa using ho) hg rfl, (Same.refl w).grown hg, ?_⟩
      rw [hn]
      constructor
      · rintro ⟨h, rfl⟩; exact ⟨h, List.eq_nil_of_length_eq_zero (by simpa using h4)⟩
      · rintro ⟨h, rfl⟩
        refine ⟨h, ?_⟩
        have h4' : m * size = 0 := by simpa using h4.symm
        rcases Nat.mul_eq_zero.1 h4' with h' | h' <;> omega
    · obtain ⟨k1, k2⟩ := key n g2
      obtain ⟨tt, hb⟩ := g7.block
      by_cases hroom : n + m ≤ cap
      · have hfit : o + n * size + news.length ≤ cur.size := by
          rw [h4]
          have := Nat.mul_le_mul_right size hroom
          rw [Nat.add_mul] at this
          omega
        subst hsize
        have hr := run_append_room_cells (P := P) w t ty e i ht hi g o n cap ad m c news h4 hc h1 hroom
          (fun j hj => by rw [g7.cell]; simp; omega) (fun j _ => g7.free _)
        obtain ⟨c', q1, q2, q3, q4⟩ := heap_setCells (t := tt) news (o + n * i.size) w cur hb hfit
        obtain ⟨e1, e2⟩ := row_grow g6 g2 q2 hfit
        refine ⟨_, _, hr, ?_, q3, by simp⟩
        have hS' : Sat (w.setCells g (o + n * i.size) news) (pc g c' • R) := by
          obtain ⟨t', hS'⟩ := Sat.ex.1 g7
          have ht' : t' = tt := by have := hS'.pts; rw [hb] at this; cases this; rfl
          subst ht'
          exact Sat.ex.2 ⟨t', hS'.upd q1 fun k _ hk => q4 k hk⟩
        refine hS'.sl_mk (by simp [g2, h4, Nat.add_mul]) hroom g4 (by rw [e1]; exact g5) ?_
        rw [Nat.add_mul, ← h4]
        exact e2
      · obtain ⟨v', w', hr, ho, hg⟩ := run_append_arg_grows (P := P) w t ty e i z size bytes ht hi hz hsize hby hzs hsz ⟨g, o, none⟩ n cap xs g2 (fun j u hj => by
          rw [Addr.add_lit, g7.cell]
          rw [← g6, List.getElem?_take] at hj
          split at hj
          · simpa using hj
          · cases hj) ad m c news h4 hc (by omega) k1 k2
        refine ⟨v', w', hr, hR.of_owns ho hg rfl, (Same.refl w).grown hg, ?_⟩
        constructor
        · rintro rfl
          have := ho.1
          rcases ho.2 with ⟨_, h0⟩ | ⟨_, _, _, hv, _⟩
          · omega
          · simp at hv
        · rintro ⟨h, _⟩; simp at h

theorem run_make_sl (t e : TypeId) (i : TypeInfo) (z : Value) (size : Nat) (ht : P.underlying t = some (.slice e)) (hi : P.info? e = some i) (hz : i.zero = some z) (hsize : i.size = size)
    (kl kc : IntKind) (n : Nat) (b2 : i.bytes * n ≤ 281474976710656) (b3 : n ≤ maxLen) :
    ∃ w', (Instr.makeSlice t (.int kl n) (.int kc n)).run P w = .ok (.slice (some ⟨w.heap.size, 0, none⟩) n n) w' ∧ Below w.heap.size w w' ∧ ∀ R, Sat w R → Sat w' (sl (.slice (some ⟨w.heap.size, 0, none⟩) n n) size (madeCells z.cells (n * size)).toList • R) := by
  obtain ⟨w', hr, ho, hg⟩ := run_make_full (P := P) w w.heap.size t e i z size ht hi hz hsize kl kc n b2 b3 (Nat.le_refl _)
  exact ⟨w', hr, (Below.refl _ _).grown hg (Nat.le_refl _) (fun _ h => by cases h), fun R hR => hR.of_owns ho hg rfl⟩

end

/-- What is there behind a call that only makes: A, and all that was there as it was. -/
def Made (w w' : World) (A : HP) : Prop := Sat w' (A • ownW w) ∧ Same w w'

theorem Made.below {w w' : World} {A : HP} (h : Made w w' A) : Below w.heap.size w w' := (h.1.perm (sep_comm _ _)).below h.2
theorem Made.sat {w w' : World} {A F : HP} (h : Made w w' A) (hF : Sat w F) : Sat w' (A • F) := by
  obtain ⟨p, ⟨a, b, d, rfl, ha, hb⟩, hw⟩ := h.1
  obtain ⟨q, hq, hqw⟩ := hF
  refine ⟨PH.union a q, ⟨a, q, fun k => ?_, rfl, ha, hq⟩, fun k o hk => ?_⟩
  · rcases d k with h | h
    · exact .inl h
    · refine .inr ?_
      rw [hb] at h
      cases hqk : q k with
      | none => rfl
      | some u => have := (hqw k u hqk).symm.trans h; cases this
  · cases ha' : a k with
    | some u =>
      have : o = u := by simpa [PH.union, ha'] using hk.symm
      subst this
      exact hw k o (by simp [PH.union, ha'])
    | none =>
      have hqk : q k = some o := by simpa [PH.union, ha'] using hk
      exact hw k o (by rw [hb]; simp [PH.union, ha', hqw k o hqk])
theorem Made.mk {w w' : World} {A : HP} (h : Sat w' (A • ownW w)) (hs : Same w w') : Made w w' A := ⟨h, hs⟩
theorem Made.drew {w w' : World} {A : HP} (h : Made w w' A) : Made w w'.drew A := ⟨h.1, h.2.drew⟩
theorem Made.rd {w w' : World} {A : HP} {v : Value} {sz : Nat} {xs : List Value} (h : Made w w' A) (hr : Rd w v sz xs) : Rd w' v sz xs := hr.below h.below
/-- Nothing at all was turned or made, but that something was drawn. -/
theorem Made.none (w : World) : Made w w emp := ⟨(Sat.own w).perm (emp_sep _).symm, Same.refl w⟩

/-- What the table says of a slice type's elements. -/
def ElemInfo (P : Program) (t : TypeId) (size bytes : Nat) (z : Value) : Prop :=
  ∃ e i, P.underlying t = some (.slice e) ∧ P.info? e = some i ∧ i.zero = some z ∧ i.size = size ∧ i.bytes = bytes ∧ z.cells.size = size ∧ 0 < size

theorem ElemInfo.mk {P : Program} {t e : TypeId} {size bytes : Nat} {z : Value} (h : P.underlying t = some (.slice e)) (hi : (P.info? e).map (fun i => (i.zero, i.size, i.bytes)) = some (some z, size, bytes)) (hz : z.cells.size = size) (hp : 0 < size) : ElemInfo P t size bytes z := by
  obtain ⟨i, h1, h2, h3, h4⟩ := info_parts hi
  exact ⟨e, i, h, h1, h2, h3, h4, hz, hp⟩

section
variable {P : Program} {ops : Array Oper} {o : Oper} {a : Act} {w : World} {Q : Exit → Act → World → Prop} {K : Act → World → Prop}

theorem op_append {t : TypeId} {size bytes : Nat} {z : Value} (he : ElemInfo P t size bytes z) (s x : Operand) (hop : o.op = Op.call { callee := Callee.builtin Builtin.append, args := #[s, x], argTypes := #[t, t] })
    {v xv : Value} {xs news : List Value} {R : HP} (hs : a.eval s = v) (hxv : a.eval x = xv) (hS : Sat w (sl v size xs • R)) (hx : Rd w xv size news) (h1 : ∀ u ∈ news, u.oneCell' = true)
    (h63 : xs.length + news.length ≤ maxLen * size) (hbytes : (xs.length + news.length) * bytes ≤ 140737488355328 * size)
    (hK : ∀ ao' n' c' w', Hid (Sat w' (sl (.slice ao' n' c') size (xs ++ news) • R) ∧ Same w w' ∧ xs.length + news.length = n' * size ∧ n' ≤ c' ∧ c' ≤ maxLen ∧ (ao' = Option.none ↔ v = .slice none 0 0 ∧ news = [])) → K (a.put o.dst (.slice ao' n' c')) w') : o.wp P a w K Q := by
  obtain ⟨e, i, ht, hi, hz, hsize, hby, hzs, hsz⟩ := he
  obtain ⟨v', w', hr, h2, h3, h4⟩ := run_append_row (P := P) w t o.type e i z size bytes ht hi hz hsize hby hzs hsz v xv xs news R hS hx h1 h63 hbytes
  unfold Oper.wp
  simp [execOp, hop, resolve, invoke, builtin, hs, hxv, hr, Result.andThen]
  have h5 : ∃ ao' n' c', v' = .slice ao' n' c' ∧ xs.length + news.length = n' * size ∧ n' ≤ c' ∧ c' ≤ maxLen ∧ (ao' = Option.none → c' = 0) := by
    obtain ⟨ao', n', c', h1, h2, h3, h4, h5, h6⟩ := h2.rd
    exact ⟨ao', n', c', h1, by rw [← h4]; simp, h2, h3, h5⟩
  obtain ⟨ao', n', c', rfl, g1, g2, g3, g4⟩ := h5
  refine hK ao' n' c' w' ⟨h2, h3, g1, g2, g3, ?_⟩
  rw [← h4]
  constructor
  · intro h
    have := g4 h
    subst h this
    simp; omega
  · intro h
    simp at h
    exact h.1

theorem wpList_append_sl {rest : List Oper} (hg : o.guard = none) {t : TypeId} {size bytes : Nat} {z : Value} (he : ElemInfo P t size bytes z) (s x : Operand) (hop : o.op = Op.call { callee := Callee.builtin Builtin.append, args := #[s, x], argTypes := #[t, t] })
    {v xv : Value} {xs news : List Value} {R : HP} (hs : a.eval s = v) (hxv : a.eval x = xv) (hS : Sat w (sl v size xs • R)) (hx : Rd w xv size news) (h1 : ∀ u ∈ news, u.oneCell' = true)
    (h63 : xs.length + news.length ≤ maxLen * size) (hbytes : (xs.length + news.length) * bytes ≤ 140737488355328 * size)
    (hK : ∀ ao' n' c' w', Hid (Sat w' (sl (.slice ao' n' c') size (xs ++ news) • R) ∧ Same w w' ∧ xs.length + news.length = n' * size ∧ n' ≤ c' ∧ c' ≤ maxLen ∧ (ao' = Option.none ↔ v = .slice none 0 0 ∧ news = [])) → wpList P ops Q rest (a.put o.dst (.slice ao' n' c')) w') : wpList P ops Q (o :: rest) a w :=
  wpList_plain hg fun _ hK' => op_append he s x hop hs hxv hS hx h1 h63 hbytes fun ao' n' c' w' q => hK' _ _ (hK ao' n' c' w' q)

theorem step_append_sl {E : Prop} (hg : o.guard = none) {t : TypeId} {size bytes : Nat} {z : Value} (he : ElemInfo P t size bytes z) (s x : Operand) (hop : o.op = Op.call { callee := Callee.builtin Builtin.append, args := #[s, x], argTypes := #[t, t] })
    {v xv : Value} {xs news : List Value} {R : HP} (hs : a.eval s = v) (hxv : a.eval x = xv) (hS : Sat w (sl v size xs • R)) (hx : Rd w xv size news) (h1 : ∀ u ∈ news, u.oneCell' = true)
    (h63 : xs.length + news.length ≤ maxLen * size) (hbytes : (xs.length + news.length) * bytes ≤ 140737488355328 * size)
    (hK : ∀ ao' n' c' w', Hid (Sat w' (sl (.slice ao' n' c') size (xs ++ news) • R) ∧ Same w w' ∧ xs.length + news.length = n' * size ∧ n' ≤ c' ∧ c' ≤ maxLen ∧ (ao' = Option.none ↔ v = .slice none 0 0 ∧ news = [])) → K (a.put o.dst (.slice ao' n' c')) w') :
    if Region.wanted o (yielded ops a.tmps) = true then o.wp P a w K Q else E := by
  have hw : Region.wanted o (yielded ops a.tmps) = true := by simp [Region.wanted, hg]
  rw [if_pos hw]
  exact op_append he s x hop hs hxv hS hx h1 h63 hbytes hK

theorem op_make {t : TypeId} {size bytes : Nat} {z : Value} (he : ElemInfo P t size bytes z) (l c : Operand) (hop : o.op = Op.makeSlice t l c)
    {kl kc : IntKind} {n : Nat} {L C : Int} (hl : a.eval l = .int kl L) (hc : a.eval c = .int kc C) (hL : L = n) (hC : C = n) (b2 : bytes * n ≤ 281474976710656) (b3 : n ≤ maxLen)
    (hK : ∀ w', Below w.heap.size w w' → (∀ R, Sat w R → Sat w' (sl (.slice (some ⟨w.heap.size, 0, none⟩) n n) size (madeCells z.cells (n * size)).toList • R)) → K (a.put o.dst (.slice (some ⟨w.heap.size, 0, none⟩) n n)) w') : o.wp P a w K Q := by
  obtain ⟨e, i, ht, hi, hz, hsize, hby, hzs, hsz⟩ := he
  subst hby hL hC
  obtain ⟨w', hr, h2, h3⟩ := run_make_sl (P := P) w t e i z size ht hi hz hsize kl kc n b2 b3
  unfold Oper.wp
  simp [execOp, hop, hl, hc, hr, Result.andThen]
  exact hK w' h2 h3

theorem wpList_make_sl {rest : List Oper} (hg : o.guard = none) {t : TypeId} {size bytes : Nat} {z : Value} (he : ElemInfo P t size bytes z) (l c : Operand) (hop : o.op = Op.makeSlice t l c)
    {kl kc : IntKind} {n : Nat} {L C : Int} (hl : a.eval l = .int kl L) (hc : a.eval c = .int kc C) (hL : L = n) (hC : C = n) (b2 : bytes * n ≤ 281474976710656) (b3 : n ≤ maxLen)
    (hK : ∀ w', Below w.heap.size w w' → (∀ R, Sat w R → Sat w' (sl (.slice (some ⟨w.heap.size, 0, none⟩) n n) size (madeCells z.cells (n * size)).toList • R)) → wpList P ops Q rest (a.put o.dst (.slice (some ⟨w.heap.size, 0, none⟩) n n)) w') : wpList P ops Q (o :: rest) a w :=
  wpList_plain hg fun _ hK' => op_make he l c hop hl hc hL hC b2 b3 fun w' q1 q2 => hK' _ _ (hK w' q1 q2)

theorem step_make_sl {E : Prop} (hg : o.guard = none) {t : TypeId} {size bytes : Nat} {z : Value} (he : ElemInfo P t size bytes z) (l c : Operand) (hop : o.op = Op.makeSlice t l c)
    {kl kc : IntKind} {n : Nat} {L C : Int} (hl : a.eval l = .int kl L) (hc : a.eval c = .int kc C) (hL : L = n) (hC : C = n) (b2 : bytes * n ≤ 281474976710656) (b3 : n ≤ maxLen)
    (hK : ∀ w', Below w.heap.size w w' → (∀ R, Sat w R → Sat w' (sl (.slice (some ⟨w.heap.size, 0, none⟩) n n) size (madeCells z.cells (n * size)).toList • R)) → K (a.put o.dst (.slice (some ⟨w.heap.size, 0, none⟩) n n)) w') :
    if Region.wanted o (yielded ops a.tmps) = true then o.wp P a w K Q else E := by
  have hw : Region.wanted o (yielded ops a.tmps) = true := by simp [Region.wanted, hg]
  rw [if_pos hw]
  exact op_make he l c hop hl hc hL hC b2 b3 hK
end

/-- What 'make([]T, n)' does, T of one cell: for the walk, as an equation in whatever world. -/
theorem make_fact {P : Program} {t : TypeId} {bytes : Nat} {z : Value} (he : ElemInfo P t 1 bytes z) (hc : z.cells = #[z]) (n : Nat) (b2 : bytes * n ≤ 281474976710656) (b3 : n ≤ 9223372036854775807) :
    ∃ te mc, (∀ w : World, (Instr.makeSlice t (.int .i64 n) (.int .i64 n)).run P w = .ok (.slice (some ⟨w.heap.size, 0, none⟩) n n) (w.alloc (.cells mc te))) ∧ Hid (mc.toList = List.replicate n z) := by
  obtain ⟨e, i, ht, hi, hz, hsize, hby, hzs, hsz⟩ := he
  refine ⟨e, madeCells z.cells (n * i.size), fun w => ?_, ?_⟩
  · have hb : (i.bytes : Int) * (n : Int) ≤ 281474976710656 := by
      rw [hby, ← Int.natCast_mul]
      omega
    have := run_make (P := P) w t e i z ht hi hz .i64 .i64 n n (by omega) (Int.le_refl _) hb (by omega)
    simpa using this
  · show (madeCells z.cells (n * i.size)).toList = _
    rw [hsize, Nat.mul_one, hc]
    exact toList_madeCells_one z n

theorem Sat.boxsl {w : World} {A : HP} {n : Nat} {mc : Array Value} {xs : List Value} (h : Sat w A) (te : TypeId) (hm : mc.toList = xs) (hn : xs.length = n) (b3 : n ≤ 9223372036854775807) :
    Sat (w.alloc (.cells mc te)) (sl (.slice (some ⟨w.heap.size, 0, none⟩) n n) 1 xs • A) := by
  have hl := congrArg List.length hm
  simp at hl
  refine (h.box mc te).sl_mk (by omega) (Nat.le_refl _) (by unfold maxLen; omega) (by omega) ?_
  rw [hm, List.drop_zero, Nat.mul_one, ← hn, List.take_length]

theorem Sat.made {w : World} {A : HP} {n : Nat} {mc : Array Value} {z : Value} (h : Sat w A) (te : TypeId) (hm : mc.toList = List.replicate n z) (b3 : n ≤ 9223372036854775807) :
    Sat (w.alloc (.cells mc te)) (sl (.slice (some ⟨w.heap.size, 0, none⟩) n n) 1 (List.replicate n z) • A) := by
  refine (h.box mc te).sl_mk (by simp) (Nat.le_refl _) (by unfold maxLen; omega) ?_ ?_
  · have := congrArg List.length hm
    simp at this
    omega
  · rw [hm]; simp

/-- The one cell that 'append(x, v)' lays out for v. -/
theorem Rd.box (w : World) (v : Value) (t : TypeId) : Rd (w.alloc (.cells #[v] t)) (.slice (some ⟨w.heap.size, 0, none⟩) 1 1) 1 [v] := by
  refine ⟨_, 1, 1, rfl, Nat.le_refl _, by simp [maxLen], rfl, by simp, fun j u hu => ⟨_, _, rfl, by simp, ?_⟩⟩
  match j, hu with
  | 0, hu => simpa using hu

/-- A slice that has just been written out. -/
theorem Rd.lit (w : World) (cs : Array Value) (t : TypeId) (n : Nat) (hn : cs.size = n) (hb : n ≤ 1000000) {m : Nat} (hm : m = w.heap.size) : Rd (w.alloc (.cells cs t)) (.slice (some ⟨m, 0, none⟩) n n) 1 cs.toList := by
  subst hm
  refine ⟨_, n, n, rfl, Nat.le_refl _, by unfold maxLen; omega, by simp [hn], by simp, fun j u hu => ⟨_, _, rfl, by simp, ?_⟩⟩
  simpa using hu

def ClonePost (v : Value) (sz : Nat) (xs : List Value) (w : World) (e : Ending) (w' : World) : Prop :=
  ∃ ao n c, e = .returned (.slice ao n c) ∧ Made w w' (sl (.slice ao n c) sz xs) ∧ xs.length = n * sz ∧ n ≤ c ∧ c ≤ maxLen ∧ (ao = Option.none ↔ v = .slice none 0 0)

theorem ret_bool {a b : Bool} (h : a = b) : Ending.returned (.bool a) = .returned (.bool b) := by rw [h]
theorem ret_int {k : IntKind} {a b : Int} (h : a = b) : Ending.returned (.int k a) = .returned (.int k b) := by rw [h]

theorem oneCell_ints (k : IntKind) (l : List Int) : ∀ u ∈ l.map (Value.int k), u.oneCell' = true := ints_oneCell k l

end Go.Proofs.Ytlbcfkkeoedhdaa
