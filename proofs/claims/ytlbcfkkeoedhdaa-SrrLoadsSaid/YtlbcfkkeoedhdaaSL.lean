/- A small separation logic over the model's heap: assertions on parts of the heap, what holds them in a world, and how stores, new blocks and draws carry them on. -/
import Derived.WalkKit
namespace Go.Proofs.Ytlbcfkkeoedhdaa
open Go.RowKit

abbrev PH := Nat → Option Obj
def HP := PH → Prop

def PH.union (a b : PH) : PH := fun k => (a k).or (b k)
def PH.disj (a b : PH) : Prop := ∀ k, a k = Option.none ∨ b k = Option.none

def sep (A B : HP) : HP := fun h => ∃ a b, PH.disj a b ∧ h = PH.union a b ∧ A a ∧ B b
instance : HSMul HP HP HP := ⟨sep⟩
def emp : HP := fun h => h = fun _ => Option.none
def pt (b : Nat) (o : Obj) : HP := fun h => h = fun k => if k = b then some o else Option.none
def pure' (p : Prop) : HP := fun h => p ∧ h = fun _ => Option.none
def ex {α : Type _} (A : α → HP) : HP := fun h => ∃ x, A x h

theorem PH.union_comm {a b : PH} (h : PH.disj a b) : PH.union a b = PH.union b a := by
  funext k
  rcases h k with h | h <;> simp [PH.union, h]
theorem PH.disj.symm {a b : PH} (h : PH.disj a b) : PH.disj b a := fun k => (h k).symm

theorem sep_comm (A B : HP) : A • B = B • A := by
  funext h
  apply propext
  constructor
  · rintro ⟨a, b, d, rfl, ha, hb⟩
    exact ⟨b, a, d.symm, PH.union_comm d, hb, ha⟩
  · rintro ⟨a, b, d, rfl, ha, hb⟩
    exact ⟨b, a, d.symm, PH.union_comm d, hb, ha⟩

theorem PH.disj_union_left {a b c : PH} : PH.disj (PH.union a b) c ↔ PH.disj a c ∧ PH.disj b c := by
  constructor
  · intro h
    refine ⟨fun k => ?_, fun k => ?_⟩ <;>
    · rcases h k with h | h
      · simp [PH.union] at h; simp [h]
      · exact .inr h
  · rintro ⟨h1, h2⟩ k
    rcases h1 k with h | h
    · rcases h2 k with h' | h'
      · exact .inl (by simp [PH.union, h, h'])
      · exact .inr h'
    · exact .inr h

theorem PH.union_assoc (a b c : PH) : PH.union (PH.union a b) c = PH.union a (PH.union b c) := by
  funext k
  simp [PH.union, Option.or_assoc]

theorem sep_assoc (A B C : HP) : (A • B) • C = A • (B • C) := by
  funext h
  apply propext
  constructor
  · rintro ⟨ab, c, d, rfl, ⟨a, b, d', rfl, ha, hb⟩, hc⟩
    obtain ⟨d1, d2⟩ := PH.disj_union_left.1 d
    exact ⟨a, PH.union b c, (PH.disj_union_left.2 ⟨d'.symm, d1.symm⟩).symm, PH.union_assoc a b c, ha, b, c, d2, rfl, hb, hc⟩
  · rintro ⟨a, bc, d, rfl, ha, b, c, d', rfl, hb, hc⟩
    obtain ⟨d1, d2⟩ := PH.disj_union_left.1 d.symm
    exact ⟨PH.union a b, c, PH.disj_union_left.2 ⟨d2.symm, d'⟩, (PH.union_assoc a b c).symm, ⟨a, b, d1.symm, rfl, ha, hb⟩, hc⟩

instance : Std.Associative (HSMul.hSMul : HP → HP → HP) := ⟨sep_assoc⟩
instance : Std.Commutative (HSMul.hSMul : HP → HP → HP) := ⟨sep_comm⟩

theorem sep_emp (A : HP) : A • emp = A := by
  funext h
  apply propext
  constructor
  · rintro ⟨a, b, d, rfl, ha, rfl⟩
    have e : PH.union a (fun _ => Option.none) = a := by funext k; simp [PH.union]
    rw [e]; exact ha
  · intro ha
    exact ⟨h, fun _ => Option.none, fun k => .inr rfl, by funext k; simp [PH.union], ha, rfl⟩
theorem emp_sep (A : HP) : emp • A = A := by rw [sep_comm, sep_emp]

theorem sep_mono {A A' B B' : HP} (ha : ∀ h, A h → A' h) (hb : ∀ h, B h → B' h) : ∀ h, (A • B) h → (A' • B') h := by
  rintro h ⟨a, b, d, rfl, x, y⟩
  exact ⟨a, b, d, rfl, ha _ x, hb _ y⟩

/-- The world holds the assertion, in a part of its heap. -/
def Sat (w : World) (A : HP) : Prop := ∃ h, A h ∧ ∀ k o, h k = some o → w.heap[k]? = some o

/-- What a call does not turn. -/
structure Same (w w' : World) : Prop where
  os : w'.os = w.os
  tape : w'.tape = w.tape
  output : w'.output = w.output
  size : w.heap.size ≤ w'.heap.size

theorem Same.refl (w : World) : Same w w := ⟨rfl, rfl, rfl, Nat.le_refl _⟩
theorem Same.trans {a b c : World} (h : Same a b) (k : Same b c) : Same a c := ⟨k.os.trans h.os, k.tape.trans h.tape, k.output.trans h.output, Nat.le_trans h.size k.size⟩
theorem Same.drew {a w : World} (h : Same a w) : Same a w.drew := ⟨h.os, h.tape, h.output, h.size⟩
theorem Same.alloc {a w : World} (h : Same a w) (o : Obj) : Same a (w.alloc o) := ⟨h.os, h.tape, h.output, Nat.le_trans h.size (by simp)⟩
theorem Same.setCell {a w : World} (h : Same a w) (p : Addr) (v : Value) : Same a (w.setCell p v) := ⟨h.os, h.tape, h.output, by simpa using h.size⟩
theorem Same.grown {a w w' : World} {row : Option Nat} (h : Same a w) (hg : w.grownBy w' row) : Same a w' := ⟨hg.os.trans h.os, hg.tape.trans h.tape, hg.output.trans h.output, Nat.le_trans h.size hg.size⟩

theorem Sat.imp {w : World} {A B : HP} (h : Sat w A) (hi : ∀ p, A p → B p) : Sat w B := let ⟨p, a, b⟩ := h; ⟨p, hi p a, b⟩
theorem Sat.perm {w : World} {A B : HP} (h : Sat w A) (e : A = B) : Sat w B := e ▸ h
theorem Sat.mono_left {w : World} {A A' R : HP} (h : Sat w (A • R)) (hi : ∀ p, A p → A' p) : Sat w (A' • R) := h.imp (sep_mono hi fun _ x => x)
theorem Sat.drop {w : World} {A R : HP} (h : Sat w (A • R)) : Sat w R := by
  obtain ⟨p, ⟨a, b, d, rfl, ha, hb⟩, hw⟩ := h
  refine ⟨b, hb, fun k o hk => hw k o ?_⟩
  rcases d k with h | h
  · simp [PH.union, h, hk]
  · rw [h] at hk; cases hk
theorem Sat.left {w : World} {A R : HP} (h : Sat w (A • R)) : Sat w A := (h.perm (sep_comm A R)).drop

theorem Sat.swap {w : World} {A B R : HP} (h : Sat w (A • B • R)) : Sat w (B • A • R) := h.perm (by ac_rfl)
theorem Sat.rot {w : World} {A B C R : HP} (h : Sat w (A • B • C • R)) : Sat w (A • C • B • R) := h.perm (by ac_rfl)

theorem sep_ex {α : Type _} (A : α → HP) (R : HP) : (ex A) • R = ex fun x => A x • R := by
  funext h
  apply propext
  constructor
  · rintro ⟨a, b, d, rfl, ⟨x, ha⟩, hb⟩
    exact ⟨x, a, b, d, rfl, ha, hb⟩
  · rintro ⟨x, a, b, d, rfl, ha, hb⟩
    exact ⟨a, b, d, rfl, ⟨x, ha⟩, hb⟩
theorem Sat.ex {α : Type _} {w : World} {A : α → HP} {R : HP} : Sat w (ex A • R) ↔ ∃ x, Sat w (A x • R) := by
  rw [sep_ex]
  constructor
  · rintro ⟨p, ⟨x, hx⟩, hw⟩; exact ⟨x, p, hx, hw⟩
  · rintro ⟨x, p, hx, hw⟩; exact ⟨p, ⟨x, hx⟩, hw⟩
theorem Sat.pure {w : World} {p : Prop} {R : HP} : Sat w (pure' p • R) ↔ p ∧ Sat w R := by
  constructor
  · intro h
    refine ⟨?_, h.drop⟩
    obtain ⟨q, ⟨a, b, d, rfl, ha, hb⟩, hw⟩ := h
    exact ha.1
  · rintro ⟨hp, h⟩
    refine h.imp fun q hq => ⟨_, q, ?_, ?_, ⟨hp, rfl⟩, hq⟩
    · intro k; exact .inl rfl
    · funext k; simp [PH.union]

theorem Sat.pts {w : World} {b : Nat} {o : Obj} {R : HP} (h : Sat w (pt b o • R)) : w.heap[b]? = some o := by
  obtain ⟨p, hp, hw⟩ := h.left
  refine hw b o ?_
  rw [hp]; simp

theorem Sat.ne {w : World} {b c : Nat} {o u : Obj} {R : HP} (h : Sat w (pt b o • pt c u • R)) : b ≠ c := by
  obtain ⟨p, ⟨x, y, d, rfl, hx, y1, y2, d', rfl, hy1, hy2⟩, hw⟩ := h
  rintro rfl
  rcases d b with h | h
  · rw [hx] at h; simp at h
  · rw [hy1] at h; simp [PH.union] at h

theorem Sat.drew {w : World} {A : HP} (h : Sat w A) : Sat w.drew A := h

/-- One block has turned; the others that were there are as they were. -/
theorem Sat.upd {w w' : World} {b : Nat} {o o' : Obj} {R : HP} (h : Sat w (pt b o • R)) (hb : w'.heap[b]? = some o') (hk : ∀ k, k < w.heap.size → k ≠ b → w'.heap[k]? = w.heap[k]?) :
    Sat w' (pt b o' • R) := by
  obtain ⟨p, ⟨x, y, d, rfl, hx, hy⟩, hw⟩ := h
  refine ⟨_, ⟨fun k => if k = b then some o' else Option.none, y, ?_, rfl, rfl, hy⟩, ?_⟩
  · intro k
    rcases d k with h | h
    · rw [hx] at h
      by_cases e : k = b
      · simp [e] at h
      · exact .inl (by simp [e])
    · exact .inr h
  · intro k u hu
    by_cases e : k = b
    · subst e
      simp [PH.union] at hu
      subst hu
      exact hb
    · have hy' : y k = some u := by simpa [PH.union, e] using hu
      have := hw k u (by rw [hx]; simp [PH.union, e, hy'])
      rw [hk k (lt_of_block this) e, this]

/-- New blocks: what was there is as it was. -/
theorem Sat.keep {w w' : World} {A : HP} (h : Sat w A) (hk : ∀ k, k < w.heap.size → w'.heap[k]? = w.heap[k]?) : Sat w' A := by
  obtain ⟨p, ha, hw⟩ := h
  exact ⟨p, ha, fun k o ho => by rw [hk k (lt_of_block (hw k o ho)), hw k o ho]⟩

/-- One more block, which was not there. -/
theorem Sat.new {w w' : World} {A : HP} {b : Nat} {o : Obj} (h : Sat w A) (hb : w.heap.size ≤ b) (ho : w'.heap[b]? = some o) (hk : ∀ k, k < w.heap.size → w'.heap[k]? = w.heap[k]?) : Sat w' (pt b o • A) := by
  obtain ⟨p, ha, hw⟩ := h
  refine ⟨_, ⟨fun k => if k = b then some o else Option.none, p, ?_, rfl, rfl, ha⟩, ?_⟩
  · intro k
    by_cases e : k = b
    · refine .inr ?_
      subst e
      cases hp : p k with
      | none => rfl
      | some u => have := lt_of_block (hw k u hp); omega
    · exact .inl (by simp [e])
  · intro k u hu
    by_cases e : k = b
    · subst e
      simp [PH.union] at hu
      subst hu
      exact ho
    · have hp : p k = some u := by simpa [PH.union, e] using hu
      rw [hk k (lt_of_block (hw k u hp)), hw k u hp]

theorem heap_alloc_top (w : World) (o : Obj) : (w.alloc o).heap[w.heap.size]? = some o := heap_alloc_new w o

theorem Sat.alloc {w : World} {A : HP} (h : Sat w A) (o : Obj) : Sat (w.alloc o) (pt w.heap.size o • A) :=
  h.new (Nat.le_refl _) (heap_alloc_top w o) fun _ hk => Below.heap_alloc w o _ hk

theorem heap_setCell_row {w : World} {b i : Nat} {c : Array Value} {t : TypeId} {fz : Nat × Nat} (v : Value) (h : w.heap[b]? = some (.cells c t fz)) : (w.setCell ⟨b, i, none⟩ v).heap[b]? = some (.cells (c.setIfInBounds i v) t fz) := by
  have hlt := lt_of_block h
  have h' : w.heap[b] = .cells c t fz := by simpa [Array.getElem?_eq_getElem hlt] using h
  show (w.heap.modify b _)[b]? = _
  rw [Array.getElem?_eq_getElem (by simpa using hlt), Array.getElem_modify_self, h']
  rfl

theorem Sat.set0 {w : World} {b i : Nat} {c : Array Value} {t : TypeId} {fz : Nat × Nat} {R : HP} (v : Value) (h : Sat w (pt b (.cells c t fz) • R)) : Sat (w.setCell ⟨b, i, none⟩ v) (pt b (.cells (c.setIfInBounds i v) t fz) • R) :=
  h.upd (heap_setCell_row v h.pts) fun _ _ hne => Below.heap_setCell _ _ _ _ hne

theorem cell_in {w : World} {b : Nat} {c : Array Value} {t : TypeId} {fz : Nat × Nat} (h : w.heap[b]? = some (.cells c t fz)) (i : Nat) : w.cell? ⟨b, i, none⟩ = c[i]? := by simp [World.cell?, h]
theorem free_in {w : World} {b : Nat} {c : Array Value} {t : TypeId} (h : w.heap[b]? = some (.cells c t (0, 0))) (i : Nat) : w.frozen? ⟨b, i, none⟩ = false := by simp [World.frozen?, h]

/-- A block of cells, whatever its type says. -/
def pc (b : Nat) (c : Array Value) : HP := ex fun t => pt b (.cells c t (0, 0))

theorem Sat.block {w : World} {b : Nat} {c : Array Value} {R : HP} (h : Sat w (pc b c • R)) : ∃ t, w.heap[b]? = some (.cells c t (0, 0)) := by
  obtain ⟨t, h⟩ := Sat.ex.1 h
  exact ⟨t, h.pts⟩
theorem Sat.lt {w : World} {b : Nat} {c : Array Value} {R : HP} (h : Sat w (pc b c • R)) : b < w.heap.size := by
  obtain ⟨t, h⟩ := h.block
  exact lt_of_block h
theorem Sat.cell {w : World} {b : Nat} {c : Array Value} {R : HP} (h : Sat w (pc b c • R)) (i : Nat) : w.cell? ⟨b, i, none⟩ = c[i]? := by
  obtain ⟨t, h⟩ := h.block
  exact cell_in h i
theorem Sat.free {w : World} {b : Nat} {c : Array Value} {R : HP} (h : Sat w (pc b c • R)) (i : Nat) : w.frozen? ⟨b, i, none⟩ = false := by
  obtain ⟨t, h⟩ := h.block
  exact free_in h i
theorem Sat.neq {w : World} {b b' : Nat} {c c' : Array Value} {R : HP} (h : Sat w (pc b c • pc b' c' • R)) : b ≠ b' := by
  obtain ⟨t, h⟩ := Sat.ex.1 h
  obtain ⟨u, h⟩ := Sat.ex.1 (h.perm (by ac_rfl) : Sat w (pc b' c' • pt b (.cells c t (0, 0)) • R))
  exact h.ne.symm
theorem Sat.set {w : World} {b i : Nat} {c : Array Value} {R : HP} (v : Value) (h : Sat w (pc b c • R)) : Sat (w.setCell ⟨b, i, none⟩ v) (pc b (c.setIfInBounds i v) • R) := by
  obtain ⟨t, h⟩ := Sat.ex.1 h
  exact Sat.ex.2 ⟨t, h.set0 v⟩
theorem Sat.box {w : World} {A : HP} (h : Sat w A) (c : Array Value) (t : TypeId) : Sat (w.alloc (.cells c t)) (pc w.heap.size c • A) :=
  Sat.ex.2 ⟨t, h.alloc _⟩

/-- A slice of a block of its own: nil, or from some cell of that block on; behind its elements there may be room. -/
def sl (v : Value) (sz : Nat) (xs : List Value) : HP := fun h =>
  (v = .slice none 0 0 ∧ xs = [] ∧ emp h) ∨
  ∃ g o cap n cur, v = .slice (some ⟨g, o, none⟩) n cap ∧ xs.length = n * sz ∧ n ≤ cap ∧ cap ≤ maxLen ∧ o + cap * sz ≤ cur.size ∧ (cur.toList.drop o).take (n * sz) = xs ∧ pc g cur h

theorem Sat.row {w : World} {v : Value} {sz : Nat} {xs : List Value} {R : HP} (h : Sat w (sl v sz xs • R)) :
    (v = .slice none 0 0 ∧ xs = [] ∧ Sat w R) ∨
    ∃ g o cap n cur, v = .slice (some ⟨g, o, none⟩) n cap ∧ xs.length = n * sz ∧ n ≤ cap ∧ cap ≤ maxLen ∧ o + cap * sz ≤ cur.size ∧ (cur.toList.drop o).take (n * sz) = xs ∧ Sat w (pc g cur • R) := by
  obtain ⟨p, ⟨a, b, d, rfl, ha, hb⟩, hw⟩ := h
  rcases ha with ⟨h1, h2, rfl⟩ | ⟨g, o, cap, n, cur, h1, h2, h3, h4, h5, h6, h7⟩
  · refine .inl ⟨h1, h2, b, hb, fun k o hk => hw k o (by simp [PH.union, hk])⟩
  · exact .inr ⟨g, o, cap, n, cur, h1, h2, h3, h4, h5, h6, _, ⟨a, b, d, rfl, h7, hb⟩, hw⟩

theorem Sat.sl_nil {w : World} {R : HP} (h : Sat w R) (sz : Nat) : Sat w (sl (.slice none 0 0) sz [] • R) := by
  obtain ⟨p, hp, hw⟩ := h
  refine ⟨p, ⟨fun _ => Option.none, p, fun k => .inl rfl, ?_, .inl ⟨rfl, rfl, rfl⟩, hp⟩, hw⟩
  funext k; simp [PH.union]

theorem Sat.sl_mk {w : World} {g o cap n sz : Nat} {cur : Array Value} {xs : List Value} {R : HP} (h : Sat w (pc g cur • R)) (h2 : xs.length = n * sz) (h3 : n ≤ cap) (h4 : cap ≤ maxLen) (h5 : o + cap * sz ≤ cur.size) (h6 : (cur.toList.drop o).take (n * sz) = xs) :
    Sat w (sl (.slice (some ⟨g, o, none⟩) n cap) sz xs • R) :=
  h.mono_left fun _ hp => .inr ⟨g, o, cap, n, cur, rfl, h2, h3, h4, h5, h6, hp⟩

/-- The cells of a slice that is not nil. -/
theorem Sat.sl_at {w : World} {v : Value} {sz : Nat} {xs : List Value} {R : HP} (h : Sat w (sl v sz xs • R)) (hx : 0 < xs.length) :
    ∃ g o cap n, v = .slice (some ⟨g, o, none⟩) n cap ∧ xs.length = n * sz ∧ n ≤ cap ∧ cap ≤ maxLen ∧ g < w.heap.size ∧ (∀ k, k < xs.length → w.cell? ⟨g, o + k, none⟩ = xs[k]?) ∧ ∀ i, w.frozen? ⟨g, i, none⟩ = false := by
  rcases h.row with ⟨_, rfl, _⟩ | ⟨g, o, cap, n, cur, h1, h2, h3, h4, h5, h6, h7⟩
  · simp at hx
  · refine ⟨g, o, cap, n, h1, h2, h3, h4, h7.lt, fun k hk => ?_, h7.free⟩
    rw [h7.cell, ← h6, List.getElem?_take, if_pos (by omega), List.getElem?_drop]
    simp

theorem drop_take_set (l : List Value) (o k m : Nat) (u : Value) (hk : k < m) : ((l.set (o + k) u).drop o).take m = ((l.drop o).take m).set k u := by
  apply List.ext_getElem?
  intro i
  simp only [List.getElem?_take, List.getElem?_drop, List.getElem?_set, List.length_take, List.length_drop]
  by_cases h : i < m
  · simp only [h, if_true]
    by_cases e : k = i
    · subst e
      simp only [if_true]
      by_cases h2 : o + k < l.length
      · simp [h2, show k < min m (l.length - o) by omega]
      · simp [h2, show ¬ k < min m (l.length - o) by omega]
    · simp [e]
  · simp only [h, if_false]
    split <;> simp_all

theorem Sat.sl_set {w : World} {g o cap n k sz : Nat} {xs : List Value} {R : HP} (u : Value) (h : Sat w (sl (.slice (some ⟨g, o, none⟩) n cap) sz xs • R)) (hk : k < xs.length) :
    Sat (w.setCell ⟨g, o + k, none⟩ u) (sl (.slice (some ⟨g, o, none⟩) n cap) sz (xs.set k u) • R) := by
  rcases h.row with ⟨_, rfl, _⟩ | ⟨g', o', cap', n', cur, h1, h2, h3, h4, h5, h6, h7⟩
  · simp at hk
  · simp only [Value.slice.injEq, Option.some.injEq, Addr.mk.injEq, and_true] at h1
    obtain ⟨⟨rfl, rfl⟩, rfl, rfl⟩ := h1
    refine (h7.set u).sl_mk (by simpa using h2) h3 h4 (by simpa using h5) ?_
    rw [← h6, Array.toList_setIfInBounds]
    exact drop_take_set _ _ _ _ _ (by omega)

theorem Sat.sl_neq {w : World} {b g o n cap sz : Nat} {c : Array Value} {xs : List Value} {R : HP} (h : Sat w (pc b c • sl (.slice (some ⟨g, o, none⟩) n cap) sz xs • R)) : b ≠ g := by
  rcases (h.perm (by ac_rfl) : Sat w (sl (.slice (some ⟨g, o, none⟩) n cap) sz xs • pc b c • R)).row with ⟨h, _⟩ | ⟨g', o', cap', n', cur, h1, h2, h3, h4, h5, h6, h7⟩
  · simp at h
  · simp only [Value.slice.injEq, Option.some.injEq, Addr.mk.injEq, and_true] at h1
    obtain ⟨⟨rfl, rfl⟩, rfl, rfl⟩ := h1
    exact h7.neq.symm

theorem Sat.sl_neq2 {w : World} {b o' n' cap' sz' g o n cap sz : Nat} {ys xs : List Value} {R : HP} (h : Sat w (sl (.slice (some ⟨b, o', none⟩) n' cap') sz' ys • sl (.slice (some ⟨g, o, none⟩) n cap) sz xs • R)) : b ≠ g := by
  rcases h.row with ⟨h, _⟩ | ⟨g', o', cap', n', cur, h1, h2, h3, h4, h5, h6, h7⟩
  · simp at h
  · simp only [Value.slice.injEq, Option.some.injEq, Addr.mk.injEq, and_true] at h1
    obtain ⟨⟨rfl, rfl⟩, rfl, rfl⟩ := h1
    exact h7.sl_neq

/-- What kit's laws of 'append' and 'make' say, in these words. -/
theorem Sat.of_owns {w w' : World} {e : TypeId} {sz n : Nat} {v : Value} {xs : List Value} {A : HP} {row' : Option Nat} (h : Sat w A) (ho : w'.ownsRow w.heap.size e sz v n xs) (hg : w.grownBy w' row') (hr : row' = Option.none) :
    Sat w' (sl v sz xs • A) := by
  subst hr
  have hk : ∀ k, k < w.heap.size → w'.heap[k]? = w.heap[k]? := fun k hk => hg.block k hk (by simp)
  rcases ho with ⟨hl, ⟨rfl, rfl⟩ | ⟨g, cap, cur, rfl, hb, hh, h1, h2, h3, h4⟩⟩
  · have : xs = [] := List.eq_nil_of_length_eq_zero (by simpa using hl)
    subst this
    exact (h.keep hk).sl_nil sz
  · have h' : Sat w' (pc g cur • A) := Sat.ex.2 ⟨e, h.new hb hh hk⟩
    exact h'.sl_mk hl h1 h2 (by omega) (by simpa using h4)

/-- Exactly the heap that was there. -/
def ownW (W : World) : HP := fun h => h = fun k => W.heap[k]?
theorem Sat.own (W : World) : Sat W (ownW W) := ⟨_, rfl, fun _ _ h => h⟩
theorem Sat.own_at {w W : World} {R : HP} (h : Sat w (ownW W • R)) {k : Nat} (hk : k < W.heap.size) : w.heap[k]? = W.heap[k]? := by
  obtain ⟨p, hp, hw⟩ := h.left
  rw [hp] at hw
  have : W.heap[k]? = some W.heap[k] := by simp [hk]
  rw [this]
  exact hw k _ this
theorem Sat.own_at0 {w W : World} (h : Sat w (ownW W)) {k : Nat} (hk : k < W.heap.size) : w.heap[k]? = W.heap[k]? := (h.perm (sep_emp _).symm).own_at hk
theorem Sat.below {w W : World} {R : HP} (h : Sat w (ownW W • R)) (hs : Same W w) : Below W.heap.size W w :=
  ⟨hs.os, hs.tape, hs.output, hs.size, fun _ hk => h.own_at hk⟩

end Go.Proofs.Ytlbcfkkeoedhdaa
