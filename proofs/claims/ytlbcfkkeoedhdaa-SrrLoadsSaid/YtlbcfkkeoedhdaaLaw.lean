/- What a law's arguments read as. -/
import Derived.Test.YtlbcfkkeoedhdaaRow
import Derived.SizedLaws
import Derived.ChangeSlices
import Derived.ChangeSame
import Derived.ChangeOld
import Derived.OpenShut
namespace Go.Proofs.Ytlbcfkkeoedhdaa
open Go.RowKit Go.ChangeShapes Go.WideShapes

theorem addr_add {w : World} {x : Addr} {i : Nat} {v : Value} (h : w.cell? (x.add i) = some v) (h0 : ∃ u, w.cell? (x.add 0) = some u) : x = ⟨x.block, x.off, none⟩ ∧ w.cell? ⟨x.block, x.off + i, none⟩ = some v := by
  obtain ⟨u, hu⟩ := h0
  have hs : x.spot = none := by
    have e : x.add 0 = x := by simp [Addr.add]
    rw [e] at hu
    unfold World.cell? at hu
    split at hu
    · cases hsp : x.spot with
      | none => rfl
      | some s => simp [hsp] at hu
    · simp at hu
  have hx : x = ⟨x.block, x.off, none⟩ := by cases x; simp_all
  refine ⟨hx, ?_⟩
  rw [hx] at h
  rwa [Addr.add_lit] at h

/-- A slice of whole numbers that came in. -/
theorem open_is {H : Type} {enc : TypeId × Value → H} {P : Program} {W : World} {base : Nat} {spare : Nat → Bool} {t e : TypeId} {k : IntKind} {a : Option Addr} {len cap : Nat} {d : DataW H} {ps : List MemPlace}
    (hu : P.underlying t = some (.slice e)) (he : P.underlying e = some (.int k)) (hc : P.cellsOf e = 1) (h : DataW.Trod enc P W base spare true t (.slice a len cap) d ps) :
    ∃ zs : List Int, Rd W (.slice a len cap) 1 (zs.map (Value.int k)) ∧ zs.length = len ∧ ∀ n ∈ zs, (Lit.int k n).wf = true := by
  obtain ⟨fuel, hf⟩ := h
  rcases open_ints hu he hc hf with ⟨hcs, _⟩ | ⟨x, l, c, zs, hcs, _, hl, hm, hz, _, hcell, hwz⟩
  · simp [Value.cells] at hcs
    obtain ⟨rfl, rfl, rfl⟩ := hcs
    exact ⟨[], Rd.nil W 1, rfl, by simp⟩
  · simp [Value.cells] at hcs
    obtain ⟨rfl, rfl, rfl⟩ := hcs
    have hzl : len ≤ zs.length := by
      rw [hz]
      split
      · exact hl
      · exact Nat.le_refl _
    refine ⟨zs.take len, ⟨some x, len, cap, rfl, hl, hm, by simp [hzl], by simp, fun j u hu => ?_⟩, by simp [hzl], fun n hn => hwz n (List.mem_of_mem_take hn)⟩
    have hj : j < len := by
      have := (List.getElem?_eq_some_iff.1 hu).1
      simp at this; omega
    have h1 := hcell j (by omega)
    obtain ⟨e1, e2⟩ := addr_add h1 ⟨_, hcell 0 (by omega)⟩
    refine ⟨x.block, x.off, by rw [← e1], World.block_lt_of_cell? (a := ⟨x.block, x.off + j, none⟩) W e2, ?_⟩
    rw [e2]
    have : zs[j]? = some (zs.getD j 0) := by simp [List.getD_eq_getElem?_getD, show j < zs.length by omega]
    simp only [List.map_take, List.getElem?_take, hj, if_true, List.getElem?_map, this, Option.map_some] at hu
    exact hu

/-- It is no longer than the form lets it be. -/
theorem sized_is {H : Type} {enc : TypeId × Value → H} {P : Program} {W : World} {base : Nat} {spare : Nat → Bool} {held : Bool} {t e : TypeId} {k : IntKind} {a : Option Addr} {len cap : Nat} {d : DataW H} {ps : List MemPlace} {ts : List TypeId} {ds : List (DataW H)} {j : Nat}
    (hsz : (DataW.weightsEach P ts ds).all (· ≤ reachBytes) = true) (ht : ts[j]? = some t) (hd : ds[j]? = some d) (hu : P.underlying t = some (.slice e)) (he : P.underlying e = some (.int k)) (hc : P.cellsOf e = 1) {B : Nat} (hB : P.bytesOf e = B)
    (h : DataW.Trod enc P W base spare held t (.slice a len cap) d ps) : len * B ≤ 140737488351232 := by
  obtain ⟨fuel, hf⟩ := h
  rcases open_ints hu he hc hf with ⟨hcs, _⟩ | ⟨x, l, c, zs, hcs, _, hl, _, hz, hx, _, _⟩
  · simp [Value.cells] at hcs
    obtain ⟨rfl, rfl, rfl⟩ := hcs
    simp
  · simp [Value.cells] at hcs
    obtain ⟨rfl, rfl, rfl⟩ := hcs
    obtain ⟨hx, _⟩ := Prod.mk.inj hx
    subst hx
    have z := sized_slice hsz ht hd hu
    rw [hB] at z
    have hl2 : len ≤ zs.length := by
      rw [hz]
      split
      · exact hl
      · exact Nat.le_refl _
    have h1 : (lits (H := H) k (zs.take len)).length + (lits (H := H) k (zs.drop len)).length = zs.length := by
      simp [lits]
      omega
    rw [h1] at z
    exact Nat.le_trans (Nat.mul_le_mul_right _ hl2) z

theorem i64_bounds {n : Int} (h : (Lit.int .i64 n).wf = true) : -9223372036854775808 ≤ n ∧ n ≤ 9223372036854775807 := by
  simpa [Lit.wf, IntKind.min, IntKind.max, IntKind.bits, IntKind.signed] using h
theorem u16_bounds {n : Int} (h : (Lit.int .u16 n).wf = true) : 0 ≤ n ∧ n ≤ 65535 := by
  simpa [Lit.wf, IntKind.min, IntKind.max, IntKind.bits, IntKind.signed] using h
theorem u8_bounds {n : Int} (h : (Lit.int .u8 n).wf = true) : 0 ≤ n ∧ n ≤ 255 := by
  simpa [Lit.wf, IntKind.min, IntKind.max, IntKind.bits, IntKind.signed] using h
theorem u32_bounds {n : Int} (h : (Lit.int .u32 n).wf = true) : 0 ≤ n ∧ n ≤ 4294967295 := by
  simpa [Lit.wf, IntKind.min, IntKind.max, IntKind.bits, IntKind.signed] using h

/-- What a law's walk ends in. -/
def LawPost (w : World) (e : Ending) (w' : World) : Prop := e = .returned (.bool true) ∧ Below w.heap.size w w'

end Go.Proofs.Ytlbcfkkeoedhdaa
