/- drr.New: nil just if weights or quantum may not be. -/
import Derived.Test.YtlbcfkkeoedhdaaClone
import Derived.Test.YtlbcfkkeoedhdaaSrrSent
import Derived.WalkSpells
namespace Go.Proofs.Ytlbcfkkeoedhdaa
open Go.RowKit

/-- Is a number from least to most? -/
def inB (n a b : Int) : Bool := decide (a ≤ n ∧ n ≤ b)
def badW (x : Int) : Bool := !inB x 1 1000
/-- Weights and a quantum that may be. -/
def OkW (ws : List Int) (q : Int) : Prop := 1 ≤ ws.length ∧ ws.length ≤ 16 ∧ (∀ x ∈ ws, 1 ≤ x ∧ x ≤ 1000) ∧ 1 ≤ q ∧ q ≤ 65536
instance (ws : List Int) (q : Int) : Decidable (OkW ws q) := by unfold OkW; infer_instance

theorem within_any (n a b : Int) (w : World) :
    Calls Try.prog 27 #[.int .i64 n, .int .i64 a, .int .i64 b] w fun e w' => e = .returned (.bool (inB n a b)) ∧ w = w' := by
  by_cases h1 : a ≤ n <;> by_cases h2 : n ≤ b <;>
  · go_enter Try.func27, Try.ntmps27
    go_wp2
    go_ret
    exact ⟨by simp [inB, h1, h2], rfl⟩

theorem drr1_any (n : Int) (w : World) :
    Calls Try.prog 26 #[.int .i64 n] w fun e w' => e = .returned (.bool (badW n)) ∧ w = w' := by
  go_enter Try.func26, Try.ntmps26
  go_wp2_with (go_at_call 27; refine (within_any _ _ _ _).mono ?_; rintro e w' ⟨rfl, rfl⟩)
  go_ret
  exact ⟨rfl, rfl⟩

def IdxPost (xs : List Int) (w : World) (e : Ending) (w' : World) : Prop := ∃ r : Int, e = .returned (.int .i64 r) ∧ (0 ≤ r ↔ xs.any badW = true) ∧ -1 ≤ r ∧ w = w'

theorem gi_mem {l : List Int} {k : Nat} (h : k < l.length) : gi l k ∈ l := SrrS.gi_mem h

theorem take_any {p : Int → Bool} {l : List Int} {k : Nat} (h : k < l.length) (h0 : (l.take k).any p = false) (h1 : p (gi l k) = false) : (l.take (k + 1)).any p = false := by
  have e : gi l k = l[k] := by rw [gi_eq, List.getElem?_eq_getElem h]; rfl
  rw [List.take_succ_eq_append_getElem h, List.any_append, h0]
  simp [← e, h1]

set_option maxHeartbeats 800000 in
theorem index_any (ao : Option Addr) (n c : Nat) (xs : List Int) (w : World) (hx : Rd w (.slice ao n c) 1 (i64s xs)) :
    Calls Try.prog 30 #[.slice ao n c, .func (.func 26) #[] #[]] w (IdxPost xs w) := by
  obtain ⟨hl, hnc, hcm⟩ := hx.len
  have hn : xs.length = n := by simpa [i64s] using hl
  have HX := Lib.hid hx
  have HN := Lib.hid hn
  have hb : n ≤ 9223372036854775807 := by unfold maxLen at hcm; omega
  clear hx hn hl hcm hnc
  go_enter Try.func30, Try.ntmps30
  go_wp2
  go_loop [8] (fun i => ∃ k : Nat, k ≤ n ∧ i = .int .i64 k ∧ (xs.take k).any badW = false) (fun i => n - (intOf i).toNat)
  case atStart => exact ⟨0, Nat.zero_le _, rfl, by simp⟩
  case round =>
    obtain ⟨k, hk, rfl, hno⟩ := hrel
    have HO := Lib.hid hno
    clear hno
    by_cases hlt : k < n
    · obtain ⟨g, o, n', c', he, _, _, _, _, hc⟩ := HX.out.at (by simp [i64s]; have := HN.out; omega)
      cases he
      have hck : w.cell? ⟨g, o + k, none⟩ = some (.int .i64 (gi xs k)) := by
        rw [hc k (by simp [i64s]; have := HN.out; omega)]
        simp [i64s, gi_eq, show k < xs.length by have := HN.out; omega]
      clear hc
      cases hbk : badW (gi xs k) with
      | true =>
        go_wp2_with (go_at_call 26; refine (drr1_any _ _).mono ?_; rintro e w' ⟨rfl, rfl⟩)
        go_ret
        refine ⟨_, rfl, ?_, by omega, rfl⟩
        have hm : gi xs k ∈ xs := gi_mem (by have := HN.out; omega)
        constructor
        · intro _; exact List.any_eq_true.2 ⟨_, hm, hbk⟩
        · intro _; omega
      | false =>
        go_wp2_with (go_at_call 26; refine (drr1_any _ _).mono ?_; rintro e w' ⟨rfl, rfl⟩)
        go_round
        case rel => exact ⟨k + 1, by omega, by go_num, take_any (by have := HN.out; omega) HO.out hbk⟩
        case measure => simp [intOf]; omega
    · have e : k = n := by omega
      subst e
      go_wp2
      go_ret
      refine ⟨_, rfl, ?_, by omega, rfl⟩
      have := HO.out
      rw [← HN.out, List.take_length] at this
      simp [this]

def ConPost (xs : List Int) (w : World) (e : Ending) (w' : World) : Prop := e = .returned (.bool (xs.any badW)) ∧ w = w'

theorem contains_any (ao : Option Addr) (n c : Nat) (xs : List Int) (w : World) (hx : Rd w (.slice ao n c) 1 (i64s xs)) :
    Calls Try.prog 28 #[.slice ao n c, .func (.func 26) #[] #[]] w (ConPost xs w) := by
  have HX := Lib.hid hx
  clear hx
  go_enter Try.func28, Try.ntmps28
  go_wp2_with (go_at_call 30; refine (index_any _ _ _ _ _ HX.out).mono ?_; rintro e w' ⟨r, rfl, h1, h2, rfl⟩; have H1 := Lib.hid h1; clear h1)
  go_ret
  refine ⟨?_, rfl⟩
  cases h : xs.any badW with
  | true => simp [H1.out.2 h]
  | false =>
    have : ¬ 0 ≤ r := fun hr => by have := H1.out.1 hr; rw [h] at this; cases this
    simp [this]

/-- The program's Drr. -/
def drrAt (b : Nat) (vw vl : Value) (ws : List Int) (q : Int) (left : List Int) (pos : Nat) (fresh : Bool) : HP :=
  pc b #[vw, .int .i64 q, vl, .int .i64 pos, .bool fresh] • sl vw 1 (i64s ws) • sl vl 1 (i64s left)
def drrRep (b : Nat) (ws : List Int) (q : Int) (left : List Int) (pos : Nat) (fresh : Bool) : HP := ex fun p : Value × Value => drrAt b p.1 p.2 ws q left pos fresh

def DrrNewPost (ws : List Int) (q : Int) (w : World) (e : Ending) (w' : World) : Prop :=
  (¬ OkW ws q ∧ e = .returned (.pointer none) ∧ w = w') ∨
  (OkW ws q ∧ ∃ b, e = .returned (.pointer (some ⟨b, 0, none⟩)) ∧ Made w w' (drrRep b ws q (List.replicate ws.length 0) 0 true))

theorem any_badW {ws : List Int} : ws.any badW = false ↔ ∀ x ∈ ws, 1 ≤ x ∧ x ≤ 1000 := by
  rw [List.any_eq_false]
  constructor
  · intro h x hx
    have := h x hx
    simpa [badW, inB] using this
  · intro h x hx
    have := h x hx
    simp [badW, inB, this]

set_option maxHeartbeats 800000 in
theorem drrNew_any (ao : Option Addr) (n c : Nat) (ws : List Int) (q : Int) (w : World) (hx : Rd w (.slice ao n c) 1 (i64s ws)) :
    Calls Try.prog 23 #[.slice ao n c, .int .i64 q] w (DrrNewPost ws q w) := by
  obtain ⟨hl, hnc, hcm⟩ := hx.len
  have hn : ws.length = n := by simpa [i64s] using hl
  have HX := Lib.hid hx
  have HN := Lib.hid hn
  have hb : n ≤ 9223372036854775807 := by unfold maxLen at hcm; omega
  clear hx hn hl hcm hnc
  cases h1 : inB n 1 16 with
  | false =>
    have h1' : ¬ OkW ws q := fun h => by have := h.1; have := h.2.1; have := HN.out; simp [inB] at h1; omega
    have H1 := Lib.hid h1'
    clear h1'
    go_enter Try.func23, Try.ntmps23
    go_wp2_with (go_at_call 27; refine (within_any _ _ _ _).mono ?_; rintro e w' ⟨rfl, rfl⟩)
    go_ret
    exact .inl ⟨H1.out, rfl, rfl⟩
  | true =>
    cases h2 : ws.any badW with
    | true =>
      have h1' : ¬ OkW ws q := fun h => by have := any_badW.2 h.2.2.1; rw [h2] at this; cases this
      have H1 := Lib.hid h1'
      clear h1'
      go_enter Try.func23, Try.ntmps23
      go_wp2_with (first | (go_at_call 27; refine (within_any _ _ _ _).mono ?_; rintro e w' ⟨rfl, rfl⟩) | (go_at_call 28; refine (contains_any _ _ _ _ _ HX.out).mono ?_; rintro e w' ⟨rfl, rfl⟩))
      go_ret
      exact .inl ⟨H1.out, rfl, rfl⟩
    | false =>
      cases h3 : inB q 1 65536 with
      | false =>
        have h1' : ¬ OkW ws q := fun h => by have := h.2.2.2; simp [inB] at h3; omega
        have H1 := Lib.hid h1'
        clear h1'
        go_enter Try.func23, Try.ntmps23
        go_wp2_with (first | (go_at_call 27; refine (within_any _ _ _ _).mono ?_; rintro e w' ⟨rfl, rfl⟩) | (go_at_call 28; refine (contains_any _ _ _ _ _ HX.out).mono ?_; rintro e w' ⟨rfl, rfl⟩))
        go_ret
        exact .inl ⟨H1.out, rfl, rfl⟩
      | true =>
        have h1' : OkW ws q := by have := HN.out; simp [inB] at h1 h3; exact ⟨by omega, by omega, any_badW.1 h2, h3.1, h3.2⟩
        have hn16 : n ≤ 16 := by simp [inB] at h1; omega
        have H1 := Lib.hid h1'
        clear h1'
        go_enter Try.func23, Try.ntmps23
        go_wp2_with (first | (go_at_call 27; refine (within_any _ _ _ _).mono ?_; rintro e w' ⟨rfl, rfl⟩) | (go_at_call 28; refine (contains_any _ _ _ _ _ HX.out).mono ?_; rintro e w' ⟨rfl, rfl⟩))
        obtain ⟨te, mc, hmk, hmc⟩ := make_fact el_i64 rfl n (by omega) (by omega)
        go_region_with (go_at_call 29; refine (clone_int _ (i64s ws) _ ?_ (oneCell_ints _ _) (by simp [i64s]; have := HN.out; omega)).mono ?_; (first | exact HX.out | exact HX.out.drew | exact (HX.out.alloc _).drew); rintro e wc ⟨aoc, nc, cc, rfl, hcl⟩; have HC := Lib.hid hcl; clear hcl)
        all_goals go_wp2
        all_goals go_ret
        all_goals refine .inr ⟨H1.out, _, rfl, ?_⟩
        · obtain ⟨hm, _⟩ := HC.out
          have a := hm.sat (F := ownW w) (Sat.own w)
          have b := (a.made te hmc.out (by omega)).box #[.slice aoc nc cc, .int .i64 q, .slice (some ⟨wc.heap.size, 0, none⟩) n n, .int .i64 0, .bool true] 58
          exact ⟨Sat.ex.2 ⟨(_, _), b.perm (by unfold drrAt; rw [HN.out]; simp [i64s]; ac_rfl)⟩, (((Same.refl w).drew.trans hm.2).alloc _).alloc _⟩
        · obtain ⟨hm, _⟩ := HC.out
          have a := hm.sat (F := sl (.slice (some ⟨w.heap.size, 0, none⟩) n n) 1 (List.replicate n (.int .i64 0)) • ownW w) ((Sat.own w).made te hmc.out (by omega))
          have b := a.box #[.slice aoc nc cc, .int .i64 q, .slice (some ⟨w.heap.size, 0, none⟩) n n, .int .i64 0, .bool true] 58
          exact ⟨Sat.ex.2 ⟨(_, _), b.perm (by unfold drrAt; rw [HN.out]; simp [i64s]; ac_rfl)⟩, ((((Same.refl w).alloc _).drew).trans hm.2).alloc _⟩

end Go.Proofs.Ytlbcfkkeoedhdaa
