/- slices.Clone at the slice types that the laws use. -/
import Derived.Test.YtlbcfkkeoedhdaaChecked
import Derived.Test.YtlbcfkkeoedhdaaRow
import Derived.WalkSpells
namespace Go.Proofs.Ytlbcfkkeoedhdaa
open Go.RowKit

theorem el_int : ElemInfo Try.prog 22 1 8 (.int .i64 0) := ElemInfo.mk (e := 3) Try.underlying22 (by kernel_rfl) rfl (by decide)

set_option maxHeartbeats 800000 in
theorem clone_int (v : Value) (xs : List Value) (w : World) (hx : Rd w v 1 xs) (h1 : ∀ u ∈ xs, u.oneCell' = true) (hb : xs.length * 8 ≤ 140737488355328) :
    Calls Try.prog 29 #[v] w (ClonePost v 1 xs w) := by
  obtain ⟨ao, n, c, rfl, g1, g2, g3, g4, g5⟩ := hx
  cases ao with
  | none =>
    obtain rfl := g4 rfl
    obtain rfl : n = 0 := by omega
    obtain rfl : xs = [] := List.eq_nil_of_length_eq_zero (by simpa using g3)
    clear g1 g2 g3 g4 g5 h1 hb
    have hq := fun w => Lib.run_eql_slice_nil (P := Try.prog) w 22 3 Option.none 0 0 0 0 Try.underlying22
    go_enter Try.func29, Try.ntmps29
    go_wp2
    go_ret
    exact ⟨Option.none, 0, 0, rfl, ⟨(Sat.own w).sl_nil 1, Same.refl w⟩, rfl, Nat.le_refl _, by simp [maxLen], by simp⟩
  | some ad =>
    have hx : Rd w (.slice (some ad) n c) 1 xs := ⟨some ad, n, c, rfl, g1, g2, g3, g4, g5⟩
    have HX := Lib.hid hx
    have H1 := Lib.hid h1
    clear g1 g2 g3 g4 g5 hx h1
    have hq := fun w => Lib.run_eql_slice_nil (P := Try.prog) w 22 3 (some ad) n c 0 0 Try.underlying22
    go_enter Try.func29, Try.ntmps29
    go_wp2_with (at_builtin; refine wpList_append_sl rfl el_int _ _ rfl (xs := []) (news := xs) (R := ownW w) rfl rfl ?c1 ?c2 H1.out ?c3 ?c4 ?_)
    case c1 => exact ((Sat.own w).box _ _).sl_mk (by simp) (Nat.le_refl _) (by simp [maxLen]) (by simp) (by simp)
    case c2 => exact HX.out.below ((Below.refl _ _).alloc (Nat.le_refl _) _)
    case c3 => simp [maxLen]; omega
    case c4 => simpa using hb
    intro ao' n' c' w' Q
    go_wp2
    go_ret
    obtain ⟨q1, q2, q4, q5, q6, q7⟩ := Q.out
    exact ⟨ao', n', c', rfl, ⟨by simpa using q1, ((Same.refl w).alloc _).trans q2⟩, by simpa using q4, q5, q6, by simpa using q7⟩

theorem el_i64 : ElemInfo Try.prog 31 1 8 (.int .i64 0) := ElemInfo.mk (e := 2) Try.underlying31 (by kernel_rfl) rfl (by decide)

set_option maxHeartbeats 800000 in
theorem clone_i64 (v : Value) (xs : List Value) (w : World) (hx : Rd w v 1 xs) (h1 : ∀ u ∈ xs, u.oneCell' = true) (hb : xs.length * 8 ≤ 140737488355328) :
    Calls Try.prog 25 #[v] w (ClonePost v 1 xs w) := by
  obtain ⟨ao, n, c, rfl, g1, g2, g3, g4, g5⟩ := hx
  cases ao with
  | none =>
    obtain rfl := g4 rfl
    obtain rfl : n = 0 := by omega
    obtain rfl : xs = [] := List.eq_nil_of_length_eq_zero (by simpa using g3)
    clear g1 g2 g3 g4 g5 h1 hb
    have hq := fun w => Lib.run_eql_slice_nil (P := Try.prog) w 31 2 Option.none 0 0 0 0 Try.underlying31
    go_enter Try.func25, Try.ntmps25
    go_wp2
    go_ret
    exact ⟨Option.none, 0, 0, rfl, ⟨(Sat.own w).sl_nil 1, Same.refl w⟩, rfl, Nat.le_refl _, by simp [maxLen], by simp⟩
  | some ad =>
    have hx : Rd w (.slice (some ad) n c) 1 xs := ⟨some ad, n, c, rfl, g1, g2, g3, g4, g5⟩
    have HX := Lib.hid hx
    have H1 := Lib.hid h1
    clear g1 g2 g3 g4 g5 hx h1
    have hq := fun w => Lib.run_eql_slice_nil (P := Try.prog) w 31 2 (some ad) n c 0 0 Try.underlying31
    go_enter Try.func25, Try.ntmps25
    go_wp2_with (at_builtin; refine wpList_append_sl rfl el_i64 _ _ rfl (xs := []) (news := xs) (R := ownW w) rfl rfl ?c1 ?c2 H1.out ?c3 ?c4 ?_)
    case c1 => exact ((Sat.own w).box _ _).sl_mk (by simp) (Nat.le_refl _) (by simp [maxLen]) (by simp) (by simp)
    case c2 => exact HX.out.below ((Below.refl _ _).alloc (Nat.le_refl _) _)
    case c3 => simp [maxLen]; omega
    case c4 => simpa using hb
    intro ao' n' c' w' Q
    go_wp2
    go_ret
    obtain ⟨q1, q2, q4, q5, q6, q7⟩ := Q.out
    exact ⟨ao', n', c', rfl, ⟨by simpa using q1, ((Same.refl w).alloc _).trans q2⟩, by simpa using q4, q5, q6, by simpa using q7⟩

end Go.Proofs.Ytlbcfkkeoedhdaa
