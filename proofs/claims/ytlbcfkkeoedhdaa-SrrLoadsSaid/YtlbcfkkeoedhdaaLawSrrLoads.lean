/- The row of SrrLoads. -/
import Derived.Test.YtlbcfkkeoedhdaaRows
import Derived.Test.YtlbcfkkeoedhdaaLaw
import Derived.Test.YtlbcfkkeoedhdaaSrrLoads
import Derived.WalkKit
import Derived.ProofKit
import Derived.OpenShut
import Derived.ShutString
import Derived.ChangeOld
import Derived.Below
import Derived.SizedLaws
import Derived.Carry
import Derived.Lib.SmallJoins
namespace Go.Proofs.Ytlbcfkkeoedhdaa.srrLoads
open Go.ChangeShapes Go.WideShapes Go.ChangeAt Go.RowKit
open Go.ChangeMaps (open_string shut_string)
theorem own : ownKnob Try.prog.godebug = none := by kernel_rfl
theorem laidOut : laidOutB Try.prog = true := by kernel_rfl
set_option maxRecDepth 100000 in
theorem lifted (os : Os) (started : os.Started) (H : Type) (enc : TypeId × Value → H) :
    ReturnsInHanded {} Try.checked os 5 .any (Rows.srrLoadsSpec.pre6 enc Try.prog Try.f5 Rows.srrLoadsRow.domain false) (Rows.srrLoadsSpec.post enc Try.prog Try.f5 false true false false) := by
  refine returnsInHanded_of_change_sized (C := Try.checked) own started (by kernel_rfl) Try.func5
    (ChangeSpec.witness6 (enc := enc) (C := Try.checked) false ⟨#[], #[.slice none 0 0, .int .i64 0, .slice none 0 0, .slice none 0 0, .agg #[.int .i64 0, .int .i64 0, .slice none 0 0]], []⟩ 8 (by kernel_rfl) (by kernel_rfl) (by kernel_rfl) (by kernel_rfl)) ?_
  intro W base args ds gs before hval0 hW hcnd hsz0 _
  have hsz : (DataW.weightsEach Try.prog (Try.f5.params.toList ++ Rows.srrLoadsSpec.plain.varTypes Try.prog) (ds ++ gs)).all (· ≤ reachBytes) = true := hsz0
  have hval : ∀ (j : Nat) t v, Try.f5.params[j]? = some t → args[j]? = some v → Value.okWide Try.prog W .any base t v := hval0
  have hW' := hW
  obtain ⟨p, q, hA0, hV, rfl, hfz, hnd⟩ := hW
  have hA : DataW.TrodAll enc Try.prog W 0 (fun _ => true) true Try.f5.params.toList args.toList ds p := hA0
  rw [Try.params5] at hA hval hsz
  obtain ⟨v0, vs0, d0, ds0, p0, q0, hargs, rfl, rfl, h0, r0⟩ := trodAll_cons hA
  obtain ⟨v1, vs1, d1, ds1, p1, q1, rfl, rfl, rfl, h1, r1⟩ := trodAll_cons r0
  obtain ⟨v2, vs2, d2, ds2, p2, q2, rfl, rfl, rfl, h2, r2⟩ := trodAll_cons r1
  obtain ⟨v3, vs3, d3, ds3, p3, q3, rfl, rfl, rfl, h3, r3⟩ := trodAll_cons r2
  obtain ⟨v4, vs4, d4, ds4, p4, q4, rfl, rfl, rfl, h4, r4⟩ := trodAll_cons r3
  obtain ⟨rfl, rfl, rfl⟩ := trodAll_nil r4
  obtain rfl : args = #[v0, v1, v2, v3, v4] := by cases args; simp_all
  obtain ⟨rfl, rfl⟩ := trodVars_none hV
  obtain ⟨a0, len0, cap0, rfl⟩ := okWide_slice Try.underlying22 (hval 0 22 v0 rfl rfl)
  have k0 := h0
  have lt0 : ∀ x ∈ p0, x.block < W.heap.size := by obtain ⟨m, hm⟩ := k0; exact DataW.trod_lt m _ _ _ hm
  obtain ⟨z0, w0, x0, y0⟩ := open_is Try.underlying22 Try.underlying3 (by kernel_rfl) h0
  have s0 := sized_is hsz (j := 0) (t := 22) rfl rfl Try.underlying22 Try.underlying3 (by kernel_rfl) (B := 8) (by kernel_rfl) h0
  obtain ⟨a1, rfl, rfl, rfl, w1⟩ := open_int Try.underlying3 (hval 1 3 v1 rfl rfl) h1
  obtain ⟨a2, len2, cap2, rfl⟩ := okWide_slice Try.underlying36 (hval 2 36 v2 rfl rfl)
  have k2 := h2
  have lt2 : ∀ x ∈ p2, x.block < W.heap.size := by obtain ⟨m, hm⟩ := k2; exact DataW.trod_lt m _ _ _ hm
  obtain ⟨z2, w2, x2, y2⟩ := open_is Try.underlying36 Try.underlying38 (by kernel_rfl) h2
  have s2 := sized_is hsz (j := 2) (t := 36) rfl rfl Try.underlying36 Try.underlying38 (by kernel_rfl) (B := 2) (by kernel_rfl) h2
  obtain ⟨a3, len3, cap3, rfl⟩ := okWide_slice Try.underlying22 (hval 3 22 v3 rfl rfl)
  have k3 := h3
  have lt3 : ∀ x ∈ p3, x.block < W.heap.size := by obtain ⟨m, hm⟩ := k3; exact DataW.trod_lt m _ _ _ hm
  obtain ⟨z3, w3, x3, y3⟩ := open_is Try.underlying22 Try.underlying3 (by kernel_rfl) h3
  have s3 := sized_is hsz (j := 3) (t := 22) rfl rfl Try.underlying22 Try.underlying3 (by kernel_rfl) (B := 8) (by kernel_rfl) h3
  have k4 := h4
  have lt4 : ∀ x ∈ p4, x.block < W.heap.size := by obtain ⟨m, hm⟩ := k4; exact DataW.trod_lt m _ _ _ hm
  obtain ⟨v4_0, v4_1, v4_2, y4_0, y4_1, y4_2, nf4, rfl, rfl, rfl, t4_0, t4_1, t4_2⟩ := Go.Joins.open_agg3 Try.underlying33 (by kernel_rfl) (by kernel_rfl) (hval 4 33 v4 rfl rfl) h4
  obtain ⟨a4_0, e4_0, -, w4_0⟩ := DataW.trod_int Try.underlying3 t4_0
  obtain rfl : v4_0 = .int .i64 a4_0 := by simpa using e4_0
  obtain ⟨a4_1, e4_1, -, w4_1⟩ := DataW.trod_int Try.underlying2 t4_1
  obtain rfl : v4_1 = .int .i64 a4_1 := by simpa using e4_1
  obtain ⟨a4_2, len4_2, cap4_2, e4_2⟩ := Go.Joins.slice_form Try.underlying31 t4_2
  obtain rfl : v4_2 = .slice a4_2 len4_2 cap4_2 := by simpa using e4_2
  obtain ⟨z4_2, w4_2, x4_2, b4_2⟩ := open_is (d := y4_2.1) (ps := y4_2.2) Try.underlying31 Try.underlying2 (by kernel_rfl) ⟨nf4, t4_2⟩
  clear hA0 hval0 hsz0 hsz
  refine (walk_SrrLoads a0 len0 cap0 z0 a1 a2 len2 cap2 z2 a3 len3 cap3 z3 a4_0 a4_1 a4_2 len4_2 cap4_2 z4_2 W w0 x0 (fun n hn => i64_bounds (y0 n hn)) s0 (i64_bounds w1) w2 x2 (fun n hn => u16_bounds (y2 n hn)) s2 w3 x3 (fun n hn => i64_bounds (y3 n hn)) s3 (i64_bounds w4_0) (i64_bounds w4_1) w4_2 x4_2 (fun n hn => i64_bounds (b4_2 n hn))).mono fun e W' ⟨he, bel⟩ => ?_
  subst he
  exact ⟨_, rfl, _, _, _, [], _, [], hW', trodAll_mk1 (shut_bool Try.underlying4 _), (trodAll_cons_mk (Below.trod laidOut (by kernel_rfl) (of_decide_eq_true (by kernel_rfl)) k0 bel lt0) (trodAll_cons_mk (shut_int Try.underlying3 w1) (trodAll_cons_mk (Below.trod laidOut (by kernel_rfl) (of_decide_eq_true (by kernel_rfl)) k2 bel lt2) (trodAll_cons_mk (Below.trod laidOut (by kernel_rfl) (of_decide_eq_true (by kernel_rfl)) k3 bel lt3) (trodAll_cons_mk (Below.trod laidOut (by kernel_rfl) (of_decide_eq_true (by kernel_rfl)) k4 bel lt4) trodAll_mk0))))), rfl, bel.frame _, fun h => by cases h⟩
theorem over : Rows.srrLoadsRow.holds Try.pinned (OpenSpec.ofChange Rows.srrLoadsSpec) :=
  OpenClaim.holds_of_wide 5 Try.f5 rfl rfl rfl rfl rfl rfl rfl ⟨rfl, rfl, rfl, rfl, rfl⟩ rfl rfl rfl rfl rfl (by kernel_rfl) Try.func5 (by kernel_rfl)
    (of_decide_eq_true (by kernel_rfl)) (by unfold Func.isWrapper; first | (rw [if_pos (by decide +kernel)]; kernel_rfl) | (rw [if_neg (by decide +kernel)]; exact ⟨rfl, rfl⟩))
    (fun os started H enc _ => lifted os started H enc)
theorem proved : Rows.SrrLoadsSaid := over
end Go.Proofs.Ytlbcfkkeoedhdaa.srrLoads
namespace Go.Proofs.Ytlbcfkkeoedhdaa
theorem srrLoads_holds : Rows.SrrLoadsSaid := srrLoads.proved
#print axioms srrLoads_holds
end Go.Proofs.Ytlbcfkkeoedhdaa
