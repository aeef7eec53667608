/- SrrOne: one alone always has its turn; a round begins each time when what its turn brought has gone. -/
import Derived.Test.YtlbcfkkeoedhdaaSrrHead
import Derived.Test.YtlbcfkkeoedhdaaSrrP
namespace Go.Proofs.Ytlbcfkkeoedhdaa
open Go.RowKit

theorem ik_rd {w : World} {k : IntKind} {ao : Option Addr} {n c : Nat} {l : List Int} (h : Rd w (.slice ao n c) 1 (l.map (Value.int k))) {j : Nat} (hj : j < n) : ∃ g o, ao = some ⟨g, o, none⟩ ∧ l.length = n ∧ w.cell? ⟨g, o + j, none⟩ = some (.int k (gi l j)) ∧ g < w.heap.size := by
  have hn : l.length = n := by simpa using h.len.1
  obtain ⟨g, o, n', c', he, _, _, _, hg, hc⟩ := h.at (by simp; omega)
  cases he
  refine ⟨g, o, rfl, hn, ?_, hg⟩
  rw [hc j (by simp; omega)]
  simp [gi_eq, show j < l.length by omega]

theorem sat_below {w w' : World} (h : Below w.heap.size w w') : Sat w' (ownW w) := (Sat.own w).keep fun _ hk => h.block _ hk
theorem same_below {w w' : World} {B : Nat} (h : Below B w w') : Same w w' := ⟨h.os, h.tape, h.output, h.size⟩

def OneRel (b : Nat) (B : Int) (sum : Int) (w : World) (k : Nat) (wr : World) : Prop :=
  ∃ s : SrrS, s.Inv ∧ s.brings = [B] ∧ SrrS.Acc [sum] s ∧ 0 ≤ s.round ∧ s.round ≤ 2048 * k ∧ 0 ≤ sum ∧ sum ≤ 2048 * k ∧ Sat wr (srrRep b s • ownW w) ∧ Same w wr

theorem OneRel.start {b : Nat} {x q : Int} {w w1 : World} (hok : OkW [x] q) (hS : Sat w1 (srrRep b (SrrS.new [x] q) • ownW w)) (hm : Same w w1) : OneRel b (x * q) 0 w 0 w1 :=
  ⟨_, SrrS.new_inv hok.1 hok.2.2.1 hok.2.2.2, by simp [SrrS.new], SrrS.acc_new [x] q (by simp), by simp [SrrS.new], by simp [SrrS.new], by omega, by omega, hS, hm⟩

def OneSent (b : Nat) (B sum x : Int) (w : World) (k : Nat) (e : Ending) (w' : World) : Prop :=
  e = .returned (.bool (decide (sum / B < (sum + x) / B))) ∧ OneRel b B (sum + x) w (k + 1) w'

theorem OneRel.sent {b : Nat} {B sum x : Int} {w wr : World} {k : Nat} (h : OneRel b B sum w k wr) (hk : k ≤ 400) (h1 : 1 ≤ x) (h2 : x ≤ 2048) (w2 : World) (hw : w2 = wr ∨ w2 = wr.drew) :
    Calls Try.prog 12 #[.pointer (some ⟨b, 0, none⟩), .int .i64 x] w2 (OneSent b B sum x w k) := by
  have h : OneRel b B sum w k w2 := by
    rcases hw with rfl | rfl
    · exact h
    · obtain ⟨s, hI, hb, ha, hr0, hr, hs0, hs, hS, hm⟩ := h
      exact ⟨s, hI, hb, ha, hr0, hr, hs0, hs, hS, hm.drew⟩
  obtain ⟨s, hI, hb, ha, hr0, hr, hs0, hs, hS, hm⟩ := h
  refine (sent_ok b s x (ownW w) w2 hI ⟨hr0, by omega⟩ (by rw [hb]; simp) h1 h2 hS).mono ?_
  rintro e w' ⟨rfl, hS', hm'⟩
  obtain ⟨hI', hb'⟩ := SrrS.sent_inv hI h1 h2
  have hp : s.pos = 0 := (SrrS.one_round hI hb ha).2.1
  have ha' := SrrS.acc_sent hI ha h1 h2
  rw [hp] at ha'
  have ha'' : SrrS.Acc [sum + x] (s.sent x) := ha'
  obtain ⟨e1, _, hB⟩ := SrrS.one_round hI hb ha
  obtain ⟨e2, _, _⟩ := SrrS.one_round hI' (hb'.trans hb) ha''
  refine ⟨by rw [← e1, ← e2], s.sent x, hI', hb'.trans hb, ha'', ?_, ?_, by omega, by omega, hS', hm.trans hm'⟩
  · rw [e2]; exact Int.ediv_nonneg (by omega) (by omega)
  · rw [e2]
    have : (sum + x) / B ≤ sum + x := Int.ediv_le_self _ (by omega)
    omega

theorem OneRel.now {b : Nat} {B sum : Int} {w wr : World} {k : Nat} (h : OneRel b B sum w k wr) (w2 : World) (hw : w2 = wr) :
    Calls Try.prog 14 #[.pointer (some ⟨b, 0, none⟩)] w2 fun e w' => e = .returned (.int .i64 0) ∧ w2 = w' := by
  subst hw
  obtain ⟨s, hI, hb, ha, hr0, hr, hs0, hs, hS, hm⟩ := h
  refine (now_any b s _ w2 hS).mono ?_
  rintro e w' ⟨rfl, rfl⟩
  exact ⟨by rw [(SrrS.one_round hI hb ha).2.1]; rfl, rfl⟩

def OneTurn (B sum : Int) (w : World) (e : Ending) (w' : World) : Prop := ∃ ao n c, e = .returned (.agg #[.int .i64 0, .int .i64 (sum / B), .slice ao n c]) ∧ Below w.heap.size w w'
theorem OneRel.turn {b : Nat} {B sum : Int} {w wr : World} {k : Nat} (h : OneRel b B sum w k wr) (w2 : World) (hw : w2 = wr.drew) :
    Calls Try.prog 17 #[.pointer (some ⟨b, 0, none⟩)] w2 (OneTurn B sum w) := by
  subst hw
  obtain ⟨s, hI, hb, ha, hr0, hr, hs0, hs, hS, hm⟩ := h
  refine (turn_any b s _ wr.drew hS (by rw [hI.len, hb]; simp)).mono ?_
  rintro e w' ⟨ao, n, c, rfl, hM, _⟩
  obtain ⟨e1, e2, _⟩ := SrrS.one_round hI hb ha
  refine ⟨ao, n, c, by rw [e1, e2]; rfl, ?_⟩
  exact ((hM.sat (Sat.drew hS)).drop.perm (sep_comm _ _)).below (hm.drew.trans hM.2)

set_option maxHeartbeats 4000000 in
theorem walk_SrrOne (a q : Int) (ao : Option Addr) (n c : Nat) (zs : List Int) (w : World) (ha : 0 ≤ a ∧ a ≤ 255) (hq : 0 ≤ q ∧ q ≤ 65535) (hx : Rd w (.slice ao n c) 1 (zs.map (Value.int .u16))) (hl : zs.length = n) (hz : ∀ x ∈ zs, 0 ≤ x ∧ x ≤ 65535) (_ : n * 2 ≤ 140737488351232) :
    Calls Try.prog 7 #[.int .u8 a, .int .u16 q, .slice ao n c] w (LawPost w) := by
  obtain ⟨ha0, ha1⟩ := ha
  obtain ⟨hq0, hq1⟩ := hq
  have HX := Lib.hid hx
  have HZ := Lib.hid hz
  have HN : Hid (zs.length = n) := hl
  have hn : n ≤ 9223372036854775807 := by have := hx.len; unfold maxLen at this; omega
  have hok : OkW [1 + a] (1 + q % 3000) := by
    refine ⟨by simp, by simp, fun x hx => ?_, by omega, by omega⟩
    simp at hx
    omega
  have HO := Lib.hid hok
  have hB1 : 1 * 1 ≤ (1 + a) * (1 + q % 3000) := Int.mul_le_mul (by omega) (by omega) (by omega) (by omega)
  have hB2 : (1 + a) * (1 + q % 3000) ≤ 256 * 3000 := Int.mul_le_mul (by omega) (by omega) (by omega) (by omega)
  clear hx hz hok hl
  go_enter Try.func7, Try.ntmps7
  go_wp2_with fail
  with_reducible refine (head_any w).mono ?_
  rintro e w1 ⟨rfl, hb1⟩
  have H1 := Lib.hid hb1
  clear hb1
  go_wp2_with fail
  with_reducible refine (srrNew_any _ _ _ [1 + a] _ _ (Rd.lit w1 #[.int .i64 (1 + a)] _ 1 rfl (by decide) rfl)).mono ?_
  rintro e w2 (⟨hno, _⟩ | ⟨_, b, rfl, hm⟩)
  · exact absurd HO.out hno
  have h2 : OneRel b ((1 + a) * (1 + q % 3000)) 0 w 0 w2 :=
    OneRel.start HO.out (hm.sat ((sat_below H1.out).keep (fun _ hk => Below.heap_alloc _ _ _ hk))) (((same_below H1.out).alloc _).trans hm.2)
  have H2 := Lib.hid h2
  clear h2 hm H1
  by_cases hn4 : 400 < n
  · go_wp2_with fail
    go_ret
    obtain ⟨s, _, _, _, _, _, _, _, hS, hsm⟩ := H2.out
    exact ⟨rfl, (hS.perm (sep_comm _ _)).below hsm⟩
  · go_wp2_with fail
    go_loopg [11, 12] n (fun m v i wr => ∃ k : Nat, ∃ sum : Int, m = n - k ∧ k ≤ n ∧ i = .int .i64 k ∧ v = .int .i64 sum ∧ OneRel b ((1 + a) * (1 + q % 3000)) sum w k wr)
    case atStart => exact ⟨0, 0, rfl, Nat.zero_le _, rfl, rfl, H2.out⟩
    case round =>
      clear H2
      obtain ⟨k, sum, rfl, hk, rfl, rfl, hR⟩ := hrel
      have hs0 : 0 ≤ sum ∧ sum ≤ 2048 * k ∧ Sat wr (ownW w) ∧ Same w wr := by
        obtain ⟨s, _, _, _, _, _, h1, h2, h3, h4⟩ := hR
        exact ⟨h1, h2, h3.drop, h4⟩
      obtain ⟨hs1, hs2, how, hsm⟩ := hs0
      have HR := Lib.hid hR
      by_cases hkn : k < n
      · obtain ⟨g, o, rfl, _, hck, _⟩ := ik_rd (HX.out.own0 hsm how) hkn
        have hzk := HZ.out (gi zs k) (gi_mem (by have := HN.out; omega))
        obtain ⟨hz1, hz2⟩ := hzk
        clear hR how hsm
        have hd1 : Int.tdiv (sum + (1 + gi zs k % 2048)) ((1 + a) * (1 + q % 3000)) = (sum + (1 + gi zs k % 2048)) / ((1 + a) * (1 + q % 3000)) := Int.tdiv_eq_ediv_of_nonneg (by omega)
        have hB0 : ((1 + a) * (1 + q % 3000) == 0) = false := by simp; omega
        have hw1 : IntKind.i64.wrap ((1 + a) * (1 + q % 3000)) = (1 + a) * (1 + q % 3000) := IntWalk.i64_in _ (by omega)
        have hw2 : wrap64 ((1 + a) * (1 + q % 3000)) = (1 + a) * (1 + q % 3000) := by unfold wrap64; omega
        have hq0 : 0 ≤ (sum + (1 + gi zs k % 2048)) / ((1 + a) * (1 + q % 3000)) := Int.ediv_nonneg (by omega) (by omega)
        have hq1 : (sum + (1 + gi zs k % 2048)) / ((1 + a) * (1 + q % 3000)) ≤ sum + (1 + gi zs k % 2048) := Int.ediv_le_self _ (by omega)
        have hw3 : IntKind.i64.wrap ((sum + (1 + gi zs k % 2048)) / ((1 + a) * (1 + q % 3000))) = (sum + (1 + gi zs k % 2048)) / ((1 + a) * (1 + q % 3000)) := IntWalk.i64_in _ (by omega)
        have hw4 : wrap64 ((sum + (1 + gi zs k % 2048)) / ((1 + a) * (1 + q % 3000))) = (sum + (1 + gi zs k % 2048)) / ((1 + a) * (1 + q % 3000)) := by unfold wrap64; omega
        go_wp2_with fail
        have hBne : ¬ (1 + a) * (1 + q % 3000) = 0 := by omega
        go_region_held3 (fun _ => True) (trivial) (first
          | (go_at_call 12; refine (HR.out.sent (by omega) (by omega) (by omega) _ ?_).mono ?_; exact Or.inr rfl; rintro e w' ⟨rfl, hr⟩; have HR2 := Lib.hid hr; clear hr)
          | (go_at_call 14; refine (HR2.out.now _ ?_).mono ?_; rfl; rintro e w'' ⟨rfl, rfl⟩))
        all_goals go_wp2_with fail
        all_goals go_roundg (n - (k + 1))
        all_goals first | omega | exact ⟨k + 1, _, rfl, by omega, by go_num, rfl, HR2.out⟩
      · have e : k = n := by omega
        subst e
        clear hR how hsm
        have hd1 : Int.tdiv sum ((1 + a) * (1 + q % 3000)) = sum / ((1 + a) * (1 + q % 3000)) := Int.tdiv_eq_ediv_of_nonneg (by omega)
        have hB0 : ((1 + a) * (1 + q % 3000) == 0) = false := by simp; omega
        have hw1 : IntKind.i64.wrap ((1 + a) * (1 + q % 3000)) = (1 + a) * (1 + q % 3000) := IntWalk.i64_in _ (by omega)
        have hw2 : wrap64 ((1 + a) * (1 + q % 3000)) = (1 + a) * (1 + q % 3000) := by unfold wrap64; omega
        have hq0 : 0 ≤ sum / ((1 + a) * (1 + q % 3000)) := Int.ediv_nonneg (by omega) (by omega)
        have hq1 : sum / ((1 + a) * (1 + q % 3000)) ≤ sum := Int.ediv_le_self _ (by omega)
        have hw3 : IntKind.i64.wrap (sum / ((1 + a) * (1 + q % 3000))) = sum / ((1 + a) * (1 + q % 3000)) := IntWalk.i64_in _ (by omega)
        have hw4 : wrap64 (sum / ((1 + a) * (1 + q % 3000))) = sum / ((1 + a) * (1 + q % 3000)) := by unfold wrap64; omega
        go_wp2_with fail
        have hBne : ¬ (1 + a) * (1 + q % 3000) = 0 := by omega
        have hfd : ∀ (r : Int) (ao : Option Addr) (n c : Nat) (w : World), (Instr.field 33 (.agg #[.int .i64 0, .int .i64 r, .slice ao n c]) 1).run Try.prog w = .ok (.int .i64 r) w := fun _ _ _ _ _ => by kernel_rfl
        go_region_held3 (fun _ => True) (trivial) ((go_at_call 17; (refine (HR.out.turn _ ?_).mono ?_); rfl; rintro e w' ⟨ao', n', c', rfl, hr⟩; have HR2 := Lib.hid hr; clear hr))
        all_goals go_wp2_with fail
        all_goals go_ret
        all_goals exact ⟨rfl, HR2.out⟩

end Go.Proofs.Ytlbcfkkeoedhdaa
