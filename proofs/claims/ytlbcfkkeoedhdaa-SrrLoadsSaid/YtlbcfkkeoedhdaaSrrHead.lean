/- The live question of the laws on turns: its answer is yes. -/
import Derived.Test.YtlbcfkkeoedhdaaSrrRefA
import Derived.Test.YtlbcfkkeoedhdaaLaw
namespace Go.Proofs.Ytlbcfkkeoedhdaa
open Go.RowKit

theorem SentPost.imp {b : Nat} {s s' : SrrS} {n : Int} {F : HP} {w : World} {e : Ending} {w' : World} (h : SentPost b s n F w e w') (hs : s.sent n = s') {r : Bool} (hr : decide (s.round < s'.round) = r) :
    e = .returned (.bool r) ∧ Sat w' (srrRep b s' • F) ∧ Same w w' := by
  subst hs hr
  exact h

theorem sent_lit (b : Nat) (s s' : SrrS) (x : Int) (r : Bool) (F : HP) (w : World) (hI : s.Inv) (hr : 0 ≤ s.round ∧ s.round ≤ 1152921504606846976) (hlen : s.brings.length ≤ 1000000) (h1 : 1 ≤ x) (h2 : x ≤ 2048) (hS : Sat w (srrRep b s • F)) (hs : s.sent x = s') (hrr : decide (s.round < s'.round) = r) :
    Calls Try.prog 12 #[.pointer (some ⟨b, 0, none⟩), .int .i64 x] w fun e w' => e = .returned (.bool r) ∧ Sat w' (srrRep b s' • F) ∧ Same w w' :=
  (sent_ok b s x F w hI hr hlen h1 h2 hS).mono fun _ _ h => h.imp hs hrr

def hs0 : SrrS := ⟨0, 0, [100, 0], [100, 200]⟩
def hs1 : SrrS := ⟨1, 0, [-50, 200], [100, 200]⟩
def hs2 : SrrS := ⟨0, 1, [50, 0], [100, 200]⟩
def hs3 : SrrS := ⟨0, 1, [49, 0], [100, 200]⟩
theorem hs0_new : SrrS.new [1, 2] 100 = hs0 := rfl
theorem hs01 : hs0.sent 150 = hs1 := rfl
theorem hs12 : hs1.sent 200 = hs2 := rfl
theorem hs23 : hs2.sent 1 = hs3 := rfl
theorem ok12 : OkW [1, 2] 100 := by decide
theorem hs0_inv : hs0.Inv := hs0_new ▸ SrrS.new_inv ok12.1 ok12.2.2.1 ok12.2.2.2
theorem hs1_inv : hs1.Inv := hs01 ▸ (SrrS.sent_inv hs0_inv (by decide) (by decide)).1
theorem hs2_inv : hs2.Inv := hs12 ▸ (SrrS.sent_inv hs1_inv (by decide) (by decide)).1
theorem hs3_inv : hs3.Inv := hs23 ▸ (SrrS.sent_inv hs2_inv (by decide) (by decide)).1

def Held (b : Nat) (s : SrrS) (w0 w : World) : Prop := Sat w (srrRep b s • ownW w0) ∧ Same w0 w
theorem Held.sat {b : Nat} {s : SrrS} {w0 w : World} (h : Held b s w0 w) : Sat w (srrRep b s • ownW w0) := h.1
theorem Held.alloc {b : Nat} {s : SrrS} {w0 w : World} (h : Held b s w0 w) (o : Obj) : Held b s w0 (w.alloc o) := ⟨h.1.keep (fun _ hk => Below.heap_alloc _ _ _ hk), h.2.alloc _⟩
theorem Held.made {b : Nat} {s : SrrS} {w0 w w' : World} {A : HP} (h : Held b s w0 w) (hm : Made w w' A) : Held b s w0 w' := ⟨(hm.sat h.1).drop, h.2.trans hm.2⟩

/-- The one that was made, and where it was, in a variable. -/
def Held2 (b : Nat) (s : SrrS) (ao : Option Addr) (c : Nat) (w0 : World) (tb : Nat) (w : World) : Prop := Sat w (pc tb #[.int .i64 s.pos, .int .i64 s.round, .slice ao 2 c] • sl (.slice ao 2 c) 1 (i64s s.left) • srrRep b s • ownW w0) ∧ Same w0 w
theorem Held2.alloc {b : Nat} {s : SrrS} {ao : Option Addr} {c : Nat} {w0 : World} {tb : Nat} {w : World} (h : Held2 b s ao c w0 tb w) (o : Obj) : Held2 b s ao c w0 tb (w.alloc o) := ⟨h.1.keep (fun _ hk => Below.heap_alloc _ _ _ hk), h.2.alloc _⟩
theorem Held2.made {b : Nat} {s : SrrS} {ao : Option Addr} {c : Nat} {w0 : World} {tb : Nat} {w w' : World} {A : HP} (h : Held2 b s ao c w0 tb w) (hm : Made w w' A) : Held2 b s ao c w0 tb w' := ⟨(hm.sat h.1).drop, h.2.trans hm.2⟩
theorem Held2.rd {b : Nat} {s : SrrS} {ao : Option Addr} {c : Nat} {w0 : World} {tb : Nat} {w : World} (h : Held2 b s ao c w0 tb w) : Rd w (.slice ao 2 c) 1 (i64s s.left) := h.1.drop.rd

set_option maxHeartbeats 4000000 in
theorem head_any (w : World) : Calls Try.prog 9 #[] w (LawPost w) := by
  go_enter Try.func9, Try.ntmps9
  go_wp2_with fail
  with_reducible refine (srrNew_any _ _ _ [1, 2] _ _ (Rd.lit w #[.int .i64 1, .int .i64 2] _ 2 rfl (by decide) (by simp))).mono ?_
  rintro e w1 (⟨hno, _⟩ | ⟨_, b, rfl, hm⟩)
  · exact absurd ok12 hno
  have H1 : Hid (Held b hs0 w w1) := ⟨(hs0_new ▸ hm.sat ((Sat.own w).box _ _).drop : _), ((Same.refl w).alloc _).trans hm.2⟩
  clear hm
  go_wp2_with fail
  with_reducible refine (srrNew_any _ _ _ [] _ _ (Rd.nil w1 1)).mono ?_
  rintro e w2 (⟨_, rfl, rfl⟩ | ⟨hyes, _⟩)
  rotate_left
  · exact absurd hyes.1 (by decide)
  go_wp2_with fail
  with_reducible refine (now_any b hs0 _ _ H1.out.sat).mono ?_
  rintro e w2 ⟨rfl, rfl⟩
  go_wp2_with fail
  with_reducible refine (sent_lit b hs0 hs1 _ false _ _ hs0_inv (by decide) (by decide) (by decide) (by decide) H1.out.sat hs01 (by decide)).mono ?_
  rintro e w2 ⟨rfl, hs, hm⟩
  have H2 : Hid (Held b hs1 w w2) := ⟨hs, H1.out.2.trans hm⟩
  clear hs hm H1
  go_wp2_with fail
  with_reducible refine (now_any b hs1 _ _ H2.out.sat).mono ?_
  rintro e w3 ⟨rfl, rfl⟩
  go_wp2_with fail
  with_reducible refine (sent_lit b hs1 hs2 _ true _ _ hs1_inv (by decide) (by decide) (by decide) (by decide) H2.out.sat hs12 (by decide)).mono ?_
  rintro e w3 ⟨rfl, hs, hm⟩
  have H3 : Hid (Held b hs2 w w3) := ⟨hs, H2.out.2.trans hm⟩
  clear hs hm H2
  go_wp2_with fail
  with_reducible refine (sent_lit b hs2 hs3 _ false _ _ hs2_inv (by decide) (by decide) (by decide) (by decide) H3.out.sat hs23 (by decide)).mono ?_
  rintro e w4 ⟨rfl, hs, hm⟩
  have H4 : Hid (Held b hs3 w w4) := ⟨hs, H3.out.2.trans hm⟩
  clear hs hm H3
  go_wp2_with fail
  with_reducible refine (turn_any b hs3 _ _ H4.out.sat (by decide)).mono ?_
  rintro e w5 ⟨ao, n, c, rfl, hm, hn, hc1, hc2⟩
  have hn2 : n = 2 := hn.symm
  subst hn2
  have h5 : Held2 b hs3 ao c w w5.heap.size (w5.alloc (.cells #[.int .i64 hs3.pos, .int .i64 hs3.round, .slice ao 2 c] 33)) := ⟨(hm.sat H4.out.1).box _ _, (H4.out.2.trans hm.2).alloc _⟩
  have H5 := Lib.hid h5
  clear h5 hm H4 hn hc1 hc2
  go_wp2_with fail
  have h6 := H5.out.alloc (.cells #[.int .i64 1, .int .i64 2] 3)
  have H6 := Lib.hid h6
  clear h6
  with_reducible refine (load_any _ _ _ [1, 2] 100 hs3.pos hs3.round ao 2 c hs3.left _ (Rd.lit _ #[.int .i64 1, .int .i64 2] _ 2 rfl (by decide) (by simp)) H6.out.rd).mono ?_
  rintro e w6 (⟨hno, _⟩ | ⟨_, b2, rfl, hm⟩)
  · exact absurd (by refine ⟨ok12, rfl, by decide, by decide, by decide, by decide, fun k hk => ?_⟩; match k, hk with | 0, _ => decide | 1, _ => decide) hno
  have h7 := H6.out.made hm
  have H7 := Lib.hid (And.intro h7 (hm.sat H6.out.1))
  clear h7 hm H5 H6
  go_wp2_with fail
  have h8 := (H7.out.1.alloc (.cells #[.int .i64 1, .int .i64 2] 3)).alloc (.cells #[.int .i64 0, .int .i64 0] 2)
  have H8 := Lib.hid (And.intro h8 ((H7.out.2.keep (fun _ hk => Below.heap_alloc _ (.cells #[.int .i64 1, .int .i64 2] 3) _ hk)).keep (fun _ hk => Below.heap_alloc _ (.cells #[.int .i64 0, .int .i64 0] 2) _ hk)))
  clear h8 H7
  have r1 := (Rd.lit w6 #[.int .i64 1, .int .i64 2] 3 2 rfl (by decide) rfl).alloc (.cells #[.int .i64 0, .int .i64 0] 2)
  have r2 := Rd.lit (w6.alloc (.cells #[.int .i64 1, .int .i64 2] 3)) #[.int .i64 0, .int .i64 0] 2 2 rfl (by decide) (m := w6.heap.size + 1) (by simp)
  with_reducible refine (load_any _ _ _ [1, 2] 100 0 0 _ _ _ [0, 0] _ r1 r2).mono ?_
  rintro e w7 (⟨_, rfl, hm⟩ | ⟨hyes, _⟩)
  rotate_left
  · exact absurd (hyes.2.2.2.2.2.2 0 (by decide)) (by decide)
  have h9 := H8.out.1.made hm
  have h9' := (hm.sat H8.out.2).drop
  have x0 : w7.cell? ⟨w5.heap.size, 0, none⟩ = some (.int .i64 hs3.pos) := by rw [h9.1.cell]; rfl
  have x1 : w7.cell? ⟨w5.heap.size, 1, none⟩ = some (.int .i64 hs3.round) := by rw [h9.1.cell]; rfl
  have x2 : w7.cell? ⟨w5.heap.size, 2, none⟩ = some (.slice ao 2 c) := by rw [h9.1.cell]; rfl
  have H9 := Lib.hid (And.intro h9 h9')
  clear h9 h9' hm H8
  have hq : sameT hs3.pos hs3.round hs3.left 0 1 [49, 0] = true := by decide
  go_wp2_with fail
  have h10 := H9.out.1.alloc (.cells #[.int .i64 49, .int .i64 0] 2)
  have H10 := Lib.hid (And.intro h10 (H9.out.2.keep (fun _ hk => Below.heap_alloc _ (.cells #[.int .i64 49, .int .i64 0] 2) _ hk)))
  have r3 := Rd.lit w7 #[.int .i64 49, .int .i64 0] 2 2 rfl (by decide) rfl
  have r4 := h10.rd
  clear h10 H9
  with_reducible refine (same_any hs3.pos hs3.round _ _ _ hs3.left 0 1 _ _ _ [49, 0] _ r4 r3).mono ?_
  rintro e w8 ⟨rfl, hm⟩
  have h11 := H10.out.1.made hm
  have H11 := Lib.hid (And.intro h11 (hm.sat H10.out.2).drop)
  clear h11 H10 hm r3 r4
  go_wp2_with fail
  have h12 := H11.out.2
  with_reducible refine (now_any b2 _ _ _ h12).mono ?_
  rintro e w9 ⟨rfl, rfl⟩
  clear h12
  go_wp2_with fail
  with_reducible refine (sent_no b 0 _ (by decide)).mono ?_
  rintro e w9 ⟨rfl, rfl⟩
  go_wp2_with fail
  go_ret
  exact ⟨rfl, (H11.out.1.1.drop.drop.drop.perm (sep_emp _).symm).below H11.out.1.2⟩

end Go.Proofs.Ytlbcfkkeoedhdaa
