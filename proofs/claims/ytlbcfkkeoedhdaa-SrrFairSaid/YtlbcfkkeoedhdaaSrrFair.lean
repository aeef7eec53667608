/- SrrFair: in any row of packets that go one behind the other no two members are further apart than their bound. -/
import Derived.Test.YtlbcfkkeoedhdaaSrrRounds
import Derived.Test.YtlbcfkkeoedhdaaSrrG
import Derived.Deep.QuietTactic
import Derived.BigQuiet
namespace Go.Proofs.Ytlbcfkkeoedhdaa
open Go.RowKit

set_option maxHeartbeats 1600000 in
set_option maxRecDepth 100000 in
theorem walk_SrrFair_big (ao : Option Addr) (n c : Nat) (q : Int) (bo : Option Addr) (m d : Nat) (w : World) (hn : n ≤ 9223372036854775807) (hm : m ≤ 9223372036854775807) (h : 900 < n ∨ n ≤ 900 ∧ 90 < m) :
    Calls Try.prog 4 #[.slice ao n c, .int .i64 q, .slice bo m d] w (LawPost w) := by
  rcases h with h | ⟨h0, h⟩ <;>
  · go_enter Try.func4, Try.ntmps4
    go_wp2_with fail
    (with_reducible refine (head_any w).mono ?_)
    rintro e w1 ⟨rfl, hb1⟩
    have H1 := Lib.hid hb1
    clear hb1
    go_wp2_with fail
    go_ret
    exact ⟨rfl, H1.out⟩

set_option maxHeartbeats 1600000 in
set_option maxRecDepth 100000 in
theorem walk_SrrFair_no (ao : Option Addr) (n c : Nat) (ws : List Int) (q : Int) (bo : Option Addr) (m d : Nat) (w : World) (hx : Rd w (.slice ao n c) 1 (i64s ws)) (hn : n ≤ 900) (hm : m ≤ 90) (hno : ¬ OkW ws q) :
    Calls Try.prog 4 #[.slice ao n c, .int .i64 q, .slice bo m d] w (LawPost w) := by
  have HX := Lib.hid hx
  have hd : decide (OkW ws q) = false := by simpa using hno
  have HO := Lib.hid hno
  clear hx hno
  go_enter Try.func4, Try.ntmps4
  go_wp2_with fail
  (with_reducible refine (head_any w).mono ?_)
  rintro e w1 ⟨rfl, hb1⟩
  have H1 := Lib.hid hb1
  have HX1 := Lib.hid (HX.out.below hb1)
  clear hb1
  go_wp2_with fail
  (with_reducible refine (srrNew_any _ _ _ _ _ _ HX1.out).mono ?_)
  rintro e w2 (⟨_, rfl, rfl⟩ | ⟨hyes, _⟩)
  rotate_left
  · exact absurd hyes HO.out
  go_wp2_with fail
  (with_reducible refine (right_any _ _ _ _ _ _ HX1.out).mono ?_)
  rintro e w2 ⟨rfl, rfl⟩
  go_wp2_with fail
  go_ret
  exact ⟨rfl, H1.out⟩

/-- What holds at the head of a round in which a packet goes. -/
def FairRel (b : Nat) (ws : List Int) (q : Int) (zs : List Int) (w : World) (k : Nat) (v u : Value) (wr : World) : Prop :=
  ∃ a9 n9 c9 a10 n10 c10, v = .slice a9 n9 c9 ∧ u = .slice a10 n10 c10 ∧
    Sat wr (sl (.slice a9 n9 c9) 1 (i64s (SrrS.whoL ws q zs k)) • sl (.slice a10 n10 c10) 1 (i64s (SrrS.manyL zs k)) • srrRep b (SrrS.crs ws q zs k) • ownW w) ∧ Same w wr

/-- Behind them: rows of packets. -/
def FairIn (ws : List Int) (q : Int) (zs : List Int) (m : Nat) (v u : Value) (w wr : World) : Prop :=
  Sat wr (sl v 1 (i64s (SrrS.whoL ws q zs m)) • sl u 1 (i64s (SrrS.manyL zs m)) • ownW w) ∧ Same w wr
/-- Inside a row. -/
def FairRow (ws : List Int) (q : Int) (zs : List Int) (m f t : Nat) (x v u : Value) (w wr : World) : Prop :=
  Sat wr (sl x 1 (i64s (SrrS.rowSums ws q zs f t)) • sl v 1 (i64s (SrrS.whoL ws q zs m)) • sl u 1 (i64s (SrrS.manyL zs m)) • ownW w) ∧ Same w wr
theorem FairRow.drewN {ws : List Int} {q : Int} {zs : List Int} {m f t : Nat} {x v u : Value} {w wr : World} (h : FairRow ws q zs m f t x v u w wr) : ∀ k, FairRow ws q zs m f t x v u w (wr.drewN k) := fun _ => ⟨h.1, ⟨h.2.os, h.2.tape, h.2.output, h.2.size⟩⟩

theorem bound_q (a b q m : Int) (w : World) (k : Nat) (ha : 1 ≤ a ∧ a ≤ 1000) (hb : 1 ≤ b ∧ b ≤ 1000) (hq : 1 ≤ q ∧ q ≤ 65536) (hm : 0 ≤ m ∧ m ≤ 2048) :
    Calls Try.prog 20 #[.int .i64 a, .int .i64 b, .int .i64 q, .int .i64 m] (w.drewN k) fun e w' => e = .returned (.int .i64 (bound a b q m)) ∧ w' = w.drewN k :=
  (bound_ok a b q m (w.drewN k) ha hb hq hm).mono fun _ _ h => ⟨h.1, h.2.symm⟩

set_option maxHeartbeats 8000000 in
set_option maxRecDepth 100000 in
theorem walk_SrrFair_yes (ao : Option Addr) (n c : Nat) (ws : List Int) (q : Int) (bo : Option Addr) (m d : Nat) (zs : List Int) (w : World) (hx : Rd w (.slice ao n c) 1 (i64s ws)) (hy : Rd w (.slice bo m d) 1 (zs.map (Value.int .u16)))
    (hz : ∀ x ∈ zs, 0 ≤ x ∧ x ≤ 65535) (hm : m ≤ 90) (hok : OkW ws q) :
    Calls Try.prog 4 #[.slice ao n c, .int .i64 q, .slice bo m d] w (LawPost w) := by
  have HX := Lib.hid hx
  have HY := Lib.hid hy
  have HZ := Lib.hid hz
  have HO := Lib.hid hok
  have HN : Hid (ws.length = n) := by show ws.length = n; simpa [i64s] using hx.len.1
  have HM : Hid (zs.length = m) := by show zs.length = m; simpa using hy.len.1
  have hn16 : n ≤ 16 := by have := hok.2.1; have := HN.out; omega
  have hn1 : 1 ≤ n := by have := hok.1; have := HN.out; omega
  obtain ⟨te, mc, hmk, hmc⟩ := make_fact el_i64 rfl n (by omega) (by omega)
  have HC : Hid (∀ k, _) := fun k => SrrS.crs_ok zs hok.1 hok.2.2.1 hok.2.2.2 k
  have HMK := Lib.hid hmk
  clear hx hy hz hok hmk
  go_enter Try.func4, Try.ntmps4
  go_wp2_with fail
  (with_reducible refine (head_any w).mono ?_)
  rintro e w1 ⟨rfl, hb1⟩
  have H1 := Lib.hid hb1
  have HX1 := Lib.hid (HX.out.below hb1)
  clear hb1
  go_wp2_with fail
  (with_reducible refine (srrNew_any _ _ _ _ _ _ HX1.out).mono ?_)
  rintro e w2 (⟨hno, _⟩ | ⟨_, b, rfl, hM⟩)
  · exact absurd HO.out hno
  have h2 : FairRel b ws q zs w 0 (.slice none 0 0) (.slice none 0 0) w2 :=
    ⟨none, 0, 0, none, 0, 0, rfl, rfl, ((hM.sat (sat_below H1.out)).sl_nil 1).sl_nil 1, (same_below H1.out).trans hM.2⟩
  have H2 := Lib.hid h2
  clear h2 hM H1 HX1
  go_wp2_with fail
  go_loopg [9, 10, 11, 12] m (fun g v9 v10 v11 v12 wr => ∃ k : Nat, g = m - k ∧ k ≤ m ∧ v12 = .int .i64 k ∧ v11 = .int .i64 (SrrS.most zs k) ∧ FairRel b ws q zs w k v9 v10 wr)
  case atStart => exact ⟨0, rfl, Nat.zero_le _, rfl, rfl, H2.out⟩
  case round =>
    clear H2
    obtain ⟨k, rfl, hk, rfl, rfl, a9, n9, c9, a10, n10, c10, rfl, rfl, hS, hsm⟩ := hrel
    by_cases hkm : k < m
    · obtain ⟨hI, hbr, hAc, hr0, hr1, _, _⟩ := HC.out k
      obtain ⟨s, hs⟩ : ∃ s, SrrS.crs ws q zs k = s := ⟨_, rfl⟩
      rw [hs] at hI hbr hAc hr0 hr1 hS
      have hsl : s.brings.length = n := by rw [hbr]; simp; exact HN.out
      have hpos : s.pos < n := hsl ▸ hI.pos
      have hr2 : s.round ≤ 32768 * 90 := by
        have : (ws.length : Int) * 2048 * k ≤ 16 * 2048 * 90 := by
          have := HN.out
          exact Int.mul_le_mul (by omega) (by omega) (by omega) (by omega)
        omega
      obtain ⟨g, o, rfl, _, hck, _⟩ := ik_rd (HY.out.own0 hsm hS.drop.drop.drop) hkm
      have hzk := HZ.out (gi zs k) (gi_mem (by have := HM.out; omega))
      obtain ⟨hz1, hz2⟩ := hzk
      have hmo := SrrS.most_bd zs k
      obtain ⟨mo, hmoe⟩ : ∃ x, SrrS.most zs k = x := ⟨_, rfl⟩
      rw [hmoe] at hmo
      rw [hmoe]
      obtain ⟨hmo1, hmo2⟩ := hmo
      have HS := Lib.hid (And.intro hI (And.intro hS hsm))
      have HE := Lib.hid (And.intro hs hmoe)
      have HL := Lib.hid hsl
      have hS0 : Sat wr (srrRep b s • sl (.slice a9 n9 c9) 1 (i64s (SrrS.whoL ws q zs k)) • sl (.slice a10 n10 c10) 1 (i64s (SrrS.manyL zs k)) • ownW w) := hS.perm (by ac_rfl)
      have hp1 : decide ((s.pos : Int) < 0) = false := by simp
      have hp2 : decide (n ≤ s.pos) = false := by simp; omega
      clear hI hbr hAc hr1 hS hsm hs hmoe hsl
      go_wp2_with fail
      (with_reducible refine (now_any b s _ _ hS0).mono ?_)
      rintro e w3 ⟨rfl, rfl⟩
      clear hS0
      go_wp2_with (at_builtin; refine wpList_append_sl (o := ⟨some 68, _, _, _, _, _⟩) rfl el_int _ _ rfl (xs := i64s (SrrS.whoL ws q zs k)) (news := [.int .i64 s.pos]) (R := pc wr.heap.size #[.int .i64 s.pos] • sl (.slice a10 n10 c10) 1 (i64s (SrrS.manyL zs k)) • srrRep b s • ownW w) rfl rfl ?c1 ?c2 ?c3 ?c4 ?c5 ?_)
      case c1 => exact (HS.out.2.1.box _ _).perm (by ac_rfl)
      case c2 => exact Rd.box _ _ _
      case c3 => simp [Value.oneCell']
      case c4 => simp [i64s, SrrS.whoL_len, maxLen]; omega
      case c5 => simp [i64s, SrrS.whoL_len]; omega
      intro a9' n9' c9' w4 Q4
      go_wp2_with (at_builtin; refine wpList_append_sl (o := ⟨some 72, _, _, _, _, _⟩) rfl el_i64 _ _ rfl (xs := i64s (SrrS.manyL zs k)) (news := [.int .i64 (1 + gi zs k % 2048)]) (R := pc w4.heap.size #[.int .i64 (1 + gi zs k % 2048)] • sl (.slice a9' n9' c9') 1 (i64s (SrrS.whoL ws q zs (k + 1))) • srrRep b s • ownW w) rfl rfl ?d1 ?d2 ?d3 ?d4 ?d5 ?_)
      case d1 =>
        have e : i64s (SrrS.whoL ws q zs (k + 1)) = i64s (SrrS.whoL ws q zs k) ++ [.int .i64 s.pos] := by rw [SrrS.whoL_succ, HE.out.1]; simp [i64s]
        rw [e]
        exact (((Q4.out.1.perm (by ac_rfl : _ = pc wr.heap.size #[.int .i64 s.pos] • (sl (.slice a9' n9' c9') 1 (i64s (SrrS.whoL ws q zs k) ++ [.int .i64 s.pos]) • sl (.slice a10 n10 c10) 1 (i64s (SrrS.manyL zs k)) • srrRep b s • ownW w))).drop).box _ _).perm (by ac_rfl)
      case d2 => exact Rd.box _ _ _
      case d3 => simp [Value.oneCell']
      case d4 => simp [i64s, SrrS.manyL_len, maxLen]; omega
      case d5 => simp [i64s, SrrS.manyL_len]; omega
      intro a10' n10' c10' w5 Q5
      have h5 : Sat w5 (srrRep b s • sl (.slice a9' n9' c9') 1 (i64s (SrrS.whoL ws q zs (k + 1))) • sl (.slice a10' n10' c10') 1 (i64s (SrrS.manyL zs (k + 1))) • ownW w) := by
        have e : i64s (SrrS.manyL zs (k + 1)) = i64s (SrrS.manyL zs k) ++ [.int .i64 (1 + gi zs k % 2048)] := by rw [SrrS.manyL_succ]; simp [i64s, SrrS.pkt]
        rw [e]
        exact ((Q5.out.1.perm (by ac_rfl : _ = pc w4.heap.size #[.int .i64 (1 + gi zs k % 2048)] • (sl (.slice a10' n10' c10') 1 (i64s (SrrS.manyL zs k) ++ [.int .i64 (1 + gi zs k % 2048)]) • sl (.slice a9' n9' c9') 1 (i64s (SrrS.whoL ws q zs (k + 1))) • srrRep b s • ownW w))).drop).perm (by ac_rfl)
      have m5 : Same w w5 := ((HS.out.2.2.alloc _).trans Q4.out.2.1).alloc _ |>.trans Q5.out.2.1
      have H5 := Lib.hid (And.intro h5 m5)
      have hx1 : 1 ≤ 1 + gi zs k % 2048 := by omega
      have hx2 : 1 + gi zs k % 2048 ≤ 2048 := by omega
      have hs' : s.sent (1 + gi zs k % 2048) = SrrS.crs ws q zs (k + 1) := by rw [← HE.out.1]; rfl
      have HSS := Lib.hid hs'
      clear h5 m5 hs' Q4 Q5
      go_wp2_with fail
      all_goals
        (with_reducible refine (sent_lit b s (SrrS.crs ws q zs (k + 1)) _ _ _ _ HS.out.1 ⟨hr0, ?_⟩ ?_ hx1 hx2 H5.out.1 HSS.out rfl).mono ?_)
        · omega
        · have := HL.out; omega
        rintro e w6 ⟨rfl, hS6, hm6⟩
        have H6 : Hid (FairRel b ws q zs w (k + 1) (.slice a9' n9' c9') (.slice a10' n10' c10') w6) := ⟨_, _, _, _, _, _, rfl, rfl, hS6.perm (by ac_rfl), H5.out.2.trans hm6⟩
        clear hS6 hm6
        go_wp2_with fail
        go_roundg (m - (k + 1))
        case measure => omega
        case rel => exact ⟨k + 1, rfl, by omega, by go_num, by rw [show SrrS.most zs (k + 1) = max (SrrS.most zs k) (SrrS.pkt zs k) from rfl, HE.out.2]; unfold SrrS.pkt; go_num, H6.out⟩
    · have e : k = m := by omega
      subst e
      have l9 : n9 = k := by have := hS.left.perm (sep_emp _).symm |>.rd.len.1; simpa [i64s, SrrS.whoL_len] using this.symm
      subst l9
      have h3 : FairIn ws q zs n9 (.slice a9 n9 c9) (.slice a10 n10 c10) w wr := ⟨(hS.perm (by ac_rfl : _ = srrRep b (SrrS.crs ws q zs n9) • (sl (.slice a9 n9 c9) 1 (i64s (SrrS.whoL ws q zs n9)) • sl (.slice a10 n10 c10) 1 (i64s (SrrS.manyL zs n9)) • ownW w))).drop, hsm⟩
      have H3 := Lib.hid h3
      have hmb := SrrS.most_bd zs n9
      obtain ⟨mo, hmoe⟩ : ∃ x, SrrS.most zs n9 = x := ⟨_, rfl⟩
      rw [hmoe] at hmb
      rw [hmoe]
      obtain ⟨hmo1, hmo2⟩ := hmb
      have HE := Lib.hid hmoe
      clear hS hsm h3 hmoe hk
      go_wp2_with fail
      go_loopg [15] n9 (fun g v15 wr => ∃ f : Nat, g = n9 - f ∧ f ≤ n9 ∧ v15 = .int .i64 f ∧ FairIn ws q zs n9 (.slice a9 n9 c9) (.slice a10 n10 c10) w wr)
      case atStart => exact ⟨0, rfl, Nat.zero_le _, rfl, H3.out⟩
      case round =>
        clear H3
        obtain ⟨f, rfl, hf, rfl, hI⟩ := hrel
        by_cases hfm : f < n9
        · have HI := Lib.hid hI
          clear hI
          have hmk := HMK.out
          go_wp2_with fail
          have h4 : FairRow ws q zs n9 f f (.slice (some ⟨wr.heap.size, 0, none⟩) n n) (.slice a9 n9 c9) (.slice a10 n10 c10) w (wr.alloc (.cells mc te)) :=
            ⟨HI.out.1.boxsl (n := n) (mc := mc) te (xs := i64s (SrrS.rowSums ws q zs f f)) (by rw [hmc.out, SrrS.rowSums_self, HN.out]; simp [i64s]) (by simp [i64s, SrrS.rowSums_len]; exact HN.out) (by omega), HI.out.2.alloc _⟩
          have H4 := Lib.hid h4
          generalize wr.heap.size = sb at *
          clear h4 HI hmk
          go_loopg [17] (n9 - f) (fun g v17 wr => ∃ t : Nat, g = n9 - t ∧ f ≤ t ∧ t ≤ n9 ∧ v17 = .int .i64 t ∧ FairRow ws q zs n9 f t (.slice (some ⟨sb, 0, none⟩) n n) (.slice a9 n9 c9) (.slice a10 n10 c10) w wr)
          case atStart => exact ⟨f, rfl, Nat.le_refl _, by omega, rfl, H4.out⟩
          case round =>
            clear H4
            obtain ⟨t, rfl, hft, ht, rfl, hI⟩ := hrel
            by_cases htm : t < n9
            · obtain ⟨p, hp⟩ : ∃ p, (SrrS.crs ws q zs t).pos = p := ⟨_, rfl⟩
              have hpn : p < n := by
                have h := (HC.out t).1.pos
                rw [(HC.out t).2.1, hp] at h
                simpa [HN.out] using h
              obtain ⟨gw, ow, rfl, _, hcw, _⟩ := gi_rd hI.1.drop.rd htm
              have l10 : n10 = n9 := by have := hI.1.drop.drop.rd.len.1; simpa [i64s, SrrS.manyL_len] using this.symm
              obtain ⟨gm, om, rfl, _, hcm, _⟩ := gi_rd (k := t) hI.1.drop.drop.rd (by omega)
              rw [show gi (SrrS.whoL ws q zs n9) t = ((SrrS.crs ws q zs t).pos : Int) from SrrS.gi_range _ htm, hp] at hcw
              rw [show gi (SrrS.manyL zs n9) t = SrrS.pkt zs t from SrrS.gi_range _ htm] at hcm
              obtain ⟨gs, os, hgs, _, hcs, _⟩ := gi_rd hI.1.rd hpn
              cases hgs
              rw [Nat.zero_add, show gi (SrrS.rowSums ws q zs f t) p = SrrS.rowSum ws q zs f t p from SrrS.gi_range _ (by have := HN.out; omega)] at hcs
              obtain ⟨_, _, _, _, he, _, _, _, _, _, hfz⟩ := hI.1.sl_at (by simp [i64s, SrrS.rowSums_len]; have := HN.out; omega)
              cases he
              have hfp := hfz p
              have hrs := SrrS.rowSum_bd (zs := zs) HO.out.1 HO.out.2.2.1 HO.out.2.2.2 hft (show p < ws.length by have := HN.out; omega) (show t ≤ 90 by omega)
              have hpk := SrrS.pkt_bd zs t
              obtain ⟨rs, hrse⟩ : ∃ x, SrrS.rowSum ws q zs f t p = x := ⟨_, rfl⟩
              obtain ⟨pk, hpke⟩ : ∃ x, SrrS.pkt zs t = x := ⟨_, rfl⟩
              rw [hrse] at hrs hcs
              rw [hpke] at hpk hcm
              obtain ⟨hrs1, hrs2⟩ := hrs
              obtain ⟨hpk1, hpk2⟩ := hpk
              have h5 : FairRow ws q zs n9 f (t + 1) (.slice (some ⟨sb, 0, none⟩) n n) (.slice (some ⟨gw, ow, none⟩) n9 c9) (.slice (some ⟨gm, om, none⟩) n10 c10) w (wr.setCell ⟨sb, p, none⟩ (.int .i64 (rs + pk))) := by
                refine ⟨?_, hI.2.setCell _ _⟩
                have a := hI.1.sl_set (k := p) (.int .i64 (rs + pk)) (by simp [i64s, SrrS.rowSums_len]; have := HN.out; omega)
                have e := SrrS.rowSums_succ (zs := zs) HO.out.1 HO.out.2.2.1 HO.out.2.2.2 f t
                rw [hp, hrse, hpke] at e
                rwa [Nat.zero_add, i64s_set, e] at a
              have H5 := Lib.hid h5
              have HP := Lib.hid hp
              have i1 : (p : Int) < (n : Int) := by omega
              have i2 : (t : Int) < (n9 : Int) := by omega
              have i3 : (t : Int) < (n10 : Int) := by omega
              clear h5 hI hp hrse hpke hfz l10
              go_wp2_with fail
              go_region
              go_wp2_with fail
              go_loopg [19] n (fun g v19 wr => ∃ j : Nat, g = n - j ∧ j ≤ n ∧ v19 = .int .i64 j ∧ FairRow ws q zs n9 f (t + 1) (.slice (some ⟨sb, 0, none⟩) n n) (.slice (some ⟨gw, ow, none⟩) n9 c9) (.slice (some ⟨gm, om, none⟩) n10 c10) w wr)
              case atStart => exact ⟨0, rfl, Nat.zero_le _, rfl, H5.out.drewN 1⟩
              case round =>
                clear hcw hcm hcs hfp H5
                obtain ⟨j, rfl, hj, rfl, hI⟩ := hrel
                by_cases hjn : j < n
                · have hjw : j < ws.length := by have := HN.out; omega
                  have hpw : p < ws.length := by have := HN.out; omega
                  obtain ⟨g, o, rfl, _, hcj, _⟩ := gi_rd (HX.out.own0 hI.2 hI.1.drop.drop.drop) hjn
                  obtain ⟨g', o', he, _, hcp, _⟩ := gi_rd (HX.out.own0 hI.2 hI.1.drop.drop.drop) hpn
                  cases he
                  obtain ⟨_, _, he, _, hsj, _⟩ := gi_rd hI.1.rd hjn
                  cases he
                  obtain ⟨_, _, he, _, hsp, _⟩ := gi_rd hI.1.rd hpn
                  cases he
                  rw [Nat.zero_add, show gi (SrrS.rowSums ws q zs f (t + 1)) j = SrrS.rowSum ws q zs f (t + 1) j from SrrS.gi_range _ hjw] at hsj
                  rw [Nat.zero_add, show gi (SrrS.rowSums ws q zs f (t + 1)) p = SrrS.rowSum ws q zs f (t + 1) p from SrrS.gi_range _ hpw] at hsp
                  have hfair := SrrS.fair (zs := zs) (k := n9) HO.out.1 HO.out.2.2.1 HO.out.2.2.2 hft htm hjw
                  rw [HP.out, HE.out] at hfair
                  have bX := SrrS.rowSum_bd (zs := zs) HO.out.1 HO.out.2.2.1 HO.out.2.2.2 (show f ≤ t + 1 by omega) hpw (show t + 1 ≤ 90 by omega)
                  have bY := SrrS.rowSum_bd (zs := zs) HO.out.1 HO.out.2.2.1 HO.out.2.2.2 (show f ≤ t + 1 by omega) hjw (show t + 1 ≤ 90 by omega)
                  have bA := HO.out.2.2.1 _ (gi_mem hpw)
                  have bB := HO.out.2.2.1 _ (gi_mem hjw)
                  have bq := HO.out.2.2.2
                  generalize SrrS.rowSum ws q zs f (t + 1) j = Y at *
                  generalize SrrS.rowSum ws q zs f (t + 1) p = X at *
                  generalize gi ws j = B at *
                  generalize gi ws p = A at *
                  have m1 := SrrS.mul_bd (a := B) (b := X) (by omega) (by omega)
                  have m2 := SrrS.mul_bd (a := A) (b := Y) (by omega) (by omega)
                  have hw1 : IntKind.i64.wrap (B * X) = B * X := IntWalk.i64_in _ (by omega)
                  have hw2 : IntKind.i64.wrap (A * Y) = A * Y := IntWalk.i64_in _ (by omega)
                  have hw3 : IntKind.i64.wrap (B * X - A * Y) = B * X - A * Y := IntWalk.i64_in _ (by omega)
                  have hle : decide (bound A B q mo < B * X - A * Y) = false := by
                    have hbd : bound A B q mo = A * B * q + mo * (A + B) := by
                      unfold bound
                      rw [if_pos (by omega)]
                    rw [decide_eq_false_iff_not, hbd]
                    omega
                  have HI := Lib.hid hI
                  have HB := Lib.hid (And.intro bA (And.intro bB bq))
                  have i4 : (j : Int) < (n : Int) := by omega
                  clear hI hfair bX bY bA bB bq m1 m2
                  go_wp2_with fail
                  go_big_quiet ((go_at_call 20; exact Calls.quiet_of_same (bound_q A B q mo _ _ HB.out.1 HB.out.2.1 HB.out.2.2 ⟨hmo1, hmo2⟩)))
                  go_wp2_with fail
                  go_roundg (n - (j + 1))
                  case measure => omega
                  case rel => exact ⟨j + 1, rfl, by omega, by go_num, HI.out.drewN _⟩
                · have e : j = n := by omega
                  subst e
                  have HI := Lib.hid hI
                  clear hI
                  go_wp2_with fail
                  go_roundg (n9 - (t + 1))
                  case measure => omega
                  case rel => exact ⟨t + 1, rfl, by omega, by omega, by go_num, HI.out⟩
            · have e : t = n9 := by omega
              subst e
              have HI : Hid (FairIn ws q zs t (.slice a9 t c9) (.slice a10 n10 c10) w wr) := ⟨hI.1.drop, hI.2⟩
              clear hI
              go_wp2_with fail
              go_roundg (t - (f + 1))
              case measure => omega
              case rel => exact ⟨f + 1, rfl, by omega, by go_num, HI.out⟩
        · have e : f = n9 := by omega
          subst e
          have HR : Hid (Below w.heap.size w wr) := (hI.1.drop.drop.perm (sep_emp _).symm).below hI.2
          clear hI
          go_wp2_with fail
          go_ret
          exact ⟨rfl, HR.out⟩

theorem walk_SrrFair (ao : Option Addr) (n c : Nat) (ws : List Int) (q : Int) (bo : Option Addr) (m d : Nat) (zs : List Int) (w : World) (hx : Rd w (.slice ao n c) 1 (i64s ws)) (_ : ws.length = n) (_ : ∀ x ∈ ws, -9223372036854775808 ≤ x ∧ x ≤ 9223372036854775807) (_ : n * 8 ≤ 140737488351232)
    (_ : -9223372036854775808 ≤ q ∧ q ≤ 9223372036854775807) (hy : Rd w (.slice bo m d) 1 (zs.map (Value.int .u16))) (_ : zs.length = m) (hz : ∀ x ∈ zs, 0 ≤ x ∧ x ≤ 65535) (_ : m * 2 ≤ 140737488351232) :
    Calls Try.prog 4 #[.slice ao n c, .int .i64 q, .slice bo m d] w (LawPost w) := by
  by_cases h : 900 < n ∨ n ≤ 900 ∧ 90 < m
  · exact walk_SrrFair_big ao n c q bo m d w (by omega) (by omega) h
  · by_cases hok : OkW ws q
    · exact walk_SrrFair_yes ao n c ws q bo m d zs w hx hy hz (by omega) hok
    · exact walk_SrrFair_no ao n c ws q bo m d w hx (by omega) (by omega) hok

end Go.Proofs.Ytlbcfkkeoedhdaa
