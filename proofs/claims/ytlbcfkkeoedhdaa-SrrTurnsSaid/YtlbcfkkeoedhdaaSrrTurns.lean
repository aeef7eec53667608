/- SrrTurns: whose turn it is has something left, no more than its turn brings; the others have nothing, but lack no more than a packet; what went is what turns brought, less what is left. -/
import Derived.Test.YtlbcfkkeoedhdaaSrrRounds
import Derived.Deep.QuietTactic
import Derived.BigQuiet
namespace Go.Proofs.Ytlbcfkkeoedhdaa
open Go.RowKit

set_option maxHeartbeats 1600000 in
set_option maxRecDepth 100000 in
theorem walk_SrrTurns_big (ao : Option Addr) (n c : Nat) (q : Int) (bo : Option Addr) (m d : Nat) (w : World) (hn : n ≤ 9223372036854775807) (hm : m ≤ 9223372036854775807) (h : 900 < n ∨ n ≤ 900 ∧ 400 < m) :
    Calls Try.prog 6 #[.slice ao n c, .int .i64 q, .slice bo m d] w (LawPost w) := by
  rcases h with h | ⟨h0, h⟩ <;>
  · go_enter Try.func6, Try.ntmps6
    go_wp2_with fail
    (with_reducible refine (head_any w).mono ?_)
    rintro e w1 ⟨rfl, hb1⟩
    have H1 := Lib.hid hb1
    clear hb1
    go_wp2_with fail
    go_ret
    exact ⟨rfl, H1.out⟩

set_option maxHeartbeats 1600000 in
set_option maxRecDepth 100000 in
theorem walk_SrrTurns_no (ao : Option Addr) (n c : Nat) (ws : List Int) (q : Int) (bo : Option Addr) (m d : Nat) (w : World) (hx : Rd w (.slice ao n c) 1 (i64s ws)) (hn : n ≤ 900) (hm : m ≤ 400) (hno : ¬ OkW ws q) :
    Calls Try.prog 6 #[.slice ao n c, .int .i64 q, .slice bo m d] w (LawPost w) := by
  have HX := Lib.hid hx
  have hd : decide (OkW ws q) = false := by simpa using hno
  have HO := Lib.hid hno
  clear hx hno
  go_enter Try.func6, Try.ntmps6
  go_wp2_with fail
  (with_reducible refine (head_any w).mono ?_)
  rintro e w1 ⟨rfl, hb1⟩
  have H1 := Lib.hid hb1
  have HX1 := Lib.hid (HX.out.below hb1)
  clear hb1
  go_wp2_with fail
  (with_reducible refine (srrNew_any _ _ _ _ _ _ HX1.out).mono ?_)
  rintro e w2 (⟨_, rfl, rfl⟩ | ⟨hyes, _⟩)
  rotate_left
  · exact absurd hyes HO.out
  go_wp2_with fail
  (with_reducible refine (right_any _ _ _ _ _ _ HX1.out).mono ?_)
  rintro e w2 ⟨rfl, rfl⟩
  go_wp2_with fail
  go_ret
  exact ⟨rfl, H1.out⟩


/-- What holds at the head of a round. -/
def TurRel (b : Nat) (vs : Value) (ws : List Int) (q : Int) (w : World) (k : Nat) (wr : World) : Prop :=
  ∃ (s : SrrS) (sums : List Int), s.Inv ∧ s.brings = ws.map (· * q) ∧ 0 ≤ s.round ∧ s.round ≤ 32768 * k ∧ SrrS.Acc sums s ∧ (∀ j, j < ws.length → 0 ≤ gi sums j ∧ gi sums j ≤ 2048 * k) ∧ Sat wr (srrRep b s • sl vs 1 (i64s sums) • ownW w) ∧ Same w wr

/-- In the loop over the members, behind a packet. -/
def TurIn (b tb : Nat) (vs tl : Value) (ws : List Int) (q : Int) (s : SrrS) (sums : List Int) (w wr : World) : Prop :=
  Sat wr (pc tb #[.int .i64 s.pos, .int .i64 s.round, tl] • sl tl 1 (i64s s.left) • srrRep b s • sl vs 1 (i64s sums) • ownW w) ∧ Same w wr
theorem TurIn.drewN {b tb : Nat} {vs tl : Value} {ws : List Int} {q : Int} {s : SrrS} {sums : List Int} {w wr : World} (h : TurIn b tb vs tl ws q s sums w wr) : ∀ k, TurIn b tb vs tl ws q s sums w (wr.drewN k) := fun k => ⟨h.1, ⟨h.2.os, h.2.tape, h.2.output, h.2.size⟩⟩
theorem TurIn.drew {b tb : Nat} {vs tl : Value} {ws : List Int} {q : Int} {s : SrrS} {sums : List Int} {w wr : World} (h : TurIn b tb vs tl ws q s sums w wr) : TurIn b tb vs tl ws q s sums w wr.drew := ⟨h.1, h.2.drew⟩

set_option maxHeartbeats 8000000 in
set_option maxRecDepth 100000 in
theorem walk_SrrTurns_yes (ao : Option Addr) (n c : Nat) (ws : List Int) (q : Int) (bo : Option Addr) (m d : Nat) (zs : List Int) (w : World) (hx : Rd w (.slice ao n c) 1 (i64s ws)) (hy : Rd w (.slice bo m d) 1 (zs.map (Value.int .u16)))
    (hz : ∀ x ∈ zs, 0 ≤ x ∧ x ≤ 65535) (hm : m ≤ 400) (hok : OkW ws q) :
    Calls Try.prog 6 #[.slice ao n c, .int .i64 q, .slice bo m d] w (LawPost w) := by
  have HX := Lib.hid hx
  have HY := Lib.hid hy
  have HZ := Lib.hid hz
  have HO := Lib.hid hok
  have HN : Hid (ws.length = n) := by show ws.length = n; simpa [i64s] using hx.len.1
  have HM : Hid (zs.length = m) := by show zs.length = m; simpa using hy.len.1
  have hn16 : n ≤ 16 := by have := hok.2.1; have := HN.out; omega
  have hn1 : 1 ≤ n := by have := hok.1; have := HN.out; omega
  obtain ⟨te, mc, hmk, hmc⟩ := make_fact el_i64 rfl n (by omega) (by omega)
  clear hx hy hz hok
  go_enter Try.func6, Try.ntmps6
  go_wp2_with fail
  (with_reducible refine (head_any w).mono ?_)
  rintro e w1 ⟨rfl, hb1⟩
  have H1 := Lib.hid hb1
  have HX1 := Lib.hid (HX.out.below hb1)
  clear hb1
  go_wp2_with fail
  (with_reducible refine (srrNew_any _ _ _ _ _ _ HX1.out).mono ?_)
  rintro e w2 (⟨hno, _⟩ | ⟨_, b, rfl, hM⟩)
  · exact absurd HO.out hno
  have h2 : TurRel b (.slice (some ⟨w2.heap.size, 0, none⟩) n n) ws q w 0 (w2.alloc (.cells mc te)) := by
    refine ⟨_, List.replicate n 0, SrrS.new_inv HO.out.1 HO.out.2.2.1 HO.out.2.2.2, rfl, Int.le_refl _, by simp [SrrS.new], HN.out ▸ SrrS.acc_new ws q HO.out.1, fun j _ => by rw [SrrS.gi_replicate]; omega, ?_, ((same_below H1.out).trans hM.2).alloc _⟩
    have a := (hM.sat (sat_below H1.out)).boxsl (n := n) (mc := mc) te (xs := i64s (List.replicate n 0)) (by rw [hmc.out]; simp [i64s]) (by simp [i64s]) (by omega)
    exact a.swap
  have H2 := Lib.hid h2
  clear h2 hM H1 HX1
  go_wp2_with fail
  go_loopg [10] m (fun g i wr => ∃ k : Nat, g = m - k ∧ k ≤ m ∧ i = .int .i64 k ∧ TurRel b (.slice (some ⟨w2.heap.size, 0, none⟩) n n) ws q w k wr)
  case atStart => exact ⟨0, rfl, Nat.zero_le _, rfl, H2.out⟩
  case round =>
    clear H2 hmk
    obtain ⟨k, rfl, hk, rfl, hR⟩ := hrel
    by_cases hkm : k < m
    · obtain ⟨s, sums, hI, hbr, hr0, hr1, hAc, hsb, hS, hsm⟩ := hR
      have hsl : s.brings.length = n := by rw [hbr]; simp; exact HN.out
      have hpos : s.pos < n := hsl ▸ hI.pos
      have hsum := hsb s.pos (by have := HN.out; omega)
      have hS2 : Sat wr (sl (.slice (some ⟨w2.heap.size, 0, none⟩) n n) 1 (i64s sums) • srrRep b s • ownW w) := hS.swap
      obtain ⟨gg, oo, cp, n', he, _, _, _, hg, hc, hf⟩ := hS2.sl_at (by simp [i64s]; have := hAc.1; omega)
      cases he
      have cs : wr.cell? ⟨w2.heap.size, 0 + s.pos, none⟩ = some (.int .i64 (gi sums s.pos)) := by
        rw [hc s.pos (by simp [i64s]; have := hAc.1; omega)]
        simp [i64s, gi_eq, show s.pos < sums.length by have := hAc.1; omega]
      have fs := hf (0 + s.pos)
      simp only [Nat.zero_add] at cs fs
      obtain ⟨g, o, rfl, _, hck, _⟩ := ik_rd (HY.out.own0 hsm hS.drop.drop) hkm
      have hzk := HZ.out (gi zs k) (gi_mem (by have := HM.out; omega))
      obtain ⟨hz1, hz2⟩ := hzk
      have HS := Lib.hid (And.intro hI (And.intro hbr (And.intro hAc (And.intro hsb (And.intro hS hsm)))))
      have HL := Lib.hid hsl
      have hS0 := hS
      obtain ⟨hsum1, hsum2⟩ := hsum
      clear hI hbr hAc hsb hS hsm hS2 hc hf hsl
      go_wp2_with fail
      (with_reducible refine (now_any b s _ _ hS0).mono ?_)
      rintro e w3 ⟨rfl, rfl⟩
      have hp1 : decide ((s.pos : Int) < 0) = false := by simp
      have hp2 : decide (n ≤ s.pos) = false := by simp; omega
      go_wp2_with fail
      obtain ⟨s', hs'⟩ : ∃ s', s.sent (1 + gi zs k % 2048) = s' := ⟨_, rfl⟩
      obtain ⟨sums', hss⟩ : ∃ l, sums.set s.pos (gi sums s.pos + (1 + gi zs k % 2048)) = l := ⟨_, rfl⟩
      have hx1 : 1 ≤ 1 + gi zs k % 2048 := by omega
      have hx2 : 1 + gi zs k % 2048 ≤ 2048 := by omega
      have hi2 := SrrS.sent_inv HS.out.1 hx1 hx2
      have hrd2 := SrrS.sent_round HS.out.1 hx1 hx2
      have hac2 := SrrS.acc_sent HS.out.1 HS.out.2.2.1 hx1 hx2
      rw [hs'] at hi2 hrd2 hac2
      rw [hss] at hac2
      have hsb2 : ∀ j, j < ws.length → 0 ≤ gi sums' j ∧ gi sums' j ≤ 2048 * (k + 1 : Nat) := fun j hj => by
        have := HS.out.2.2.2.1 j hj
        rw [← hss, SrrS.getD_set _ _ _ _ (by rw [HS.out.2.2.1.1, HL.out]; exact hpos)]
        split <;> omega
      have hS3 : Sat (wr.setCell ⟨w2.heap.size, s.pos, none⟩ (.int .i64 (gi sums s.pos + (1 + gi zs k % 2048)))) (srrRep b s • sl (.slice (some ⟨w2.heap.size, 0, none⟩) n n) 1 (i64s sums') • ownW w) := by
        have := (HS.out.2.2.2.2.1.swap).sl_set (k := s.pos) (.int .i64 (gi sums s.pos + (1 + gi zs k % 2048))) (by simp [i64s, HS.out.2.2.1.1, HL.out]; exact hpos)
        rw [Nat.zero_add, i64s_set, hss] at this
        exact this.swap
      have HSS := Lib.hid hs'
      have HI2 := Lib.hid (And.intro hi2 (And.intro hac2 hsb2))
      have hr2 : s.round ≤ s'.round ∧ s'.round ≤ s.round + 32768 := by have := HL.out; omega
      obtain ⟨hr3, hr4⟩ := hr2
      have hsm3 := HS.out.2.2.2.2.2.setCell ⟨w2.heap.size, s.pos, none⟩ (.int .i64 (gi sums s.pos + (1 + gi zs k % 2048)))
      clear hs' hi2 hrd2 hac2 hss hsb2
      (with_reducible refine (sent_lit b s s' _ _ _ _ HS.out.1 ⟨hr0, ?_⟩ ?_ hx1 hx2 hS3 HSS.out rfl).mono ?_)
      · omega
      · have := HL.out; omega
      rintro e w4 ⟨rfl, hS4, hm4⟩
      have HS4 := Lib.hid (And.intro hS4 (hsm3.trans hm4))
      have hS4' := hS4
      clear hS4 hm4 hS3 hsm3
      go_wp2_with fail
      (with_reducible refine (turn_any b s' _ _ hS4' ?_).mono ?_)
      · have := HI2.out.1.1.len; rw [this, HI2.out.1.2]; have := HL.out; omega
      rintro e w5 ⟨ao2, n2, c2, rfl, hM2, hn2, hn3, _⟩
      have hlen2 : n2 = n := by rw [← hn2, HI2.out.1.1.len, HI2.out.1.2]; exact HL.out
      subst hlen2
      have hT : TurIn b w5.heap.size (.slice (some ⟨w2.heap.size, 0, none⟩) n2 n2) (.slice ao2 n2 c2) ws q s' sums' w (w5.alloc (.cells #[.int .i64 s'.pos, .int .i64 s'.round, .slice ao2 n2 c2] 33)) :=
        ⟨(hM2.sat HS4.out.1).box _ _, (HS4.out.2.trans hM2.2).alloc _⟩
      have HT := Lib.hid hT
      clear hT hM2 hS4' HS4 hn2
      have hne2 : ((n2 : Int) != (n2 : Int)) = false := by simp
      go_wp2_with fail
      go_region_held3 (fun w' => w'.cell? ⟨w5.heap.size, 0, none⟩ = some (.int .i64 s'.pos) ∧ w'.cell? ⟨w5.heap.size, 2, none⟩ = some (.slice ao2 n2 c2)) (go_keep) ((go_at_call 14; (refine (now_any b s' (pc w5.heap.size #[.int .i64 s'.pos, .int .i64 s'.round, .slice ao2 n2 c2] • sl (.slice ao2 n2 c2) 1 (i64s s'.left) • sl (.slice (some ⟨w2.heap.size, 0, none⟩) n2 n2) 1 (i64s sums') • ownW w) _ ?_).mono ?_); exact Sat.drew (HT.out.1.perm (by ac_rfl)); rintro e w6 ⟨rfl, rfl⟩))
      go_wp2_with fail
      go_loopg [14] n2 (fun g i wr2 => ∃ j : Nat, g = n2 - j ∧ j ≤ n2 ∧ i = .int .i64 j ∧ TurIn b w5.heap.size (.slice (some ⟨w2.heap.size, 0, none⟩) n2 n2) (.slice ao2 n2 c2) ws q s' sums' w wr2)
      case atStart => exact ⟨0, rfl, Nat.zero_le _, rfl, HT.out.drew⟩
      case round =>
        clear HT
        obtain ⟨j, rfl, hj, rfl, hI⟩ := hrel
        have y0 : wr.cell? ⟨w5.heap.size, 0, none⟩ = some (.int .i64 s'.pos) := by rw [hI.1.cell]; rfl
        have y1 : wr.cell? ⟨w5.heap.size, 1, none⟩ = some (.int .i64 s'.round) := by rw [hI.1.cell]; rfl
        have y2 : wr.cell? ⟨w5.heap.size, 2, none⟩ = some (.slice ao2 n2 c2) := by rw [hI.1.cell]; rfl
        have HIn := Lib.hid hI
        by_cases hjn : j < n2
        · obtain ⟨gw, ow, rfl, _, hcw, _⟩ := gi_rd (HX.out.own0 hI.2 hI.1.drop.drop.drop.drop) hjn
          obtain ⟨gl, ol, rfl, _, hcl, _⟩ := gi_rd hI.1.drop.rd hjn
          obtain ⟨gs, os, hgs, _, hcs, _⟩ := gi_rd hI.1.drop.drop.drop.rd hjn
          cases hgs
          rw [Nat.zero_add] at hcs
          have hjw : j < ws.length := by have := HN.out; omega
          have hmul := mul_ok HO.out hjw
          have hbl : s'.brings.length = n2 := by rw [HI2.out.1.2]; exact HL.out
          have hacc := HI2.out.2.1.2 j (by omega)
          have hbj : gi s'.brings j = gi ws j * q := by rw [HI2.out.1.2, HS.out.2.1]; exact SrrS.gi_map _ _ _ hjw
          have hsj := HI2.out.2.2 j hjw
          have hlow := HI2.out.1.1.low j (by omega)
          have hrest := HI2.out.1.1.rest j (by omega)
          have htop := HI2.out.1.1.top
          have hhas := HI2.out.1.1.has
          rw [hbj] at hacc
          obtain ⟨hmul1, hmul2⟩ := hmul
          obtain ⟨hsj1, hsj2⟩ := hsj
          clear hI hbl
          by_cases hje : j = s'.pos
          · have hL1 : 1 ≤ gi s'.left j := by rw [hje]; exact hhas
            have hL2 : gi s'.left j ≤ gi ws j * q := by rw [← hbj, hje]; exact htop
            have g1 : decide (gi s'.left j < 1) = false := by simp; omega
            have g2 : decide (gi ws j * q < gi s'.left j) = false := by simp; omega
            have hacc2 : (s'.round + 1) * (gi ws j * q) = gi sums' j + gi s'.left j := by
              rw [hacc]; unfold SrrS.turnsOf; rw [if_pos (show j ≤ s'.pos by omega)]
            have hwm : IntKind.i64.wrap ((s'.round + 1) * (gi ws j * q)) = (s'.round + 1) * (gi ws j * q) := IntWalk.i64_in _ (by omega)
            have hws : IntKind.i64.wrap ((s'.round + 1) * (gi ws j * q) - gi s'.left j) = (s'.round + 1) * (gi ws j * q) - gi s'.left j := IntWalk.i64_in _ (by omega)
            have hwb : IntKind.i64.wrap (gi ws j * q) = gi ws j * q := IntWalk.i64_in _ (by omega)
            have hwr : IntKind.i64.wrap (s'.round + 1) = s'.round + 1 := IntWalk.i64_in _ (by omega)
            have hqe : (gi sums' j != (s'.round + 1) * (gi ws j * q) - gi s'.left j) = false := by simp; omega
            have e1 : ((j : Int) == (s'.pos : Int)) = true := by first | (simp; done) | (simp; omega)
            have e2 : ((j : Int) != (s'.pos : Int)) = false := by first | (simp; done) | (simp; omega)
            have e3 : decide (j ≤ s'.pos) = true := by first | (simp; done) | (simp; omega)
            subst hje
            have i1 : (s'.pos : Int) < (n2 : Int) := by omega
            have i2 : (0 : Int) ≤ (s'.pos : Int) := by omega
            clear hacc hacc2 hrest htop hbj
            go_wp2_with fail
            go_big_quiet (fail)
            go_wp2_with fail
            go_roundg (n2 - (s'.pos + 1))
            case measure => omega
            case rel => exact ⟨s'.pos + 1, rfl, by omega, by go_num, HIn.out.drewN _⟩
          · have hL1 : gi s'.left j ≤ 0 := hrest hje
            have g3 : decide (0 < gi s'.left j) = false := by simp; omega
            have g4 : decide (gi s'.left j ≤ -2048) = false := by simp; omega
            by_cases hjl : j ≤ s'.pos
            · have hjl' := hjl
              have hacc2 : (s'.round + 1) * (gi ws j * q) = gi sums' j + gi s'.left j := by
                rw [hacc]; unfold SrrS.turnsOf; rw [if_pos hjl]
              have hwm : IntKind.i64.wrap ((s'.round + 1) * (gi ws j * q)) = (s'.round + 1) * (gi ws j * q) := IntWalk.i64_in _ (by omega)
              have hws : IntKind.i64.wrap ((s'.round + 1) * (gi ws j * q) - gi s'.left j) = (s'.round + 1) * (gi ws j * q) - gi s'.left j := IntWalk.i64_in _ (by omega)
              have hwb : IntKind.i64.wrap (gi ws j * q) = gi ws j * q := IntWalk.i64_in _ (by omega)
              have hwr : IntKind.i64.wrap (s'.round + 1) = s'.round + 1 := IntWalk.i64_in _ (by omega)
              have hqe : (gi sums' j != (s'.round + 1) * (gi ws j * q) - gi s'.left j) = false := by simp; omega
              have e1 : ((j : Int) == (s'.pos : Int)) = false := by first | (simp; done) | (simp; omega)
              have e2 : ((j : Int) != (s'.pos : Int)) = true := by first | (simp; done) | (simp; omega)
              have e3 : decide (j ≤ s'.pos) = true := by first | (simp; done) | (simp; omega)
              have HH := Lib.hid hje
              have i1 : (j : Int) < (n2 : Int) := by omega
              have i2 : (0 : Int) ≤ (j : Int) := by omega
              clear hje hacc hacc2 hrest htop hbj
              go_wp2_with fail
              go_big_quiet (fail)
              go_wp2_with fail
              go_roundg (n2 - (j + 1))
              case measure => omega
              case rel => exact ⟨j + 1, rfl, by omega, by go_num, HIn.out.drewN _⟩
            · have hjl' := hjl
              have hacc2 : s'.round * (gi ws j * q) = gi sums' j + gi s'.left j := by
                rw [hacc]; unfold SrrS.turnsOf; rw [if_neg hjl]; simp
              have hwm : IntKind.i64.wrap (s'.round * (gi ws j * q)) = s'.round * (gi ws j * q) := IntWalk.i64_in _ (by omega)
              have hws : IntKind.i64.wrap (s'.round * (gi ws j * q) - gi s'.left j) = s'.round * (gi ws j * q) - gi s'.left j := IntWalk.i64_in _ (by omega)
              have hwb : IntKind.i64.wrap (gi ws j * q) = gi ws j * q := IntWalk.i64_in _ (by omega)
              have hwr : IntKind.i64.wrap (s'.round + 1) = s'.round + 1 := IntWalk.i64_in _ (by omega)
              have hqe : (gi sums' j != s'.round * (gi ws j * q) - gi s'.left j) = false := by simp; omega
              have e1 : ((j : Int) == (s'.pos : Int)) = false := by first | (simp; done) | (simp; omega)
              have e2 : ((j : Int) != (s'.pos : Int)) = true := by first | (simp; done) | (simp; omega)
              have e3 : decide (j ≤ s'.pos) = false := by first | (simp; done) | (simp; omega)
              have HH := Lib.hid hje
              have i1 : (j : Int) < (n2 : Int) := by omega
              have i2 : (0 : Int) ≤ (j : Int) := by omega
              clear hje hacc hacc2 hrest htop hbj
              go_wp2_with fail
              go_big_quiet (fail)
              go_wp2_with fail
              go_roundg (n2 - (j + 1))
              case measure => omega
              case rel => exact ⟨j + 1, rfl, by omega, by go_num, HIn.out.drewN _⟩
        · have e : j = n2 := by omega
          subst e
          have HF : Hid (TurRel b (.slice (some ⟨w2.heap.size, 0, none⟩) j j) ws q w (k + 1) wr) :=
            ⟨s', sums', HI2.out.1.1, HI2.out.1.2.trans HS.out.2.1, by omega, by omega, HI2.out.2.1, HI2.out.2.2, hI.1.drop.drop, hI.2⟩
          clear hI
          go_wp2_with fail
          go_roundg (m - (k + 1))
          case measure => omega
          case rel => exact ⟨k + 1, rfl, by omega, by go_num, HF.out⟩
    · have e : k = m := by omega
      subst e
      have HR : Hid (Below w.heap.size w wr) := by
        obtain ⟨s, sums, _, _, _, _, _, _, hS, hsm⟩ := hR
        exact ((hS.drop.drop.perm (sep_emp _).symm).below hsm)
      clear hR
      go_wp2_with fail
      go_ret
      exact ⟨rfl, HR.out⟩


theorem walk_SrrTurns (ao : Option Addr) (n c : Nat) (ws : List Int) (q : Int) (bo : Option Addr) (m d : Nat) (zs : List Int) (w : World) (hx : Rd w (.slice ao n c) 1 (i64s ws)) (_ : ws.length = n) (_ : ∀ x ∈ ws, -9223372036854775808 ≤ x ∧ x ≤ 9223372036854775807) (_ : n * 8 ≤ 140737488351232)
    (_ : -9223372036854775808 ≤ q ∧ q ≤ 9223372036854775807) (hy : Rd w (.slice bo m d) 1 (zs.map (Value.int .u16))) (_ : zs.length = m) (hz : ∀ x ∈ zs, 0 ≤ x ∧ x ≤ 65535) (_ : m * 2 ≤ 140737488351232) :
    Calls Try.prog 6 #[.slice ao n c, .int .i64 q, .slice bo m d] w (LawPost w) := by
  by_cases h : 900 < n ∨ n ≤ 900 ∧ 400 < m
  · exact walk_SrrTurns_big ao n c q bo m d w (by omega) (by omega) h
  · by_cases hok : OkW ws q
    · exact walk_SrrTurns_yes ao n c ws q bo m d zs w hx hy hz (by omega) hok
    · exact walk_SrrTurns_no ao n c ws q bo m d w hx (by omega) (by omega) hok

end Go.Proofs.Ytlbcfkkeoedhdaa
