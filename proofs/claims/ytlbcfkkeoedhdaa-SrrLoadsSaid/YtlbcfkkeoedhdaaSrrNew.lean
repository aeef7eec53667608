/- srr.New makes the model's 'new', or nil. -/
import Derived.Test.YtlbcfkkeoedhdaaDrr
namespace Go.Proofs.Ytlbcfkkeoedhdaa
open Go.RowKit

def SrrNewPost (ws : List Int) (q : Int) (w : World) (e : Ending) (w' : World) : Prop :=
  (¬ OkW ws q ∧ e = .returned (.pointer none) ∧ w = w') ∨
  (OkW ws q ∧ ∃ b, e = .returned (.pointer (some ⟨b, 0, none⟩)) ∧ Made w w' (srrRep b (SrrS.new ws q)))

theorem mul_ok {ws : List Int} {q : Int} (h : OkW ws q) {j : Nat} (hj : j < ws.length) : 1 ≤ gi ws j * q ∧ gi ws j * q ≤ 65536000 := by
  have hm := h.2.2.1 _ (gi_mem hj)
  have hq1 := h.2.2.2.1
  have hq2 := h.2.2.2.2
  have a : 1 * 1 ≤ gi ws j * q := Int.mul_le_mul hm.1 hq1 (by omega) (by omega)
  have b : gi ws j * q ≤ 1000 * 65536 := Int.mul_le_mul hm.2 hq2 (by omega) (by omega)
  omega

/-- What turns bring, of the first k. -/
def brl (ws : List Int) (q : Int) (k : Nat) : List Int := (ws.take k).map (· * q)
theorem brl_all (ws : List Int) (q : Int) : brl ws q ws.length = ws.map (· * q) := by unfold brl; rw [List.take_length]
theorem brl_succ {ws : List Int} (q : Int) {k : Nat} (h : k < ws.length) : i64s (brl ws q (k + 1)) = i64s (brl ws q k) ++ [.int .i64 (gi ws k * q)] := by
  unfold brl
  rw [List.take_succ_eq_append_getElem h, List.map_append]
  simp [i64s, gi_eq, h]
theorem brl_len {ws : List Int} (q : Int) {k : Nat} (h : k ≤ ws.length) : (i64s (brl ws q k)).length = k := by simp [i64s, brl, h]

def NewRel (b : Nat) (ws : List Int) (q : Int) (w : World) (k : Nat) (wr : World) : Prop :=
  ∃ ao n c, Sat wr (pc b #[.int .i64 0, .int .i64 0, .slice none 0 0, .slice ao n c] • sl (.slice ao n c) 1 (i64s (brl ws q k)) • ownW w) ∧ Same w wr

set_option maxHeartbeats 1600000 in
theorem srrNew_any (ao : Option Addr) (n c : Nat) (ws : List Int) (q : Int) (w : World) (hx : Rd w (.slice ao n c) 1 (i64s ws)) :
    Calls Try.prog 10 #[.slice ao n c, .int .i64 q] w (SrrNewPost ws q w) := by
  obtain ⟨hl, hnc, hcm⟩ := hx.len
  have hn : ws.length = n := by simpa [i64s] using hl
  have HX := Lib.hid hx
  have HN := Lib.hid hn
  clear hx hn hl hcm hnc
  by_cases hok : OkW ws q
  · have HO := Lib.hid hok
    have hn16 : n ≤ 16 := by have := hok.2.1; have := HN.out; omega
    have hn1 : 1 ≤ n := by have := hok.1; have := HN.out; omega
    clear hok
    go_enter Try.func10, Try.ntmps10
    go_wp2_with (go_at_call 23; refine (drrNew_any _ _ _ _ _ _ HX.out).mono ?_; rintro e w1 (⟨hno, _⟩ | ⟨_, b0, rfl, hm⟩); exact absurd HO.out hno; have HM := Lib.hid hm; clear hm)
    have hst : NewRel w1.heap.size ws q w 0 (w1.alloc (.cells #[.int .i64 0, .int .i64 0, .slice none 0 0, .slice none 0 0] 49)) :=
      ⟨Option.none, 0, 0, ((HM.out.1.drop.sl_nil 1).box _ _).perm (by simp [i64s, brl]), HM.out.2.alloc _⟩
    have HS := Lib.hid hst
    clear hst
    generalize w1.heap.size = b at *
    go_loopw [16] (fun i wr => ∃ k : Nat, k ≤ n ∧ i = .int .i64 k ∧ NewRel b ws q w k wr) (fun i _ => n - (intOf i).toNat)
    case atStart => exact ⟨0, Nat.zero_le _, rfl, HS.out⟩
    case round =>
      clear HS HM
      obtain ⟨k, hk, rfl, ao1, n1, c1, hS, hsm⟩ := hrel
      have c3 : wr.cell? ⟨b, 3, none⟩ = some (.slice ao1 n1 c1) := by rw [hS.cell]; rfl
      have c2 : wr.cell? ⟨b, 2, none⟩ = some (.slice none 0 0) := by rw [hS.cell]; rfl
      have f3 := hS.free 3
      have f2 := hS.free 2
      have hlt := hS.lt
      have HS := Lib.hid (And.intro hS hsm)
      by_cases hkn : k < n
      · have hkw : k < ws.length := by have := HN.out; omega
        have hmul := mul_ok HO.out hkw
        obtain ⟨g, o, n', c', he, _, _, _, _, hc⟩ := (HX.out.own0 hsm hS.drop.drop).at (by simp [i64s]; omega)
        cases he
        have hck : wr.cell? ⟨g, o + k, none⟩ = some (.int .i64 (gi ws k)) := by
          rw [hc k (by simp [i64s]; omega)]
          simp [i64s, gi_eq, hkw]
        clear hc hS hsm hkw c2 f2
        go_wp2_with (at_builtin; refine wpList_append_sl rfl el_i64 _ _ rfl (xs := i64s (brl ws q k)) (news := [.int .i64 (gi ws k * q)]) (R := pc wr.heap.size #[.int .i64 (gi ws k * q)] • pc b #[.int .i64 0, .int .i64 0, .slice none 0 0, .slice ao1 n1 c1] • ownW w) rfl rfl ?c1 ?c2 ?c3 ?c4 ?c5 ?_)
        case c1 => exact (HS.out.1.box _ _).perm (by ac_rfl)
        case c2 => exact Rd.box _ _ _
        case c3 => simp [Value.oneCell']
        case c4 => rw [brl_len q (by have := HN.out; omega)]; simp [maxLen]; omega
        case c5 => rw [brl_len q (by have := HN.out; omega)]; simp; omega
        intro ao' n' c' w' Q
        have hS' : Sat w' (pc b #[.int .i64 0, .int .i64 0, .slice none 0 0, .slice ao1 n1 c1] • sl (.slice ao' n' c') 1 (i64s (brl ws q (k + 1))) • ownW w) := by
          refine Sat.drop (A := pc wr.heap.size #[.int .i64 (gi ws k * q)]) (Q.out.1.perm ?_)
          have e := brl_succ q (show k < ws.length by have := HN.out; omega)
          rw [e]
          ac_rfl
        have c3' : w'.cell? ⟨b, 3, none⟩ = some (.slice ao1 n1 c1) := by rw [hS'.cell]; rfl
        have f3' := hS'.free 3
        have HS' := Lib.hid hS'
        clear hS' c3 f3
        go_wp2
        go_roundw
        case rel => exact ⟨k + 1, by omega, by go_num, ao', n', c', HS'.out.set (i := 3) (.slice ao' n' c'), (HS.out.2.alloc _ |>.trans Q.out.2.1).setCell _ _⟩
        case measure => simp [intOf]; omega
      · have e : k = n := by omega
        subst e
        obtain ⟨te, mc, hmk, hmc⟩ := make_fact el_i64 rfl k (by omega) (by omega)
        have hm0 : mc[0]? = some (.int .i64 0) := by
          have := hmc.out
          rw [← Array.getElem?_toList, this, List.getElem?_replicate, if_pos (by omega)]
        have hmul := mul_ok HO.out (j := 0) (by have := HN.out; omega)
        have hS2 : Sat wr (sl (.slice ao1 n1 c1) 1 (i64s (ws.map (· * q))) • pc b #[.int .i64 0, .int .i64 0, .slice none 0 0, .slice ao1 n1 c1] • ownW w) := by
          refine hS.perm ?_
          rw [← brl_all, HN.out]
          ac_rfl
        obtain ⟨g, o, cp, n', he, hn', _, _, hg, hc, _⟩ := hS2.sl_at (by simp [i64s]; have := HN.out; omega)
        cases he
        have hn0 : 0 < n1 := by simp [i64s] at hn'; have := HN.out; omega
        have hc0 : wr.cell? ⟨g, o, none⟩ = some (.int .i64 (gi ws 0 * q)) := by
          have := hc 0 (by simp [i64s]; have := HN.out; omega)
          rw [Nat.add_zero] at this
          rw [this]
          simp [i64s, gi_eq, show 0 < ws.length by have := HN.out; omega]
        have hbg : b ≠ g := hS2.swap.sl_neq
        have f2 := f2
        clear hn'
        have HS2 := Lib.hid (And.intro hS2 hsm)
        clear hc hS2 hS hsm
        go_wp2
        go_region
        go_wp2
        go_ret
        obtain ⟨s1, s2⟩ := HS2.out
        refine .inr ⟨HO.out, b, rfl, ?_⟩
        have a := (s1.swap.set (i := 2) (.slice (some ⟨wr.heap.size, 0, none⟩) k k)).boxsl (n := k) (mc := mc.setIfInBounds 0 (.int .i64 (gi ws 0 * q))) te (xs := i64s (SrrS.new ws q).left) (by
          rw [Array.toList_setIfInBounds, hmc.out, ← HN.out]; simp [SrrS.new, i64s, List.map_set]) (by simp [i64s, SrrS.new]; exact HN.out) (by omega)
        rw [World.size_setCell] at a
        refine ⟨Sat.ex.2 ⟨(.slice (some ⟨wr.heap.size, 0, none⟩) k k, .slice (some ⟨g, o, none⟩) n1 c1), Sat.perm (B := srrAt b (.slice (some ⟨wr.heap.size, 0, none⟩) k k) (.slice (some ⟨g, o, none⟩) n1 c1) (SrrS.new ws q) • ownW w) a ?_⟩, (s2.setCell _ _ |>.alloc _).drew⟩
        unfold srrAt
        simp [SrrS.new]
        ac_rfl
  · have HO := Lib.hid hok
    clear hok
    go_enter Try.func10, Try.ntmps10
    go_wp2_with (go_at_call 23; refine (drrNew_any _ _ _ _ _ _ HX.out).mono ?_; rintro e w1 (⟨_, rfl, rfl⟩ | ⟨hyes, _⟩); rotate_left; exact absurd hyes HO.out)
    go_ret
    exact .inl ⟨HO.out, rfl, rfl⟩

end Go.Proofs.Ytlbcfkkeoedhdaa
