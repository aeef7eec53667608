/- srr.Load: one that goes on where a turn says, or nil. -/
import Derived.Test.YtlbcfkkeoedhdaaSrrTurn
namespace Go.Proofs.Ytlbcfkkeoedhdaa
open Go.RowKit

/-- What the k-th one may have left, if it is the a-th one's turn. -/
def okLeft (ls br : List Int) (a k : Nat) : Prop := if k = a then 1 ≤ gi ls k ∧ gi ls k ≤ gi br k else -2047 ≤ gi ls k ∧ gi ls k ≤ 0
instance (ls br : List Int) (a k : Nat) : Decidable (okLeft ls br a k) := by unfold okLeft; infer_instance
def LoadOk (ws : List Int) (q : Int) (pos rd : Int) (ls : List Int) : Prop :=
  OkW ws q ∧ ls.length = ws.length ∧ 0 ≤ pos ∧ pos < ws.length ∧ 0 ≤ rd ∧ rd ≤ 1099511627776 ∧ ∀ k, k < ws.length → okLeft ls (ws.map (· * q)) pos.toNat k

def LoadPost (ws : List Int) (q : Int) (pos rd : Int) (ls : List Int) (w : World) (e : Ending) (w' : World) : Prop :=
  (¬ LoadOk ws q pos rd ls ∧ e = .returned (.pointer none) ∧ Made w w' emp) ∨
  (LoadOk ws q pos rd ls ∧ ∃ b, e = .returned (.pointer (some ⟨b, 0, none⟩)) ∧ Made w w' (srrRep b ⟨pos.toNat, rd, ls, ws.map (· * q)⟩))

theorem sat_emp {w : World} {A : HP} (h : Sat w A) : Sat w (emp • A) := h.perm (emp_sep A).symm

set_option maxHeartbeats 1600000 in
theorem load_no (ao : Option Addr) (n c : Nat) (ws : List Int) (q : Int) (pos rd : Int) (lo : Option Addr) (ln lc : Nat) (ls : List Int) (w : World)
    (hx : Rd w (.slice ao n c) 1 (i64s ws)) (hy : Rd w (.slice lo ln lc) 1 (i64s ls))
    (hno : ¬ OkW ws q ∨ OkW ws q ∧ (¬ ln = n ∨ ln = n ∧ (pos < 0 ∨ 0 ≤ pos ∧ ((n : Int) ≤ pos ∨ pos < n ∧ (rd < 0 ∨ 0 ≤ rd ∧ 1099511627776 < rd))))) :
    Calls Try.prog 21 #[.slice ao n c, .int .i64 q, .agg #[.int .i64 pos, .int .i64 rd, .slice lo ln lc]] w (LoadPost ws q pos rd ls w) := by
  have HX := Lib.hid hx
  have hn : ws.length = n := by simpa [i64s] using hx.len.1
  have hm : ls.length = ln := by simpa [i64s] using hy.len.1
  have HNO : Hid (¬ LoadOk ws q pos rd ls) := by
    rintro ⟨h1, h2, h3, h4, h5, h6, _⟩
    rcases hno with h | ⟨_, h | ⟨_, h | ⟨_, h | ⟨_, h | ⟨_, h⟩⟩⟩⟩⟩
    · exact h h1
    all_goals omega
  clear hx hn hm hy
  rcases hno with h | ⟨hok, h⟩
  · have HO := Lib.hid h
    clear h
    go_enter Try.func21, Try.ntmps21
    go_wp2_with (go_at_call 10; refine (srrNew_any _ _ _ _ _ _ (HX.out.alloc _)).mono ?_; rintro e w1 (⟨_, rfl, rfl⟩ | ⟨hyes, _⟩); rotate_left; exact absurd hyes HO.out)
    go_ret
    exact .inl ⟨HNO.out, rfl, sat_emp ((Sat.own w).box _ _).drop, (Same.refl w).alloc _⟩
  · have HO := Lib.hid hok
    clear hok
    rcases h with h | ⟨h1, h | ⟨h2, h | ⟨h3, h | ⟨h4, h⟩⟩⟩⟩
    · have hd : ((ln : Int) != (n : Int)) = true := by simp; omega
      go_enter Try.func21, Try.ntmps21
      go_wp2_with (go_at_call 10; refine (srrNew_any _ _ _ _ _ _ (HX.out.alloc _)).mono ?_; rintro e w1 (⟨hno, _⟩ | ⟨_, b, rfl, hm⟩); exact absurd HO.out hno; have k2 := cell_made hm (p := ⟨w.heap.size, 2, none⟩) (by simp) rfl; simp [go_sem] at k2; have HM := Lib.hid hm; clear hm)
      go_ret
      exact .inl ⟨HNO.out, rfl, sat_emp (HM.out.sat ((Sat.own w).box _ _).drop).drop, ((Same.refl w).alloc _).trans HM.out.2⟩
    all_goals
      subst h1
      go_enter Try.func21, Try.ntmps21
      go_wp2_with (go_at_call 10; refine (srrNew_any _ _ _ _ _ _ (HX.out.alloc _)).mono ?_; rintro e w1 (⟨hno, _⟩ | ⟨_, b, rfl, hm⟩); exact absurd HO.out hno; have k2 := cell_made hm (p := ⟨w.heap.size, 2, none⟩) (by simp) rfl; have k0 := cell_made hm (p := ⟨w.heap.size, 0, none⟩) (by simp) rfl; have k1 := cell_made hm (p := ⟨w.heap.size, 1, none⟩) (by simp) rfl; simp [go_sem] at k2 k0 k1; have HM := Lib.hid hm; clear hm)
      go_ret
      exact .inl ⟨HNO.out, rfl, sat_emp (HM.out.sat ((Sat.own w).box _ _).drop).drop, ((Same.refl w).alloc _).trans HM.out.2⟩


/-- What holds in Load's loop. -/
def LoadRel (b tb : Nat) (vl vb : Value) (ws : List Int) (q : Int) (a : Nat) (rd : Int) (ts : Value) (ls : List Int) (w : World) (k : Nat) (wr : World) : Prop :=
  Sat wr (srrAt b vl vb (SrrS.new ws q) • pc tb #[.int .i64 a, .int .i64 rd, ts] • ownW w) ∧ Same w wr ∧ ∀ j, j < k → okLeft ls (ws.map (· * q)) a j

theorem LoadRel.facts {b tb : Nat} {vl vb : Value} {ws : List Int} {q : Int} {a : Nat} {rd : Int} {ts : Value} {ls : List Int} {w wr : World} {k : Nat} (h : LoadRel b tb vl vb ws q a rd ts ls w k wr) :
    wr.cell? ⟨tb, 0, none⟩ = some (.int .i64 a) ∧ wr.cell? ⟨tb, 1, none⟩ = some (.int .i64 rd) ∧ wr.cell? ⟨tb, 2, none⟩ = some ts ∧ wr.cell? ⟨b, 0, none⟩ = some (.int .i64 0) ∧ wr.cell? ⟨b, 1, none⟩ = some (.int .i64 0) ∧ wr.cell? ⟨b, 2, none⟩ = some vl ∧ wr.cell? ⟨b, 3, none⟩ = some vb ∧
    b < wr.heap.size ∧ tb < wr.heap.size ∧ b ≠ tb ∧ tb ≠ b ∧ wr.frozen? ⟨b, 0, none⟩ = false ∧ wr.frozen? ⟨b, 1, none⟩ = false ∧ wr.frozen? ⟨b, 2, none⟩ = false ∧ Rd wr vb 1 (i64s (ws.map (· * q))) ∧ Same w wr ∧ Sat wr (ownW w) := by
  obtain ⟨h1, h2, _⟩ := h
  obtain ⟨c0, c1, c2, c3, hb, f0, f1, f2, _, hr⟩ := srr_cell h1
  have h3 := h1.drop
  have h4 : Sat wr (pc b #[.int .i64 (SrrS.new ws q).pos, .int .i64 (SrrS.new ws q).round, vl, vb] • pc tb #[.int .i64 a, .int .i64 rd, ts] • (sl vl 1 (i64s (SrrS.new ws q).left) • sl vb 1 (i64s (SrrS.new ws q).brings) • ownW w)) := h1.perm (by unfold srrAt; ac_rfl)
  exact ⟨by simp [h3.cell], by simp [h3.cell], by simp [h3.cell], c0, c1, c2, c3, hb, h3.lt, h4.neq, h4.neq.symm, f0, f1, f2, hr, h2, h3.drop⟩

theorem LoadRel.drew {b tb : Nat} {vl vb : Value} {ws : List Int} {q : Int} {a : Nat} {rd : Int} {ts : Value} {ls : List Int} {w wr : World} {k : Nat} (h : LoadRel b tb vl vb ws q a rd ts ls w k wr) : LoadRel b tb vl vb ws q a rd ts ls w k wr.drew := ⟨h.1, h.2.1.drew, h.2.2⟩
theorem LoadRel.succ {b tb : Nat} {vl vb : Value} {ws : List Int} {q : Int} {a : Nat} {rd : Int} {ts : Value} {ls : List Int} {w wr : World} {k : Nat} (h : LoadRel b tb vl vb ws q a rd ts ls w k wr) (hk : okLeft ls (ws.map (· * q)) a k) : LoadRel b tb vl vb ws q a rd ts ls w (k + 1) wr :=
  ⟨h.1, h.2.1, fun j hj => by
    by_cases e : j = k
    · subst e; exact hk
    · exact h.2.2 j (by omega)⟩
theorem LoadRel.fails {b tb : Nat} {vl vb : Value} {ws : List Int} {q : Int} {a : Nat} {rd : Int} {ts : Value} {ls : List Int} {w wr : World} {k : Nat} (h : LoadRel b tb vl vb ws q a rd ts ls w k wr) (hk : k < ws.length) (hno : ¬ okLeft ls (ws.map (· * q)) a k) :
    LoadPost ws q a rd ls w (.returned (.pointer none)) wr := by
  refine .inl ⟨?_, rfl, sat_emp h.1.drop.drop, h.2.1⟩
  rintro ⟨_, _, _, _, _, _, h7⟩
  exact hno (by simpa using h7 k hk)

theorem gi_rd {w : World} {ao : Option Addr} {n c : Nat} {l : List Int} (h : Rd w (.slice ao n c) 1 (i64s l)) {k : Nat} (hk : k < n) : ∃ g o, ao = some ⟨g, o, none⟩ ∧ l.length = n ∧ w.cell? ⟨g, o + k, none⟩ = some (.int .i64 (gi l k)) ∧ g < w.heap.size := by
  have hn : l.length = n := by simpa [i64s] using h.len.1
  obtain ⟨g, o, n', c', he, _, _, _, hg, hc⟩ := h.at (by simp [i64s]; omega)
  cases he
  refine ⟨g, o, rfl, hn, ?_, hg⟩
  rw [hc k (by simp [i64s]; omega)]
  simp [i64s, gi_eq, show k < l.length by omega]

set_option maxHeartbeats 4000000 in
theorem load_yes (ao : Option Addr) (n c : Nat) (ws : List Int) (q : Int) (a : Nat) (rd : Int) (lo : Option Addr) (lc : Nat) (ls : List Int) (w : World)
    (hx : Rd w (.slice ao n c) 1 (i64s ws)) (hy : Rd w (.slice lo n lc) 1 (i64s ls)) (hok : OkW ws q) (ha : a < n) (hr1 : 0 ≤ rd) (hr2 : rd ≤ 1099511627776) :
    Calls Try.prog 21 #[.slice ao n c, .int .i64 q, .agg #[.int .i64 a, .int .i64 rd, .slice lo n lc]] w (LoadPost ws q a rd ls w) := by
  have HX := Lib.hid hx
  have HY := Lib.hid hy
  have HN : Hid (ws.length = n) := by show ws.length = n; simpa [i64s] using hx.len.1
  have HM : Hid (ls.length = n) := by show ls.length = n; simpa [i64s] using hy.len.1
  have HO := Lib.hid hok
  have hn16 : n ≤ 16 := by have := hok.2.1; have := HN.out; omega
  have hd1 : decide ((a : Int) < 0) = false := by simp
  have hd2 : decide (rd < 0) = false := by simp; omega
  have hd3 : decide (1099511627776 < rd) = false := by simp; omega
  have hd4 : decide (n ≤ a) = false := by simp; omega
  clear hx hy hok
  go_enter Try.func21, Try.ntmps21
  go_wp2_with (go_at_call 10; refine (srrNew_any _ _ _ _ _ _ (HX.out.alloc _)).mono ?_; rintro e w1 (⟨hno, _⟩ | ⟨_, b, rfl, hm⟩); exact absurd HO.out hno; have k2 := cell_made hm (p := ⟨w.heap.size, 2, none⟩) (by simp) rfl; have k0 := cell_made hm (p := ⟨w.heap.size, 0, none⟩) (by simp) rfl; have k1 := cell_made hm (p := ⟨w.heap.size, 1, none⟩) (by simp) rfl; simp [go_sem] at k2 k0 k1; have HM1 := Lib.hid hm; clear hm)
  obtain ⟨⟨vl, vb⟩, hS⟩ := Sat.ex.1 (HM1.out.sat ((Sat.own w).box #[.int .i64 a, .int .i64 rd, .slice lo n lc] _))
  have hI := (SrrS.new_inv HO.out.1 HO.out.2.2.1 HO.out.2.2.2).toInvL
  obtain ⟨lb, l0, lc', bb, b0, bc, rfl, rfl, _⟩ := srr_cells hS hI
  have hbl : (SrrS.new ws q).brings.length = n := by simp [SrrS.new]; exact HN.out
  rw [hbl] at hS
  have HS : Hid (LoadRel b w.heap.size (.slice (some ⟨lb, l0, none⟩) n lc') (.slice (some ⟨bb, b0, none⟩) n bc) ws q a rd (.slice lo n lc) ls w 0 w1) := ⟨hS, ((Same.refl w).alloc _).trans HM1.out.2, fun j hj => by omega⟩
  clear hS hI hbl HM1 k0 k1 k2
  go_loopg [50] n (fun m i wr => ∃ k : Nat, m = n - k ∧ k ≤ n ∧ i = .int .i64 k ∧ LoadRel b w.heap.size (.slice (some ⟨lb, l0, none⟩) n lc') (.slice (some ⟨bb, b0, none⟩) n bc) ws q a rd (.slice lo n lc) ls w k wr)
  case atStart => exact ⟨0, rfl, Nat.zero_le _, rfl, HS.out⟩
  case round =>
    clear HS
    obtain ⟨k, rfl, hk, rfl, hR⟩ := hrel
    obtain ⟨t0, t1, t2, c0, c1, c2, c3, q1, q2, q3, q4, f0, f1, f2, hrb, hsm, how⟩ := hR.facts
    have HR := Lib.hid hR
    by_cases hkn : k < n
    · obtain ⟨g, o, rfl, _, hck, _⟩ := gi_rd (HY.out.own0 hsm how) hkn
      by_cases hka : k = a
      · obtain ⟨_, _, hbe, _, hcb, _⟩ := gi_rd hrb hkn
        cases hbe
        have hke : ((k : Int) == (a : Int)) = true := by simp; omega
        have hmul := mul_ok HO.out (j := k) (by have := HN.out; omega)
        have hgm : gi (ws.map (· * q)) k = gi ws k * q := SrrS.gi_map _ _ _ (by have := HN.out; omega)
        have HG := Lib.hid hgm
        have HK := Lib.hid hka
        clear hR hrb hsm how hgm hka hmul
        by_cases h1 : gi ls k < 1
        · go_wp2
          go_region
          go_wp2
          go_ret
          exact (HR.out.fails (by have := HN.out; omega) (by unfold okLeft; rw [if_pos HK.out]; omega)) |> fun h => by
            rcases h with ⟨h1, h2, h3⟩ | ⟨_, _, h2, _⟩
            · exact .inl ⟨h1, h2, h3.drew⟩
            · simp at h2
        · by_cases h2 : gi (ws.map (· * q)) k < gi ls k
          · go_wp2
            go_region
            go_wp2
            go_ret
            exact (HR.out.fails (by have := HN.out; omega) (by unfold okLeft; rw [if_pos HK.out]; omega)) |> fun h => by
              rcases h with ⟨h1, h2, h3⟩ | ⟨_, _, h2, _⟩
              · exact .inl ⟨h1, h2, h3.drew⟩
              · simp at h2
          · go_wp2
            go_region
            go_wp2
            go_roundg (n - (k + 1))
            case rel => exact ⟨k + 1, rfl, by omega, by go_num, (HR.out.succ (by unfold okLeft; rw [if_pos HK.out]; omega)).drew⟩
            case measure => omega
      · have hke : ((k : Int) == (a : Int)) = false := by simp; omega
        have HK := Lib.hid hka
        clear hR hrb hsm how hka
        by_cases h1 : gi ls k < -2047
        · go_wp2
          go_ret
          exact HR.out.fails (by have := HN.out; omega) (by unfold okLeft; rw [if_neg HK.out]; omega)
        · by_cases h2 : 0 < gi ls k
          · go_wp2
            go_ret
            exact HR.out.fails (by have := HN.out; omega) (by unfold okLeft; rw [if_neg HK.out]; omega)
          · go_wp2
            go_roundg (n - (k + 1))
            case rel => exact ⟨k + 1, rfl, by omega, by go_num, HR.out.succ (by unfold okLeft; rw [if_neg HK.out]; omega)⟩
            case measure => omega
    · have e : k = n := by omega
      subst e
      have HB : Hid ((i64s ls).length * 8 ≤ 140737488355328) := by show (i64s ls).length * 8 ≤ 140737488355328; have := HM.out; simp [i64s]; omega
      have HY2 := Lib.hid (HY.out.own0 hsm how)
      clear hR hrb hsm how
      have hne : b ≠ w.heap.size := q3
      go_wp2
      go_region_held3 (fun w' => w'.cell? ⟨w.heap.size, 0, none⟩ = some (.int .i64 a) ∧ w'.cell? ⟨w.heap.size, 1, none⟩ = some (.int .i64 rd) ∧ w'.cell? ⟨w.heap.size, 2, none⟩ = some (.slice lo k lc)) (go_keep)
        ((go_at_call 25; refine (clone_i64 _ (i64s ls) _ ?_ (oneCell_ints _ _) HB.out).mono ?_; exact HY2.out.drew; rintro e wc ⟨aoc, nc, cc, rfl, hcl⟩
          have k0 := cell_made hcl.1 (p := ⟨w.heap.size, 0, none⟩) q2 t0
          have k1 := cell_made hcl.1 (p := ⟨w.heap.size, 1, none⟩) q2 t1
          have k2 := cell_made hcl.1 (p := ⟨w.heap.size, 2, none⟩) q2 t2
          have k3 := cell_made hcl.1 (p := ⟨b, 0, none⟩) q1 c0
          have k4 := cell_made hcl.1 (p := ⟨b, 1, none⟩) q1 c1
          have k5 := cell_made hcl.1 (p := ⟨b, 2, none⟩) q1 c2
          have k6 := free_made hcl.1 (p := ⟨b, 0, none⟩) q1 f0
          have k7 := free_made hcl.1 (p := ⟨b, 1, none⟩) q1 f1
          have k8 := free_made hcl.1 (p := ⟨b, 2, none⟩) q1 f2
          have HC := Lib.hid hcl
          clear hcl))
      go_wp2
      go_ret
      obtain ⟨hm, g1, g2, g3, _⟩ := HC.out
      have s1 := hm.sat (Sat.drew HR.out.1)
      have s2 : Sat wc (pc b #[.int .i64 0, .int .i64 0, .slice (some ⟨lb, l0, none⟩) k lc', .slice (some ⟨bb, b0, none⟩) k bc] • (sl (.slice aoc nc cc) 1 (i64s ls) • sl (.slice (some ⟨bb, b0, none⟩) k bc) 1 (i64s (ws.map (· * q))) • (sl (.slice (some ⟨lb, l0, none⟩) k lc') 1 (i64s (SrrS.new ws q).left) • pc w.heap.size #[.int .i64 a, .int .i64 rd, .slice lo k lc]) • ownW w)) := s1.perm (by unfold srrAt; simp only [SrrS.new]; simp; ac_rfl)
      have s3 := ((s2.set (i := 0) (.int .i64 a)).set (i := 1) (.int .i64 rd)).set (i := 2) (.slice aoc nc cc)
      refine .inr ⟨⟨HO.out, by rw [HM.out, HN.out], by omega, by have := HN.out; omega, hr1, hr2, fun j hj => by simpa using HR.out.2.2 j (by have := HN.out; omega)⟩, b, rfl, Sat.ex.2 ⟨(.slice aoc nc cc, .slice (some ⟨bb, b0, none⟩) k bc), ?_⟩, ((((HR.out.2.1.drew).trans hm.2).setCell _ _).setCell _ _).setCell _ _⟩
      refine Sat.drop (A := sl (.slice (some ⟨lb, l0, none⟩) k lc') 1 (i64s (SrrS.new ws q).left) • pc w.heap.size #[.int .i64 a, .int .i64 rd, .slice lo k lc]) (s3.perm ?_)
      unfold srrAt
      simp
      ac_rfl

theorem load_at (ao : Option Addr) (n c : Nat) (ws : List Int) (q : Int) (pos rd : Int) (lo : Option Addr) (lc : Nat) (ls : List Int) (w : World) (a : Nat) (hp : pos = a)
    (hx : Rd w (.slice ao n c) 1 (i64s ws)) (hy : Rd w (.slice lo n lc) 1 (i64s ls)) (hok : OkW ws q) (ha : a < n) (hr1 : 0 ≤ rd) (hr2 : rd ≤ 1099511627776) :
    Calls Try.prog 21 #[.slice ao n c, .int .i64 q, .agg #[.int .i64 pos, .int .i64 rd, .slice lo n lc]] w (LoadPost ws q pos rd ls w) := by
  subst hp
  exact load_yes ao n c ws q a rd lo lc ls w hx hy hok ha hr1 hr2

/-- Load, of anything. -/
theorem load_any (ao : Option Addr) (n c : Nat) (ws : List Int) (q : Int) (pos rd : Int) (lo : Option Addr) (ln lc : Nat) (ls : List Int) (w : World)
    (hx : Rd w (.slice ao n c) 1 (i64s ws)) (hy : Rd w (.slice lo ln lc) 1 (i64s ls)) :
    Calls Try.prog 21 #[.slice ao n c, .int .i64 q, .agg #[.int .i64 pos, .int .i64 rd, .slice lo ln lc]] w (LoadPost ws q pos rd ls w) := by
  by_cases h1 : OkW ws q
  · by_cases h2 : ln = n
    · by_cases h3 : 0 ≤ pos ∧ pos < n ∧ 0 ≤ rd ∧ rd ≤ 1099511627776
      · subst h2
        exact load_at ao ln c ws q pos rd lo lc ls w pos.toNat (by omega) hx hy h1 (by omega) h3.2.2.1 h3.2.2.2
      · exact load_no ao n c ws q pos rd lo ln lc ls w hx hy (.inr ⟨h1, .inr ⟨h2, by omega⟩⟩)
    · exact load_no ao n c ws q pos rd lo ln lc ls w hx hy (.inr ⟨h1, .inl h2⟩)
  · exact load_no ao n c ws q pos rd lo ln lc ls w hx hy (.inl h1)

end Go.Proofs.Ytlbcfkkeoedhdaa
