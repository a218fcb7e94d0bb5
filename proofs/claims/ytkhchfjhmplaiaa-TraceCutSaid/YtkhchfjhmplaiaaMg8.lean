/- Texts laid together: H19 H20 H21 HP16 H35 H36. -/
import Derived.Test.YtkhchfjhmplaiaaMg7
import Derived.Laws.Bits64b
namespace Go
open Go.RowKit
theorem subL_place {h : List Ln} {p : Int} {k : Nat} : ∀ x ∈ atTo h p k, x.q = p := by
  intro x hx
  unfold atTo subL at hx
  obtain ⟨j, hj, rfl⟩ := List.mem_map.1 hx
  have := (List.mem_filter.1 hj).2
  exact of_decide_eq_true this
/-- The events of the first places, counted. -/
def sumAt (h : List Ln) (k : Nat) : Nat → Nat
  | 0 => 0
  | p + 1 => sumAt h k p + rk (plB h p) k
theorem sumAt_succ {h : List Ln} {k : Nat} (h0 : 0 ≤ (lat h k).q) (m : Nat) : sumAt h (k + 1) m = sumAt h k m + (if (lat h k).q < m then 1 else 0) := by
  induction m with
  | zero => rw [if_neg (by omega)]; rfl
  | succ m ih =>
    rw [sumAt, sumAt, ih, rk_succ]
    unfold plB
    generalize lat h k = L at *
    by_cases e1 : L.q = m
    · rw [if_neg (by omega), if_pos (by simpa using e1), if_pos (by omega)]; omega
    · by_cases e2 : L.q < m
      · rw [if_pos e2, if_neg (by simpa using e1), if_pos (by omega)]; omega
      · rw [if_neg e2, if_neg (by simpa using e1), if_neg (by omega)]; omega
theorem sumAt_all {h : List Ln} (hk : HOk h) : ∀ k, k ≤ h.length → sumAt h k 8 = k := by
  intro k
  induction k with
  | zero => intro _; rfl
  | succ k ih =>
    intro hl
    have he := hk.ev k (by omega)
    rw [sumAt_succ he.1, ih (by omega), if_pos (show (lat h k).q < ((8 : Nat) : Int) from he.2.1)]
theorem sumAt_le {h : List Ln} {k p : Nat} : sumAt h k p ≤ p * k := by
  induction p with
  | zero => simp [sumAt]
  | succ p ih => have := rk_le (plB h p) k; rw [sumAt, Nat.succ_mul]; omega
/-- One event more. -/
def moreL (h : List Ln) (r : Int) : List Ln := h ++ [⟨r, 1, 0⟩]
theorem lat_more {h : List Ln} {r : Int} (j : Nat) : lat (moreL h r) j = if j < h.length then lat h j else if j = h.length then ⟨r, 1, 0⟩ else ⟨0, 0, 0⟩ := by
  unfold moreL lat
  rw [List.getD_eq_getElem?_getD]
  by_cases e : j < h.length
  · rw [if_pos e, List.getElem?_append_left e, List.getD_eq_getElem?_getD]
  · rw [if_neg e, List.getElem?_append_right (by omega)]
    by_cases e2 : j = h.length
    · rw [if_pos e2, e2]; simp
    · rw [if_neg e2, List.getElem?_eq_none (by simp; omega)]; rfl
theorem more_ok {h : List Ln} (hk : HOk h) {r : Int} (h0 : 0 ≤ r) (h1 : r < 8) (hl : h.length ≤ 100) : HOk (moreL h r) := by
  have hlen : (moreL h r).length = h.length + 1 := by simp [moreL]
  have hlt : ∀ j, j < (moreL h r).length → j < h.length ∧ lat (moreL h r) j = lat h j ∨ lat (moreL h r) j = ⟨r, 1, 0⟩ := fun j hj => by
    rw [lat_more]
    by_cases e : j < h.length
    · rw [if_pos e]; exact .inl ⟨e, rfl⟩
    · rw [if_neg e, if_pos (by omega)]; exact .inr rfl
  have uniq : ∀ g : Int, g ≠ 1 → (∀ x y, x < y → y < h.length → (lat h x).g = g → (lat h y).g = g → (lat h x).u ≠ (lat h y).u) → ∀ x y, x < y → y < (moreL h r).length → (lat (moreL h r) x).g = g → (lat (moreL h r) y).g = g → (lat (moreL h r) x).u ≠ (lat (moreL h r) y).u := fun g hg hu x y hxy hy e1 e2 => by
    rcases hlt y hy with ⟨h3, h4⟩ | h4
    · rcases hlt x (by omega) with ⟨h5, h6⟩ | h6
      · rw [h6] at e1 ⊢
        rw [h4] at e2 ⊢
        exact hu x y hxy h3 e1 e2
      · rw [h6] at e1; exact absurd e1.symm hg
    · rw [h4] at e2; exact absurd e2.symm hg
  refine ⟨by omega, fun j hj => ?_, uniq 2 (by decide) hk.sends, uniq 3 (by decide) hk.takes, fun j hj hg => ?_⟩
  · rcases hlt j hj with ⟨h3, h4⟩ | h4
    · rw [h4]; exact hk.ev j h3
    · rw [h4]; refine ⟨h0, h1, ?_, ?_, ?_, ?_⟩ <;> (dsimp only; omega)
  · rcases hlt j hj with ⟨h3, h4⟩ | h4
    · rw [h4] at hg ⊢
      obtain ⟨i, hi, h5, h6⟩ := hk.sent j h3 hg
      refine ⟨i, hi, ?_, ?_⟩ <;> (rw [lat_more, if_pos (show i < h.length by omega)]; assumption)
    · rw [h4] at hg; exact absurd hg (show ¬ (1 : Int) = 3 by decide)
theorem at_more {h : List Ln} {r p : Int} : atL (moreL h r) p = atL h p ++ (if r = p then [⟨r, 1, 0⟩] else []) := by
  unfold atL atTo
  rw [show (moreL h r).length = h.length + 1 by simp [moreL], subL_succ]
  have h1 : ∀ k, k ≤ h.length → subL (moreL h r) (plB (moreL h r) p) k = subL h (plB h p) k := fun k => by
    induction k with
    | zero => intro _; rfl
    | succ k ih =>
      intro hk
      have e1 : lat (moreL h r) k = lat h k := by rw [lat_more, if_pos (by omega)]
      have e2 : plB (moreL h r) p k = plB h p k := by unfold plB; rw [e1]
      rw [subL_succ, subL_succ, ih (by omega), e1, e2]
  rw [h1 _ (Nat.le_refl _)]
  have e1 : lat (moreL h r) h.length = ⟨r, 1, 0⟩ := by rw [lat_more, if_neg (by omega), if_pos rfl]
  have e2 : plB (moreL h r) p h.length = decide (r = p) := by unfold plB; rw [e1]
  rw [e1, e2]
  congr 1
  by_cases e : r = p
  · rw [if_pos e, if_pos (by simpa using e)]
  · rw [if_neg e, if_neg (by simpa using e)]
end Go
namespace Go.Proofs.Ytkhchfjhmplaiaa
open Go.RowKit
theorem more_part {h : List Ln} {r : Nat} (hr : r < 8) : Part8 h (moreL h (r : Int)) r := by
  refine ⟨by omega, fun p hp => ?_, fun _ => ?_⟩
  · rw [at_more, if_neg (by omega), List.append_nil]
  · rw [at_more, if_pos rfl]; simp
theorem self_part (h : List Ln) : Part8 h h 8 := ⟨Nat.le_refl _, fun _ _ => rfl, fun h => absurd h (by decide)⟩
set_option maxRecDepth 100000 in
theorem ev38_no {q p g u : Int} {P : Nat} {w : World} (hc : w.cell? ⟨P, 0, none⟩ = some (.int .i64 p)) (hq : q = p) :
    Calls Try.prog 38 #[.agg #[.int .i64 q, .int .i64 g, .int .i64 u], .pointer (some ⟨P, 0, none⟩)] w fun e w' => e = .returned (.bool false) ∧ Keep [] w w' := by
  subst hq
  have hP := World.block_lt_of_cell? _ _ hc
  dsimp only at hP
  have hc2 := ((Keep.refl [] w).alloc (.cells #[.int .i64 q, .int .i64 g, .int .i64 u] 27)).cell hc (by simp)
  go_enter Try.func38, Try.ntmps38
  go_wp2_with fail
  go_ret
  exact ⟨rfl, (Keep.refl _ _).alloc _⟩
set_option maxRecDepth 100000 in
set_option maxHeartbeats 1000000 in
theorem ix68_no {a : Option Addr} {n c P : Nat} {p : Int} {h : List Ln} {w : World} (hx : LnsV w a n c h) (hc : w.cell? ⟨P, 0, none⟩ = some (.int .i64 p)) (hp : ∀ x ∈ h, x.q = p) :
    Calls Try.prog 68 #[.slice a n c, .func (.func 38) #[] #[.pointer (some ⟨P, 0, none⟩)]] w fun e w' => e = .returned (.int .i64 (-1)) ∧ Keep [] w w' := by
  have HX := Lib.hid hx
  have HP := Lib.hid hp
  have HL := Lib.hid hx.len
  have h1 := hx.room
  have h2 := hx.most
  unfold maxLen at h2
  have HC := Lib.hid hc
  clear hx hp hc
  go_enter Try.func68, Try.ntmps68
  go_wp2_with fail
  go_loopw [8] (fun i wr => ∃ k : Nat, k ≤ n ∧ i = .int .i64 k ∧ Keep [] w wr) (fun i _ => n - (intOf i).toNat)
  case atStart => exact ⟨0, by omega, rfl, Keep.refl _ _⟩
  case round =>
    obtain ⟨k, hk, rfl, hkw⟩ := hrel
    by_cases hlt : k < n
    · obtain ⟨b, off, rfl, c0, c1', c2'⟩ := (HX.out.keep hkw (by simp)).at_ hlt
      have hq : (lat h k).q = p := HP.out _ (lat_mem (by rw [HL.out]; exact hlt))
      obtain ⟨⟨q, g, u⟩, hL⟩ : ∃ L, lat h k = L := ⟨_, rfl⟩
      rw [hL] at c0 c1' c2' hq
      dsimp only at c0 c1' c2' hq
      have HQ := Lib.hid hq
      clear hL hq
      go_wp2_with (first | (go_at_call 38; refine (ev38_no (hkw.cell HC.out (by simp)) HQ.out).mono ?_; rintro e w1 ⟨rfl, hk1⟩))
      go_roundw
      case measure => simp [intOf]; omega
      case rel => exact ⟨k + 1, by omega, by go_num, hkw.trans hk1⟩
    · go_wp2_with fail
      go_ret
      exact ⟨rfl, hkw⟩
theorem has37_no {a : Option Addr} {n c P : Nat} {p : Int} {h : List Ln} {w : World} (hx : LnsV w a n c h) (hc : w.cell? ⟨P, 0, none⟩ = some (.int .i64 p)) (hp : ∀ x ∈ h, x.q = p) :
    Calls Try.prog 37 #[.slice a n c, .func (.func 38) #[] #[.pointer (some ⟨P, 0, none⟩)]] w fun e w' => e = .returned (.bool false) ∧ Keep [] w w' := by
  have H := Lib.hid (ix68_no hx hc hp)
  clear hx hc hp
  go_enter Try.func37, Try.ntmps37
  go_wp2_with (first | (go_at_call 68; refine H.out.mono ?_; rintro e w1 ⟨rfl, hk1⟩))
  go_ret
  exact ⟨rfl, hk1⟩
end Go.Proofs.Ytkhchfjhmplaiaa
namespace Go.Proofs.Ytkhchfjhmplaiaa
open Go.RowKit
set_option maxRecDepth 100000 in
theorem clone_empty {a : Option Addr} {c : Nat} {w : World} : Calls Try.prog 39 #[.slice a 0 c] w fun e w' => ∃ v, e = .returned v ∧ Keep [] w w' ∧ w'.ownsRow w.heap.size 27 3 v 0 [] := by
  obtain ⟨i0, hi0, hz0, hz1, hz2⟩ := info_parts info27
  cases a with
  | none =>
    have hb1 : (binOp BinOp.eql 28 (.slice none 0 c) (.slice none 0 0)).run Try.prog w = .ok (.bool true) w := by kernel_rfl
    go_enter Try.func39, Try.ntmps39
    go_wp2_with fail
    go_ret
    exact ⟨_, rfl, Keep.refl _ _, World.ownsRow_nil _ _ _ _⟩
  | some ad =>
    have hb1 : (binOp BinOp.eql 28 (.slice (some ad) 0 c) (.slice none 0 0)).run Try.prog w = .ok (.bool false) w := by kernel_rfl
    have ho : (w.alloc (.cells #[] 27)).ownsRow w.heap.size 27 3 (.slice (some ⟨w.heap.size, 0, none⟩) 0 0) 0 [] := ⟨rfl, .inr ⟨w.heap.size, 0, #[], rfl, Nat.le_refl _, blk_new w _, Nat.le_refl _, Nat.zero_le _, rfl, rfl⟩⟩
    have HO := Lib.hid ho
    clear ho
    go_enter Try.func39, Try.ntmps39
    go_wp2_with (first | (at_builtin; refine wpList_append_own _ rfl _ _ 28 rfl w.heap.size 27 i0 (.agg #[.int .i64 0, .int .i64 0, .int .i64 0]) 3 24 Try.underlying28 hi0 hz0 hz1 hz2 rfl (by decide) _ _ _ rfl HO.out ad 0 c [] rfl rfl (by intro j u hu; simp at hu) (by intro u hu; simp at hu) (by unfold maxLen; omega) (by omega) (by simp) ?_; intro v6 w6 hown6 hgr6 _; have HO6 := Lib.hid hown6; have HGR6 := Lib.hid hgr6; clear hown6 hgr6))
    go_ret
    have hgr : (w.alloc (.cells #[] 27)).grownBy w6 (some w.heap.size) := HGR6.out
    exact ⟨_, rfl, ((Keep.refl _ _).alloc _).grown hgr (fun g hg => .inr (by cases hg; exact Nat.le_refl _)), HO6.out⟩
theorem clone_gen {a : Option Addr} {n c : Nat} {h : List Ln} {w : World} (hv : LnsV w a n c h) (hn2 : n ≤ 200) :
    Calls Try.prog 39 #[.slice a n c] w fun e w' => ∃ v, e = .returned v ∧ Keep [] w w' ∧ w'.ownsRow w.heap.size 27 3 v n (lanesC h) := by
  by_cases h0 : n = 0
  · subst h0
    have : h = [] := List.eq_nil_of_length_eq_zero hv.len
    subst this
    exact clone_empty
  · refine (clone_any hv (by omega) hn2).mono ?_
    rintro e w' ⟨g, cap, rfl, hk, ho⟩
    exact ⟨_, rfl, hk, ho⟩
set_option maxRecDepth 100000 in
set_option maxHeartbeats 4000000 in
theorem tracePlaces_walk (a : Option Addr) (len cap : Nat) (zs : List Int) (x : Int) (w : World) (hv : IntsV w a len cap zs) :
    Calls Try.prog 9 #[.slice a len cap, .int .i64 x] w fun e w' => e = .returned (.bool true) ∧ Keep [] w w' := by
  obtain ⟨N, hN⟩ : ∃ N, (hist zs).length = N := ⟨_, rfl⟩
  have hok : HOk (hist zs) := (hist_inv zs).ok
  have hN60 := hist_len zs
  rw [hN] at hN60
  have hNle : N ≤ 60 := by omega
  have hsum : sumAt (hist zs) N 8 = N := sumAt_all hok N (by omega)
  have HSL := Lib.hid (fun p => @sumAt_le (hist zs) N p)
  have HV := Lib.hid hv
  have HOK := Lib.hid hok
  obtain ⟨r, hr, hr8⟩ := at_nat x (show 0 < 8 by omega)
  have hmok := more_ok hok (r := (r : Int)) (by omega) (by omega) (by omega)
  have HR : Hid (restI x 8 = (r : Int)) := Lib.hid hr
  have HMOK := Lib.hid hmok
  have HN := Lib.hid hN
  have HSUM := Lib.hid hsum
  have HRF : Hid (false = decide (r = 8)) := Lib.hid (decide_eq_false (by omega)).symm
  obtain ⟨i0, hi0, hz0, hz1, hz2⟩ := info_parts info27
  clear hv hN60 hN hok hr hmok hsum
  go_enter Try.func9, Try.ntmps9
  go_wp2_with (first | (go_at_call 35; refine (tbegun_any _).mono ?_; rintro e w0 ⟨rfl, hk0⟩) | (go_at_call 20; refine (history_at (HV.out.keep hk0 (by simp)) HN).mono ?_; rintro e w2 ⟨a2, c2, rfl, hk2, hv2⟩; have HV2 := Lib.hid hv2; clear hv2))
  have hk02 := hk0.trans hk2
  go_loopw [6, 7, 8, 9, 19] (fun v _ _ _ j wr => ∃ p : Nat, p ≤ 8 ∧ v = .int .i64 (sumAt (hist zs) N p) ∧ j = .int .i64 p ∧ Keep [] w2 wr) (fun _ _ _ _ j _ => 8 - (intOf j).toNat)
  case atStart => exact ⟨0, by omega, rfl, rfl, Keep.refl _ _⟩
  case round =>
    obtain ⟨p, hp, rfl, rfl, hkw⟩ := hrel
    have hsl := HSL.out p
    by_cases hlt : p < 8
    · have hslp : sumAt (hist zs) N p ≤ 480 := by
        have : p * N ≤ 8 * 60 := Nat.mul_le_mul hp hNle
        omega
      clear hsl
      have hsucc : sumAt (hist zs) N (p + 1) = sumAt (hist zs) N p + rk (plB (hist zs) p) N := rfl
      have hrk := rk_le (plB (hist zs) p) N
      have hlen : (atL (hist zs) (p : Int)).length = rk (plB (hist zs) p) N := by unfold atL atTo; rw [subL_len, HN.out]
      obtain ⟨S, hS⟩ : ∃ S, sumAt (hist zs) N p = S := ⟨_, rfl⟩
      obtain ⟨M, hM⟩ : ∃ M, rk (plB (hist zs) p) N = M := ⟨_, rfl⟩
      rw [hS, hM] at hsucc
      rw [hM] at hrk hlen
      rw [hS] at hslp ⊢
      have HSC := Lib.hid hsucc
      have HLN := Lib.hid hlen
      have HPB := Lib.hid (blk_new wr (.cells #[.int .i64 p] 3))
      have hkA : Keep [] wr (wr.alloc (.cells #[.int .i64 p] 3)) := (Keep.refl [] _).alloc _
      have HPL : Hid (∀ x ∈ atL (hist zs) (p : Int), x.q = (p : Int)) := Lib.hid subL_place
      clear hS hM hsucc hlen
      go_wp2_with (first | (go_at_call 36; refine (at36_any ((HV2.out.keep hkw (by simp)).keep hkA (by simp)) HOK.out hlt).mono ?_; rintro e w3 ⟨a3, m3, c3, rfl, hk3, hv3⟩; have hm3 : m3 = M := (by rw [← hv3.len]; exact HLN.out); subst hm3; have HV3 := Lib.hid hv3; have hcp := cellAt (hk3.at HPB.out (by simp)) 0; have HCP : Hid (w3.cell? ⟨wr.heap.size, 0, none⟩ = some (.int .i64 p)) := Lib.hid hcp; clear hv3 hcp) | (go_at_call 37; refine (has37_no HV3.out HCP.out HPL.out).mono ?_; rintro e w4 ⟨rfl, hk4⟩))
      go_roundw
      case measure => simp [intOf]; omega
      case rel => exact ⟨p + 1, by omega, by rw [HSC.out]; simp, by go_num, ((hkw.trans hkA).trans hk3).trans hk4⟩
    · have hp8 := Lib.hid (show p = 8 by omega)
      have hS8 : sumAt (hist zs) N p = N := by rw [hp8.out]; exact HSUM.out
      rw [hS8]
      clear hS8 hsl
      have HVR := Lib.hid (HV2.out.keep hkw (by simp))
      have hkr := hk02.trans hkw
      go_wp2_with (first | (go_at_call 39; refine (clone_gen HVR.out (by omega)).mono ?_; rintro e w5 ⟨v5, rfl, hk5, ho5⟩; have HO5 := Lib.hid ho5; have HV5 := Lib.hid (HVR.out.keep hk5 (by simp)); clear ho5) | (go_at_call 21; (with_reducible refine (rest_at HR (by omega) (by omega)).mono ?_); rintro e w' ⟨rfl, rfl⟩) | (at_builtin; refine wpList_append_own _ rfl _ _ 28 rfl wr.heap.size 27 i0 (.agg #[.int .i64 0, .int .i64 0, .int .i64 0]) 3 24 Try.underlying28 hi0 hz0 hz1 hz2 rfl (by decide) _ _ _ rfl (HO5.out.alloc _) ⟨w5.heap.size, 0, none⟩ 1 1 [.int .i64 r, .int .i64 1, .int .i64 0] rfl rfl (cells_new _ _ _ _) (by intro u hu; simp at hu; rcases hu with hu | hu | hu <;> (subst hu; rfl)) (by unfold maxLen; omega) (by omega) (by have := hk5.size; simp; omega) ?_; intro v6 w6 hown6 hgr6 _; have hk6 : Keep [] wr w6 := (hk5.alloc _).grown hgr6 (fun g hg => .inr (HO5.out.lt g hg).1); have HV6 := Lib.hid (HVR.out.keep hk6 (by simp)); obtain ⟨a6, c6, rfl, hm6, _⟩ := LnsV.ofOwn (show w6.ownsRow wr.heap.size 27 3 v6 (N + 1) (lanesC (moreL (hist zs) r)) by rw [moreL, lanesC_snoc]; exact hown6); have HM6 := Lib.hid hm6; clear hown6 hgr6 hm6) | (go_at_call 40; (with_reducible refine (same40_any (R := false) HV6.out HM6.out HOK.out HMOK.out (more_part hr8) HRF.out).mono ?_); rintro e w7 ⟨rfl, hk7⟩; have HV7 := Lib.hid (HV6.out.keep hk7 (by simp))) | (go_at_call 40; (with_reducible refine (same40_any (R := true) HV7.out HV7.out HOK.out HOK.out (self_part _) rfl).mono ?_); rintro e w8 ⟨rfl, hk8⟩))
      go_ret
      exact ⟨rfl, ((hkr.trans hk6).trans hk7).trans hk8⟩
end Go.Proofs.Ytkhchfjhmplaiaa
namespace Go
open Go.RowKit
/-- The first k events are sound. -/
structure HTo (h : List Ln) (k : Nat) : Prop where
  ev : ∀ i, i < k → 0 ≤ (lat h i).q ∧ (lat h i).q < 8 ∧ 1 ≤ (lat h i).g ∧ (lat h i).g ≤ 3 ∧ 0 ≤ (lat h i).u ∧ (lat h i).u ≤ 999
  sends : ∀ i j, i < j → j < k → (lat h i).g = 2 → (lat h j).g = 2 → (lat h i).u ≠ (lat h j).u
  takes : ∀ i j, i < j → j < k → (lat h i).g = 3 → (lat h j).g = 3 → (lat h i).u ≠ (lat h j).u
  sent : ∀ i, i < k → (lat h i).g = 3 → ∃ j, j < i ∧ (lat h j).g = 2 ∧ (lat h j).u = (lat h i).u
theorem HTo.zero (h : List Ln) : HTo h 0 := ⟨fun i h => absurd h (by omega), fun i j _ h => absurd h (by omega), fun i j _ h => absurd h (by omega), fun i h => absurd h (by omega)⟩
theorem HTo.all {h : List Ln} (t : HTo h h.length) (hl : h.length ≤ 200) : HOk h := ⟨hl, t.ev, t.sends, t.takes, t.sent⟩
theorem HTo.step {h : List Ln} {k : Nat} (t : HTo h k) (he : 0 ≤ (lat h k).q ∧ (lat h k).q < 8 ∧ 1 ≤ (lat h k).g ∧ (lat h k).g ≤ 3 ∧ 0 ≤ (lat h k).u ∧ (lat h k).u ≤ 999)
    (h2 : (lat h k).g = 2 → saidB h 2 k (lat h k).u = false) (h3 : (lat h k).g = 3 → saidB h 3 k (lat h k).u = false ∧ saidB h 2 k (lat h k).u = true) : HTo h (k + 1) := by
  refine ⟨fun i hi => ?_, fun i j hij hj e1 e2 e3 => ?_, fun i j hij hj e1 e2 e3 => ?_, fun i hi hg => ?_⟩
  · by_cases e : i = k
    · rw [e]; exact he
    · exact t.ev i (by omega)
  · by_cases e : j = k
    · subst e
      have h4 := h2 e2
      have h5 := (saidB_iff h 2 j (lat h j).u).2 ⟨i, hij, e1, e3⟩
      rw [h4] at h5; cases h5
    · exact t.sends i j hij (by omega) e1 e2 e3
  · by_cases e : j = k
    · subst e
      have h4 := (h3 e2).1
      have h5 := (saidB_iff h 3 j (lat h j).u).2 ⟨i, hij, e1, e3⟩
      rw [h4] at h5; cases h5
    · exact t.takes i j hij (by omega) e1 e2 e3
  · by_cases e : i = k
    · subst e
      exact (saidB_iff h 2 i (lat h i).u).1 (h3 hg).2
    · exact t.sent i (by omega) hg
end Go
namespace Go.Proofs.Ytkhchfjhmplaiaa
open Go.RowKit
theorem mark_get (h : List Ln) (g : Int) (k : Nat) (x : Int) : (markF h g k x).getD (.bool false) = .bool (saidB h g k x) := by
  unfold markF
  cases saidB h g k x <;> rfl
set_option maxRecDepth 100000 in
set_option maxHeartbeats 4000000 in
theorem check_gen {a : Option Addr} {n c : Nat} {h : List Ln} {w : World} (hv : LnsV w a n c h) (hloc : ∀ i, i < n → (lat h i).g = 1 → 0 ≤ (lat h i).u ∧ (lat h i).u ≤ 999) :
    Calls Try.prog 51 #[.slice a n c] w fun e w' => ∃ x : Int, e = .returned (.int .i64 x) ∧ Keep [] w w' ∧ (x = 0 → HOk h) := by
  have hmm := @run_makeMap Try.prog
  have HV := Lib.hid hv
  have HL := Lib.hid hv.len
  have HLO := Lib.hid hloc
  clear hv hloc
  by_cases hn : 200 < n
  · have hdn : decide ((200 : Int) < (n : Int)) = true := by simp; omega
    go_enter Try.func51, Try.ntmps51
    go_wp2_with fail
    go_ret
    exact ⟨2, rfl, Keep.refl _ _, fun h => absurd h (by decide)⟩
  · have hn2 : n ≤ 200 := by omega
    go_enter Try.func51, Try.ntmps51
    go_wp2_with fail
    go_loopw [14] (fun i wr => ∃ k : Nat, k ≤ n ∧ i = .int .i64 k ∧ Keep [] w wr ∧ Hid (HTo h k) ∧ Hid (MapF wr Try.prog 3 w.heap.size k (markF h 2 k)) ∧ Hid (MapF wr Try.prog 3 (w.heap.size + 1) k (markF h 3 k))) (fun i _ => n - (intOf i).toNat)
    case atStart =>
      have e2 : markF h 2 0 = fun _ => none := funext fun x => by simp [markF, saidB]
      have e3 : markF h 3 0 = fun _ => none := funext fun x => by simp [markF, saidB]
      refine ⟨0, by omega, rfl, ((Keep.refl _ _).alloc _).alloc _, Lib.hid (HTo.zero h), Lib.hid ?_, Lib.hid ?_⟩
      · rw [e2]; exact (MapF.made w Try.prog 3).keep ((Keep.refl [] _).alloc _) (by simp)
      · rw [e3]; have h9 := MapF.made (w.alloc (.map #[] 0)) Try.prog 3; rwa [show (w.alloc (.map #[] 0)).heap.size = w.heap.size + 1 by simp] at h9
    case round =>
      obtain ⟨k, hk, rfl, hkw, HTO, HS, HT⟩ := hrel
      by_cases hlt : k < n
      · have hlk : k < h.length := by rw [HL.out]; exact hlt
        have hloc := HLO.out k hlt
        obtain ⟨b, off, rfl, c0, c1, c2⟩ := (HV.out.keep hkw (by simp)).at_ hlt
        have hstep := Lib.hid (HTO.out.step)
        have hsame2 := Lib.hid (markF_same (h := h) (g := 2) (k := k))
        have hsame3 := Lib.hid (markF_same (h := h) (g := 3) (k := k))
        have hput2 := Lib.hid (markF_put (h := h) (g := 2) (k := k))
        have hput3 := Lib.hid (markF_put (h := h) (g := 3) (k := k))
        generalize lat h k = L at *
        obtain ⟨q, g, u⟩ := L
        dsimp only at *
        by_cases hg0 : g < 1
        · have b1 : decide (g < 1) = true := by simpa using hg0
          go_wp2_with (first | (with_reducible refine Txt.wp_region_text mixed quiet (by decide +kernel) ?_) | (with_reducible refine Txt.text_done (by kernel_rfl) ?_))
          go_ret
          exact ⟨3, rfl, hkw.alloc _, fun h => absurd h (by decide)⟩
        · have b1 : decide (g < 1) = false := by simpa using hg0
          by_cases hg4 : 3 < g
          · have b2 : decide (3 < g) = true := by simpa using hg4
            go_wp2_with (first | (with_reducible refine Txt.wp_region_text mixed quiet (by decide +kernel) ?_) | (with_reducible refine Txt.text_done (by kernel_rfl) ?_))
            go_ret
            exact ⟨3, rfl, hkw.alloc _, fun h => absurd h (by decide)⟩
          · have b2 : decide (3 < g) = false := by simpa using hg4
            by_cases hq0 : q < 0
            · have b3 : decide (q < 0) = true := by simpa using hq0
              go_wp2_with (first | (with_reducible refine Txt.wp_region_text mixed quiet (by decide +kernel) ?_) | (with_reducible refine Txt.text_done (by kernel_rfl) ?_))
              go_ret
              exact ⟨1, rfl, hkw.alloc _, fun h => absurd h (by decide)⟩
            · have b3 : decide (q < 0) = false := by simpa using hq0
              by_cases hq8 : 8 ≤ q
              · have b4 : decide (8 ≤ q) = true := by simpa using hq8
                go_wp2_with (first | (with_reducible refine Txt.wp_region_text mixed quiet (by decide +kernel) ?_) | (with_reducible refine Txt.text_done (by kernel_rfl) ?_))
                go_ret
                exact ⟨1, rfl, hkw.alloc _, fun h => absurd h (by decide)⟩
              · have b4 : decide (8 ≤ q) = false := by simpa using hq8
                by_cases hg1 : g = 1
                · subst hg1
                  have hu := hloc rfl
                  have hst := Lib.hid (hstep.out ⟨by omega, by omega, by omega, by omega, by omega, by omega⟩ (fun e => absurd e (by decide)) (fun e => absurd e (by decide)))
                  have HS1 : Hid (MapF (wr.alloc (.cells #[.int .i64 q, .int .i64 1, .int .i64 u] 27)) Try.prog 3 w.heap.size (k + 1) (markF h 2 (k + 1))) := Lib.hid (by rw [hsame2.out (by decide)]; exact (HS.out.keep ((Keep.refl [] _).alloc _) (by simp)).mono (by omega))
                  have HT1 : Hid (MapF (wr.alloc (.cells #[.int .i64 q, .int .i64 1, .int .i64 u] 27)) Try.prog 3 (w.heap.size + 1) (k + 1) (markF h 3 (k + 1))) := Lib.hid (by rw [hsame3.out (by decide)]; exact (HT.out.keep ((Keep.refl [] _).alloc _) (by simp)).mono (by omega))
                  clear hloc hu hg0 hg4
                  go_wp2_with (first | (with_reducible refine Txt.wp_region_text mixed quiet (by decide +kernel) ?_) | (with_reducible refine Txt.text_done (by kernel_rfl) ?_))
                  go_roundw
                  case measure => simp [intOf]; omega
                  case rel => exact ⟨k + 1, by omega, by go_num, hkw.alloc _, hst, HS1, HT1⟩
                · clear hloc
                  have hg1b : (g == 1) = false := beq_eq_false_iff_ne.2 hg1
                  by_cases hu0 : u < 0
                  · have b5 : decide (u < 0) = true := by simpa using hu0
                    go_wp2_with (first | (with_reducible refine Txt.wp_region_text mixed quiet (by decide +kernel) ?_) | (with_reducible refine Txt.text_done (by kernel_rfl) ?_))
                    go_ret
                    exact ⟨1, rfl, hkw.alloc _, fun h => absurd h (by decide)⟩
                  · have b5 : decide (u < 0) = false := by simpa using hu0
                    by_cases hu9 : 999 < u
                    · have b6 : decide (999 < u) = true := by simpa using hu9
                      go_wp2_with (first | (with_reducible refine Txt.wp_region_text mixed quiet (by decide +kernel) ?_) | (with_reducible refine Txt.text_done (by kernel_rfl) ?_))
                      go_ret
                      exact ⟨1, rfl, hkw.alloc _, fun h => absurd h (by decide)⟩
                    · have b6 : decide (999 < u) = false := by simpa using hu9
                      have HWF := Lib.hid (wf_msg (z := u) (by omega) (by omega))
                      rcases (by omega : g = 2 ∨ g = 3) with hg | hg
                      · subst hg
                        have HSa := Lib.hid (HS.out.keep ((Keep.refl [] _).alloc (.cells #[.int .i64 q, .int .i64 2, .int .i64 u] 27)) (by simp))
                        have HTa := Lib.hid (HT.out.keep ((Keep.refl [] _).alloc (.cells #[.int .i64 q, .int .i64 2, .int .i64 u] 27)) (by simp))
                        have hm := mark_get h 2 k u
                        obtain ⟨s2, hs2⟩ : ∃ s, saidB h 2 k u = s := ⟨_, rfl⟩
                        rw [hs2] at hm
                        have HV2 := Lib.hid hm
                        have hs2' := Lib.hid hs2
                        have hst := Lib.hid (fun (e : s2 = false) => hstep.out ⟨by omega, by omega, by omega, by omega, by omega, by omega⟩ (fun _ => hs2.trans e) (fun e => absurd e (by decide)))
                        clear hm hs2 hg0 hg4 hg1
                        cases s2
                        · go_wp2_with (first | (with_reducible refine Txt.wp_region_text mixed quiet (by decide +kernel) ?_) | (with_reducible refine Txt.text_done (by kernel_rfl) ?_) | (at_lookup; refine wpList_lookup_v _ rfl _ _ 103 rfl 3 4 Try.underlying103 Try.underlying3 (.bool false) (zeroB _) w.heap.size k (markF h 2 k) rfl HSa.out u rfl HWF.out _ HV2 ?_) | (at_mapUpdate; refine wpList_update_f _ rfl _ _ _ 103 rfl 3 4 Try.underlying103 Try.underlying3 w.heap.size k (markF h 2 k) rfl HSa.out (by unfold maxLen; omega) u (.bool true) rfl rfl HWF.out ?_; intro w2 hm2 hgr2; have HM2 := Lib.hid hm2; have HGR := Lib.hid hgr2; clear hm2 hgr2))
                          go_roundw
                          case measure => simp [intOf]; omega
                          case rel =>
                            refine ⟨k + 1, by omega, by go_num, (hkw.alloc (.cells #[.int .i64 q, .int .i64 2, .int .i64 u] 27)).grown HGR.out (fun x hx => by cases hx; exact .inr (Nat.le_refl _)), Lib.hid (hst.out rfl), Lib.hid ?_, Lib.hid ?_⟩
                            · rw [hput2.out rfl]; exact HM2.out
                            · rw [hsame3.out (by decide)]
                              exact (HTa.out.keep (Keep.ofGrown (S := [w.heap.size]) HGR.out (fun x hx => by cases hx; simp)) (by simp)).mono (by omega)
                        · go_wp2_with (first | (with_reducible refine Txt.wp_region_text mixed quiet (by decide +kernel) ?_) | (with_reducible refine Txt.text_done (by kernel_rfl) ?_) | (at_lookup; refine wpList_lookup_v _ rfl _ _ 103 rfl 3 4 Try.underlying103 Try.underlying3 (.bool false) (zeroB _) w.heap.size k (markF h 2 k) rfl HSa.out u rfl HWF.out _ HV2 ?_))
                          go_ret
                          exact ⟨5, rfl, hkw.alloc _, fun h => absurd h (by decide)⟩
                      · subst hg
                        have HSa := Lib.hid (HS.out.keep ((Keep.refl [] _).alloc (.cells #[.int .i64 q, .int .i64 3, .int .i64 u] 27)) (by simp))
                        have HTa := Lib.hid (HT.out.keep ((Keep.refl [] _).alloc (.cells #[.int .i64 q, .int .i64 3, .int .i64 u] 27)) (by simp))
                        have hm := mark_get h 2 k u
                        have hm' := mark_get h 3 k u
                        obtain ⟨s2, hs2⟩ : ∃ s, saidB h 2 k u = s := ⟨_, rfl⟩
                        obtain ⟨s3, hs3⟩ : ∃ s, saidB h 3 k u = s := ⟨_, rfl⟩
                        rw [hs2] at hm
                        rw [hs3] at hm'
                        have HV2 := Lib.hid hm
                        have HV3 := Lib.hid hm'
                        have hst := Lib.hid (fun (e : s3 = false) (e2 : s2 = true) => hstep.out ⟨by omega, by omega, by omega, by omega, by omega, by omega⟩ (fun e => absurd e (by decide)) (fun _ => ⟨hs3.trans e, hs2.trans e2⟩))
                        clear hm hm' hs2 hs3 hg0 hg4 hg1
                        cases s3
                        · cases s2
                          · go_wp2_with (first | (with_reducible refine Txt.wp_region_text mixed quiet (by decide +kernel) ?_) | (with_reducible refine Txt.text_done (by kernel_rfl) ?_) | (at_lookup; refine wpList_lookup_v _ rfl _ _ 103 rfl 3 4 Try.underlying103 Try.underlying3 (.bool false) (zeroB _) w.heap.size k (markF h 2 k) rfl HSa.out u rfl HWF.out _ HV2 ?_) | (at_lookup; refine wpList_lookup_v _ rfl _ _ 103 rfl 3 4 Try.underlying103 Try.underlying3 (.bool false) (zeroB _) (w.heap.size + 1) k (markF h 3 k) rfl HTa.out u rfl HWF.out _ HV3 ?_))
                            go_ret
                            exact ⟨4, rfl, hkw.alloc _, fun h => absurd h (by decide)⟩
                          · go_wp2_with (first | (with_reducible refine Txt.wp_region_text mixed quiet (by decide +kernel) ?_) | (with_reducible refine Txt.text_done (by kernel_rfl) ?_) | (at_lookup; refine wpList_lookup_v _ rfl _ _ 103 rfl 3 4 Try.underlying103 Try.underlying3 (.bool false) (zeroB _) w.heap.size k (markF h 2 k) rfl HSa.out u rfl HWF.out _ HV2 ?_) | (at_lookup; refine wpList_lookup_v _ rfl _ _ 103 rfl 3 4 Try.underlying103 Try.underlying3 (.bool false) (zeroB _) (w.heap.size + 1) k (markF h 3 k) rfl HTa.out u rfl HWF.out _ HV3 ?_) | (at_mapUpdate; refine wpList_update_f _ rfl _ _ _ 103 rfl 3 4 Try.underlying103 Try.underlying3 (w.heap.size + 1) k (markF h 3 k) rfl HTa.out (by unfold maxLen; omega) u (.bool true) rfl rfl HWF.out ?_; intro w2 hm2 hgr2; have HM2 := Lib.hid hm2; have HGR := Lib.hid hgr2; clear hm2 hgr2))
                            go_roundw
                            case measure => simp [intOf]; omega
                            case rel =>
                              refine ⟨k + 1, by omega, by go_num, (hkw.alloc (.cells #[.int .i64 q, .int .i64 3, .int .i64 u] 27)).grown HGR.out (fun x hx => by cases hx; exact .inr (Nat.le_succ _)), Lib.hid (hst.out rfl rfl), Lib.hid ?_, Lib.hid ?_⟩
                              · rw [hsame2.out (by decide)]
                                exact (HSa.out.keep (Keep.ofGrown (S := [(w.heap.size + 1)]) HGR.out (fun x hx => by cases hx; simp)) (by simp)).mono (by omega)
                              · rw [hput3.out rfl]; exact HM2.out
                        · go_wp2_with (first | (with_reducible refine Txt.wp_region_text mixed quiet (by decide +kernel) ?_) | (with_reducible refine Txt.text_done (by kernel_rfl) ?_) | (at_lookup; refine wpList_lookup_v _ rfl _ _ 103 rfl 3 4 Try.underlying103 Try.underlying3 (.bool false) (zeroB _) w.heap.size k (markF h 2 k) rfl HSa.out u rfl HWF.out _ HV2 ?_) | (at_lookup; refine wpList_lookup_v _ rfl _ _ 103 rfl 3 4 Try.underlying103 Try.underlying3 (.bool false) (zeroB _) (w.heap.size + 1) k (markF h 3 k) rfl HTa.out u rfl HWF.out _ HV3 ?_))
                          go_ret
                          exact ⟨5, rfl, hkw.alloc _, fun h => absurd h (by decide)⟩
      · have hkn := Lib.hid (show k = n by omega)
        go_wp2_with fail
        go_ret
        exact ⟨0, rfl, hkw, fun _ => HTo.all (by rw [HL.out, ← hkn.out]; exact HTO.out) (by rw [HL.out]; exact hn2)⟩
end Go.Proofs.Ytkhchfjhmplaiaa
namespace Go
open Go.RowKit
/-- A number in at most three bytes, in its one encoding, off the front. -/
def rdN : List Int → Option (Nat × List Int)
  | [] => none
  | b0 :: r0 => if b0 < 128 then some (b0.toNat, r0) else
    match r0 with
    | [] => none
    | b1 :: r1 => if b1 = 0 then none else if b1 < 128 then some (b0.toNat - 128 + b1.toNat * 128, r1) else
      match r1 with
      | [] => none
      | b2 :: r2 => if b2 = 0 then none else if b2 < 128 then some (b0.toNat - 128 + (b1.toNat - 128) * 128 + b2.toNat * 16384, r2) else none
def Bytes (l : List Int) : Prop := ∀ z ∈ l, 0 ≤ z ∧ z < 256
theorem encN_small {u : Nat} (h : u < 128) : encN u = [(u : Int)] := by rw [encN, if_pos h]
theorem encN_big {u : Nat} (h : ¬ u < 128) : encN u = ((u % 128 + 128 : Nat) : Int) :: encN (u / 128) := by rw [encN, if_neg h]
theorem rdN_some {l r : List Int} {n : Nat} (hb : Bytes l) (h : rdN l = some (n, r)) : n < 2097152 ∧ l = encN n ++ r := by
  cases l with
  | nil => cases h
  | cons b0 r0 =>
    have h0 := hb b0 (by simp)
    unfold rdN at h
    try dsimp only at h
    by_cases e0 : b0 < 128
    · rw [if_pos e0] at h
      obtain ⟨rfl, rfl⟩ := Prod.mk.inj (Option.some.inj h)
      refine ⟨by omega, ?_⟩
      rw [encN_small (by omega)]
      simp; omega
    · rw [if_neg e0] at h
      cases r0 with
      | nil => cases h
      | cons b1 r1 =>
        have h1 := hb b1 (by simp)
        try dsimp only at h
        by_cases z1 : b1 = 0
        · rw [if_pos z1] at h; cases h
        · rw [if_neg z1] at h
          by_cases e1 : b1 < 128
          · rw [if_pos e1] at h
            obtain ⟨rfl, rfl⟩ := Prod.mk.inj (Option.some.inj h)
            refine ⟨by omega, ?_⟩
            rw [encN_big (by omega), encN_small (by omega)]
            simp; omega
          · rw [if_neg e1] at h
            cases r1 with
            | nil => cases h
            | cons b2 r2 =>
              have h2 := hb b2 (by simp)
              try dsimp only at h
              by_cases z2 : b2 = 0
              · rw [if_pos z2] at h; cases h
              · rw [if_neg z2] at h
                by_cases e2 : b2 < 128
                · rw [if_pos e2] at h
                  obtain ⟨rfl, rfl⟩ := Prod.mk.inj (Option.some.inj h)
                  refine ⟨by omega, ?_⟩
                  rw [encN_big (by omega), encN_big (by omega), encN_small (by omega)]
                  simp; omega
                · rw [if_neg e2] at h; cases h
theorem rdN_enc {n : Nat} (hn : n < 2097152) (r : List Int) : rdN (encN n ++ r) = some (n, r) := by
  by_cases e0 : n < 128
  · rw [encN_small e0]
    show rdN ((n : Int) :: r) = _
    unfold rdN
    try dsimp only
    rw [if_pos (by omega)]; simp
  · rw [encN_big e0]
    by_cases e1 : n / 128 < 128
    · rw [encN_small e1]
      show rdN (((n % 128 + 128 : Nat) : Int) :: ((n / 128 : Nat) : Int) :: r) = _
      unfold rdN
      try dsimp only
      rw [if_neg (by omega)]
      try dsimp only
      rw [if_neg (by omega), if_pos (by omega)]
      congr 2; omega
    · rw [encN_big e1, encN_small (by omega)]
      show rdN (((n % 128 + 128 : Nat) : Int) :: ((n / 128 % 128 + 128 : Nat) : Int) :: ((n / 128 / 128 : Nat) : Int) :: r) = _
      unfold rdN
      try dsimp only
      rw [if_neg (by omega)]
      try dsimp only
      rw [if_neg (by omega), if_neg (by omega)]
      try dsimp only
      rw [if_neg (by omega), if_pos (by omega)]
      congr 2; omega
/-- More bytes behind change nothing of what is read. -/
theorem rdN_more {l r : List Int} {n : Nat} (h : rdN l = some (n, r)) (s : List Int) : rdN (l ++ s) = some (n, r ++ s) := by
  cases l with
  | nil => cases h
  | cons b0 r0 =>
    rw [List.cons_append]
    unfold rdN at h ⊢
    try dsimp only at h ⊢
    by_cases e0 : b0 < 128
    · rw [if_pos e0] at h ⊢
      obtain ⟨rfl, rfl⟩ := Prod.mk.inj (Option.some.inj h); rfl
    · rw [if_neg e0] at h ⊢
      cases r0 with
      | nil => cases h
      | cons b1 r1 =>
        rw [List.cons_append]
        try dsimp only at h ⊢
        by_cases z1 : b1 = 0
        · rw [if_pos z1] at h; cases h
        · rw [if_neg z1] at h ⊢
          by_cases e1 : b1 < 128
          · rw [if_pos e1] at h ⊢
            obtain ⟨rfl, rfl⟩ := Prod.mk.inj (Option.some.inj h); rfl
          · rw [if_neg e1] at h ⊢
            cases r1 with
            | nil => cases h
            | cons b2 r2 =>
              rw [List.cons_append]
              try dsimp only at h ⊢
              by_cases z2 : b2 = 0
              · rw [if_pos z2] at h; cases h
              · rw [if_neg z2] at h ⊢
                by_cases e2 : b2 < 128
                · rw [if_pos e2] at h ⊢
                  obtain ⟨rfl, rfl⟩ := Prod.mk.inj (Option.some.inj h); rfl
                · rw [if_neg e2] at h; cases h
theorem rdN_len {l r : List Int} {n : Nat} (hb : Bytes l) (h : rdN l = some (n, r)) : r.length < l.length ∧ l.length ≤ r.length + 3 ∧ Bytes r := by
  obtain ⟨h1, h2⟩ := rdN_some hb h
  have h3 : 1 ≤ (encN n).length ∧ (encN n).length ≤ 3 := by
    by_cases e0 : n < 128
    · rw [encN_small e0]; simp
    · rw [encN_big e0]
      by_cases e1 : n / 128 < 128
      · rw [encN_small e1]; simp
      · rw [encN_big e1, encN_small (by omega)]; simp
  rw [h2] at hb ⊢
  refine ⟨by simp; omega, by simp; omega, fun z hz => hb z (by simp [hz])⟩
/-- Some bytes' first j all go on. -/
def Goes (l : List Int) (j : Nat) : Prop := j ≤ l.length ∧ ∀ i, i < j → 128 ≤ l.getD i 0
/-- What j going bytes said. -/
def val (l : List Int) (j : Nat) : Nat := match j with
  | 0 => 0
  | 1 => (l.getD 0 0).toNat - 128
  | _ => (l.getD 0 0).toNat - 128 + ((l.getD 1 0).toNat - 128) * 128
theorem val0 (l : List Int) : val l 0 = 0 := rfl
theorem val1 (l : List Int) : val l 1 = (l.getD 0 0).toNat - 128 := rfl
theorem val2 (l : List Int) : val l 2 = (l.getD 0 0).toNat - 128 + ((l.getD 1 0).toNat - 128) * 128 := rfl
theorem rdN_long {l : List Int} {j : Nat} (g : Goes l j) (hj : 3 ≤ j) : rdN l = none := by
  match l, g with
  | [], g => rfl
  | [a], ⟨h, _⟩ => simp at h; omega
  | [a, b], ⟨h, _⟩ => simp at h; omega
  | a :: b :: c :: r, ⟨_, h⟩ =>
    have h0 : 128 ≤ a := h 0 (by omega)
    have h1 : 128 ≤ b := h 1 (by omega)
    have h2 : 128 ≤ c := h 2 (by omega)
    unfold rdN
    try dsimp only
    rw [if_neg (by omega)]
    try dsimp only
    rw [if_neg (by omega), if_neg (by omega)]
    try dsimp only
    rw [if_neg (by omega), if_neg (by omega)]
theorem rdN_cut {l : List Int} {j : Nat} (g : Goes l j) (hj : l.drop j = []) : rdN l = none := by
  by_cases h3 : 3 ≤ j
  · exact rdN_long g h3
  · have hl : l.length = j := by have := g.1; have h9 := congrArg List.length hj; simp at h9; omega
    match l, g with
    | [], g => rfl
    | [a], ⟨_, h⟩ =>
      simp at hl
      have h0 : 128 ≤ a := h 0 (by omega)
      unfold rdN
      try dsimp only
      rw [if_neg (by omega)]
    | [a, b], ⟨_, h⟩ =>
      simp at hl
      have h0 : 128 ≤ a := h 0 (by omega)
      have h1 : 128 ≤ b := h 1 (by omega)
      unfold rdN
      try dsimp only
      rw [if_neg (by omega)]
      try dsimp only
      rw [if_neg (by omega), if_neg (by omega)]
    | a :: b :: c :: r, _ => simp at hl; omega
theorem rdN_nought {l r : List Int} {j : Nat} (g : Goes l j) (hj : 0 < j) (hd : l.drop j = 0 :: r) : rdN l = none := by
  by_cases h3 : 3 ≤ j
  · exact rdN_long g h3
  · match l, g with
    | [], g => rfl
    | [a], ⟨h9, h⟩ =>
      simp at h9
      obtain rfl : j = 1 := by omega
      cases hd
    | a :: b :: r', ⟨_, h⟩ =>
      have h0 : 128 ≤ a := h 0 (by omega)
      rcases (by omega : j = 1 ∨ j = 2) with e | e
      · subst e
        obtain ⟨rfl, rfl⟩ := List.cons.inj hd
        unfold rdN
        try dsimp only
        rw [if_neg (by omega)]
        try dsimp only
        rw [if_pos rfl]
      · subst e
        have h1 : 128 ≤ b := h 1 (by omega)
        unfold rdN
        try dsimp only
        rw [if_neg (by omega)]
        try dsimp only
        rw [if_neg (by omega), if_neg (by omega)]
        cases r' with
        | nil => rfl
        | cons c r2 =>
          obtain ⟨rfl, rfl⟩ := List.cons.inj hd
          try dsimp only
          rw [if_pos rfl]
theorem rdN_ends {l r : List Int} {j : Nat} {b : Int} (g : Goes l j) (hj : j < 3) (hd : l.drop j = b :: r) (hb : b < 128) (hz : j = 0 ∨ b ≠ 0) : rdN l = some (val l j + b.toNat * 128 ^ j, r) := by
  match l, g with
  | [], g => simp at hd
  | a :: r', ⟨_, h⟩ =>
    rcases (by omega : j = 0 ∨ j = 1 ∨ j = 2) with e | e | e
    · subst e
      obtain ⟨rfl, rfl⟩ := List.cons.inj hd
      unfold rdN
      try dsimp only
      rw [if_pos hb]; rw [val0]; simp
    · subst e
      have h0 : 128 ≤ a := h 0 (by omega)
      cases r' with
      | nil => cases hd
      | cons c r2 =>
        obtain ⟨rfl, rfl⟩ := List.cons.inj hd
        unfold rdN
        try dsimp only
        rw [if_neg (by omega)]
        try dsimp only
        rw [if_neg (by omega), if_pos hb]; rw [val1]; simp
    · subst e
      have h0 : 128 ≤ a := h 0 (by omega)
      cases r' with
      | nil => cases hd
      | cons c r2 =>
        have h1 : 128 ≤ c := h 1 (by omega)
        cases r2 with
        | nil => cases hd
        | cons d r3 =>
          obtain ⟨rfl, rfl⟩ := List.cons.inj hd
          unfold rdN
          try dsimp only
          rw [if_neg (by omega)]
          try dsimp only
          rw [if_neg (by omega), if_neg (by omega)]
          try dsimp only
          rw [if_neg (by omega), if_pos hb]; rw [val2]; simp
theorem Goes.succ {l r : List Int} {j : Nat} {b : Int} (g : Goes l j) (hd : l.drop j = b :: r) (hb : ¬ b < 128) : Goes l (j + 1) := by
  have hl : j < l.length := by have h9 := congrArg List.length hd; simp at h9; omega
  refine ⟨by omega, fun i hi => ?_⟩
  by_cases e : i = j
  · subst e
    have h9 : (l.drop i)[0]? = some b := by rw [hd]; rfl
    rw [List.getElem?_drop] at h9
    rw [List.getD_eq_getElem?_getD]
    simp at h9
    simp [h9]; omega
  · exact g.2 i (by omega)
theorem val_succ {l r : List Int} {j : Nat} {b : Int} (hj : j < 2) (hd : l.drop j = b :: r) : val l (j + 1) = val l j + (b.toNat - 128) * 128 ^ j := by
  have h9 : (l.drop j)[0]? = some b := by rw [hd]; rfl
  rw [List.getElem?_drop] at h9
  rcases (by omega : j = 0 ∨ j = 1) with e | e
  · subst e
    simp at h9
    rw [val0, val1]; simp [List.getD_eq_getElem?_getD, h9]
  · subst e
    simp at h9
    rw [val1, val2]; simp [List.getD_eq_getElem?_getD, h9]
end Go
namespace Go
open Go.RowKit
/-- A reader in memory. -/
def RdAt (w : World) (R : Nat) (bs : List Int) (bad : Bool) : Prop :=
  ∃ a c, w.heap[R]? = some (.cells #[.slice a bs.length c, .bool bad] 101 (0, 0)) ∧ Lib.BytesIn w a bs.length bs ∧ bs.length ≤ c ∧ c ≤ maxLen ∧ Bytes bs ∧ (0 < bs.length → ∀ x, a = some x → x.block < R)
end Go
namespace Go.Proofs.Ytkhchfjhmplaiaa
open Go.RowKit
theorem RdAt.keep {w w' : World} {R : Nat} {bs : List Int} {bad : Bool} (h : RdAt w R bs bad) (hk : Keep [] w w') : RdAt w' R bs bad := by
  obtain ⟨a, c, h1, h2, h3, h4, h5, h6⟩ := h
  exact ⟨a, c, hk.at h1 (by simp), bytes_keep h2 hk, h3, h4, h5, h6⟩
theorem bytes_keepR {w w' : World} {R : Nat} {a : Option Addr} {n : Nat} {xs : List Int} (h : Lib.BytesIn w a n xs) (hk : Keep [R] w w') (hR : 0 < n → ∀ x, a = some x → x.block < R) : Lib.BytesIn w' a n xs := fun hn =>
  let ⟨b, o, h1, h2⟩ := h hn
  ⟨b, o, h1, fun i hi => hk.cell (h2 i hi) (by have h9 : b < R := hR hn _ h1; simp; omega)⟩
set_option maxRecDepth 100000 in
theorem byte102_nil {w : World} {R : Nat} {bad : Bool} (h : RdAt w R [] bad) :
    Calls Try.prog 102 #[.pointer (some ⟨R, 0, none⟩)] w fun e w' => e = .returned (.int .i64 0) ∧ Keep [R] w w' ∧ RdAt w' R [] true := by
  obtain ⟨a, c, h1, h2, h3, h4, h5, h6⟩ := h
  obtain ⟨c0, c1, _⟩ := row2 h1
  have hz := thaw h1
  have HB := Lib.hid h1
  have H6 := Lib.hid h6
  have hbl := lt_of_blk h1
  clear h1 h2 h6
  go_enter Try.func102, Try.ntmps102
  go_wp2_with (first | (with_reducible refine Txt.wp_region_text mixed quiet (by decide +kernel) ?_) | (with_reducible refine Txt.text_done (by kernel_rfl) ?_))
  go_ret
  refine ⟨rfl, (Keep.refl [R] w).setCell (.inl (by simp)) _, a, c, ?_, Lib.BytesIn.nil _ _ _, h3, h4, h5, H6.out⟩
  rw [blk_setCell, if_pos rfl, HB.out]; rfl
set_option maxRecDepth 100000 in
theorem byte102_cons {w : World} {R : Nat} {bad : Bool} {b0 : Int} {bs : List Int} (h : RdAt w R (b0 :: bs) bad) :
    Calls Try.prog 102 #[.pointer (some ⟨R, 0, none⟩)] w fun e w' => e = .returned (.int .i64 b0) ∧ Keep [R] w w' ∧ RdAt w' R bs bad := by
  obtain ⟨a, c, h1, h2, h3, h4, h5, h6⟩ := h
  obtain ⟨b, o, rfl, hc⟩ := h2 (by simp)
  have hb0 := h5 b0 (by simp)
  have hcell : w.cell? ⟨b, o, none⟩ = some (.int .u8 b0) := by have := hc 0 (by simp); simpa using this
  have hrest : Hid (∀ i, i < bs.length → w.cell? ⟨b, o + 1 + i, none⟩ = some (.int .u8 (bs.getD i 0))) := Lib.hid fun i hi => by
    have := hc (i + 1) (by simp; omega)
    rw [show o + 1 + i = o + (i + 1) by omega]
    simpa using this
  have hbR : b < R := h6 (by simp) _ rfl
  simp only [List.length_cons] at h1 h3
  obtain ⟨n, hn⟩ : ∃ n, bs.length = n := ⟨_, rfl⟩
  rw [hn] at h1 h3
  obtain ⟨c0, c1, _⟩ := row2 h1
  have hz := thaw h1
  have HB := Lib.hid h1
  have H5 := Lib.hid h5
  have HN := Lib.hid hn
  have hbl := lt_of_blk h1
  have hm := h4
  unfold maxLen at hm
  clear h1 h2 h6 hc h5 hn
  go_enter Try.func102, Try.ntmps102
  go_wp2_with (first | (with_reducible refine Txt.wp_region_text mixed quiet (by decide +kernel) ?_) | (with_reducible refine Txt.text_done (by kernel_rfl) ?_))
  · go_ret
    refine ⟨rfl, (Keep.refl [R] w).setCell (.inl (by simp)) _, some ⟨b, o, none⟩, 0, ?_, fun h0 => absurd h0 (by have := HN.out; omega), by have := HN.out; omega, Nat.zero_le _, fun z hz => H5.out z (by simp [hz]), fun _ x hx => by cases hx; exact hbR⟩
    rw [blk_setCell, if_pos rfl, HB.out, HN.out]; rfl
  · go_ret
    refine ⟨rfl, (Keep.refl [R] w).setCell (.inl (by simp)) _, some ⟨b, o + 1, none⟩, c - 1, ?_, fun _ => ⟨b, o + 1, rfl, fun i hi => ?_⟩, by have := HN.out; omega, by unfold maxLen; omega, fun z hz => H5.out z (by simp [hz]), fun _ x hx => by cases hx; exact hbR⟩
    · rw [blk_setCell, if_pos rfl, HB.out, HN.out]; rfl
    · rw [World.cell?_setCell_other _ _ _ _ (fun e => Nat.ne_of_lt hbR (by injection e with e _; exact e.symm))]
      exact hrest.out i hi
end Go.Proofs.Ytkhchfjhmplaiaa
namespace Go.Proofs.Ytkhchfjhmplaiaa
open Go.RowKit
theorem bits_u64 (op : BinOp) (x y : Int) : ∃ n : Nat, bits op .u64 x y = n ∧ n < 18446744073709551616 := by
  have h : ∀ z : Int, ∃ n : Nat, IntKind.u64.wrap z = n ∧ n < 18446744073709551616 := fun z => by
    refine ⟨(z % 18446744073709551616).toNat, ?_, by omega⟩
    have : IntKind.u64.wrap z = z % 18446744073709551616 := rfl
    rw [this]; omega
  exact h _
theorem wrap_u64_nat {n : Nat} (h : n < 18446744073709551616) : IntKind.u64.wrap (n : Int) = n := by
  have : IntKind.u64.wrap (n : Int) = (n : Int) % 18446744073709551616 := rfl
  rw [this]; omega
theorem and127 {b : Int} (h0 : 128 ≤ b) (h1 : b < 256) : bits .and .u64 b 127 = ((b.toNat - 128 : Nat) : Int) := by
  have h : ∀ x : Nat, x < 256 → bits BinOp.and IntKind.u64 (x : Int) 127 = ((x % 128 : Nat) : Int) := by decide +kernel
  have h2 := h b.toNat (by omega)
  rw [show ((b.toNat : Nat) : Int) = b by omega] at h2
  rw [h2]; omega
/-- A group of seven bits laid behind those that were read. -/
theorem or_shift {x b j : Nat} (hj : j < 3) (hx : x < 128 ^ j) (hb : b < 128) : bits .or .u64 (x : Int) (IntKind.u64.wrap ((b : Int) * 2 ^ (7 * j))) = ((x + b * 128 ^ j : Nat) : Int) := by
  have e : ((b : Int) * 2 ^ (7 * j)) = ((b * 2 ^ (7 * j) : Nat) : Int) := by push_cast; rfl
  have ep : (2 : Nat) ^ (7 * j) = 128 ^ j := by rw [Nat.pow_mul]
  have hp : 128 ^ j ≤ 16384 := by rcases (by omega : j = 0 ∨ j = 1 ∨ j = 2) with h | h | h <;> (subst h; decide)
  have hbp : b * 2 ^ (7 * j) < 18446744073709551616 := by
    rw [ep]
    have := Nat.mul_le_mul (show b ≤ 128 by omega) hp
    omega
  rw [e, wrap_u64_nat hbp, bits_or_u64_nat x _ (by omega) hbp, Nat.or_comm, ← Nat.shiftLeft_eq, ← Nat.shiftLeft_add_eq_or_of_lt (by rw [ep]; exact hx), Nat.shiftLeft_eq, ep, Nat.add_comm]
theorem val_lt {l : List Int} {j : Nat} (hb : Bytes l) (hj : j < 3) : val l j < 128 ^ j := by
  have h : ∀ i, (l.getD i 0).toNat < 256 := fun i => by
    rw [List.getD_eq_getElem?_getD]
    cases e : l[i]? with
    | none => simp
    | some z => have := hb z (List.mem_of_getElem? e); simp; omega
  have h0 := h 0
  have h1 := h 1
  rcases (by omega : j = 0 ∨ j = 1 ∨ j = 2) with e | e | e
  · subst e; rw [val0]; decide
  · subst e; rw [val1]; omega
  · subst e; rw [val2]; omega
theorem RdAt.blk {w : World} {R : Nat} {bs : List Int} {bad : Bool} (h : RdAt w R bs bad) : ∃ v, w.heap[R]? = some (.cells #[v, .bool bad] 101 (0, 0)) ∧ ∀ w' : World, Keep [R] w w' → ∀ bad', w'.heap[R]? = some (.cells #[v, .bool bad'] 101 (0, 0)) → RdAt w' R bs bad' := by
  obtain ⟨a, c, h1, h2, h3, h4, h5, h6⟩ := h
  exact ⟨_, h1, fun w' hk bad' h7 => ⟨a, c, h7, bytes_keepR h2 hk h6, h3, h4, h5, h6⟩⟩
theorem bads {w1 : World} {R : Nat} {bs : List Int} {bad : Bool} {v1 : Value} (hb : w1.heap[R]? = some (.cells #[v1, .bool bad] 101 (0, 0))) (hb' : ∀ w' : World, Keep [R] w1 w' → ∀ bad', w'.heap[R]? = some (.cells #[v1, .bool bad'] 101 (0, 0)) → RdAt w' R bs bad') :
    RdAt (w1.setCell ⟨R, 1, none⟩ (.bool true)) R bs true :=
  hb' _ ((Keep.refl [R] w1).setCell (.inl (by simp)) _) true (by rw [blk_setCell, if_pos rfl, hb]; rfl)
/-- What a number that was read says of the bytes. -/
def UnP (k : IntKind) (top : Nat) (R : Nat) (bs : List Int) (w : World) (e : Ending) (w' : World) : Prop :=
  ∃ (u : Nat) (bs' : List Int) (bad' : Bool), e = .returned (.int k u) ∧ u < top ∧ Keep [R] w w' ∧ RdAt w' R bs' bad' ∧ (∀ n r, rdN bs = some (n, r) → bad' = false ∧ bs' = r ∧ u = n) ∧ (rdN bs = none → bad' = true ∨ bs'.length + 3 < bs.length)
set_option maxRecDepth 100000 in
set_option maxHeartbeats 4000000 in
theorem unsigned95_any {w : World} {R : Nat} {bs : List Int} (h : RdAt w R bs false) :
    Calls Try.prog 95 #[.pointer (some ⟨R, 0, none⟩)] w fun e w' => UnP .u64 18446744073709551616 R bs w e w' := by
  have HR := Lib.hid h
  have HBY : Hid (Bytes bs) := Lib.hid (by obtain ⟨_, _, _, _, _, _, h5, _⟩ := h; exact h5)
  clear h
  go_enter Try.func95, Try.ntmps95
  go_wp2_with fail
  go_loopw [3, 4, 5] (fun u s _ wr => ∃ j x : Nat, j ≤ 10 ∧ s = .int .i64 (7 * j) ∧ u = .int .u64 x ∧ x < 18446744073709551616 ∧ Keep [R] w wr ∧ Hid (RdAt wr R (bs.drop j) false) ∧ Hid (Goes bs j) ∧ Hid (j < 3 → x = val bs j)) (fun _ s _ _ => 70 - (intOf s).toNat)
  case atStart => exact ⟨0, 0, by omega, rfl, rfl, by omega, Keep.refl _ _, HR, Lib.hid ⟨by omega, fun i hi => absurd hi (by omega)⟩, Lib.hid (fun _ => rfl)⟩
  case round =>
    obtain ⟨j, x, hj, rfl, rfl, hx, hkw, HRr, HG, HX⟩ := hrel
    by_cases hlt : j < 10
    · cases hd : bs.drop j with
      | nil =>
        rw [hd] at HRr
        have HN := Lib.hid (rdN_cut HG.out hd)
        clear hd
        go_wp2_with (first | (go_at_call 102; refine (byte102_nil HRr.out).mono ?_; rintro e w1 ⟨rfl, hk1, hr1⟩; obtain ⟨v1, hb1, hb1'⟩ := RdAt.blk hr1; obtain ⟨c0, c1, _⟩ := row2 hb1; have hz1 := thaw hb1; have HB1 := Lib.hid hb1; have HB1' := Lib.hid hb1'; have hbl1 := lt_of_blk hb1; have HR1 := Lib.hid hr1; clear hr1 hb1 hb1'))
        go_ret
        exact ⟨0, [], true, rfl, by decide, (hkw.trans hk1).setCell (.inl (by simp)) _, bads HB1.out HB1'.out, fun n r h => (by rw [HN.out] at h; cases h), fun _ => .inl rfl⟩
      | cons b0 r =>
        rw [hd] at HRr
        have hb0 : 0 ≤ b0 ∧ b0 < 256 := by obtain ⟨_, _, _, _, _, _, h5, _⟩ := HRr.out; exact h5 b0 (by simp)
        have HD := Lib.hid hd
        clear hd
        go_wp2_with (first | (go_at_call 102; refine (byte102_cons HRr.out).mono ?_; rintro e w1 ⟨rfl, hk1, hr1⟩; obtain ⟨v1, hb1, hb1'⟩ := RdAt.blk hr1; obtain ⟨c0, c1, _⟩ := row2 hb1; have hz1 := thaw hb1; have HB1 := Lib.hid hb1; have HB1' := Lib.hid hb1'; have hbl1 := lt_of_blk hb1; have HR1 := Lib.hid hr1; clear hr1 hb1 hb1'))
        all_goals
          first
          | (obtain ⟨m, hm, hml⟩ := bits_u64 .or (x : Int) (IntKind.u64.wrap (bits .and .u64 b0 127 * 2 ^ (7 * j)))
             refine ⟨⟨j + 1, m, by omega, by go_num, congrArg (Value.int .u64) hm, hml, hkw.trans hk1, Lib.hid ?_, Lib.hid (HG.out.succ HD.out (by omega)), Lib.hid (fun h3 => ?_)⟩, by simp [intOf]; omega⟩
             · have hd1 : bs.drop (j + 1) = r := by have := congrArg List.tail HD.out; simpa [List.tail_drop] using this
               rw [hd1]; exact HR1.out
             · have hxv := HX.out (by omega)
               have he := or_shift (x := x) (b := b0.toNat - 128) (show j < 3 by omega) (by rw [hxv]; exact val_lt HBY.out (by omega)) (by omega)
               rw [← and127 (by omega) (by omega), hm] at he
               rw [val_succ (by omega) HD.out, ← hxv]
               exact Int.ofNat.inj he)
          | (go_ret
             have hnone : rdN bs = none := by
               by_cases h3 : 3 ≤ j
               · exact rdN_long HG.out h3
               · have hz : b0 = 0 := by first | (exfalso; omega) | exact eq_of_beq (by assumption)
                 exact rdN_nought HG.out (by omega) (hz ▸ HD.out)
             exact ⟨0, r, true, rfl, by decide, (hkw.trans hk1).setCell (.inl (by simp)) _, bads HB1.out HB1'.out, fun n r h => (by rw [hnone] at h; cases h), fun _ => .inl rfl⟩)
          | (go_ret
             have h3 : ¬ j < 3 := by omega
             have hnone := rdN_long HG.out (show 3 ≤ j by omega)
             obtain ⟨m, hm, hml⟩ := bits_u64 .or (x : Int) (b0 * 9223372036854775808)
             exact ⟨m, r, false, congrArg (fun z => Ending.returned (Value.int .u64 z)) hm, hml, hkw.trans hk1, HR1.out, fun n r h => (by rw [hnone] at h; cases h), fun _ => .inr (by have := congrArg List.length HD.out; simp at this; omega)⟩)
          | (go_ret
             obtain ⟨m, hm, hml⟩ := bits_u64 .or (x : Int) (IntKind.u64.wrap (b0 * 2 ^ (7 * j)))
             by_cases h3 : j < 3
             · have hxv := HX.out h3
               have he := or_shift (x := x) (b := b0.toNat) h3 (by rw [hxv]; exact val_lt HBY.out h3) (by omega)
               rw [show ((b0.toNat : Nat) : Int) = b0 by omega, hm] at he
               have hs := rdN_ends HG.out h3 HD.out (by omega) (by
                 by_cases h0 : j = 0
                 · exact .inl h0
                 · right; rintro rfl; first | (exfalso; omega) | (rename_i h9 _; cases h9) | (simp_all; done))
               rw [← hxv] at hs
               exact ⟨m, r, false, congrArg (fun z => Ending.returned (Value.int .u64 z)) hm, hml, hkw.trans hk1, HR1.out, fun n r' h => by
                 rw [hs] at h
                 obtain ⟨rfl, rfl⟩ := Prod.mk.inj (Option.some.inj h)
                 exact ⟨rfl, rfl, Int.ofNat.inj he⟩, fun h => (by rw [hs] at h; cases h)⟩
             · have hnone := rdN_long HG.out (show 3 ≤ j by omega)
               exact ⟨m, r, false, congrArg (fun z => Ending.returned (Value.int .u64 z)) hm, hml, hkw.trans hk1, HR1.out, fun n r h => (by rw [hnone] at h; cases h), fun _ => .inr (by have := congrArg List.length HD.out; simp at this; omega)⟩)
    · have hnone := Lib.hid (rdN_long HG.out (show 3 ≤ j by omega))
      obtain ⟨v1, hb1, hb1'⟩ := RdAt.blk HRr.out
      obtain ⟨c0, c1, _⟩ := row2 hb1
      have hz1 := thaw hb1
      have HB1 := Lib.hid hb1
      have HB1' := Lib.hid hb1'
      have hbl1 := lt_of_blk hb1
      clear hb1 hb1'
      go_wp2_with fail
      go_ret
      exact ⟨0, bs.drop j, true, rfl, by decide, hkw.setCell (.inl (by simp)) _, bads HB1.out HB1'.out, fun n r h => (by rw [hnone.out] at h; cases h), fun _ => .inl rfl⟩
end Go.Proofs.Ytkhchfjhmplaiaa
