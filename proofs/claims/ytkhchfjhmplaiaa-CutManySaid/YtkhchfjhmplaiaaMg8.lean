/- Texts laid together: H19 H20 H21 H13 HP12 H22. -/
import Derived.Test.YtkhchfjhmplaiaaMg7
import Derived.Maps.AppendAt
import Derived.Deep.CutBlock
import Derived.Deep.DeepCutAuto
namespace Go
open Go.RowKit
theorem subL_place {h : List Ln} {p : Int} {k : Nat} : ∀ x ∈ atTo h p k, x.q = p := by
  intro x hx
  unfold atTo subL at hx
  obtain ⟨j, hj, rfl⟩ := List.mem_map.1 hx
  have := (List.mem_filter.1 hj).2
  exact of_decide_eq_true this
/-- The events of the first places, counted. -/
def sumAt (h : List Ln) (k : Nat) : Nat → Nat
  | 0 => 0
  | p + 1 => sumAt h k p + rk (plB h p) k
theorem sumAt_succ {h : List Ln} {k : Nat} (h0 : 0 ≤ (lat h k).q) (m : Nat) : sumAt h (k + 1) m = sumAt h k m + (if (lat h k).q < m then 1 else 0) := by
  induction m with
  | zero => rw [if_neg (by omega)]; rfl
  | succ m ih =>
    rw [sumAt, sumAt, ih, rk_succ]
    unfold plB
    generalize lat h k = L at *
    by_cases e1 : L.q = m
    · rw [if_neg (by omega), if_pos (by simpa using e1), if_pos (by omega)]; omega
    · by_cases e2 : L.q < m
      · rw [if_pos e2, if_neg (by simpa using e1), if_pos (by omega)]; omega
      · rw [if_neg e2, if_neg (by simpa using e1), if_neg (by omega)]; omega
theorem sumAt_all {h : List Ln} (hk : HOk h) : ∀ k, k ≤ h.length → sumAt h k 8 = k := by
  intro k
  induction k with
  | zero => intro _; rfl
  | succ k ih =>
    intro hl
    have he := hk.ev k (by omega)
    rw [sumAt_succ he.1, ih (by omega), if_pos (show (lat h k).q < ((8 : Nat) : Int) from he.2.1)]
theorem sumAt_le {h : List Ln} {k p : Nat} : sumAt h k p ≤ p * k := by
  induction p with
  | zero => simp [sumAt]
  | succ p ih => have := rk_le (plB h p) k; rw [sumAt, Nat.succ_mul]; omega
/-- One event more. -/
def moreL (h : List Ln) (r : Int) : List Ln := h ++ [⟨r, 1, 0⟩]
theorem lat_more {h : List Ln} {r : Int} (j : Nat) : lat (moreL h r) j = if j < h.length then lat h j else if j = h.length then ⟨r, 1, 0⟩ else ⟨0, 0, 0⟩ := by
  unfold moreL lat
  rw [List.getD_eq_getElem?_getD]
  by_cases e : j < h.length
  · rw [if_pos e, List.getElem?_append_left e, List.getD_eq_getElem?_getD]
  · rw [if_neg e, List.getElem?_append_right (by omega)]
    by_cases e2 : j = h.length
    · rw [if_pos e2, e2]; simp
    · rw [if_neg e2, List.getElem?_eq_none (by simp; omega)]; rfl
theorem more_ok {h : List Ln} (hk : HOk h) {r : Int} (h0 : 0 ≤ r) (h1 : r < 8) (hl : h.length ≤ 100) : HOk (moreL h r) := by
  have hlen : (moreL h r).length = h.length + 1 := by simp [moreL]
  have hlt : ∀ j, j < (moreL h r).length → j < h.length ∧ lat (moreL h r) j = lat h j ∨ lat (moreL h r) j = ⟨r, 1, 0⟩ := fun j hj => by
    rw [lat_more]
    by_cases e : j < h.length
    · rw [if_pos e]; exact .inl ⟨e, rfl⟩
    · rw [if_neg e, if_pos (by omega)]; exact .inr rfl
  have uniq : ∀ g : Int, g ≠ 1 → (∀ x y, x < y → y < h.length → (lat h x).g = g → (lat h y).g = g → (lat h x).u ≠ (lat h y).u) → ∀ x y, x < y → y < (moreL h r).length → (lat (moreL h r) x).g = g → (lat (moreL h r) y).g = g → (lat (moreL h r) x).u ≠ (lat (moreL h r) y).u := fun g hg hu x y hxy hy e1 e2 => by
    rcases hlt y hy with ⟨h3, h4⟩ | h4
    · rcases hlt x (by omega) with ⟨h5, h6⟩ | h6
      · rw [h6] at e1 ⊢
        rw [h4] at e2 ⊢
        exact hu x y hxy h3 e1 e2
      · rw [h6] at e1; exact absurd e1.symm hg
    · rw [h4] at e2; exact absurd e2.symm hg
  refine ⟨by omega, fun j hj => ?_, uniq 2 (by decide) hk.sends, uniq 3 (by decide) hk.takes, fun j hj hg => ?_⟩
  · rcases hlt j hj with ⟨h3, h4⟩ | h4
    · rw [h4]; exact hk.ev j h3
    · rw [h4]; refine ⟨h0, h1, ?_, ?_, ?_, ?_⟩ <;> (dsimp only; omega)
  · rcases hlt j hj with ⟨h3, h4⟩ | h4
    · rw [h4] at hg ⊢
      obtain ⟨i, hi, h5, h6⟩ := hk.sent j h3 hg
      refine ⟨i, hi, ?_, ?_⟩ <;> (rw [lat_more, if_pos (show i < h.length by omega)]; assumption)
    · rw [h4] at hg; exact absurd hg (show ¬ (1 : Int) = 3 by decide)
theorem at_more {h : List Ln} {r p : Int} : atL (moreL h r) p = atL h p ++ (if r = p then [⟨r, 1, 0⟩] else []) := by
  unfold atL atTo
  rw [show (moreL h r).length = h.length + 1 by simp [moreL], subL_succ]
  have h1 : ∀ k, k ≤ h.length → subL (moreL h r) (plB (moreL h r) p) k = subL h (plB h p) k := fun k => by
    induction k with
    | zero => intro _; rfl
    | succ k ih =>
      intro hk
      have e1 : lat (moreL h r) k = lat h k := by rw [lat_more, if_pos (by omega)]
      have e2 : plB (moreL h r) p k = plB h p k := by unfold plB; rw [e1]
      rw [subL_succ, subL_succ, ih (by omega), e1, e2]
  rw [h1 _ (Nat.le_refl _)]
  have e1 : lat (moreL h r) h.length = ⟨r, 1, 0⟩ := by rw [lat_more, if_neg (by omega), if_pos rfl]
  have e2 : plB (moreL h r) p h.length = decide (r = p) := by unfold plB; rw [e1]
  rw [e1, e2]
  congr 1
  by_cases e : r = p
  · rw [if_pos e, if_pos (by simpa using e)]
  · rw [if_neg e, if_neg (by simpa using e)]
end Go
namespace Go.Proofs.Ytkhchfjhmplaiaa
open Go.RowKit
theorem more_part {h : List Ln} {r : Nat} (hr : r < 8) : Part8 h (moreL h (r : Int)) r := by
  refine ⟨by omega, fun p hp => ?_, fun _ => ?_⟩
  · rw [at_more, if_neg (by omega), List.append_nil]
  · rw [at_more, if_pos rfl]; simp
theorem self_part (h : List Ln) : Part8 h h 8 := ⟨Nat.le_refl _, fun _ _ => rfl, fun h => absurd h (by decide)⟩
set_option maxRecDepth 100000 in
theorem ev38_no {q p g u : Int} {P : Nat} {w : World} (hc : w.cell? ⟨P, 0, none⟩ = some (.int .i64 p)) (hq : q = p) :
    Calls Try.prog 38 #[.agg #[.int .i64 q, .int .i64 g, .int .i64 u], .pointer (some ⟨P, 0, none⟩)] w fun e w' => e = .returned (.bool false) ∧ Keep [] w w' := by
  subst hq
  have hP := World.block_lt_of_cell? _ _ hc
  dsimp only at hP
  have hc2 := ((Keep.refl [] w).alloc (.cells #[.int .i64 q, .int .i64 g, .int .i64 u] 27)).cell hc (by simp)
  go_enter Try.func38, Try.ntmps38
  go_wp2_with fail
  go_ret
  exact ⟨rfl, (Keep.refl _ _).alloc _⟩
set_option maxRecDepth 100000 in
set_option maxHeartbeats 1000000 in
theorem ix68_no {a : Option Addr} {n c P : Nat} {p : Int} {h : List Ln} {w : World} (hx : LnsV w a n c h) (hc : w.cell? ⟨P, 0, none⟩ = some (.int .i64 p)) (hp : ∀ x ∈ h, x.q = p) :
    Calls Try.prog 68 #[.slice a n c, .func (.func 38) #[] #[.pointer (some ⟨P, 0, none⟩)]] w fun e w' => e = .returned (.int .i64 (-1)) ∧ Keep [] w w' := by
  have HX := Lib.hid hx
  have HP := Lib.hid hp
  have HL := Lib.hid hx.len
  have h1 := hx.room
  have h2 := hx.most
  unfold maxLen at h2
  have HC := Lib.hid hc
  clear hx hp hc
  go_enter Try.func68, Try.ntmps68
  go_wp2_with fail
  go_loopw [8] (fun i wr => ∃ k : Nat, k ≤ n ∧ i = .int .i64 k ∧ Keep [] w wr) (fun i _ => n - (intOf i).toNat)
  case atStart => exact ⟨0, by omega, rfl, Keep.refl _ _⟩
  case round =>
    obtain ⟨k, hk, rfl, hkw⟩ := hrel
    by_cases hlt : k < n
    · obtain ⟨b, off, rfl, c0, c1', c2'⟩ := (HX.out.keep hkw (by simp)).at_ hlt
      have hq : (lat h k).q = p := HP.out _ (lat_mem (by rw [HL.out]; exact hlt))
      obtain ⟨⟨q, g, u⟩, hL⟩ : ∃ L, lat h k = L := ⟨_, rfl⟩
      rw [hL] at c0 c1' c2' hq
      dsimp only at c0 c1' c2' hq
      have HQ := Lib.hid hq
      clear hL hq
      go_wp2_with (first | (go_at_call 38; refine (ev38_no (hkw.cell HC.out (by simp)) HQ.out).mono ?_; rintro e w1 ⟨rfl, hk1⟩))
      go_roundw
      case measure => simp [intOf]; omega
      case rel => exact ⟨k + 1, by omega, by go_num, hkw.trans hk1⟩
    · go_wp2_with fail
      go_ret
      exact ⟨rfl, hkw⟩
theorem has37_no {a : Option Addr} {n c P : Nat} {p : Int} {h : List Ln} {w : World} (hx : LnsV w a n c h) (hc : w.cell? ⟨P, 0, none⟩ = some (.int .i64 p)) (hp : ∀ x ∈ h, x.q = p) :
    Calls Try.prog 37 #[.slice a n c, .func (.func 38) #[] #[.pointer (some ⟨P, 0, none⟩)]] w fun e w' => e = .returned (.bool false) ∧ Keep [] w w' := by
  have H := Lib.hid (ix68_no hx hc hp)
  clear hx hc hp
  go_enter Try.func37, Try.ntmps37
  go_wp2_with (first | (go_at_call 68; refine H.out.mono ?_; rintro e w1 ⟨rfl, hk1⟩))
  go_ret
  exact ⟨rfl, hk1⟩
end Go.Proofs.Ytkhchfjhmplaiaa
namespace Go.Proofs.Ytkhchfjhmplaiaa
open Go.RowKit
set_option maxRecDepth 100000 in
theorem clone_empty {a : Option Addr} {c : Nat} {w : World} : Calls Try.prog 39 #[.slice a 0 c] w fun e w' => ∃ v, e = .returned v ∧ Keep [] w w' ∧ w'.ownsRow w.heap.size 27 3 v 0 [] := by
  obtain ⟨i0, hi0, hz0, hz1, hz2⟩ := info_parts info27
  cases a with
  | none =>
    have hb1 : (binOp BinOp.eql 28 (.slice none 0 c) (.slice none 0 0)).run Try.prog w = .ok (.bool true) w := by kernel_rfl
    go_enter Try.func39, Try.ntmps39
    go_wp2_with fail
    go_ret
    exact ⟨_, rfl, Keep.refl _ _, World.ownsRow_nil _ _ _ _⟩
  | some ad =>
    have hb1 : (binOp BinOp.eql 28 (.slice (some ad) 0 c) (.slice none 0 0)).run Try.prog w = .ok (.bool false) w := by kernel_rfl
    have ho : (w.alloc (.cells #[] 27)).ownsRow w.heap.size 27 3 (.slice (some ⟨w.heap.size, 0, none⟩) 0 0) 0 [] := ⟨rfl, .inr ⟨w.heap.size, 0, #[], rfl, Nat.le_refl _, blk_new w _, Nat.le_refl _, Nat.zero_le _, rfl, rfl⟩⟩
    have HO := Lib.hid ho
    clear ho
    go_enter Try.func39, Try.ntmps39
    go_wp2_with (first | (at_builtin; refine wpList_append_own _ rfl _ _ 28 rfl w.heap.size 27 i0 (.agg #[.int .i64 0, .int .i64 0, .int .i64 0]) 3 24 Try.underlying28 hi0 hz0 hz1 hz2 rfl (by decide) _ _ _ rfl HO.out ad 0 c [] rfl rfl (by intro j u hu; simp at hu) (by intro u hu; simp at hu) (by unfold maxLen; omega) (by omega) (by simp) ?_; intro v6 w6 hown6 hgr6 _; have HO6 := Lib.hid hown6; have HGR6 := Lib.hid hgr6; clear hown6 hgr6))
    go_ret
    have hgr : (w.alloc (.cells #[] 27)).grownBy w6 (some w.heap.size) := HGR6.out
    exact ⟨_, rfl, ((Keep.refl _ _).alloc _).grown hgr (fun g hg => .inr (by cases hg; exact Nat.le_refl _)), HO6.out⟩
theorem clone_gen {a : Option Addr} {n c : Nat} {h : List Ln} {w : World} (hv : LnsV w a n c h) (hn2 : n ≤ 200) :
    Calls Try.prog 39 #[.slice a n c] w fun e w' => ∃ v, e = .returned v ∧ Keep [] w w' ∧ w'.ownsRow w.heap.size 27 3 v n (lanesC h) := by
  by_cases h0 : n = 0
  · subst h0
    have : h = [] := List.eq_nil_of_length_eq_zero hv.len
    subst this
    exact clone_empty
  · refine (clone_any hv (by omega) hn2).mono ?_
    rintro e w' ⟨g, cap, rfl, hk, ho⟩
    exact ⟨_, rfl, hk, ho⟩
set_option maxRecDepth 100000 in
set_option maxHeartbeats 4000000 in
theorem tracePlaces_walk (a : Option Addr) (len cap : Nat) (zs : List Int) (x : Int) (w : World) (hv : IntsV w a len cap zs) :
    Calls Try.prog 9 #[.slice a len cap, .int .i64 x] w fun e w' => e = .returned (.bool true) ∧ Keep [] w w' := by
  obtain ⟨N, hN⟩ : ∃ N, (hist zs).length = N := ⟨_, rfl⟩
  have hok : HOk (hist zs) := (hist_inv zs).ok
  have hN60 := hist_len zs
  rw [hN] at hN60
  have hNle : N ≤ 60 := by omega
  have hsum : sumAt (hist zs) N 8 = N := sumAt_all hok N (by omega)
  have HSL := Lib.hid (fun p => @sumAt_le (hist zs) N p)
  have HV := Lib.hid hv
  have HOK := Lib.hid hok
  obtain ⟨r, hr, hr8⟩ := at_nat x (show 0 < 8 by omega)
  have hmok := more_ok hok (r := (r : Int)) (by omega) (by omega) (by omega)
  have HR : Hid (restI x 8 = (r : Int)) := Lib.hid hr
  have HMOK := Lib.hid hmok
  have HN := Lib.hid hN
  have HSUM := Lib.hid hsum
  have HRF : Hid (false = decide (r = 8)) := Lib.hid (decide_eq_false (by omega)).symm
  obtain ⟨i0, hi0, hz0, hz1, hz2⟩ := info_parts info27
  clear hv hN60 hN hok hr hmok hsum
  go_enter Try.func9, Try.ntmps9
  go_wp2_with (first | (go_at_call 35; refine (tbegun_any _).mono ?_; rintro e w0 ⟨rfl, hk0⟩) | (go_at_call 20; refine (history_at (HV.out.keep hk0 (by simp)) HN).mono ?_; rintro e w2 ⟨a2, c2, rfl, hk2, hv2⟩; have HV2 := Lib.hid hv2; clear hv2))
  have hk02 := hk0.trans hk2
  go_loopw [6, 7, 8, 9, 19] (fun v _ _ _ j wr => ∃ p : Nat, p ≤ 8 ∧ v = .int .i64 (sumAt (hist zs) N p) ∧ j = .int .i64 p ∧ Keep [] w2 wr) (fun _ _ _ _ j _ => 8 - (intOf j).toNat)
  case atStart => exact ⟨0, by omega, rfl, rfl, Keep.refl _ _⟩
  case round =>
    obtain ⟨p, hp, rfl, rfl, hkw⟩ := hrel
    have hsl := HSL.out p
    by_cases hlt : p < 8
    · have hslp : sumAt (hist zs) N p ≤ 480 := by
        have : p * N ≤ 8 * 60 := Nat.mul_le_mul hp hNle
        omega
      clear hsl
      have hsucc : sumAt (hist zs) N (p + 1) = sumAt (hist zs) N p + rk (plB (hist zs) p) N := rfl
      have hrk := rk_le (plB (hist zs) p) N
      have hlen : (atL (hist zs) (p : Int)).length = rk (plB (hist zs) p) N := by unfold atL atTo; rw [subL_len, HN.out]
      obtain ⟨S, hS⟩ : ∃ S, sumAt (hist zs) N p = S := ⟨_, rfl⟩
      obtain ⟨M, hM⟩ : ∃ M, rk (plB (hist zs) p) N = M := ⟨_, rfl⟩
      rw [hS, hM] at hsucc
      rw [hM] at hrk hlen
      rw [hS] at hslp ⊢
      have HSC := Lib.hid hsucc
      have HLN := Lib.hid hlen
      have HPB := Lib.hid (blk_new wr (.cells #[.int .i64 p] 3))
      have hkA : Keep [] wr (wr.alloc (.cells #[.int .i64 p] 3)) := (Keep.refl [] _).alloc _
      have HPL : Hid (∀ x ∈ atL (hist zs) (p : Int), x.q = (p : Int)) := Lib.hid subL_place
      clear hS hM hsucc hlen
      go_wp2_with (first | (go_at_call 36; refine (at36_any ((HV2.out.keep hkw (by simp)).keep hkA (by simp)) HOK.out hlt).mono ?_; rintro e w3 ⟨a3, m3, c3, rfl, hk3, hv3⟩; have hm3 : m3 = M := (by rw [← hv3.len]; exact HLN.out); subst hm3; have HV3 := Lib.hid hv3; have hcp := cellAt (hk3.at HPB.out (by simp)) 0; have HCP : Hid (w3.cell? ⟨wr.heap.size, 0, none⟩ = some (.int .i64 p)) := Lib.hid hcp; clear hv3 hcp) | (go_at_call 37; refine (has37_no HV3.out HCP.out HPL.out).mono ?_; rintro e w4 ⟨rfl, hk4⟩))
      go_roundw
      case measure => simp [intOf]; omega
      case rel => exact ⟨p + 1, by omega, by rw [HSC.out]; simp, by go_num, ((hkw.trans hkA).trans hk3).trans hk4⟩
    · have hp8 := Lib.hid (show p = 8 by omega)
      have hS8 : sumAt (hist zs) N p = N := by rw [hp8.out]; exact HSUM.out
      rw [hS8]
      clear hS8 hsl
      have HVR := Lib.hid (HV2.out.keep hkw (by simp))
      have hkr := hk02.trans hkw
      go_wp2_with (first | (go_at_call 39; refine (clone_gen HVR.out (by omega)).mono ?_; rintro e w5 ⟨v5, rfl, hk5, ho5⟩; have HO5 := Lib.hid ho5; have HV5 := Lib.hid (HVR.out.keep hk5 (by simp)); clear ho5) | (go_at_call 21; (with_reducible refine (rest_at HR (by omega) (by omega)).mono ?_); rintro e w' ⟨rfl, rfl⟩) | (at_builtin; refine wpList_append_own _ rfl _ _ 28 rfl wr.heap.size 27 i0 (.agg #[.int .i64 0, .int .i64 0, .int .i64 0]) 3 24 Try.underlying28 hi0 hz0 hz1 hz2 rfl (by decide) _ _ _ rfl (HO5.out.alloc _) ⟨w5.heap.size, 0, none⟩ 1 1 [.int .i64 r, .int .i64 1, .int .i64 0] rfl rfl (cells_new _ _ _ _) (by intro u hu; simp at hu; rcases hu with hu | hu | hu <;> (subst hu; rfl)) (by unfold maxLen; omega) (by omega) (by have := hk5.size; simp; omega) ?_; intro v6 w6 hown6 hgr6 _; have hk6 : Keep [] wr w6 := (hk5.alloc _).grown hgr6 (fun g hg => .inr (HO5.out.lt g hg).1); have HV6 := Lib.hid (HVR.out.keep hk6 (by simp)); obtain ⟨a6, c6, rfl, hm6, _⟩ := LnsV.ofOwn (show w6.ownsRow wr.heap.size 27 3 v6 (N + 1) (lanesC (moreL (hist zs) r)) by rw [moreL, lanesC_snoc]; exact hown6); have HM6 := Lib.hid hm6; clear hown6 hgr6 hm6) | (go_at_call 40; (with_reducible refine (same40_any (R := false) HV6.out HM6.out HOK.out HMOK.out (more_part hr8) HRF.out).mono ?_); rintro e w7 ⟨rfl, hk7⟩; have HV7 := Lib.hid (HV6.out.keep hk7 (by simp))) | (go_at_call 40; (with_reducible refine (same40_any (R := true) HV7.out HV7.out HOK.out HOK.out (self_part _) rfl).mono ?_); rintro e w8 ⟨rfl, hk8⟩))
      go_ret
      exact ⟨rfl, ((hkr.trans hk6).trans hk7).trans hk8⟩
end Go.Proofs.Ytkhchfjhmplaiaa
namespace Go
open Go.RowKit
/-- The first k events are sound. -/
structure HTo (h : List Ln) (k : Nat) : Prop where
  ev : ∀ i, i < k → 0 ≤ (lat h i).q ∧ (lat h i).q < 8 ∧ 1 ≤ (lat h i).g ∧ (lat h i).g ≤ 3 ∧ 0 ≤ (lat h i).u ∧ (lat h i).u ≤ 999
  sends : ∀ i j, i < j → j < k → (lat h i).g = 2 → (lat h j).g = 2 → (lat h i).u ≠ (lat h j).u
  takes : ∀ i j, i < j → j < k → (lat h i).g = 3 → (lat h j).g = 3 → (lat h i).u ≠ (lat h j).u
  sent : ∀ i, i < k → (lat h i).g = 3 → ∃ j, j < i ∧ (lat h j).g = 2 ∧ (lat h j).u = (lat h i).u
theorem HTo.zero (h : List Ln) : HTo h 0 := ⟨fun i h => absurd h (by omega), fun i j _ h => absurd h (by omega), fun i j _ h => absurd h (by omega), fun i h => absurd h (by omega)⟩
theorem HTo.all {h : List Ln} (t : HTo h h.length) (hl : h.length ≤ 200) : HOk h := ⟨hl, t.ev, t.sends, t.takes, t.sent⟩
theorem HTo.step {h : List Ln} {k : Nat} (t : HTo h k) (he : 0 ≤ (lat h k).q ∧ (lat h k).q < 8 ∧ 1 ≤ (lat h k).g ∧ (lat h k).g ≤ 3 ∧ 0 ≤ (lat h k).u ∧ (lat h k).u ≤ 999)
    (h2 : (lat h k).g = 2 → saidB h 2 k (lat h k).u = false) (h3 : (lat h k).g = 3 → saidB h 3 k (lat h k).u = false ∧ saidB h 2 k (lat h k).u = true) : HTo h (k + 1) := by
  refine ⟨fun i hi => ?_, fun i j hij hj e1 e2 e3 => ?_, fun i j hij hj e1 e2 e3 => ?_, fun i hi hg => ?_⟩
  · by_cases e : i = k
    · rw [e]; exact he
    · exact t.ev i (by omega)
  · by_cases e : j = k
    · subst e
      have h4 := h2 e2
      have h5 := (saidB_iff h 2 j (lat h j).u).2 ⟨i, hij, e1, e3⟩
      rw [h4] at h5; cases h5
    · exact t.sends i j hij (by omega) e1 e2 e3
  · by_cases e : j = k
    · subst e
      have h4 := (h3 e2).1
      have h5 := (saidB_iff h 3 j (lat h j).u).2 ⟨i, hij, e1, e3⟩
      rw [h4] at h5; cases h5
    · exact t.takes i j hij (by omega) e1 e2 e3
  · by_cases e : i = k
    · subst e
      exact (saidB_iff h 2 i (lat h i).u).1 (h3 hg).2
    · exact t.sent i (by omega) hg
end Go
namespace Go.Proofs.Ytkhchfjhmplaiaa
open Go.RowKit
theorem mark_get (h : List Ln) (g : Int) (k : Nat) (x : Int) : (markF h g k x).getD (.bool false) = .bool (saidB h g k x) := by
  unfold markF
  cases saidB h g k x <;> rfl
set_option maxRecDepth 100000 in
set_option maxHeartbeats 4000000 in
theorem check_gen {a : Option Addr} {n c : Nat} {h : List Ln} {w : World} (hv : LnsV w a n c h) (hloc : ∀ i, i < n → (lat h i).g = 1 → 0 ≤ (lat h i).u ∧ (lat h i).u ≤ 999) :
    Calls Try.prog 51 #[.slice a n c] w fun e w' => ∃ x : Int, e = .returned (.int .i64 x) ∧ Keep [] w w' ∧ (x = 0 → HOk h) := by
  have hmm := @run_makeMap Try.prog
  have HV := Lib.hid hv
  have HL := Lib.hid hv.len
  have HLO := Lib.hid hloc
  clear hv hloc
  by_cases hn : 200 < n
  · have hdn : decide ((200 : Int) < (n : Int)) = true := by simp; omega
    go_enter Try.func51, Try.ntmps51
    go_wp2_with fail
    go_ret
    exact ⟨2, rfl, Keep.refl _ _, fun h => absurd h (by decide)⟩
  · have hn2 : n ≤ 200 := by omega
    go_enter Try.func51, Try.ntmps51
    go_wp2_with fail
    go_loopw [14] (fun i wr => ∃ k : Nat, k ≤ n ∧ i = .int .i64 k ∧ Keep [] w wr ∧ Hid (HTo h k) ∧ Hid (MapF wr Try.prog 3 w.heap.size k (markF h 2 k)) ∧ Hid (MapF wr Try.prog 3 (w.heap.size + 1) k (markF h 3 k))) (fun i _ => n - (intOf i).toNat)
    case atStart =>
      have e2 : markF h 2 0 = fun _ => none := funext fun x => by simp [markF, saidB]
      have e3 : markF h 3 0 = fun _ => none := funext fun x => by simp [markF, saidB]
      refine ⟨0, by omega, rfl, ((Keep.refl _ _).alloc _).alloc _, Lib.hid (HTo.zero h), Lib.hid ?_, Lib.hid ?_⟩
      · rw [e2]; exact (MapF.made w Try.prog 3).keep ((Keep.refl [] _).alloc _) (by simp)
      · rw [e3]; have h9 := MapF.made (w.alloc (.map #[] 0)) Try.prog 3; rwa [show (w.alloc (.map #[] 0)).heap.size = w.heap.size + 1 by simp] at h9
    case round =>
      obtain ⟨k, hk, rfl, hkw, HTO, HS, HT⟩ := hrel
      by_cases hlt : k < n
      · have hlk : k < h.length := by rw [HL.out]; exact hlt
        have hloc := HLO.out k hlt
        obtain ⟨b, off, rfl, c0, c1, c2⟩ := (HV.out.keep hkw (by simp)).at_ hlt
        have hstep := Lib.hid (HTO.out.step)
        have hsame2 := Lib.hid (markF_same (h := h) (g := 2) (k := k))
        have hsame3 := Lib.hid (markF_same (h := h) (g := 3) (k := k))
        have hput2 := Lib.hid (markF_put (h := h) (g := 2) (k := k))
        have hput3 := Lib.hid (markF_put (h := h) (g := 3) (k := k))
        generalize lat h k = L at *
        obtain ⟨q, g, u⟩ := L
        dsimp only at *
        by_cases hg0 : g < 1
        · have b1 : decide (g < 1) = true := by simpa using hg0
          go_wp2_with (first | (with_reducible refine Txt.wp_region_text mixed quiet (by decide +kernel) ?_) | (with_reducible refine Txt.text_done (by kernel_rfl) ?_))
          go_ret
          exact ⟨3, rfl, hkw.alloc _, fun h => absurd h (by decide)⟩
        · have b1 : decide (g < 1) = false := by simpa using hg0
          by_cases hg4 : 3 < g
          · have b2 : decide (3 < g) = true := by simpa using hg4
            go_wp2_with (first | (with_reducible refine Txt.wp_region_text mixed quiet (by decide +kernel) ?_) | (with_reducible refine Txt.text_done (by kernel_rfl) ?_))
            go_ret
            exact ⟨3, rfl, hkw.alloc _, fun h => absurd h (by decide)⟩
          · have b2 : decide (3 < g) = false := by simpa using hg4
            by_cases hq0 : q < 0
            · have b3 : decide (q < 0) = true := by simpa using hq0
              go_wp2_with (first | (with_reducible refine Txt.wp_region_text mixed quiet (by decide +kernel) ?_) | (with_reducible refine Txt.text_done (by kernel_rfl) ?_))
              go_ret
              exact ⟨1, rfl, hkw.alloc _, fun h => absurd h (by decide)⟩
            · have b3 : decide (q < 0) = false := by simpa using hq0
              by_cases hq8 : 8 ≤ q
              · have b4 : decide (8 ≤ q) = true := by simpa using hq8
                go_wp2_with (first | (with_reducible refine Txt.wp_region_text mixed quiet (by decide +kernel) ?_) | (with_reducible refine Txt.text_done (by kernel_rfl) ?_))
                go_ret
                exact ⟨1, rfl, hkw.alloc _, fun h => absurd h (by decide)⟩
              · have b4 : decide (8 ≤ q) = false := by simpa using hq8
                by_cases hg1 : g = 1
                · subst hg1
                  have hu := hloc rfl
                  have hst := Lib.hid (hstep.out ⟨by omega, by omega, by omega, by omega, by omega, by omega⟩ (fun e => absurd e (by decide)) (fun e => absurd e (by decide)))
                  have HS1 : Hid (MapF (wr.alloc (.cells #[.int .i64 q, .int .i64 1, .int .i64 u] 27)) Try.prog 3 w.heap.size (k + 1) (markF h 2 (k + 1))) := Lib.hid (by rw [hsame2.out (by decide)]; exact (HS.out.keep ((Keep.refl [] _).alloc _) (by simp)).mono (by omega))
                  have HT1 : Hid (MapF (wr.alloc (.cells #[.int .i64 q, .int .i64 1, .int .i64 u] 27)) Try.prog 3 (w.heap.size + 1) (k + 1) (markF h 3 (k + 1))) := Lib.hid (by rw [hsame3.out (by decide)]; exact (HT.out.keep ((Keep.refl [] _).alloc _) (by simp)).mono (by omega))
                  clear hloc hu hg0 hg4
                  go_wp2_with (first | (with_reducible refine Txt.wp_region_text mixed quiet (by decide +kernel) ?_) | (with_reducible refine Txt.text_done (by kernel_rfl) ?_))
                  go_roundw
                  case measure => simp [intOf]; omega
                  case rel => exact ⟨k + 1, by omega, by go_num, hkw.alloc _, hst, HS1, HT1⟩
                · clear hloc
                  have hg1b : (g == 1) = false := beq_eq_false_iff_ne.2 hg1
                  by_cases hu0 : u < 0
                  · have b5 : decide (u < 0) = true := by simpa using hu0
                    go_wp2_with (first | (with_reducible refine Txt.wp_region_text mixed quiet (by decide +kernel) ?_) | (with_reducible refine Txt.text_done (by kernel_rfl) ?_))
                    go_ret
                    exact ⟨1, rfl, hkw.alloc _, fun h => absurd h (by decide)⟩
                  · have b5 : decide (u < 0) = false := by simpa using hu0
                    by_cases hu9 : 999 < u
                    · have b6 : decide (999 < u) = true := by simpa using hu9
                      go_wp2_with (first | (with_reducible refine Txt.wp_region_text mixed quiet (by decide +kernel) ?_) | (with_reducible refine Txt.text_done (by kernel_rfl) ?_))
                      go_ret
                      exact ⟨1, rfl, hkw.alloc _, fun h => absurd h (by decide)⟩
                    · have b6 : decide (999 < u) = false := by simpa using hu9
                      have HWF := Lib.hid (wf_msg (z := u) (by omega) (by omega))
                      rcases (by omega : g = 2 ∨ g = 3) with hg | hg
                      · subst hg
                        have HSa := Lib.hid (HS.out.keep ((Keep.refl [] _).alloc (.cells #[.int .i64 q, .int .i64 2, .int .i64 u] 27)) (by simp))
                        have HTa := Lib.hid (HT.out.keep ((Keep.refl [] _).alloc (.cells #[.int .i64 q, .int .i64 2, .int .i64 u] 27)) (by simp))
                        have hm := mark_get h 2 k u
                        obtain ⟨s2, hs2⟩ : ∃ s, saidB h 2 k u = s := ⟨_, rfl⟩
                        rw [hs2] at hm
                        have HV2 := Lib.hid hm
                        have hs2' := Lib.hid hs2
                        have hst := Lib.hid (fun (e : s2 = false) => hstep.out ⟨by omega, by omega, by omega, by omega, by omega, by omega⟩ (fun _ => hs2.trans e) (fun e => absurd e (by decide)))
                        clear hm hs2 hg0 hg4 hg1
                        cases s2
                        · go_wp2_with (first | (with_reducible refine Txt.wp_region_text mixed quiet (by decide +kernel) ?_) | (with_reducible refine Txt.text_done (by kernel_rfl) ?_) | (at_lookup; refine wpList_lookup_v _ rfl _ _ 103 rfl 3 4 Try.underlying103 Try.underlying3 (.bool false) (zeroB _) w.heap.size k (markF h 2 k) rfl HSa.out u rfl HWF.out _ HV2 ?_) | (at_mapUpdate; refine wpList_update_f _ rfl _ _ _ 103 rfl 3 4 Try.underlying103 Try.underlying3 w.heap.size k (markF h 2 k) rfl HSa.out (by unfold maxLen; omega) u (.bool true) rfl rfl HWF.out ?_; intro w2 hm2 hgr2; have HM2 := Lib.hid hm2; have HGR := Lib.hid hgr2; clear hm2 hgr2))
                          go_roundw
                          case measure => simp [intOf]; omega
                          case rel =>
                            refine ⟨k + 1, by omega, by go_num, (hkw.alloc (.cells #[.int .i64 q, .int .i64 2, .int .i64 u] 27)).grown HGR.out (fun x hx => by cases hx; exact .inr (Nat.le_refl _)), Lib.hid (hst.out rfl), Lib.hid ?_, Lib.hid ?_⟩
                            · rw [hput2.out rfl]; exact HM2.out
                            · rw [hsame3.out (by decide)]
                              exact (HTa.out.keep (Keep.ofGrown (S := [w.heap.size]) HGR.out (fun x hx => by cases hx; simp)) (by simp)).mono (by omega)
                        · go_wp2_with (first | (with_reducible refine Txt.wp_region_text mixed quiet (by decide +kernel) ?_) | (with_reducible refine Txt.text_done (by kernel_rfl) ?_) | (at_lookup; refine wpList_lookup_v _ rfl _ _ 103 rfl 3 4 Try.underlying103 Try.underlying3 (.bool false) (zeroB _) w.heap.size k (markF h 2 k) rfl HSa.out u rfl HWF.out _ HV2 ?_))
                          go_ret
                          exact ⟨5, rfl, hkw.alloc _, fun h => absurd h (by decide)⟩
                      · subst hg
                        have HSa := Lib.hid (HS.out.keep ((Keep.refl [] _).alloc (.cells #[.int .i64 q, .int .i64 3, .int .i64 u] 27)) (by simp))
                        have HTa := Lib.hid (HT.out.keep ((Keep.refl [] _).alloc (.cells #[.int .i64 q, .int .i64 3, .int .i64 u] 27)) (by simp))
                        have hm := mark_get h 2 k u
                        have hm' := mark_get h 3 k u
                        obtain ⟨s2, hs2⟩ : ∃ s, saidB h 2 k u = s := ⟨_, rfl⟩
                        obtain ⟨s3, hs3⟩ : ∃ s, saidB h 3 k u = s := ⟨_, rfl⟩
                        rw [hs2] at hm
                        rw [hs3] at hm'
                        have HV2 := Lib.hid hm
                        have HV3 := Lib.hid hm'
                        have hst := Lib.hid (fun (e : s3 = false) (e2 : s2 = true) => hstep.out ⟨by omega, by omega, by omega, by omega, by omega, by omega⟩ (fun e => absurd e (by decide)) (fun _ => ⟨hs3.trans e, hs2.trans e2⟩))
                        clear hm hm' hs2 hs3 hg0 hg4 hg1
                        cases s3
                        · cases s2
                          · go_wp2_with (first | (with_reducible refine Txt.wp_region_text mixed quiet (by decide +kernel) ?_) | (with_reducible refine Txt.text_done (by kernel_rfl) ?_) | (at_lookup; refine wpList_lookup_v _ rfl _ _ 103 rfl 3 4 Try.underlying103 Try.underlying3 (.bool false) (zeroB _) w.heap.size k (markF h 2 k) rfl HSa.out u rfl HWF.out _ HV2 ?_) | (at_lookup; refine wpList_lookup_v _ rfl _ _ 103 rfl 3 4 Try.underlying103 Try.underlying3 (.bool false) (zeroB _) (w.heap.size + 1) k (markF h 3 k) rfl HTa.out u rfl HWF.out _ HV3 ?_))
                            go_ret
                            exact ⟨4, rfl, hkw.alloc _, fun h => absurd h (by decide)⟩
                          · go_wp2_with (first | (with_reducible refine Txt.wp_region_text mixed quiet (by decide +kernel) ?_) | (with_reducible refine Txt.text_done (by kernel_rfl) ?_) | (at_lookup; refine wpList_lookup_v _ rfl _ _ 103 rfl 3 4 Try.underlying103 Try.underlying3 (.bool false) (zeroB _) w.heap.size k (markF h 2 k) rfl HSa.out u rfl HWF.out _ HV2 ?_) | (at_lookup; refine wpList_lookup_v _ rfl _ _ 103 rfl 3 4 Try.underlying103 Try.underlying3 (.bool false) (zeroB _) (w.heap.size + 1) k (markF h 3 k) rfl HTa.out u rfl HWF.out _ HV3 ?_) | (at_mapUpdate; refine wpList_update_f _ rfl _ _ _ 103 rfl 3 4 Try.underlying103 Try.underlying3 (w.heap.size + 1) k (markF h 3 k) rfl HTa.out (by unfold maxLen; omega) u (.bool true) rfl rfl HWF.out ?_; intro w2 hm2 hgr2; have HM2 := Lib.hid hm2; have HGR := Lib.hid hgr2; clear hm2 hgr2))
                            go_roundw
                            case measure => simp [intOf]; omega
                            case rel =>
                              refine ⟨k + 1, by omega, by go_num, (hkw.alloc (.cells #[.int .i64 q, .int .i64 3, .int .i64 u] 27)).grown HGR.out (fun x hx => by cases hx; exact .inr (Nat.le_succ _)), Lib.hid (hst.out rfl rfl), Lib.hid ?_, Lib.hid ?_⟩
                              · rw [hsame2.out (by decide)]
                                exact (HSa.out.keep (Keep.ofGrown (S := [(w.heap.size + 1)]) HGR.out (fun x hx => by cases hx; simp)) (by simp)).mono (by omega)
                              · rw [hput3.out rfl]; exact HM2.out
                        · go_wp2_with (first | (with_reducible refine Txt.wp_region_text mixed quiet (by decide +kernel) ?_) | (with_reducible refine Txt.text_done (by kernel_rfl) ?_) | (at_lookup; refine wpList_lookup_v _ rfl _ _ 103 rfl 3 4 Try.underlying103 Try.underlying3 (.bool false) (zeroB _) w.heap.size k (markF h 2 k) rfl HSa.out u rfl HWF.out _ HV2 ?_) | (at_lookup; refine wpList_lookup_v _ rfl _ _ 103 rfl 3 4 Try.underlying103 Try.underlying3 (.bool false) (zeroB _) (w.heap.size + 1) k (markF h 3 k) rfl HTa.out u rfl HWF.out _ HV3 ?_))
                          go_ret
                          exact ⟨5, rfl, hkw.alloc _, fun h => absurd h (by decide)⟩
      · have hkn := Lib.hid (show k = n by omega)
        go_wp2_with fail
        go_ret
        exact ⟨0, rfl, hkw, fun _ => HTo.all (by rw [HL.out, ← hkn.out]; exact HTO.out) (by rw [HL.out]; exact hn2)⟩
end Go.Proofs.Ytkhchfjhmplaiaa
namespace Go.Proofs.Ytkhchfjhmplaiaa
open Go.RowKit
theorem ahead_next {a : Option Addr} {n c : Nat} {h : List Ln} {w : World} {i : Nat} {b : Bool} (hv : LnsV w a n c h) (hk : Hid (HOk h)) (hj : i + 1 < n) (hb : Hid (lessL (clk h i) (clk h (i + 1)) = b)) :
    Calls Try.prog 23 #[.slice a n c, .int .i64 i, .int .i64 (i + 1)] w fun e w' => e = .returned (.tuple #[.bool b, .int .i64 0]) ∧ Keep [] w w' := ahead_at hv hk (by omega) hj hb
theorem own3_at {w : World} {B n g cap : Nat} {h : List Ln} (ho : w.ownsRow B 27 3 (.slice (some ⟨g, 0, none⟩) n cap) n (lanesC h)) {i : Nat} (hi : i < n) :
    w.cell? ⟨g, i * 3, none⟩ = some (.int .i64 (lat h i).q) ∧ w.cell? ⟨g, i * 3 + 1, none⟩ = some (.int .i64 (lat h i).g) ∧ w.cell? ⟨g, i * 3 + 2, none⟩ = some (.int .i64 (lat h i).u) := by
  obtain ⟨a, c, he, hv, _⟩ := LnsV.ofOwn ho
  cases he
  obtain ⟨b, off, he, h0, h1, h2⟩ := hv.at_ hi
  cases he
  rw [Nat.zero_add] at h0 h1 h2
  exact ⟨h0, h1, h2⟩
theorem own_thaw {w : World} {B e m n g cap : Nat} {xs : List Value} (ho : w.ownsRow B e m (.slice (some ⟨g, 0, none⟩) n cap) n xs) (i : Nat) : w.frozen? ⟨g, i, none⟩ = false ∧ n ≤ cap ∧ cap ≤ maxLen ∧ B ≤ g ∧ g < w.heap.size := by
  rcases ho.2 with ⟨h0, _⟩ | ⟨g', cap', cur, hv, hb, hg, hnc, hcm, hcs, ht⟩
  · cases h0
  · cases hv
    exact ⟨thaw hg i, hnc, hcm, hb, lt_of_blk hg⟩
/-- The clocks in memory, with the row that holds them. -/
theorem clocks_at2 {a : Option Addr} {n c : Nat} {h : List Ln} {w : World} (hv : LnsV w a n c h) (hk : HOk h) (hn : 0 < n) :
    Calls Try.prog 25 #[.slice a n c] w fun e w' => ∃ g cap V, e = .returned (.tuple #[.slice (some ⟨g, 0, none⟩) n cap, .int .i64 0]) ∧ Keep [] w w' ∧ w'.ownsRow w.heap.size 22 1 (.slice (some ⟨g, 0, none⟩) n cap) n ((List.range n).map V) ∧ ∀ i, i < n → ∃ gi ci, gi ≠ g ∧ V i = .slice (some ⟨gi, 0, none⟩) 8 ci ∧ IntsV w' (some ⟨gi, 0, none⟩) 8 ci (clk h i) := by
  have hl := hv.len
  refine (clocks_ok hv hk).mono ?_
  rintro e w' ⟨v, V, rfl, hk1, ho, hV⟩
  obtain ⟨g, cap, rfl, _⟩ := own_cells ho hn
  refine ⟨g, cap, V, rfl, hk1, ho, fun i hi => ?_⟩
  obtain ⟨gi, ci, hvi, _⟩ := own_form (hV i hi) (by omega)
  obtain ⟨ai, ci', hve, hint, _⟩ := IntsV.ofOwn (hV i hi) (clk_wf hk (by omega))
  have hs := own_sep (hV i hi) ho (by decide)
  rw [hvi] at hve hs
  cases hve
  refine ⟨gi, ci, fun e => ?_, hvi, hint⟩
  subst e
  rcases hs with hs | hs
  · cases hs
  · exact hs rfl
theorem own_row {w : World} {B e n g cap : Nat} {V : Nat → Value} (ho : w.ownsRow B e 1 (.slice (some ⟨g, 0, none⟩) n cap) n ((List.range n).map V)) {i : Nat} (hi : i < n) : w.cell? ⟨g, i, none⟩ = some (V i) := by
  obtain ⟨g', cap', he, _, _, _, _, hc, _⟩ := own_cells ho (by omega)
  cases he
  rw [hc i hi, List.getElem?_map, List.getElem?_range hi]; rfl
theorem range_set {n i : Nat} (V : Nat → Value) (v : Value) : ((List.range n).map V).set i v = (List.range n).map fun k => if k = i then v else V k := by
  refine List.ext_getElem (by simp) fun p h1 h2 => ?_
  simp only [List.getElem_set, List.getElem_map, List.getElem_range]
  by_cases e : i = p
  · rw [if_pos e, if_pos e.symm]
  · rw [if_neg e, if_neg (fun h => e h.symm)]
theorem rows_of {w : World} {B n g cap : Nat} {V : Nat → Value} {R : Nat → List Int} (ho : w.ownsRow B 22 1 (.slice (some ⟨g, 0, none⟩) n cap) n ((List.range n).map V)) (hV : ∀ i, i < n → ∃ gi ci, V i = .slice (some ⟨gi, 0, none⟩) 8 ci ∧ IntsV w (some ⟨gi, 0, none⟩) 8 ci (R i)) : RowsC w g n R := fun i hi =>
  let ⟨gi, ci, h1, h2⟩ := hV i hi
  ⟨_, 8, ci, by rw [own_row ho hi, h1], h2⟩
/-- Behind the exchange, the rows are those of the history. -/
theorem swap_rows {w : World} {B n g cap i : Nat} {V : Nat → Value} {h : List Ln} (hk : HOk h) (hf : Free h i) (hn : h.length = n) (ho : w.ownsRow B 22 1 (.slice (some ⟨g, 0, none⟩) n cap) n ((List.range n).map V))
    (hV : ∀ k, k < n → ∃ gi ci, gi ≠ g ∧ V k = .slice (some ⟨gi, 0, none⟩) 8 ci ∧ IntsV w (some ⟨gi, 0, none⟩) 8 ci (clk (swapL h i) k)) :
    RowsC ((w.setCell ⟨g, i, none⟩ (V (i + 1))).setCell ⟨g, i + 1, none⟩ (V i)) g n (clk h) := by
  have hi := hf.at_
  have h1 := own_put_cell (own_put_cell ho i (V (i + 1))) (i + 1) (V i)
  rw [range_set, range_set] at h1
  have hks : Keep [g] w ((w.setCell ⟨g, i, none⟩ (V (i + 1))).setCell ⟨g, i + 1, none⟩ (V i)) := ((Keep.refl _ _).setCell (.inl (by simp)) _).setCell (.inl (by simp)) _
  have hat : ∀ k, k < n → ∃ gi ci, V k = .slice (some ⟨gi, 0, none⟩) 8 ci ∧ IntsV ((w.setCell ⟨g, i, none⟩ (V (i + 1))).setCell ⟨g, i + 1, none⟩ (V i)) (some ⟨gi, 0, none⟩) 8 ci (clk h (sw i k)) := fun k hkn => by
    obtain ⟨gi, ci, hne, h2, h3⟩ := hV k hkn
    rw [swap_clk' hk hf (by omega)] at h3
    exact ⟨gi, ci, h2, h3.keep hks (fun x hx => by cases hx; simpa using hne)⟩
  refine rows_of h1 fun k hkn => ?_
  show ∃ gi ci, (if k = i + 1 then V i else if k = i then V (i + 1) else V k) = _ ∧ _
  by_cases e1 : k = i + 1
  · rw [if_pos e1]
    obtain ⟨gi, ci, h2, h3⟩ := hat i (by omega)
    rw [show sw i i = k by unfold sw; rw [if_pos rfl, e1]] at h3
    exact ⟨gi, ci, h2, h3⟩
  · rw [if_neg e1]
    by_cases e2 : k = i
    · rw [if_pos e2]
      obtain ⟨gi, ci, h2, h3⟩ := hat (i + 1) (by omega)
      rw [show sw i (i + 1) = k by unfold sw; rw [if_neg (by omega), if_pos rfl, e2]] at h3
      exact ⟨gi, ci, h2, h3⟩
    · rw [if_neg e2]
      obtain ⟨gi, ci, h2, h3⟩ := hat k hkn
      rw [show sw i k = k by unfold sw; rw [if_neg e2, if_neg e1]] at h3
      exact ⟨gi, ci, h2, h3⟩
set_option maxRecDepth 100000 in
set_option maxHeartbeats 4000000 in
theorem clockSwaps_walk (a : Option Addr) (len cap : Nat) (zs : List Int) (x : Int) (w : World) (hv : IntsV w a len cap zs) :
    Calls Try.prog 10 #[.slice a len cap, .int .i64 x] w fun e w' => e = .returned (.bool true) ∧ Keep [] w w' := by
  obtain ⟨N, hN⟩ : ∃ N, (hist zs).length = N := ⟨_, rfl⟩
  have hok : HOk (hist zs) := (hist_inv zs).ok
  have hN60 := hist_len zs
  rw [hN] at hN60
  have hNle : N ≤ 60 := by omega
  have HV := Lib.hid hv
  have HOK := Lib.hid hok
  clear hv hN60
  by_cases h0 : N < 2
  · have HN := Lib.hid hN
    clear hN hok
    go_enter Try.func10, Try.ntmps10
    go_wp2_with (first | (go_at_call 22; refine (begun_any _).mono ?_; rintro e w1 ⟨rfl, hk1⟩) | (go_at_call 20; refine (history_at (HV.out.keep hk1 (by simp)) HN).mono ?_; rintro e w2 ⟨a2, c2, rfl, hk2, hv2⟩; clear hv2))
    go_ret
    exact ⟨rfl, hk1.trans hk2⟩
  · obtain ⟨i, hi, hi1⟩ := at_nat x (show 0 < N - 1 by omega)
    rw [show ((N - 1 : Nat) : Int) = (N : Int) - 1 by omega] at hi
    have hi2 : i + 1 < N := by omega
    obtain ⟨A, hA⟩ : ∃ A, lessL (clk (hist zs) i) (clk (hist zs) (i + 1)) = A := ⟨_, rfl⟩
    have HI := Lib.hid hi
    have HN := Lib.hid hN
    have HA := Lib.hid hA
    have HFR := Lib.hid (fun (e : A = false) => free_of hok (show i + 1 < (hist zs).length by omega) (hA.trans e))
    clear hi hN hA hok
    go_enter Try.func10, Try.ntmps10
    cases A
    · have hf := HFR.out rfl
      have HG := Lib.hid (swap_ok HOK.out hf)
      clear HFR
      go_wp2_with (first | (go_at_call 22; refine (begun_any _).mono ?_; rintro e w1 ⟨rfl, hk1⟩) | (go_at_call 20; refine (history_at (HV.out.keep hk1 (by simp)) HN).mono ?_; rintro e w2 ⟨a2, c2, rfl, hk2, hv2⟩; have HV2 := Lib.hid hv2; clear hv2) | (go_at_call 21; (with_reducible refine (rest_at HI (by omega) (by omega)).mono ?_); rintro e w' ⟨rfl, rfl⟩) | (go_at_call 23; (with_reducible refine (ahead_next HV2.out HOK (by omega) HA).mono ?_); rintro e w3 ⟨rfl, hk3⟩; have HV3 := Lib.hid (HV2.out.keep hk3 (by simp))) | (go_at_call 39; refine (clone_any HV3.out (by omega) (by omega)).mono ?_; rintro e w4 ⟨g, cg, rfl, hk4, ho4⟩; have HV4 := Lib.hid (HV3.out.keep hk4 (by simp)); have HO4 := Lib.hid ho4; obtain ⟨p0, p1, p2⟩ := own3_at ho4 (show i < N by omega); obtain ⟨q0, q1, q2⟩ := own3_at ho4 hi2; have hth := fun j => (own_thaw ho4 j).1; obtain ⟨_, hgc, hgm, hgb, hgl⟩ := own_thaw ho4 0; unfold maxLen at hgm; clear ho4))
      have hfz := hth (i * 3)
      have hIc : (i : Int) + 1 < (N : Int) := by omega
      have HTH := Lib.hid hth
      have hHlen := Lib.hid (show i + 1 < (hist zs).length by rw [HN.out]; omega)
      obtain ⟨⟨x0, x1, x2⟩, hL⟩ : ∃ L, lat (hist zs) i = L := ⟨_, rfl⟩
      obtain ⟨⟨y0, y1, y2⟩, hM⟩ : ∃ L, lat (hist zs) (i + 1) = L := ⟨_, rfl⟩
      rw [hL] at p0 p1 p2
      rw [hM] at q0 q1 q2
      dsimp only at p0 p1 p2 q0 q1 q2
      have HL := Lib.hid hL
      have HM := Lib.hid hM
      clear hL hM
      have hsw : World.ownsRow ((((((w4.setCell ⟨g, i * 3, none⟩ (.int .i64 y0)).setCell ⟨g, i * 3 + 1, none⟩ (.int .i64 y1)).setCell ⟨g, i * 3 + 2, none⟩ (.int .i64 y2)).setCell ⟨g, (i + 1) * 3, none⟩ (.int .i64 x0)).setCell ⟨g, (i + 1) * 3 + 1, none⟩ (.int .i64 x1)).setCell ⟨g, (i + 1) * 3 + 2, none⟩ (.int .i64 x2)) w3.heap.size 27 3 (.slice (some ⟨g, 0, none⟩) N cg) N (lanesC (swapL (hist zs) i)) := by
        have h9 := own_put3 (own_put3 HO4.out (i := i) (by have := hHlen.out; omega) y0 y1 y2) (i := i + 1) (by simpa using hHlen.out) x0 x1 x2
        rw [← HL.out, ← HM.out] at h9
        exact h9
      have hks : Keep [g] w4 ((((((w4.setCell ⟨g, i * 3, none⟩ (.int .i64 y0)).setCell ⟨g, i * 3 + 1, none⟩ (.int .i64 y1)).setCell ⟨g, i * 3 + 2, none⟩ (.int .i64 y2)).setCell ⟨g, (i + 1) * 3, none⟩ (.int .i64 x0)).setCell ⟨g, (i + 1) * 3 + 1, none⟩ (.int .i64 x1)).setCell ⟨g, (i + 1) * 3 + 2, none⟩ (.int .i64 x2)).drew := by
        refine Keep.drew ?_
        iterate 6 refine Keep.setCell ?_ (.inl (by simp)) _
        exact Keep.refl _ _
      obtain ⟨a9, c9, he9, hsv, _⟩ := LnsV.ofOwn hsw
      cases he9
      obtain ⟨b2, off2, ha2, hb20, _⟩ := HV3.out.at_ (show i < N by omega)
      have hb2 := World.block_lt_of_cell? _ _ hb20
      have HGV := Lib.hid hsv.drew
      have HV5 := Lib.hid (HV4.out.keep hks (fun x hx => by rw [ha2] at hx; cases hx; simp; dsimp only at hb2 ⊢; omega))
      clear hsw hsv hb20 HL HM ha2
      go_region
      obtain ⟨w5, hw5⟩ : ∃ w5, ((((((w4.setCell ⟨g, i * 3, none⟩ (.int .i64 y0)).setCell ⟨g, i * 3 + 1, none⟩ (.int .i64 y1)).setCell ⟨g, i * 3 + 2, none⟩ (.int .i64 y2)).setCell ⟨g, (i + 1) * 3, none⟩ (.int .i64 x0)).setCell ⟨g, (i + 1) * 3 + 1, none⟩ (.int .i64 x1)).setCell ⟨g, (i + 1) * 3 + 2, none⟩ (.int .i64 x2)).drew = w5 := ⟨_, rfl⟩
      rw [hw5] at hks HGV HV5 ⊢
      clear hw5 p0 p1 p2 q0 q1 q2 hth hfz HTH
      have hkw5 : Keep [] w w5 := Keep.call (((hk1.trans hk2).trans hk3).trans hk4) hks (fun z hz => .inr (by simp at hz; have := hk1.size; have := hk2.size; have := hk3.size; omega))
      go_wp2_with (first | (go_at_call 25; (with_reducible refine (clocks_at2 HV5.out HOK.out (by omega)).mono ?_); rintro e w6 ⟨ga, ca, Va, rfl, hk6, hoa, hva⟩; have HGV6 := Lib.hid (HGV.out.keep hk6 (by simp)); have HOA := Lib.hid hoa; have HVA := Lib.hid hva; obtain ⟨_, hac, ham, _, hal⟩ := own_thaw hoa 0; unfold maxLen at ham; clear hoa hva) | (go_at_call 25; (with_reducible refine (clocks_at2 HGV6.out HG.out (by omega)).mono ?_); rintro e w7 ⟨gb, cb, Vb, rfl, hk7, hob, hvb⟩; have HOB := Lib.hid hob; have HVB := Lib.hid hvb; obtain ⟨_, hbc, hbm, hbl, _⟩ := own_thaw hob 0; have hth := fun j => (own_thaw hob j).1; have q0 := own_row hob (show i < N by omega); have q1 := own_row hob hi2; unfold maxLen at hbm; clear hob hvb))
      have HRA : Hid (RowsC w7 ga N (clk (hist zs))) := Lib.hid ((rows_of HOA.out (fun i hi => let ⟨gi, ci, _, h1, h2⟩ := HVA.out i hi; ⟨gi, ci, h1, h2⟩)).keep hk7)
      have hlen := HN.out
      have hrb := swap_rows HOK.out hf hlen HOB.out HVB.out
      obtain ⟨g0, k0, _, hV0, _⟩ := HVB.out i (by omega)
      obtain ⟨g1, k1, _, hV1, _⟩ := HVB.out (i + 1) hi2
      rw [hV0, hV1] at hrb
      rw [hV0] at q0
      rw [hV1] at q1
      have HRB := Lib.hid hrb
      clear hrb hV0 hV1
      have hks7 : Keep [gb] w7 ((w7.setCell ⟨gb, i, none⟩ (.slice (some ⟨g1, 0, none⟩) 8 k1)).setCell ⟨gb, i + 1, none⟩ (.slice (some ⟨g0, 0, none⟩) 8 k0)).drew := by
        refine Keep.drew ?_
        iterate 2 refine Keep.setCell ?_ (.inl (by simp)) _
        exact Keep.refl _ _
      have HRA7 : Hid (RowsC ((w7.setCell ⟨gb, i, none⟩ (.slice (some ⟨g1, 0, none⟩) 8 k1)).setCell ⟨gb, i + 1, none⟩ (.slice (some ⟨g0, 0, none⟩) 8 k0)).drew ga N (clk (hist zs))) := Lib.hid (fun k hk => by
        obtain ⟨gi, ci, _, h1, h2⟩ := HVA.out k hk
        have h3 := own_row HOA.out hk
        have hne : ∀ x, some (⟨gi, 0, none⟩ : Addr) = some x → x.block ∉ [gb] := fun x hx => by
          cases hx
          obtain ⟨b9, o9, e9, c9⟩ := h2.cells (by omega)
          cases e9
          have := World.block_lt_of_cell? _ _ (c9 0 (by omega))
          dsimp only at this ⊢
          simp; omega
        exact ⟨_, 8, ci, by rw [← h1]; exact hks7.cell (hk7.cell h3 (by simp)) (by dsimp only; simp; omega), (h2.keep hk7 (by simp)).keep hks7 hne⟩)
      clear hlen
      go_region
      obtain ⟨w8, hw8⟩ : ∃ w8, ((w7.setCell ⟨gb, i, none⟩ (.slice (some ⟨g1, 0, none⟩) 8 k1)).setCell ⟨gb, i + 1, none⟩ (.slice (some ⟨g0, 0, none⟩) 8 k0)).drew = w8 := ⟨_, rfl⟩
      have HRB8 : Hid (RowsC ((w7.setCell ⟨gb, i, none⟩ (.slice (some ⟨g1, 0, none⟩) 8 k1)).setCell ⟨gb, i + 1, none⟩ (.slice (some ⟨g0, 0, none⟩) 8 k0)).drew gb N (clk (hist zs))) := Lib.hid (HRB.out.keep (Keep.drew (Keep.refl _ _)))
      rw [hw8] at hks7 HRA7 HRB8 ⊢
      have hkw8 : Keep [] w w8 := Keep.call ((hkw5.trans hk6).trans hk7) hks7 (fun z hz => .inr (by simp at hz; have := hkw5.size; have := hk6.size; omega))
      clear hw8 q0 q1 hth HRB HRA
      go_wp2_with (first | (go_at_call 41; refine (eqf_any HRA7.out HRB8.out (by omega) (by omega) (by unfold maxLen; omega) (by unfold maxLen; omega)).mono ?_; rintro e w9 ⟨rfl, hk9⟩))
      go_ret
      exact ⟨rfl, hkw8.trans hk9⟩
    · clear HFR
      go_wp2_with (first | (go_at_call 22; refine (begun_any _).mono ?_; rintro e w1 ⟨rfl, hk1⟩) | (go_at_call 20; refine (history_at (HV.out.keep hk1 (by simp)) HN).mono ?_; rintro e w2 ⟨a2, c2, rfl, hk2, hv2⟩; have HV2 := Lib.hid hv2; clear hv2) | (go_at_call 21; (with_reducible refine (rest_at HI (by omega) (by omega)).mono ?_); rintro e w' ⟨rfl, rfl⟩) | (go_at_call 23; (with_reducible refine (ahead_next HV2.out HOK (by omega) HA).mono ?_); rintro e w3 ⟨rfl, hk3⟩))
      go_ret
      exact ⟨rfl, (hk1.trans hk2).trans hk3⟩
end Go.Proofs.Ytkhchfjhmplaiaa
namespace Go
open Go.RowKit
/-- What f says of the chosen ones. -/
def pick {α : Type} (P : Nat → Bool) (f : Nat → α) (n : Nat) : List α := ((List.range n).filter P).map f
theorem pick_succ {α : Type} (P : Nat → Bool) (f : Nat → α) (k : Nat) : pick P f (k + 1) = pick P f k ++ (if P k = true then [f k] else []) := by
  unfold pick
  rw [List.range_succ, List.filter_append, List.map_append]
  by_cases e : P k = true
  · simp [e]
  · simp [e]
theorem pick_len {α : Type} (P : Nat → Bool) (f : Nat → α) (k : Nat) : (pick P f k).length = rk P k := by simp [pick, rk]
theorem sw_same {i k : Nat} (h1 : k ≠ i) (h2 : k ≠ i + 1) : sw i k = k := by unfold sw; rw [if_neg h1, if_neg h2]
theorem sw_i (i : Nat) : sw i i = i + 1 := by unfold sw; rw [if_pos rfl]
theorem sw_i1 (i : Nat) : sw i (i + 1) = i := by unfold sw; rw [if_neg (by omega), if_pos rfl]
theorem pick_swap {α : Type} {P P' : Nat → Bool} {f f' : Nat → α} {i n : Nat} (hi : i + 1 < n) (hP : ∀ k, k < n → P' k = P (sw i k)) (hf : ∀ k, k < n → f' k = f (sw i k)) (hno : ¬ (P i = true ∧ P (i + 1) = true)) : pick P' f' n = pick P f n := by
  have hlow : ∀ m, m ≤ i → pick P' f' m = pick P f m := fun m => by
    induction m with
    | zero => intro _; rfl
    | succ m ih =>
      intro hm
      rw [pick_succ, pick_succ, ih (by omega), hP m (by omega), hf m (by omega), sw_same (by omega) (by omega)]
  have hhigh : ∀ m, i + 2 ≤ m → m ≤ n → pick P' f' m = pick P f m := fun m => by
    induction m with
    | zero => intro h; omega
    | succ m ih =>
      intro h1 h2
      by_cases e : m = i + 1
      · subst e
        rw [pick_succ, pick_succ, pick_succ P f, pick_succ P f, hlow i (Nat.le_refl _), hP i (by omega), hf i (by omega), hP (i + 1) (by omega), hf (i + 1) (by omega), sw_i, sw_i1]
        by_cases e1 : P i = true
        · have e2 : ¬ P (i + 1) = true := fun e2 => hno ⟨e1, e2⟩
          rw [if_neg e2, if_pos e1]; simp
        · rw [if_neg e1]; simp
      · rw [pick_succ, pick_succ, ih (by omega) (by omega), hP m (by omega), hf m (by omega), sw_same (by omega) (by omega)]
  exact hhigh n (by omega) (Nat.le_refl _)
def plQ (h : List Ln) (p : Int) (j : Nat) : Bool := decide ((lat h j).q = p)
/-- The clocks of a place. -/
def clkAt (h : List Ln) (p : Int) : List (List Int) := pick (plQ h p) (clk h) h.length
def evAt (h : List Ln) (p : Int) : List Ln := pick (plQ h p) (lat h) h.length
/-- SameAt at every place. -/
structure SameAt (h g : List Ln) : Prop where
  len : g.length = h.length
  ev : ∀ p, evAt g p = evAt h p
  ck : ∀ p, clkAt g p = clkAt h p
theorem SameAt.refl (h : List Ln) : SameAt h h := ⟨rfl, fun _ => rfl, fun _ => rfl⟩
theorem SameAt.swap {h g : List Ln} (r : SameAt h g) (hk : HOk g) {i : Nat} (hf : Free g i) : SameAt h (swapL g i) := by
  have hi := hf.at_
  have hl := swapL_len g i
  have hno : ∀ p, ¬ (plQ g p i = true ∧ plQ g p (i + 1) = true) := fun p e => by
    unfold plQ at e
    have e1 := of_decide_eq_true e.1
    have e2 := of_decide_eq_true e.2
    exact hf.place (e1.trans e2.symm)
  have hP : ∀ p k, plQ (swapL g i) p k = plQ g p (sw i k) := fun p k => by unfold plQ; rw [lat_swap hi]
  refine ⟨hl.trans r.len, fun p => ?_, fun p => ?_⟩
  · rw [← r.ev p]
    unfold evAt
    rw [hl]
    exact pick_swap hi (fun k _ => hP p k) (fun k _ => lat_swap hi k) (hno p)
  · rw [← r.ck p]
    unfold clkAt
    rw [hl]
    exact pick_swap hi (fun k _ => hP p k) (fun k hkl => swap_clk' hk hf hkl) (hno p)
/-- A sound exchange of neighbours at two places: they are not bound. -/
theorem free_sound {g : List Ln} (hk : HOk g) {i : Nat} (hi : i + 1 < g.length) (hq : (lat g i).q ≠ (lat g (i + 1)).q) (hs : HOk (swapL g i)) : Free g i := by
  refine ⟨hi, hq, fun e => ?_⟩
  have hl := swapL_len g i
  have e1 : lat (swapL g i) i = lat g (i + 1) := by rw [lat_swap hi, sw_i]
  obtain ⟨j, hj, h1, h2⟩ := hs.sent i (by omega) (by rw [e1]; exact e.2.1)
  rw [lat_swap hi, sw_same (by omega) (by omega)] at h1 h2
  rw [e1] at h2
  exact hk.sends j i hj (by omega) h1 e.1 (h2.trans e.2.2.symm)
end Go
namespace Go.Proofs.Ytkhchfjhmplaiaa
open Go.RowKit
/-- The clocks in memory, no event too. -/
def ClkR (w : World) (a : Option Addr) (n : Nat) (V : Nat → Value) (h : List Ln) : Prop := ∀ i, i < n → ∃ g gi ci, a = some ⟨g, 0, none⟩ ∧ w.cell? ⟨g, i, none⟩ = some (V i) ∧ V i = .slice (some ⟨gi, 0, none⟩) 8 ci ∧ IntsV w (some ⟨gi, 0, none⟩) 8 ci (clk h i)
theorem ClkR.keep {w w' : World} {a : Option Addr} {n : Nat} {V : Nat → Value} {h : List Ln} (r : ClkR w a n V h) (k : Keep [] w w') : ClkR w' a n V h := fun i hi =>
  let ⟨g, gi, ci, h1, h2, h3, h4⟩ := r i hi
  ⟨g, gi, ci, h1, k.cell h2 (by simp), h3, h4.keep k (by simp)⟩
theorem clocks_at3 {a : Option Addr} {n c : Nat} {h : List Ln} {w : World} (hv : LnsV w a n c h) (hk : HOk h) :
    Calls Try.prog 25 #[.slice a n c] w fun e w' => ∃ a' c' V, e = .returned (.tuple #[.slice a' n c', .int .i64 0]) ∧ Keep [] w w' ∧ n ≤ c' ∧ c' ≤ maxLen ∧ ClkR w' a' n V h := by
  have hl := hv.len
  refine (clocks_ok hv hk).mono ?_
  rintro e w' ⟨v, V, rfl, hk1, ho, hV⟩
  rcases ho.2 with ⟨rfl, h0⟩ | ⟨g, cap, cur, rfl, hb, hg, hnc, hcm, hcs, ht⟩
  · subst h0
    exact ⟨none, 0, V, rfl, hk1, Nat.le_refl _, Nat.zero_le _, fun i hi => absurd hi (by omega)⟩
  · refine ⟨_, cap, V, rfl, hk1, hnc, hcm, fun i hi => ?_⟩
    obtain ⟨gi, ci, hvi, _⟩ := own_form (hV i hi) (by omega)
    obtain ⟨ai, ci', hve, hint, _⟩ := IntsV.ofOwn (hV i hi) (clk_wf hk (by omega))
    rw [hvi] at hve
    cases hve
    exact ⟨g, gi, ci, rfl, own_row ho hi, hvi, hint⟩
/-- Rows of clocks that an own row of slices holds. -/
def RowsA (w : World) (a : Option Addr) (n : Nat) (R : List (List Int)) : Prop := ∀ i, i < n → ∃ g b m c, a = some ⟨g, 0, none⟩ ∧ w.cell? ⟨g, i, none⟩ = some (.slice b m c) ∧ IntsV w b m c (R.getD i [])
theorem RowsA.keep {w w' : World} {a : Option Addr} {n : Nat} {R : List (List Int)} (r : RowsA w a n R) (k : Keep [] w w') : RowsA w' a n R := fun i hi =>
  let ⟨g, b, m, c, h1, h2, h3⟩ := r i hi
  ⟨g, b, m, c, h1, k.cell h2 (by simp), h3.keep k (by simp)⟩
theorem rows_pick {w : World} {B n m : Nat} {v : Value} {a : Option Addr} {V : Nat → Value} {h : List Ln} {P : Nat → Bool} (hc : ClkR w a n V h) (ho : w.ownsRow B 22 1 v m (pick P V n)) : ∃ a' c', v = .slice a' m c' ∧ m ≤ c' ∧ c' ≤ maxLen ∧ RowsA w a' m (pick P (clk h) n) := by
  have hlen : m = rk P n := by have := ho.1; rw [pick_len] at this; omega
  rcases ho.2 with ⟨rfl, h0⟩ | ⟨g, cap, cur, rfl, hb, hg, hnc, hcm, hcs, ht⟩
  · exact ⟨none, 0, by rw [h0], by omega, Nat.zero_le _, fun i hi => absurd hi (by omega)⟩
  · refine ⟨_, cap, rfl, hnc, hcm, fun i hi => ?_⟩
    obtain ⟨g', cap', he, _, _, _, _, hcell, _⟩ := own_cells ho (by omega)
    cases he
    have hi2 : i < ((List.range n).filter P).length := by unfold rk at hlen; omega
    have hj : ((List.range n).filter P)[i] < n := by
      have := List.getElem_mem hi2
      exact List.mem_range.1 (List.mem_filter.1 this).1
    obtain ⟨g2, gi, ci, _, _, h3, h4⟩ := hc _ hj
    refine ⟨g, some ⟨gi, 0, none⟩, 8, ci, rfl, ?_, ?_⟩
    · rw [hcell i hi]
      unfold pick
      rw [List.getElem?_map, List.getElem?_eq_getElem hi2, Option.map_some, h3]
    · have e1 : (pick P (clk h) n).getD i [] = clk h (((List.range n).filter P)[i]) := by
        unfold pick
        rw [List.getD_eq_getElem?_getD, List.getElem?_map, List.getElem?_eq_getElem hi2]; rfl
      rw [e1]; exact h4
theorem eqc52_any {a1 a2 : Option Addr} {n1 c1 n2 c2 : Nat} {xs : List Int} {w : World} (hx : IntsV w a1 n1 c1 xs) (hy : IntsV w a2 n2 c2 xs) :
    Calls Try.prog 52 #[.slice a1 n1 c1, .slice a2 n2 c2] w fun e w' => e = .returned (.bool true) ∧ Keep [] w w' := by
  have h := equal_any hx hy
  rw [decide_eq_true rfl] at h
  have H := Lib.hid h
  clear h hx hy
  go_enter Try.func52, Try.ntmps52
  go_wp2_with (first | (go_at_call 34; refine H.out.mono ?_; rintro e w1 ⟨rfl, hk1⟩))
  go_ret
  exact ⟨rfl, hk1⟩
theorem eqf52_any {a1 a2 : Option Addr} {c1 c2 n : Nat} {R : List (List Int)} {w : World} (hx : RowsA w a1 n R) (hy : RowsA w a2 n R) (h1 : n ≤ c1) (hm1 : c1 ≤ maxLen) :
    Calls Try.prog 41 #[.slice a1 n c1, .slice a2 n c2, .func (.func 52) #[] #[]] w fun e w' => e = .returned (.bool true) ∧ Keep [] w w' := by
  have HX0 := Lib.hid hx
  have HY0 := Lib.hid hy
  unfold maxLen at hm1
  clear hx hy
  go_enter Try.func41, Try.ntmps41
  go_wp2_with fail
  go_loopw [17] (fun i wr => ∃ k : Nat, k ≤ n ∧ i = .int .i64 k ∧ Keep [] w wr) (fun i _ => n - (intOf i).toNat)
  case atStart => exact ⟨0, by omega, rfl, Keep.refl _ _⟩
  case round =>
    obtain ⟨k, hk, rfl, hkw⟩ := hrel
    by_cases hlt : k < n
    · obtain ⟨g3, a3, m3, c3, rfl, hc3, hi3⟩ := HX0.out.keep hkw k hlt
      obtain ⟨g4, a4, m4, c4, rfl, hc4, hi4⟩ := HY0.out.keep hkw k hlt
      have HI3 := Lib.hid hi3
      have HI4 := Lib.hid hi4
      clear hi3 hi4
      go_wp2_with (first | (go_at_call 52; refine (eqc52_any HI3.out HI4.out).mono ?_; rintro e w1 ⟨rfl, hk1⟩))
      go_roundw
      case measure => simp [intOf]; omega
      case rel => exact ⟨k + 1, by omega, by go_num, hkw.trans hk1⟩
    · go_wp2_with fail
      go_ret
      exact ⟨rfl, hkw⟩
theorem same_part {h g : List Ln} (r : SameAt h g) : Part8 h g 8 := ⟨Nat.le_refl _, fun p _ => (r.ev p).symm, fun h => absurd h (by decide)⟩
end Go.Proofs.Ytkhchfjhmplaiaa
