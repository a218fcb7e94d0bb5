import Derived.Test.YtkhchfjhmplaiaaH19
namespace Go.Proofs.Ytkhchfjhmplaiaa
open Go.RowKit
set_option maxRecDepth 100000 in
theorem clone_empty {a : Option Addr} {c : Nat} {w : World} : Calls Try.prog 39 #[.slice a 0 c] w fun e w' => ∃ v, e = .returned v ∧ Keep [] w w' ∧ w'.ownsRow w.heap.size 27 3 v 0 [] := by
  obtain ⟨i0, hi0, hz0, hz1, hz2⟩ := info_parts info27
  cases a with
  | none =>
    have hb1 : (binOp BinOp.eql 28 (.slice none 0 c) (.slice none 0 0)).run Try.prog w = .ok (.bool true) w := by kernel_rfl
    go_enter Try.func39, Try.ntmps39
    go_wp2_with fail
    go_ret
    exact ⟨_, rfl, Keep.refl _ _, World.ownsRow_nil _ _ _ _⟩
  | some ad =>
    have hb1 : (binOp BinOp.eql 28 (.slice (some ad) 0 c) (.slice none 0 0)).run Try.prog w = .ok (.bool false) w := by kernel_rfl
    have ho : (w.alloc (.cells #[] 27)).ownsRow w.heap.size 27 3 (.slice (some ⟨w.heap.size, 0, none⟩) 0 0) 0 [] := ⟨rfl, .inr ⟨w.heap.size, 0, #[], rfl, Nat.le_refl _, blk_new w _, Nat.le_refl _, Nat.zero_le _, rfl, rfl⟩⟩
    have HO := Lib.hid ho
    clear ho
    go_enter Try.func39, Try.ntmps39
    go_wp2_with (first | (at_builtin; refine wpList_append_own _ rfl _ _ 28 rfl w.heap.size 27 i0 (.agg #[.int .i64 0, .int .i64 0, .int .i64 0]) 3 24 Try.underlying28 hi0 hz0 hz1 hz2 rfl (by decide) _ _ _ rfl HO.out ad 0 c [] rfl rfl (by intro j u hu; simp at hu) (by intro u hu; simp at hu) (by unfold maxLen; omega) (by omega) (by simp) ?_; intro v6 w6 hown6 hgr6 _; have HO6 := Lib.hid hown6; have HGR6 := Lib.hid hgr6; clear hown6 hgr6))
    go_ret
    have hgr : (w.alloc (.cells #[] 27)).grownBy w6 (some w.heap.size) := HGR6.out
    exact ⟨_, rfl, ((Keep.refl _ _).alloc _).grown hgr (fun g hg => .inr (by cases hg; exact Nat.le_refl _)), HO6.out⟩
theorem clone_gen {a : Option Addr} {n c : Nat} {h : List Ln} {w : World} (hv : LnsV w a n c h) (hn2 : n ≤ 200) :
    Calls Try.prog 39 #[.slice a n c] w fun e w' => ∃ v, e = .returned v ∧ Keep [] w w' ∧ w'.ownsRow w.heap.size 27 3 v n (lanesC h) := by
  by_cases h0 : n = 0
  · subst h0
    have : h = [] := List.eq_nil_of_length_eq_zero hv.len
    subst this
    exact clone_empty
  · refine (clone_any hv (by omega) hn2).mono ?_
    rintro e w' ⟨g, cap, rfl, hk, ho⟩
    exact ⟨_, rfl, hk, ho⟩
set_option maxRecDepth 100000 in
set_option maxHeartbeats 4000000 in
theorem tracePlaces_walk (a : Option Addr) (len cap : Nat) (zs : List Int) (x : Int) (w : World) (hv : IntsV w a len cap zs) :
    Calls Try.prog 9 #[.slice a len cap, .int .i64 x] w fun e w' => e = .returned (.bool true) ∧ Keep [] w w' := by
  obtain ⟨N, hN⟩ : ∃ N, (hist zs).length = N := ⟨_, rfl⟩
  have hok : HOk (hist zs) := (hist_inv zs).ok
  have hN60 := hist_len zs
  rw [hN] at hN60
  have hNle : N ≤ 60 := by omega
  have hsum : sumAt (hist zs) N 8 = N := sumAt_all hok N (by omega)
  have HSL := Lib.hid (fun p => @sumAt_le (hist zs) N p)
  have HV := Lib.hid hv
  have HOK := Lib.hid hok
  obtain ⟨r, hr, hr8⟩ := at_nat x (show 0 < 8 by omega)
  have hmok := more_ok hok (r := (r : Int)) (by omega) (by omega) (by omega)
  have HR : Hid (restI x 8 = (r : Int)) := Lib.hid hr
  have HMOK := Lib.hid hmok
  have HN := Lib.hid hN
  have HSUM := Lib.hid hsum
  have HRF : Hid (false = decide (r = 8)) := Lib.hid (decide_eq_false (by omega)).symm
  obtain ⟨i0, hi0, hz0, hz1, hz2⟩ := info_parts info27
  clear hv hN60 hN hok hr hmok hsum
  go_enter Try.func9, Try.ntmps9
  go_wp2_with (first | (go_at_call 35; refine (tbegun_any _).mono ?_; rintro e w0 ⟨rfl, hk0⟩) | (go_at_call 20; refine (history_at (HV.out.keep hk0 (by simp)) HN).mono ?_; rintro e w2 ⟨a2, c2, rfl, hk2, hv2⟩; have HV2 := Lib.hid hv2; clear hv2))
  have hk02 := hk0.trans hk2
  go_loopw [6, 7, 8, 9, 19] (fun v _ _ _ j wr => ∃ p : Nat, p ≤ 8 ∧ v = .int .i64 (sumAt (hist zs) N p) ∧ j = .int .i64 p ∧ Keep [] w2 wr) (fun _ _ _ _ j _ => 8 - (intOf j).toNat)
  case atStart => exact ⟨0, by omega, rfl, rfl, Keep.refl _ _⟩
  case round =>
    obtain ⟨p, hp, rfl, rfl, hkw⟩ := hrel
    have hsl := HSL.out p
    by_cases hlt : p < 8
    · have hslp : sumAt (hist zs) N p ≤ 480 := by
        have : p * N ≤ 8 * 60 := Nat.mul_le_mul hp hNle
        omega
      clear hsl
      have hsucc : sumAt (hist zs) N (p + 1) = sumAt (hist zs) N p + rk (plB (hist zs) p) N := rfl
      have hrk := rk_le (plB (hist zs) p) N
      have hlen : (atL (hist zs) (p : Int)).length = rk (plB (hist zs) p) N := by unfold atL atTo; rw [subL_len, HN.out]
      obtain ⟨S, hS⟩ : ∃ S, sumAt (hist zs) N p = S := ⟨_, rfl⟩
      obtain ⟨M, hM⟩ : ∃ M, rk (plB (hist zs) p) N = M := ⟨_, rfl⟩
      rw [hS, hM] at hsucc
      rw [hM] at hrk hlen
      rw [hS] at hslp ⊢
      have HSC := Lib.hid hsucc
      have HLN := Lib.hid hlen
      have HPB := Lib.hid (blk_new wr (.cells #[.int .i64 p] 3))
      have hkA : Keep [] wr (wr.alloc (.cells #[.int .i64 p] 3)) := (Keep.refl [] _).alloc _
      have HPL : Hid (∀ x ∈ atL (hist zs) (p : Int), x.q = (p : Int)) := Lib.hid subL_place
      clear hS hM hsucc hlen
      go_wp2_with (first | (go_at_call 36; refine (at36_any ((HV2.out.keep hkw (by simp)).keep hkA (by simp)) HOK.out hlt).mono ?_; rintro e w3 ⟨a3, m3, c3, rfl, hk3, hv3⟩; have hm3 : m3 = M := (by rw [← hv3.len]; exact HLN.out); subst hm3; have HV3 := Lib.hid hv3; have hcp := cellAt (hk3.at HPB.out (by simp)) 0; have HCP : Hid (w3.cell? ⟨wr.heap.size, 0, none⟩ = some (.int .i64 p)) := Lib.hid hcp; clear hv3 hcp) | (go_at_call 37; refine (has37_no HV3.out HCP.out HPL.out).mono ?_; rintro e w4 ⟨rfl, hk4⟩))
      go_roundw
      case measure => simp [intOf]; omega
      case rel => exact ⟨p + 1, by omega, by rw [HSC.out]; simp, by go_num, ((hkw.trans hkA).trans hk3).trans hk4⟩
    · have hp8 := Lib.hid (show p = 8 by omega)
      have hS8 : sumAt (hist zs) N p = N := by rw [hp8.out]; exact HSUM.out
      rw [hS8]
      clear hS8 hsl
      have HVR := Lib.hid (HV2.out.keep hkw (by simp))
      have hkr := hk02.trans hkw
      go_wp2_with (first | (go_at_call 39; refine (clone_gen HVR.out (by omega)).mono ?_; rintro e w5 ⟨v5, rfl, hk5, ho5⟩; have HO5 := Lib.hid ho5; have HV5 := Lib.hid (HVR.out.keep hk5 (by simp)); clear ho5) | (go_at_call 21; (with_reducible refine (rest_at HR (by omega) (by omega)).mono ?_); rintro e w' ⟨rfl, rfl⟩) | (at_builtin; refine wpList_append_own _ rfl _ _ 28 rfl wr.heap.size 27 i0 (.agg #[.int .i64 0, .int .i64 0, .int .i64 0]) 3 24 Try.underlying28 hi0 hz0 hz1 hz2 rfl (by decide) _ _ _ rfl (HO5.out.alloc _) ⟨w5.heap.size, 0, none⟩ 1 1 [.int .i64 r, .int .i64 1, .int .i64 0] rfl rfl (cells_new _ _ _ _) (by intro u hu; simp at hu; rcases hu with hu | hu | hu <;> (subst hu; rfl)) (by unfold maxLen; omega) (by omega) (by have := hk5.size; simp; omega) ?_; intro v6 w6 hown6 hgr6 _; have hk6 : Keep [] wr w6 := (hk5.alloc _).grown hgr6 (fun g hg => .inr (HO5.out.lt g hg).1); have HV6 := Lib.hid (HVR.out.keep hk6 (by simp)); obtain ⟨a6, c6, rfl, hm6, _⟩ := LnsV.ofOwn (show w6.ownsRow wr.heap.size 27 3 v6 (N + 1) (lanesC (moreL (hist zs) r)) by rw [moreL, lanesC_snoc]; exact hown6); have HM6 := Lib.hid hm6; clear hown6 hgr6 hm6) | (go_at_call 40; (with_reducible refine (same40_any (R := false) HV6.out HM6.out HOK.out HMOK.out (more_part hr8) HRF.out).mono ?_); rintro e w7 ⟨rfl, hk7⟩; have HV7 := Lib.hid (HV6.out.keep hk7 (by simp))) | (go_at_call 40; (with_reducible refine (same40_any (R := true) HV7.out HV7.out HOK.out HOK.out (self_part _) rfl).mono ?_); rintro e w8 ⟨rfl, hk8⟩))
      go_ret
      exact ⟨rfl, ((hkr.trans hk6).trans hk7).trans hk8⟩
end Go.Proofs.Ytkhchfjhmplaiaa
