import Derived.Test.YtkhchfjhmplaiaaH8
namespace Go.Proofs.Ytkhchfjhmplaiaa
open Go.RowKit
theorem sumTo_bd {c : List Int} {B : Int} (h : Clk B c) (h0 : 0 ≤ B) (h1 : B ≤ 1000) : ∀ k : Nat, 0 ≤ sumTo c k ∧ sumTo c k ≤ 1000 * k := by
  intro k
  induction k with
  | zero => exact ⟨Int.le_refl _, Int.le_refl _⟩
  | succ k ih => have := h.at_ h0 k; rw [sumTo]; omega
theorem aheadAll_bd (h : List Ln) : ∀ m : Nat, m ≤ 60 → 0 ≤ aheadAll h m ∧ aheadAll h m ≤ 60 * m := by
  intro m
  induction m with
  | zero => intro _; exact ⟨Int.le_refl _, Int.le_refl _⟩
  | succ m ih => intro hm; have := ih (by omega); have := aheadN_nn h m m; rw [aheadAll]; omega
theorem clocks0 {a : Option Addr} {c : Nat} {h : List Ln} {w : World} (hv : LnsV w a 0 c h) (hk : HOk h) :
    Calls Try.prog 25 #[.slice a 0 c] w fun e w' => ∃ av cv, e = .returned (.tuple #[.slice av 0 cv, .int .i64 0]) ∧ Keep [] w w' := by
  refine (clocks_ok hv hk).mono ?_
  rintro e w' ⟨v, V, rfl, hk1, ho, _⟩
  obtain ⟨av, cv, rfl⟩ := own_slice ho
  exact ⟨av, cv, rfl, hk1⟩
set_option maxHeartbeats 1000000 in
theorem apart0 {a : Option Addr} {c : Nat} {h : List Ln} {w : World} (hv : LnsV w a 0 c h) (hk : HOk h) :
    Calls Try.prog 24 #[.slice a 0 c] w fun e w' => e = .returned (.tuple #[.int .i64 0, .int .i64 0]) ∧ Keep [] w w' := by
  have hc := Lib.hid (clocks0 hv hk)
  clear hv hk
  go_enter Try.func24, Try.ntmps24
  go_wp2_with (first | (go_at_call 25; refine hc.out.mono ?_; rintro e w1 ⟨av, cv, rfl, hk1⟩))
  go_loopw [6, 19] (fun v i wr => v = .int .i64 0 ∧ i = .int .i64 0 ∧ wr = w1) (fun _ _ _ => 0)
  case atStart => exact ⟨rfl, rfl, rfl⟩
  case round =>
    obtain ⟨rfl, rfl, rfl⟩ := hrel
    go_wp2_with fail
    go_ret2
    exact ⟨rfl, hk1⟩
set_option maxRecDepth 100000 in
set_option maxHeartbeats 4000000 in
theorem clockApart_walk (a : Option Addr) (len cap : Nat) (zs : List Int) (w : World) (hv : IntsV w a len cap zs) :
    Calls Try.prog 6 #[.slice a len cap] w fun e w' => e = .returned (.bool true) ∧ Keep [] w w' := by
  obtain ⟨N, hN⟩ : ∃ N, (hist zs).length = N := ⟨_, rfl⟩
  have hok : HOk (hist zs) := (hist_inv zs).ok
  have hN60 := hist_len zs
  rw [hN] at hN60
  have hNle : N ≤ 60 := by omega
  have HV := Lib.hid hv
  have HOK := Lib.hid hok
  clear hv hN60
  by_cases h0 : N = 0
  · have HN := Lib.hid (hN.trans h0)
    clear hN h0 hNle hok
    go_enter Try.func6, Try.ntmps6
    go_wp2_with (first | (go_at_call 22; refine (begun_any _).mono ?_; rintro e w1 ⟨rfl, hk1⟩) | (go_at_call 20; refine (history_at (HV.out.keep hk1 (by simp)) HN).mono ?_; rintro e w2 ⟨a2, c2, rfl, hk2, hv2⟩; have HV2 := Lib.hid hv2; clear hv2) | (go_at_call 24; refine (apart0 HV2.out HOK.out).mono ?_; rintro e w3 ⟨rfl, hk3⟩; have HV3 := Lib.hid (HV2.out.keep hk3 (by simp))) | (go_at_call 25; refine (clocks0 HV3.out HOK.out).mono ?_; rintro e w4 ⟨av, cv, rfl, hk4⟩))
    go_loopw [8, 43] (fun v i wr => v = .int .i64 0 ∧ i = .int .i64 0 ∧ wr = w4) (fun _ _ _ => 0)
    case atStart => exact ⟨rfl, rfl, rfl⟩
    case round =>
      obtain ⟨rfl, rfl, rfl⟩ := hrel
      go_wp2_with fail
      all_goals
        go_ret
        exact ⟨by first | rfl | exact ret_bool (by decide), ((hk1.trans hk2).trans hk3).trans hk4⟩
  · have hNh := hN
    have HN := Lib.hid hN
    have hS := apart_law hok N (by omega)
    have hSb := apartAll_bd (hist zs) N
    have hTb := aheadAll_bd (hist zs) N hNle
    obtain ⟨S, hS1⟩ : ∃ S, apartAll (hist zs) N = S := ⟨_, rfl⟩
    have hap : ∀ (a : Option Addr) (c : Nat) (w : World), LnsV w a N c (hist zs) → Calls Try.prog 24 #[.slice a N c] w fun e w' => e = .returned (.tuple #[.int .i64 S, .int .i64 0]) ∧ Keep [] w w' := fun a c w hv => by rw [← hS1]; exact apart_any hv HOK.out (by omega)
    rw [hS1] at hS hSb
    have HAP := Lib.hid hap
    have HS := Lib.hid hS
    clear hN hNh hok hap hS hS1
    go_enter Try.func6, Try.ntmps6
    go_wp2_with (first | (go_at_call 22; refine (begun_any _).mono ?_; rintro e w1 ⟨rfl, hk1⟩) | (go_at_call 20; refine (history_at (HV.out.keep hk1 (by simp)) HN).mono ?_; rintro e w2 ⟨a2, c2, rfl, hk2, hv2⟩; have HV2 := Lib.hid hv2; clear hv2) | (go_at_call 24; refine (HAP.out _ _ _ HV2.out).mono ?_; rintro e w3 ⟨rfl, hk3⟩; have HV3 := Lib.hid (HV2.out.keep hk3 (by simp))) | (go_at_call 25; refine (clocks_at HV3.out HOK.out (by omega)).mono ?_; rintro e w4 ⟨g, cg, rfl, hk4, hg, hgl, hnc, hcm, hcs⟩; have HQ : Hid (ClksV w4 g N (hist zs)) := Lib.hid hcs; unfold maxLen at hcm; clear hcs))
    go_loopw [8, 43] (fun v i wr => ∃ I : Nat, I ≤ N ∧ v = .int .i64 (aheadAll (hist zs) I) ∧ i = .int .i64 I ∧ wr = w4) (fun _ i _ => N - (intOf i).toNat)
    case atStart => exact ⟨0, by omega, rfl, rfl, rfl⟩
    case round =>
      obtain ⟨I, hI, rfl, rfl, rfl⟩ := hrel
      by_cases hlt : I < N
      · have hdec : decide ((I : Int) < N) = true := by simpa using hlt
        obtain ⟨gi, ci, hci, hii⟩ := HQ.out I hlt
        have hc2 := clk_ok HOK.out I (by rw [HN.out]; exact hlt)
        have HB := Lib.hid (sumTo_bd hc2 (by omega) (by omega))
        have hsum := sumTo_clk HOK.out (show I < (hist zs).length by rw [HN.out]; exact hlt)
        have han := aheadN_nn (hist zs) I I
        have hTI := aheadAll_bd (hist zs) I (by omega)
        have HBD := Lib.hid (fun k => hc2.at_ (show (0 : Int) ≤ (I : Int) + 1 by omega) k)
        obtain ⟨_, _, he, hcell⟩ := hii.cells (by omega)
        cases he
        have HC := Lib.hid hcell
        have HT := Lib.hid (show aheadAll (hist zs) (I + 1) = aheadAll (hist zs) I + aheadN (hist zs) I I from rfl)
        obtain ⟨T, hT⟩ : ∃ T, aheadAll (hist zs) I = T := ⟨_, rfl⟩
        obtain ⟨F, hF⟩ : ∃ F, aheadN (hist zs) I I = F := ⟨_, rfl⟩
        rw [hT, hF] at HT
        rw [hT] at hTI
        rw [hF] at hsum han
        rw [hT]
        have HSUM := Lib.hid hsum
        clear hii hcell hc2 hsum hT hF
        go_wp2_with fail
        go_loop [11, 50] (fun v i => ∃ K : Nat, K ≤ 8 ∧ v = .int .i64 (sumTo (clk (hist zs) I) K) ∧ i = .int .i64 K) (fun _ i => 8 - (intOf i).toNat)
        case atStart => exact ⟨0, by omega, rfl, rfl⟩
        case round =>
          obtain ⟨K, hK, rfl, rfl⟩ := hrel
          by_cases hlk : K < 8
          · have hck : wr.cell? ⟨gi, K, none⟩ = some (.int .i64 ((clk (hist zs) I).getD K 0)) := by have h9 := HC.out K hlk; rw [show 0 + K = K by omega] at h9; exact h9
            have hbs := HB.out K
            have hbx := HBD.out K
            have HST := Lib.hid (show sumTo (clk (hist zs) I) (K + 1) = sumTo (clk (hist zs) I) K + (clk (hist zs) I).getD K 0 from rfl)
            obtain ⟨x, hx⟩ : ∃ x, (clk (hist zs) I).getD K 0 = x := ⟨_, rfl⟩
            obtain ⟨U, hU⟩ : ∃ U, sumTo (clk (hist zs) I) K = U := ⟨_, rfl⟩
            rw [hx, hU] at HST
            rw [hx] at hck hbx
            rw [hU] at hbs
            rw [hU]
            clear hx hU
            go_wp2_with fail
            go_round
            case measure => simp [intOf]; omega
            case rel => exact ⟨K + 1, by omega, by rw [HST.out], by go_num⟩
          · have hK8 : K = 8 := by omega
            subst hK8
            rw [HSUM.out]
            go_wp2_with fail
            all_goals first | (exfalso; omega) | skip
            all_goals go_roundw
            case measure => simp [intOf]; omega
            case rel => exact ⟨I + 1, by omega, by rw [HT.out], by go_num, by trivial⟩
      · have HIN : I = N := by omega
        subst HIN
        go_wp2_with fail
        go_ret
        refine ⟨ret_bool ?_, ((hk1.trans hk2).trans hk3).trans hk4⟩
        have hs := HS.out
        obtain ⟨T, hT⟩ : ∃ T, aheadAll (hist zs) I = T := ⟨_, rfl⟩
        rw [hT] at hs hTb ⊢
        have e1 : wrap64 (2 * (S + T)) = 2 * (S + T) := by unfold wrap64; omega
        have e2 : (2 * (S + T)).tdiv 2 = S + T := by rw [Int.tdiv_eq_ediv_of_nonneg (by omega)]; omega
        have e3 : wrap64 (S + T) = S + T := by unfold wrap64; omega
        rw [← hs, e1, e2, e3]
        simp
end Go.Proofs.Ytkhchfjhmplaiaa
