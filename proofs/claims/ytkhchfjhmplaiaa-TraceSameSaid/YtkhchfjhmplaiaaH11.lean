import Derived.Test.YtkhchfjhmplaiaaH10
namespace Go.Proofs.Ytkhchfjhmplaiaa
open Go.RowKit
theorem numbers_at {a : Option Addr} {n c : Nat} {h : List Ln} {w : World} (hv : LnsV w a n c h) (hk : HOk h) (hn : 0 < n) :
    Calls Try.prog 26 #[.slice a n c] w fun e w' => ∃ g cap, e = .returned (.tuple #[.slice (some ⟨g, 0, none⟩) n cap, .int .i64 0]) ∧ Keep [] w w' ∧ cap ≤ maxLen ∧ IntsV w' (some ⟨g, 0, none⟩) n cap ((List.range n).map (num h)) := by
  have hl := hv.len
  have hl2 := hk.len
  refine (numbers_ok hv hk).mono ?_
  rintro e w' ⟨v, rfl, hk1, ho⟩
  rw [show ((List.range n).map fun i => Value.int .i64 (num h i)) = ((List.range n).map (num h)).map (Value.int .i64) by simp] at ho
  have hb : ∀ z ∈ (List.range n).map (num h), (Lit.int .i64 z).wf = true := fun z hz => by
    obtain ⟨i, hi, rfl⟩ := List.mem_map.1 hz
    have := num_bd h (i + 1) i (by omega)
    have := List.mem_range.1 hi
    exact wf_small (by omega) (by omega)
  obtain ⟨g, cap, rfl, _, _, _, hcm, _, _⟩ := own_form ho hn
  obtain ⟨a3, c3, hve, hint, _⟩ := IntsV.ofOwn ho hb
  cases hve
  exact ⟨g, cap, rfl, hk1, hcm, hint⟩
theorem numbers0 {a : Option Addr} {c : Nat} {h : List Ln} {w : World} (hv : LnsV w a 0 c h) (hk : HOk h) :
    Calls Try.prog 26 #[.slice a 0 c] w fun e w' => ∃ av cv, e = .returned (.tuple #[.slice av 0 cv, .int .i64 0]) ∧ Keep [] w w' := by
  refine (numbers_ok hv hk).mono ?_
  rintro e w' ⟨v, rfl, hk1, ho⟩
  obtain ⟨av, cv, rfl⟩ := own_slice ho
  exact ⟨av, cv, rfl, hk1⟩
theorem nums_at {h : List Ln} {n i : Nat} (hi : i < n) : ((List.range n).map (num h)).getD i 0 = num h i := by
  simp [List.getD_eq_getElem?_getD, hi]
set_option maxRecDepth 100000 in
set_option maxHeartbeats 4000000 in
theorem clockNumbers_walk (a : Option Addr) (len cap : Nat) (zs : List Int) (w : World) (hv : IntsV w a len cap zs) :
    Calls Try.prog 7 #[.slice a len cap] w fun e w' => e = .returned (.bool true) ∧ Keep [] w w' := by
  obtain ⟨N, hN⟩ : ∃ N, (hist zs).length = N := ⟨_, rfl⟩
  have hok : HOk (hist zs) := (hist_inv zs).ok
  have hN60 := hist_len zs
  rw [hN] at hN60
  have hNle : N ≤ 60 := by omega
  have HV := Lib.hid hv
  have HOK := Lib.hid hok
  clear hv hN60
  by_cases h0 : N = 0
  · have HN := Lib.hid (hN.trans h0)
    clear hN h0 hNle hok
    go_enter Try.func7, Try.ntmps7
    go_wp2_with (first | (go_at_call 22; refine (begun_any _).mono ?_; rintro e w1 ⟨rfl, hk1⟩) | (go_at_call 20; refine (history_at (HV.out.keep hk1 (by simp)) HN).mono ?_; rintro e w2 ⟨a2, c2, rfl, hk2, hv2⟩; have HV2 := Lib.hid hv2; clear hv2) | (go_at_call 26; refine (numbers0 HV2.out HOK.out).mono ?_; rintro e w3 ⟨an, cn, rfl, hk3⟩; have HV3 := Lib.hid (HV2.out.keep hk3 (by simp))) | (go_at_call 25; refine (clocks0 HV3.out HOK.out).mono ?_; rintro e w4 ⟨av, cv, rfl, hk4⟩))
    go_loopw [46] (fun i wr => i = .int .i64 0 ∧ wr = w4) (fun _ _ => 0)
    case atStart => exact ⟨rfl, rfl⟩
    case round =>
      obtain ⟨rfl, rfl⟩ := hrel
      go_wp2_with fail
      all_goals
        go_ret
        exact ⟨by first | rfl | exact ret_bool (by decide), ((hk1.trans hk2).trans hk3).trans hk4⟩
  · have HN := Lib.hid hN
    have HLAW := Lib.hid (fun (i k : Nat) (hki : k < i) (hi : i < N) => clockNumbers_law hok hki (by rw [hN]; exact hi))
    clear hN hok
    go_enter Try.func7, Try.ntmps7
    go_wp2_with (first | (go_at_call 22; refine (begun_any _).mono ?_; rintro e w1 ⟨rfl, hk1⟩) | (go_at_call 20; refine (history_at (HV.out.keep hk1 (by simp)) HN).mono ?_; rintro e w2 ⟨a2, c2, rfl, hk2, hv2⟩; have HV2 := Lib.hid hv2; clear hv2) | (go_at_call 26; refine (numbers_at HV2.out HOK.out (by omega)).mono ?_; rintro e w3 ⟨gn, cn, rfl, hk3, hcn, hni⟩; have HV3 := Lib.hid (HV2.out.keep hk3 (by simp)); have HNI := Lib.hid hni; unfold maxLen at hcn; clear hni) | (go_at_call 25; refine (clocks_at HV3.out HOK.out (by omega)).mono ?_; rintro e w4 ⟨g, cg, rfl, hk4, hg, hgl, hnc, hcm, hcs⟩; have HQ0 : Hid (ClksV w4 g N (hist zs)) := Lib.hid hcs; unfold maxLen at hcm; clear hcs))
    have HNJ := Lib.hid (HNI.out.keep hk4 (by simp))
    clear HNI
    have hkT : Keep [] w w4 := ((hk1.trans hk2).trans hk3).trans hk4
    go_loopw [46] (fun i wr => ∃ I : Nat, I ≤ N ∧ i = .int .i64 I ∧ Keep [] w wr ∧ Hid (ClksV wr g N (hist zs)) ∧ Hid (IntsV wr (some ⟨gn, 0, none⟩) N cn ((List.range N).map (num (hist zs))))) (fun i _ => N - (intOf i).toNat)
    case atStart => exact ⟨0, by omega, rfl, hkT, HQ0, HNJ⟩
    case round =>
      obtain ⟨I, hI, rfl, hkw, HQ, HR⟩ := hrel
      clear HQ0 HNJ hkT hk1 hk2 hk3 hk4
      by_cases hlt : I < N
      · have hdec : decide ((I : Int) < N) = true := by simpa using hlt
        go_wp2_with fail
        go_loopw [50] (fun i wr => ∃ K : Nat, K ≤ I ∧ i = .int .i64 K ∧ Keep [] w wr ∧ Hid (ClksV wr g N (hist zs)) ∧ Hid (IntsV wr (some ⟨gn, 0, none⟩) N cn ((List.range N).map (num (hist zs))))) (fun i _ => I - (intOf i).toNat)
        case atStart => exact ⟨0, by omega, rfl, hkw, HQ, HR⟩
        case round =>
          obtain ⟨K, hK, rfl, hkx, HX, HY⟩ := hrel
          by_cases hlk : K < I
          · obtain ⟨gi, ci, hci, hii⟩ := HX.out I hlt
            obtain ⟨gk, ck, hck, hik⟩ := HX.out K (by omega)
            obtain ⟨_, _, he, hcell⟩ := HY.out.cells (by omega)
            cases he
            have hni := hcell I hlt
            have hnk := hcell K (by omega)
            rw [nums_at hlt, show 0 + I = I by omega] at hni
            rw [nums_at (show K < N by omega), show 0 + K = K by omega] at hnk
            have HII := Lib.hid hii
            have HIK := Lib.hid hik
            have hlaw := HLAW.out I K hlk hlt
            obtain ⟨b, hb⟩ : ∃ b, lessL (clk (hist zs) K) (clk (hist zs) I) = b := ⟨_, rfl⟩
            obtain ⟨x, hx⟩ : ∃ x, num (hist zs) I = x := ⟨_, rfl⟩
            obtain ⟨y, hy⟩ : ∃ y, num (hist zs) K = y := ⟨_, rfl⟩
            rw [hx] at hni
            rw [hy] at hnk
            rw [hb, hx, hy] at hlaw
            have HB := Lib.hid hb
            have HNO := Lib.hid hlaw.2
            have hlw := hlaw.1
            clear hii hik hb hcell hx hy hlaw
            have f1 : (I : Int) < (N : Int) := by omega
            have f2 : (K : Int) < (N : Int) := by omega
            cases b
            · clear hlw
              go_wp2_with fail
              go_quiet (first | (go_at_call 27; exact less_q HII.out HIK.out HNO) | (go_at_call 27; exact less_q HIK.out HII.out HB))
              go_wp2_with fail
              go_roundw
              case measure => simp [intOf]; omega
              case rel => exact ⟨K + 1, by omega, by go_num, keep_drewN hkx _, Lib.hid (HX.out.keep (keep_drewN (Keep.refl [] _) _)), Lib.hid (HY.out.keep (keep_drewN (Keep.refl [] _) _) (by simp))⟩
            · have hxy : y < x := hlw rfl
              clear hlw
              go_wp2_with fail
              go_quiet (first | (go_at_call 27; exact less_q HII.out HIK.out HNO) | (go_at_call 27; exact less_q HIK.out HII.out HB))
              go_wp2_with fail
              go_roundw
              case measure => simp [intOf]; omega
              case rel => exact ⟨K + 1, by omega, by go_num, keep_drewN hkx _, Lib.hid (HX.out.keep (keep_drewN (Keep.refl [] _) _)), Lib.hid (HY.out.keep (keep_drewN (Keep.refl [] _) _) (by simp))⟩
          · have HKI := Lib.hid (show K = I by omega)
            go_wp2_with fail
            go_roundw
            case measure => simp [intOf]; omega
            case rel => exact ⟨I + 1, by omega, by go_num, hkx, HX, HY⟩
      · go_wp2_with fail
        go_ret
        exact ⟨rfl, hkw⟩
end Go.Proofs.Ytkhchfjhmplaiaa
