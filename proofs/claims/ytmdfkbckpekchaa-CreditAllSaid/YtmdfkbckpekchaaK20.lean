import Derived.Test.YtmdfkbckpekchaaK19
namespace Go.Proofs.Ytmdfkbckpekchaa
open Go.RowKit
theorem use_acc {bp bl : Nat} {room turn : Int} {n : Nat} {ls : List Ln} {w : World} (h : PoolAt w bp bl room turn n ls) (w' : World) (hk : Keep [] w w') {i : Nat} (hi : i < n) {q g u : Int} (hL : lat ls i = ⟨q, g, u⟩) (hg : 0 < g) (hg1 : g ≤ 64) (hu : 0 ≤ u) (hu1 : u ≤ 64) :
    Calls Try.prog 35 #[.pointer (some ⟨bp, 0, none⟩), .int .i64 i] w' fun e w'' => e = .returned (.int .i64 0) ∧ Keep [bl] w w'' ∧ PoolAt w'' bp bl room turn n (ls.set i ⟨q, g - 1, u + 1⟩) :=
  (use_ok (h.keep hk (by simp) (by simp)) hi hL hg hg1 hu hu1).mono fun _ _ ⟨he, hk', hp⟩ => ⟨he, (hk.more (by simp)).trans hk', hp⟩
theorem useno_acc {bp bl : Nat} {room : Int} {turn n : Nat} {ls : List Ln} {w : World} (h : PoolAt w bp bl room turn n ls) (hok : PoolOk room n turn ls) (w' : World) (hk : Keep [] w w') {i : Nat} (hi : i < n) {q g u : Int} (hL : lat ls i = ⟨q, g, u⟩) (hg : g = 0) :
    Calls Try.prog 35 #[.pointer (some ⟨bp, 0, none⟩), .int .i64 i] w' fun e w'' => e = .returned (.int .i64 9) ∧ Keep [] w w'' :=
  (use_no (h.keep hk (by simp) (by simp)) hok hi hL hg).mono fun _ _ ⟨he, hk'⟩ => ⟨he, hk.trans hk'⟩
theorem free_acc {bp bl : Nat} {room : Int} {turn n t2 : Nat} {ls ls2 : List Ln} {w : World} (h : PoolAt w bp bl room turn n ls) (hok : PoolOk room n turn ls) (w' : World) (hk : Keep [] w w') {i : Nat} (hi : i < n) {q g u : Int} (hL : lat ls i = ⟨q, g, u⟩) (hu : 0 < u)
    (h2 : grantL room (ls.set i ⟨q, g, u - 1⟩) turn = (ls2, t2)) :
    Calls Try.prog 36 #[.pointer (some ⟨bp, 0, none⟩), .int .i64 i] w' fun e w'' => e = .returned (.int .i64 0) ∧ Keep [bp, bl] w w'' ∧ PoolAt w'' bp bl room t2 n ls2 :=
  (free_ok (h.keep hk (by simp) (by simp)) hok hi hL hu).mono fun _ _ ⟨he, hk', hp, _⟩ => ⟨he, (hk.more (by simp)).trans hk', by rw [h2] at hp; exact hp⟩
set_option maxRecDepth 100000 in
set_option maxHeartbeats 2000000 in
theorem creditAll_walk (x y : Int) (a : Option Addr) (len cap : Nat) (zs : List Int) (w : World) (hv : IntsV w a len cap zs) :
    Calls Try.prog 10 #[.int .i64 x, .int .i64 y, .slice a len cap] w fun e w' => e = .returned (.bool true) ∧ Keep [] w w' := by
  obtain ⟨r, hr, hr1⟩ := rest_nat x 64 (by omega)
  obtain ⟨q, hq, hq1⟩ := rest_nat y 8 (by omega)
  have HR := Lib.hid hr
  have HQ := Lib.hid hq
  have HN : Hid ((1 : Int) + q = (q + 1 : Nat)) := Lib.hid (by omega)
  have HV := Lib.hid hv
  clear hr hq hv
  go_enter Try.func10, Try.ntmps10
  go_wp2_with (first | (go_at_call 32; refine (begun_any _).mono ?_; rintro e w0 ⟨rfl, hk0⟩) | (go_at_call 20; (with_reducible refine (rest_at HR (by omega) (by omega)).mono ?_); rintro e w' ⟨rfl, rfl⟩) | (go_at_call 20; (with_reducible refine (rest_at HQ (by omega) (by omega)).mono ?_); rintro e w' ⟨rfl, rfl⟩) | (with_reducible refine Txt.wp_region_text mixed quiet (by kernel_rfl) ?_) | (with_reducible refine Txt.text_done (by kernel_rfl) ?_) | (go_at_call 38; refine (pool_at HN _ (by omega) (by omega) (by omega) (by omega) (HV.out.keep hk0 (by simp))).mono ?_; rintro e w1 ⟨bp, bl, rfl, hbp, hbl, hk1, hpg⟩; obtain ⟨t0, ls0, hp, hok, hd⟩ := hpg; have HP := Lib.hid hp; have HOK := Lib.hid hok; have HD := Lib.hid hd; clear hp hok hd))
  have hfr : ∀ b ∈ [bp, bl], b ∈ ([] : List Nat) ∨ w.heap.size ≤ b := by have := hk0.size; intro b hb; simp at hb; omega
  have hfr1 : ∀ b ∈ [bl], b ∈ ([] : List Nat) ∨ w.heap.size ≤ b := by have := hk0.size; intro b hb; simp at hb; omega
  have HF := Lib.hid hfr
  have HF1 := Lib.hid hfr1
  have hkw1 : Keep [] w w1 := hk0.call hk1 (by simp)
  clear hfr hfr1 hk0 hk1
  go_loopw [33] (fun i wr => ∃ (m t : Nat) (ls : List Ln) (p : Int), m ≤ 1024 ∧ i = .int .i64 m ∧ Keep [] w wr ∧ Hid (PoolAt wr bp bl (1 + r) t (q + 1) ls) ∧ Hid (Fine (1 + r) (q + 1) t ls) ∧ Hid (Valid (q + 1) p ls t) ∧ Hid (3 * phi ls - ee ls + p ≤ 3 * (1024 - (m : Int)))) (fun i _ => 1024 - (intOf i).toNat)
  case atStart => exact ⟨0, t0, ls0, 2, by omega, rfl, hkw1, HP, ⟨HOK.out, HD.out⟩, ⟨by omega, by omega, fun _ c _ _ _ => ⟨fun h => by omega, fun h => by omega⟩⟩, by have := psi_start ⟨HOK.out, HD.out⟩; show _ ≤ _; omega⟩
  case round =>
    clear HP HOK HD hkw1
    obtain ⟨m, ta, la, p, hm, rfl, hkw, HPA, HFA, HVA, HEA⟩ := hrel
    by_cases hlt : m < 1024
    · have hdec : decide ((m : Int) < 1024) = true := by simp; omega
      go_wp2_with fail
      obtain ⟨wa, rfl⟩ : ∃ wa : World, wa = wr := ⟨_, rfl⟩
      go_loopw [9, 36] (fun d i wr => ∃ (j t : Nat) (ls : List Ln) (k e : Int) (dn : Bool), j ≤ q + 1 ∧ i = .int .i64 j ∧ d = .bool dn ∧ Keep [] w wr ∧ Hid (PoolAt wr bp bl (1 + r) t (q + 1) ls) ∧ Hid (Fine (1 + r) (q + 1) t ls) ∧ Hid (Mid (q + 1) j la ta ls t k e) ∧ Hid (if dn then k = 0 else 1 ≤ k)) (fun _ i _ => q + 1 - (intOf i).toNat)
      case atStart => exact ⟨0, ta, la, 0, 0, true, by omega, rfl, rfl, hkw, HPA, HFA, Mid.start _ _ _, rfl⟩
      case round =>
        obtain ⟨j, t, ls, k, e, dn, hj, rfl, rfl, hkw2, HP, HFI, HM, HDN⟩ := hrel
        by_cases hji : j < q + 1
        · obtain ⟨⟨qj, gj, uj⟩, hL⟩ : ∃ L, lat ls j = L := ⟨_, rfl⟩
          have hb := getD_ok HFI.out.1.ok j
          have hge := held_ge HFI.out.1.ok j
          have hr64 := HFI.out.1.held
          unfold lat at hL
          rw [hL] at hb hge
          unfold LnOk at hb
          dsimp only at hb hge
          have hk0 : 0 ≤ k := by have := HM.out.lo; have := HM.out.le; omega
          generalize held ls = hl at *
          by_cases hg : gj = 0
          · by_cases hu : uj = 0
            · have HM2 := Lib.hid (HM.out.none HFA.out.1 (by unfold hold lat; rw [hL]; dsimp only; omega))
              subst hg hu
              have HU := Lib.hid (fun (w' : World) (hk : Keep [] wr w') => (use_no (HP.out.keep hk (by simp) (by simp)) HFI.out.1 hji hL rfl))
              have HFR := Lib.hid (fun (w' : World) (hk : Keep [] wr w') => (free_no (HP.out.keep hk (by simp) (by simp)) HFI.out.1 hji hL rfl))
              clear hL
              have hkk : Keep [] wr wr := Keep.refl _ _
              go_wp2_with (first | (go_at_call 35; refine (HU.out _ (by first | exact hkk | exact hkk.drew)).mono ?_; rintro e w4 ⟨rfl, hk4⟩) | (go_at_call 36; refine (HFR.out _ (by first | exact hk4 | exact hkk.drew.call hk4 (by simp))).mono ?_; rintro e w5 ⟨rfl, hk5⟩) | (with_reducible refine Txt.wp_region_text mixed quiet (by kernel_rfl) ?_) | (with_reducible refine Txt.text_done (by kernel_rfl) ?_))
              go_roundw
              case rel => exact ⟨j + 1, t, ls, k, _, dn, by omega, by go_num, rfl, hkw2.trans (hk4.trans hk5), Lib.hid (HP.out.keep (hk4.trans hk5) (by simp) (by simp)), HFI, HM2, HDN⟩
              case measure => simp [intOf]; omega
            · have hfa := free_after HFI.out hji
              obtain ⟨e2, hM2⟩ := HM.out.free HFI.out hji (by unfold lat; rw [hL]; exact hg) (by unfold lat; rw [hL]; dsimp only; omega)
              rw [← hfa] at hM2
              rw [show lat ls j = _ from hL] at hM2
              have hput : PoolOk (1 + r) (q + 1) t (ls.set j ⟨qj, gj, uj - 1⟩) := HFI.out.1.put hji ⟨qj, gj, uj - 1⟩ (by unfold LnOk; dsimp only; omega) (by rw [hL]; dsimp only; omega)
              have hfine := grantL_ok hput
              dsimp only at hM2
              obtain ⟨⟨ls2, t2⟩, hg2⟩ : ∃ P, grantL (1 + (r : Int)) (ls.set j ⟨qj, gj, uj - 1⟩) t = P := ⟨_, rfl⟩
              rw [hg2] at hM2 hfine
              dsimp only at hM2 hfine
              have HU := Lib.hid (fun w' hk => useno_acc HP.out HFI.out.1 w' hk hji hL hg)
              have HFR := Lib.hid (fun w' hk => free_acc HP.out HFI.out.1 w' hk hji hL (by omega) hg2)
              have HM2 := Lib.hid hM2
              have HFI2 : Hid (Fine (1 + r) (q + 1) t2 ls2) := Lib.hid hfine
              subst hg
              clear hL hfa hM2 hput hfine hg2
              go_wp2_with (first | (go_at_call 35; refine (HU.out _ (by first | exact Keep.refl _ _ | exact (Keep.refl _ _).drew)).mono ?_; rintro e w4 ⟨rfl, hk4⟩) | (go_at_call 36; refine (HFR.out _ (by exact hk4)).mono ?_; rintro e w5 ⟨rfl, hk5, hp5⟩; have HP5 := Lib.hid hp5; clear hp5) | (with_reducible refine Txt.wp_region_text mixed quiet (by kernel_rfl) ?_) | (with_reducible refine Txt.text_done (by kernel_rfl) ?_))
              go_roundw
              case rel => exact ⟨j + 1, t2, ls2, k + 1, e2, false, by omega, by go_num, rfl, hkw2.call hk5 HF.out, HP5, HFI2, HM2, Lib.hid (show (1 : Int) ≤ k + 1 by omega)⟩
              case measure => simp [intOf]; omega
          · have hM2 := HM.out.use HFI.out.1 hji
            rw [show lat ls j = _ from hL] at hM2
            dsimp only at hM2
            have hput : PoolOk (1 + r) (q + 1) t (ls.set j ⟨qj, gj - 1, uj + 1⟩) := HFI.out.1.put hji ⟨qj, gj - 1, uj + 1⟩ (by unfold LnOk; dsimp only; omega) (by rw [hL]; dsimp only; omega)
            have hdone := done_use HFI.out.1 HFI.out.2 hji hL
            have HU := Lib.hid (fun w' hk => use_acc HP.out w' hk hji hL (by omega) (by omega) (by omega) (by omega))
            have HFI2 : Hid (Fine (1 + r) (q + 1) t (ls.set j ⟨qj, gj - 1, uj + 1⟩)) := Lib.hid ⟨hput, hdone⟩
            have HM2 := Lib.hid hM2
            clear hL hM2 hput hdone
            generalize ls.set j ⟨qj, gj - 1, uj + 1⟩ = ls2 at *
            go_wp2_with (first | (go_at_call 35; refine (HU.out _ (by first | exact Keep.refl _ _ | exact (Keep.refl _ _).drew)).mono ?_; rintro e w4 ⟨rfl, hk4, hp4⟩; have HP4 := Lib.hid hp4; clear hp4) | (with_reducible refine Txt.wp_region_text mixed quiet (by kernel_rfl) ?_) | (with_reducible refine Txt.text_done (by kernel_rfl) ?_))
            go_roundw
            case rel => exact ⟨j + 1, t, ls2, k + 1, e, false, by omega, by go_num, rfl, hkw2.call hk4 HF1.out, HP4, HFI2, HM2, Lib.hid (show (1 : Int) ≤ k + 1 by omega)⟩
            case measure => simp [intOf]; omega
        · cases dn with
          | false =>
            obtain ⟨p2, hv2, he2⟩ := round_end HFA.out HFI.out (by have := HM.out; rwa [show j = q + 1 by omega] at this) HVA.out HDN.out
            have HV2 := Lib.hid hv2
            have HE2 := Lib.hid (show 3 * phi ls - ee ls + p2 ≤ 3 * (1024 - ((m + 1 : Nat) : Int)) by have := HEA.out; omega)
            clear hv2 he2
            go_wp2_with fail
            go_roundw
            case rel => exact ⟨m + 1, t, ls, p2, by omega, by go_num, hkw2, HP, HFI, HV2, HE2⟩
            case measure => simp [intOf]; omega
          | true =>
            have hA := HM.out.A HDN.out
            have HZ := Lib.hid (fine_zero HFI.out (fun x hx => by rw [hA.1]; exact hA.2.2 x (by omega)))
            have HPZ := HP
            have HOKZ := Lib.hid HFI.out.1
            have hkz := hkw2
            clear hA
            have hzero := HZ.out
            have hheld0 : Go.held ls = 0 := by rw [held_tot]; exact tot_zero fun l hl => by rw [hzero l hl]; rfl
            have HLF := left_acc HPZ.out HOKZ.out.ok HOKZ.out.hi (by omega) HOKZ.out.r1
            rw [hheld0] at HLF
            have HLEFT := Lib.hid HLF
            have hlz : ∀ x, x < q + 1 → lat ls x = ⟨0, 0, 0⟩ := fun x hx => hzero _ (lat_mem (by rw [HOKZ.out.len]; exact hx))
            have HLZ := Lib.hid hlz
            have HKZ := Lib.hid hkz
            clear hzero hheld0 HLF hlz hkz
            go_wp2_with fail
            obtain ⟨wo, rfl⟩ : ∃ wo : World, wo = wr := ⟨_, rfl⟩
            go_loopw [53] (fun i wr => ∃ k : Nat, k ≤ q + 1 ∧ i = .int .i64 k ∧ Keep [] wo wr) (fun i _ => q + 1 - (intOf i).toNat)
            case atStart => exact ⟨0, by omega, rfl, Keep.refl _ _⟩
            case round =>
              obtain ⟨k, hk, rfl, hkr⟩ := hrel
              by_cases hlt : k < q + 1
              · have HLA := Lib.hid (lane_of HPZ.out (HLZ.out k hlt) _ hkr hlt)
                go_wp2_with (first | (go_at_call 37; refine HLA.out.mono ?_; rintro e w4 ⟨rfl, hk4⟩) | (with_reducible refine Txt.wp_region_text mixed quiet (by kernel_rfl) ?_) | (with_reducible refine Txt.text_done (by kernel_rfl) ?_))
                go_roundw
                case rel => exact ⟨k + 1, by omega, by go_num, hk4⟩
                case measure => simp [intOf]; omega
              · go_wp2_with (first | (go_at_call 39; refine (HLEFT.out _ (by first | exact hkr | exact hkr.drew)).mono ?_; rintro e w4 ⟨rfl, hk4⟩) | (with_reducible refine Txt.wp_region_text mixed quiet (by kernel_rfl) ?_) | (with_reducible refine Txt.text_done (by kernel_rfl) ?_))
                go_ret
                exact ⟨rfl, HKZ.out.trans hk4⟩
    · have HZ := Lib.hid (phi_zero HFA.out (psi_end HFA.out HVA.out.1 (by have := HEA.out; omega)))
      have HPZ := HPA
      have HOKZ := Lib.hid HFA.out.1
      have hkz := hkw
      have hzero := HZ.out
      have hheld0 : Go.held la = 0 := by rw [held_tot]; exact tot_zero fun l hl => by rw [hzero l hl]; rfl
      have HLF := left_acc HPZ.out HOKZ.out.ok HOKZ.out.hi (by omega) HOKZ.out.r1
      rw [hheld0] at HLF
      have HLEFT := Lib.hid HLF
      have hlz : ∀ x, x < q + 1 → lat la x = ⟨0, 0, 0⟩ := fun x hx => hzero _ (lat_mem (by rw [HOKZ.out.len]; exact hx))
      have HLZ := Lib.hid hlz
      have HKZ := Lib.hid hkz
      clear hzero hheld0 HLF hlz hkz
      go_wp2_with fail
      obtain ⟨wo, rfl⟩ : ∃ wo : World, wo = wr := ⟨_, rfl⟩
      go_loopw [53] (fun i wr => ∃ k : Nat, k ≤ q + 1 ∧ i = .int .i64 k ∧ Keep [] wo wr) (fun i _ => q + 1 - (intOf i).toNat)
      case atStart => exact ⟨0, by omega, rfl, Keep.refl _ _⟩
      case round =>
        obtain ⟨k, hk, rfl, hkr⟩ := hrel
        by_cases hlt : k < q + 1
        · have HLA := Lib.hid (lane_of HPZ.out (HLZ.out k hlt) _ hkr hlt)
          go_wp2_with (first | (go_at_call 37; refine HLA.out.mono ?_; rintro e w4 ⟨rfl, hk4⟩) | (with_reducible refine Txt.wp_region_text mixed quiet (by kernel_rfl) ?_) | (with_reducible refine Txt.text_done (by kernel_rfl) ?_))
          go_roundw
          case rel => exact ⟨k + 1, by omega, by go_num, hk4⟩
          case measure => simp [intOf]; omega
        · go_wp2_with (first | (go_at_call 39; refine (HLEFT.out _ (by first | exact hkr | exact hkr.drew)).mono ?_; rintro e w4 ⟨rfl, hk4⟩) | (with_reducible refine Txt.wp_region_text mixed quiet (by kernel_rfl) ?_) | (with_reducible refine Txt.text_done (by kernel_rfl) ?_))
          go_ret
          exact ⟨rfl, HKZ.out.trans hk4⟩
end Go.Proofs.Ytmdfkbckpekchaa
