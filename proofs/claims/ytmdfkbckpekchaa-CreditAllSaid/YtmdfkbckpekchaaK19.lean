import Derived.Test.YtmdfkbckpekchaaK18
namespace Go.Proofs.Ytmdfkbckpekchaa
open Go.RowKit
theorem lane_acc {bp bl : Nat} {room turn : Int} {n : Nat} {ls : List Ln} {w : World} (h : PoolAt w bp bl room turn n ls) (w' : World) (hk : Keep [] w w') {i : Nat} (hi : i < n) :
    Calls Try.prog 37 #[.pointer (some ⟨bp, 0, none⟩), .int .i64 i] w' fun e w'' => e = .returned (.tuple #[.int .i64 (lat ls i).q, .int .i64 (lat ls i).g, .int .i64 (lat ls i).u, .int .i64 0]) ∧ Keep [] w w'' :=
  (lane_any (h.keep hk (by simp) (by simp)) hi).mono fun _ _ ⟨he, hk'⟩ => ⟨he, hk.call hk' (by simp)⟩
theorem lane_of {bp bl : Nat} {room turn : Int} {n : Nat} {ls : List Ln} {w : World} {i : Nat} {q g u : Int} (h : PoolAt w bp bl room turn n ls) (hL : lat ls i = ⟨q, g, u⟩) (w' : World) (hk : Keep [] w w') (hi : i < n) :
    Calls Try.prog 37 #[.pointer (some ⟨bp, 0, none⟩), .int .i64 i] w' fun e w'' => e = .returned (.tuple #[.int .i64 q, .int .i64 g, .int .i64 u, .int .i64 0]) ∧ Keep [] w w'' := by
  have := lane_acc h w' hk hi
  rw [hL] at this
  exact this
theorem drop_acc {bp bl : Nat} {room : Int} {turn n : Nat} {ls : List Ln} {w : World} (h : PoolAt w bp bl room turn n ls) (hok : PoolOk room n turn ls) {i : Nat} (hi : i < n) (w' : World) (hk : Keep [] w w') :
    Calls Try.prog 40 #[.pointer (some ⟨bp, 0, none⟩), .int .i64 i] w' fun e w'' => e = .returned (.int .i64 0) ∧ Keep [bp, bl] w' w'' ∧
      PoolAt w'' bp bl room (grantL room (ls.set i ⟨0, 0, 0⟩) turn).2 n (grantL room (ls.set i ⟨0, 0, 0⟩) turn).1 :=
  (drop_ok (h.keep hk (by simp) (by simp)) hok hi).mono fun _ _ ⟨he, hk', hp, _⟩ => ⟨he, hk', hp⟩
set_option maxHeartbeats 2000000 in
theorem creditDrop_walk (x y : Int) (a : Option Addr) (len cap : Nat) (zs : List Int) (z : Int) (w : World) (hv : IntsV w a len cap zs) :
    Calls Try.prog 11 #[.int .i64 x, .int .i64 y, .slice a len cap, .int .i64 z] w fun e w' => e = .returned (.bool true) ∧ Keep [] w w' := by
  obtain ⟨r, hr, hr1⟩ := rest_nat x 64 (by omega)
  obtain ⟨q, hq, hq1⟩ := rest_nat y 7 (by omega)
  obtain ⟨i, hi, hi1⟩ := rest_nat z (2 + q) (by omega)
  have HR := Lib.hid hr
  have HQ := Lib.hid hq
  have HI := Lib.hid hi
  have HN : Hid ((2 : Int) + q = (q + 2 : Nat)) := Lib.hid (by omega)
  have HV := Lib.hid hv
  clear hr hq hv hi
  go_enter Try.func11, Try.ntmps11
  go_wp2_with (first | (go_at_call 32; refine (begun_any _).mono ?_; rintro e w0 ⟨rfl, hk0⟩) | (go_at_call 20; (with_reducible refine (rest_at HR (by omega) (by omega)).mono ?_); rintro e w' ⟨rfl, rfl⟩) | (go_at_call 20; (with_reducible refine (rest_at HQ (by omega) (by omega)).mono ?_); rintro e w' ⟨rfl, rfl⟩) | (go_at_call 20; (with_reducible refine (rest_at HI (by omega) (by omega)).mono ?_); rintro e w' ⟨rfl, rfl⟩) | (with_reducible refine Txt.wp_region_text mixed quiet (by kernel_rfl) ?_) | (with_reducible refine Txt.text_done (by kernel_rfl) ?_) | (go_at_call 38; refine (pool_at HN _ (by omega) (by omega) (by omega) (by omega) (HV.out.keep hk0 (by simp))).mono ?_; rintro e w1 ⟨bp, bl, rfl, hbp, hbl, hk1, hpg⟩; obtain ⟨t, ls, hp, hok, hd⟩ := hpg; have HP := Lib.hid hp; have HOK := Lib.hid hok; clear hp hok hd; obtain ⟨⟨qi, gi, ui⟩, hLi⟩ : ∃ L, lat ls i = L := ⟨_, rfl⟩; have hb := getD_ok HOK.out.ok i; unfold lat at hLi; rw [hLi] at hb; unfold LnOk at hb; dsimp only at hb; have hLA := Lib.hid (lane_of HP.out hLi _ (Keep.refl [] _) (by omega)); have HLI := Lib.hid hLi; clear hLi; have hheld := HOK.out.held; have hheld0 := (held_bd ls HOK.out.ok).1) | (go_at_call 37; refine hLA.out.mono ?_; rintro e w2 ⟨rfl, hk2⟩) | (go_at_call 39; refine (left_acc HP.out HOK.out.ok HOK.out.hi (by omega) HOK.out.r1 _ hk2).mono ?_; rintro e w3 ⟨rfl, hk3⟩))
  have hn8 := HOK.out.hi
  have hlen := Lib.hid HOK.out.len
  have hkw2 : Keep [] w w3 := (hk0.call hk1 (by simp)).call hk3 (by simp)
  have hfr : ∀ b ∈ [bp, bl], b ∈ ([] : List Nat) ∨ w.heap.size ≤ b := by have := hk0.size; intro b hb; simp at hb; omega
  have HF := Lib.hid hfr
  have hlats : ∀ x, LnOk (lat ls x) := fun x => getD_ok HOK.out.ok x
  have HLATS := Lib.hid hlats
  have hlaw := drop_law HOK.out (show i < q + 2 by omega)
  rw [show lat ls i = _ from HLI.out] at hlaw
  dsimp only at hlaw
  have hdrop := drop_acc HP.out HOK.out (show i < q + 2 by omega)
  generalize (grantL (1 + (r : Int)) (ls.set i ⟨0, 0, 0⟩) t).2 = t2 at *
  generalize (grantL (1 + (r : Int)) (ls.set i ⟨0, 0, 0⟩) t).1 = ls2 at *
  have HLAW := Lib.hid hlaw
  have HDROP := Lib.hid hdrop
  have HKW := Lib.hid (hk0.call hk1 (by simp))
  generalize held ls = hl at *
  clear hfr hlats hk0 hk1 hk2 hLA hlaw hdrop hkw2
  go_loopw [16, 17, 61] (fun s t k wr => ∃ m : Nat, m ≤ q + 2 ∧ k = .int .i64 m ∧ s = .int .i64 (btot (fun l => l.q) ls i m) ∧ t = .int .i64 (btot (fun l => l.g) ls i m) ∧ Keep [] w1 wr) (fun _ _ k _ => q + 2 - (intOf k).toNat)
  case atStart => exact ⟨0, by omega, rfl, rfl, rfl, hk3⟩
  case round =>
    obtain ⟨k, hk, rfl, rfl, rfl, hkw1⟩ := hrel
    have hbq := btot_bd (f := fun l => l.q) (ls := ls) (b := 64) i (fun x => by have := HLATS.out x; unfold LnOk at this; omega) k
    have hbg := btot_bd (f := fun l => l.g) (ls := ls) (b := 64) i (fun x => by have := HLATS.out x; unfold LnOk at this; omega) k
    by_cases hlt : k < q + 2
    · obtain ⟨⟨qk, gk, uk⟩, hLk⟩ : ∃ L, lat ls k = L := ⟨_, rfl⟩
      have hb2 := HLATS.out k
      have HLA := Lib.hid (lane_of HP.out hLk _ hkw1 (by omega))
      have hs1 := (show btot (fun l => l.q) ls i (k + 1) = btot (fun l => l.q) ls i k + if k = i then 0 else (lat ls k).q from rfl)
      have hs2 := (show btot (fun l => l.g) ls i (k + 1) = btot (fun l => l.g) ls i k + if k = i then 0 else (lat ls k).g from rfl)
      rw [hLk] at hs1 hs2 hb2
      unfold LnOk at hb2
      dsimp only at hb2 hs1 hs2
      generalize btot (fun l => l.q) ls i k = b1 at *
      generalize btot (fun l => l.g) ls i k = b2 at *
      clear hLk
      by_cases hki : k = i
      · rw [if_pos hki, Int.add_zero] at hs1 hs2
        have HS1 := Lib.hid hs1
        have HS2 := Lib.hid hs2
        subst hki
        clear hs1 hs2
        go_wp2_with (first | (go_at_call 37; refine HLA.out.mono ?_; rintro e w4 ⟨rfl, hk4⟩) | (with_reducible refine Txt.wp_region_text mixed quiet (by kernel_rfl) ?_) | (with_reducible refine Txt.text_done (by kernel_rfl) ?_))
        go_roundw
        case rel => exact ⟨k + 1, by omega, by go_num, by rw [HS1.out], by rw [HS2.out], hk4⟩
        case measure => simp [intOf]; omega
      · rw [if_neg hki] at hs1 hs2
        have HS1 := Lib.hid hs1
        have HS2 := Lib.hid hs2
        clear hs1 hs2
        go_wp2_with (first | (go_at_call 37; refine HLA.out.mono ?_; rintro e w4 ⟨rfl, hk4⟩) | (with_reducible refine Txt.wp_region_text mixed quiet (by kernel_rfl) ?_) | (with_reducible refine Txt.text_done (by kernel_rfl) ?_))
        go_roundw
        case rel => exact ⟨k + 1, by omega, by go_num, by rw [HS1.out], by rw [HS2.out], hk4⟩
        case measure => simp [intOf]; omega
    · obtain rfl : k = q + 2 := by omega
      have HLAW2 := HLAW.out
      generalize btot (fun l => l.q) ls i (q + 2) = wants at *
      generalize btot (fun l => l.g) ls i (q + 2) = may at *
      obtain ⟨hok2, hnow, hleft⟩ := HLAW2
      have HOK2 := Lib.hid hok2
      have HNOW := Lib.hid hnow
      have HLEFT := Lib.hid hleft
      have hlats2 : ∀ x, LnOk (lat ls2 x) := fun x => getD_ok hok2.ok x
      have HLATS2 := Lib.hid hlats2
      clear hok2 hnow hleft hlats2 HLAW hlt hk
      go_wp2_with (first | (go_at_call 40; refine (HDROP.out _ (by first | exact hkw1 | exact hkw1.drew)).mono ?_; rintro e w4 ⟨rfl, hk4, hp2⟩; have HP2 := Lib.hid hp2; clear hp2) | (with_reducible refine Txt.wp_region_text mixed quiet (by kernel_rfl) ?_) | (with_reducible refine Txt.text_done (by kernel_rfl) ?_))
      have hkw4 : Keep [] w w4 := by
        have := HKW.out
        refine Keep.call (this.trans ?_) hk4 HF.out
        first | exact hkw1 | exact hkw1.drew
      have hk5 : Keep [] w4 w4 := Keep.refl _ _
      clear HDROP hkw1 hk4
      have hT : 0 ≤ 1 + (r : Int) - hl := by omega
      go_loopw [23, 93] (fun s k wr => ∃ m : Nat, m ≤ q + 2 ∧ k = .int .i64 m ∧ s = .int .i64 (btot (fun l => l.g) ls2 i m) ∧ Keep [] w4 wr) (fun _ k _ => q + 2 - (intOf k).toNat)
      case atStart => exact ⟨0, by omega, rfl, rfl, hk5⟩
      case round =>
        obtain ⟨k, hk, rfl, rfl, hkw1⟩ := hrel
        have hbg2 := btot_bd (f := fun l => l.g) (ls := ls2) (b := 64) i (fun x => by have := HLATS2.out x; unfold LnOk at this; omega) k
        by_cases hlt : k < q + 2
        · obtain ⟨⟨qk, gk, uk⟩, hLk⟩ : ∃ L, lat ls2 k = L := ⟨_, rfl⟩
          have hb2 := HLATS2.out k
          have HLA := Lib.hid (lane_of HP2.out hLk _ hkw1 (by omega))
          have hs2 := (show btot (fun l => l.g) ls2 i (k + 1) = btot (fun l => l.g) ls2 i k + if k = i then 0 else (lat ls2 k).g from rfl)
          rw [hLk] at hs2 hb2
          unfold LnOk at hb2
          dsimp only at hb2 hs2
          generalize btot (fun l => l.g) ls2 i k = b2 at *
          clear hLk
          by_cases hki : k = i
          · rw [if_pos hki, Int.add_zero] at hs2
            have HS2 := Lib.hid hs2
            subst hki
            clear hs2
            go_wp2_with (first | (go_at_call 37; refine HLA.out.mono ?_; rintro e w4 ⟨rfl, hk4⟩) | (with_reducible refine Txt.wp_region_text mixed quiet (by kernel_rfl) ?_) | (with_reducible refine Txt.text_done (by kernel_rfl) ?_))
            go_roundw
            case rel => exact ⟨k + 1, by omega, by go_num, by rw [HS2.out], hk4⟩
            case measure => simp [intOf]; omega
          · rw [if_neg hki] at hs2
            have HS2 := Lib.hid hs2
            clear hs2
            go_wp2_with (first | (go_at_call 37; refine HLA.out.mono ?_; rintro e w4 ⟨rfl, hk4⟩) | (with_reducible refine Txt.wp_region_text mixed quiet (by kernel_rfl) ?_) | (with_reducible refine Txt.text_done (by kernel_rfl) ?_))
            go_roundw
            case rel => exact ⟨k + 1, by omega, by go_num, by rw [HS2.out], hk4⟩
            case measure => simp [intOf]; omega
        · obtain rfl : k = q + 2 := by omega
          have hnow := HNOW.out
          have hleft := HLEFT.out
          have HLF := left_acc HP2.out HOK2.out.ok HOK2.out.hi (by omega) HOK2.out.r1
          rw [hleft] at HLF
          have HL := Lib.hid HLF
          clear HLF hleft
          generalize btot (fun l => l.g) ls2 i (q + 2) = now at *
          by_cases hmin : 1 + (r : Int) - hl + gi + ui < wants
          · rw [Int.min_eq_right (by omega)] at hnow HL
            subst hnow
            go_wp2_with (first | (go_at_call 39; refine (HL.out _ (by first | exact hkw1 | exact hkw1.drew)).mono ?_; rintro e w6 ⟨rfl, hk6⟩) | (with_reducible refine Txt.wp_region_text mixed quiet (by kernel_rfl) ?_) | (with_reducible refine Txt.text_done (by kernel_rfl) ?_))
            go_ret
            exact ⟨rfl, hkw4.trans hk6⟩
          · rw [Int.min_eq_left (by omega)] at hnow HL
            subst hnow
            go_wp2_with (first | (go_at_call 39; refine (HL.out _ (by first | exact hkw1 | exact hkw1.drew)).mono ?_; rintro e w6 ⟨rfl, hk6⟩) | (with_reducible refine Txt.wp_region_text mixed quiet (by kernel_rfl) ?_) | (with_reducible refine Txt.text_done (by kernel_rfl) ?_))
            go_ret
            exact ⟨rfl, hkw4.trans hk6⟩
end Go.Proofs.Ytmdfkbckpekchaa
