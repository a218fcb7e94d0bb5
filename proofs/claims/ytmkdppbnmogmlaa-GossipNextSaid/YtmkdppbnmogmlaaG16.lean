import Derived.Test.YtmkdppbnmogmlaaG13
import Derived.Test.YtmkdppbnmogmlaaGP10
namespace Go.Proofs.Ytmkdppbnmogmlaa
open Go.RowKit
set_option maxHeartbeats 2000000 in
theorem next_any {b l : Nat} {g : Gs} {w : World} (h : GAt 55 w b g) (hl : g.last = l) (hl8 : l ≤ 8) :
    Calls Try.prog 20 #[.pointer (some ⟨b, 0, none⟩)] w fun e w' =>
      (nx (elig g) l = none → e = .returned (.tuple #[.int .i64 0, .int .i64 4]) ∧ Keep [b] w w' ∧ GAt 55 w' b g) ∧
      (∀ m : Nat, nx (elig g) l = some m → e = .returned (.tuple #[.int .i64 m, .int .i64 0]) ∧ Keep [b] w w' ∧ GAt 55 w' b { g with last := m }) := by
  have HG := Lib.hid h
  have hlen := h.2
  have HLA := Lib.hid hl
  have hd := h.head
  rw [hl] at hd
  obtain ⟨d0, d1, d2⟩ := hd
  clear h hl d1
  go_enter Try.func20, Try.ntmps20
  go_wp2_with fail
  go_loopw [6] (fun i wr => ∃ k : Nat, k ≤ 8 ∧ i = .int .i64 k ∧ Keep [] w wr ∧ Hid (nx (elig g) l = nxGo (elig g) l (8 - k) k)) (fun i _ => 8 - (intOf i).toNat)
  case atStart => exact ⟨0, by omega, rfl, Keep.refl _ _, rfl⟩
  case round =>
    obtain ⟨k, hk, rfl, hkw, HX⟩ := hrel
    by_cases hlt : k < 8
    · have HGW := Lib.hid (HG.out.keep hkw (by simp))
      obtain ⟨e0, e1, e2⟩ := HGW.out.head
      rw [HLA.out] at e2
      have hmod : ((l : Int) + (k : Int)) % 8 = (((l + k) % 8 : Nat) : Int) := by omega
      have hmodt : ((l : Int) + (k : Int)).tmod 8 = (((l + k) % 8 : Nat) : Int) := by
        rw [Int.tmod_eq_emod_of_nonneg (by omega)]; exact hmod
      have hm8 : (l + k) % 8 < 8 := Nat.mod_lt _ (by omega)
      have hs := (show nxGo (elig g) l (8 - k) k = if elig g ((l + k) % 8 + 1) then some ((l + k) % 8 + 1) else nxGo (elig g) l (8 - (k + 1)) (k + 1) by
        rw [show 8 - k = (8 - (k + 1)) + 1 by omega]; rfl)
      obtain ⟨j, hj⟩ : ∃ j, (l + k) % 8 = j := ⟨_, rfl⟩
      rw [hj] at hs hmod hmodt hm8
      obtain ⟨c0, c1, c2⟩ := HGW.out.row (show j + 1 < 9 by omega)
      have hf := HGW.out.thaw
      have helig : elig g (j + 1) = (decide ((lat g.rs (j + 1)).q ≠ 0) && decide (((j + 1 : Nat) : Int) ≠ g.me) && decide ((lat g.rs (j + 1)).u ≠ 3)) := rfl
      obtain ⟨⟨q, t, u⟩, hL⟩ : ∃ L, lat g.rs (j + 1) = L := ⟨_, rfl⟩
      rw [hL] at helig c0 c1 c2
      dsimp only at helig c0 c1 c2
      obtain ⟨me, hme⟩ : ∃ me, g.me = me := ⟨_, rfl⟩
      rw [hme] at helig e0 d0
      rw [helig] at hs
      have HS := Lib.hid hs
      have HL := Lib.hid hL
      have HME := Lib.hid hme
      have HJ : Hid ((j : Int) + 1 = ((j + 1 : Nat) : Int)) := Lib.hid (by omega)
      clear hs hL hme hj e1 c1 hlen helig
      have HKN := Lib.hid (fun (v : Bool) (hv : Hid (decide (q ≠ 0) = v)) => known_at HGW.out HJ (by omega) (by omega) v (by rw [HL.out]; exact hv))
      by_cases hq : q = 0
      · have HN : Hid (nx (elig g) l = nxGo (elig g) l (8 - (k + 1)) (k + 1)) := Lib.hid (by rw [HX.out, HS.out]; simp [hq])
        have HK0 := Lib.hid (HKN.out false (Lib.hid (by simp [hq])))
        subst hq
        go_wp2_with (first | (go_at_call 24; refine HK0.out.mono ?_; rintro e w' ⟨rfl, rfl⟩) | (with_reducible refine Txt.wp_region_text mixed quiet (by decide +kernel) ?_) | (with_reducible refine Txt.text_done (by kernel_rfl) ?_))
        go_roundw
        case measure => simp [intOf]; omega
        case rel => exact ⟨k + 1, by omega, by go_num, hkw, HN⟩
      · have HK1 := Lib.hid (HKN.out true (Lib.hid (by simp [hq])))
        by_cases hm : ((j : Int) + 1) = me
        · have HN : Hid (nx (elig g) l = nxGo (elig g) l (8 - (k + 1)) (k + 1)) := Lib.hid (by rw [HX.out, HS.out]; simp [hq, hm])
          subst hm
          go_wp2_with (first | (go_at_call 24; refine HK1.out.mono ?_; rintro e w' ⟨rfl, rfl⟩) | (with_reducible refine Txt.wp_region_text mixed quiet (by decide +kernel) ?_) | (with_reducible refine Txt.text_done (by kernel_rfl) ?_))
          go_roundw
          case measure => simp [intOf]; omega
          case rel => exact ⟨k + 1, by omega, by go_num, hkw, HN⟩
        · by_cases hu : u = 3
          · have HN : Hid (nx (elig g) l = nxGo (elig g) l (8 - (k + 1)) (k + 1)) := Lib.hid (by rw [HX.out, HS.out]; simp [hu])
            subst hu
            go_wp2_with (first | (go_at_call 24; refine HK1.out.mono ?_; rintro e w' ⟨rfl, rfl⟩) | (with_reducible refine Txt.wp_region_text mixed quiet (by decide +kernel) ?_) | (with_reducible refine Txt.text_done (by kernel_rfl) ?_))
            go_roundw
            case measure => simp [intOf]; omega
            case rel => exact ⟨k + 1, by omega, by go_num, hkw, HN⟩
          · have HN : Hid (nx (elig g) l = some (j + 1)) := Lib.hid (by rw [HX.out, HS.out]; simp [hq, hu, hm])
            have hb1 : (((j : Int) + 1) != me) = true := by rw [bne_iff_ne]; exact hm
            have hb2 : (u != 3) = true := by rw [bne_iff_ne]; exact hu
            go_wp2_with (first | (go_at_call 24; refine HK1.out.mono ?_; rintro e w' ⟨rfl, rfl⟩) | (with_reducible refine Txt.wp_region_text mixed quiet (by decide +kernel) ?_) | (with_reducible refine Txt.text_done (by kernel_rfl) ?_))
            go_ret2
            refine ⟨fun h => by (rw [HN.out] at h; cases h), fun m h => ?_⟩
            rw [HN.out] at h
            obtain rfl := Option.some.inj h
            refine ⟨rfl, ?_, ?_⟩
            · refine Keep.trans (hkw.more (by simp)) ?_
              repeat (first | exact Keep.refl _ _ | apply Keep.drew | refine Keep.setCell ?_ (by simp) _)
            · exact HGW.out.putLast _
    · have HN : Hid (nx (elig g) l = none) := Lib.hid (by rw [HX.out, show k = 8 by omega]; rfl)
      go_wp2_with fail
      go_ret2
      exact ⟨fun _ => ⟨rfl, hkw.more (by simp), HG.out.keep hkw (by simp)⟩, fun m h => by (rw [HN.out] at h; cases h)⟩
end Go.Proofs.Ytmkdppbnmogmlaa
