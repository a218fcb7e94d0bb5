import Derived.Test.YtmkdppbnmogmlaaG8
import Derived.Test.YtmkdppbnmogmlaaGP3
namespace Go.Proofs.Ytmkdppbnmogmlaa
open Go.RowKit
theorem doubted_start (T : Int) (hT : 0 < T) : ({ (startG 1 T 3) with rs := (startG 1 T 3).rs.set 2 ⟨2, 0, 2⟩, ts := (startG 1 T 3).ts.set 2 0 } : Gs) = doubted T 0 := by
  rw [doubted, if_pos hT]; rfl
theorem start_tm (me T : Int) (n : Nat) : ∀ i, i < 9 → 0 ≤ (startG me T n).ts.getD i 0 ∧ (startG me T n).ts.getD i 0 ≤ 100 := fun i _ => by rw [startG_ts]; omega
theorem doubted_tm (T k : Int) (h0 : 0 ≤ k) (h1 : k ≤ 100) : ∀ i, i < 9 → 0 ≤ (doubted T k).ts.getD i 0 ∧ (doubted T k).ts.getD i 0 ≤ 100 := fun i _ => by rw [doubted_ts]; split <;> omega
set_option maxHeartbeats 2000000 in
theorem gossipDead_walk (x y : Int) (w : World) :
    Calls Try.prog 3 #[.int .i64 x, .int .i64 y] w fun e w' => e = .returned (.bool true) ∧ Keep [] w w' := by
  obtain ⟨q, hq, hq1⟩ := rest_nat x 100 (by omega)
  obtain ⟨r, hr, hr1⟩ := rest_nat y 5 (by omega)
  have HQ := Lib.hid hq
  have HR := Lib.hid hr
  have HN3 : Hid ((3 : Int) = ((3 : Nat) : Int)) := Lib.hid rfl
  have HN2 : Hid ((2 : Int) = ((2 : Nat) : Int)) := Lib.hid rfl
  clear hq hr
  go_enter Try.func3, Try.ntmps3
  go_wp2_with (first | (go_at_call 9; refine (begun_any _).mono ?_; rintro e w0 ⟨rfl, hk0⟩) | (go_at_call 10; (with_reducible refine (rest_at HQ (by omega) (by omega)).mono ?_); rintro e w' ⟨rfl, rfl⟩) | (go_at_call 10; (with_reducible refine (rest_at HR (by omega) (by omega)).mono ?_); rintro e w' ⟨rfl, rfl⟩) | (go_at_call 11; refine (net_any HN3 _ (by omega) (by omega) (by omega) (by omega)).mono ?_; rintro e w1 ⟨a, c, bs, rfl, hk1, hnet⟩; have HN := Lib.hid hnet; clear hnet) | (with_reducible refine Txt.wp_region_text mixed quiet (by decide +kernel) ?_) | (with_reducible refine Txt.text_done (by kernel_rfl) ?_))
  obtain ⟨b, off, rfl, hc⟩ := HN.out.ptr (show 0 < 3 by omega)
  rw [Nat.add_zero] at hc
  have hpa := (HN.out.pa ⟨b, off, none⟩ rfl).2
  have hmem := HN.out.mem (show 0 < 3 by omega)
  have hg := HN.out.at_ 0 (by omega)
  rw [starts_at _ (by omega)] at hg
  have hlo := HN.out.lo _ hmem
  generalize bs.getD 0 0 = b0 at *
  have hne : b ∉ [b0] := by
    intro h
    simp at h
    exact hpa (h ▸ hmem)
  have HC := Lib.hid hc
  have HNE := Lib.hid hne
  have HG : Hid (GAt 55 w1 b0 (startG 1 (1 + q) 3)) := Lib.hid (by simpa using hg)
  have hkw : Keep [] w w1 := hk0.call hk1 (by simp)
  have hfr : ∀ x ∈ [b0], x ∈ ([] : List Nat) ∨ w.heap.size ≤ x := by have := hk0.size; intro x hx; simp at hx; omega
  have HF := Lib.hid hfr
  clear hc hne hg hmem hpa hlo hk0 hk1 hfr
  go_loopw [27] (fun i wr => ∃ k : Nat, k ≤ r ∧ i = .int .i64 k ∧ Keep [] w wr ∧ Hid (wr.cell? ⟨b, off, none⟩ = some (.pointer (some ⟨b0, 0, none⟩))) ∧ Hid (GAt 55 wr b0 (startG 1 (1 + q) 3))) (fun i _ => r - (intOf i).toNat)
  case atStart => exact ⟨0, by omega, rfl, hkw, HC, HG⟩
  case round =>
    obtain ⟨k, hk, rfl, hkw1, HC1, HG1⟩ := hrel
    have hc1 := HC1.out
    clear HC HG hkw
    by_cases hlt : k < r
    · go_wp2_with (first | (go_at_call 12; refine (tick_any HG1.out (start_tm _ _ _)).mono ?_; rintro e w2 ⟨rfl, hk2, hg2⟩; rw [start_tick] at hg2; have HG2 := Lib.hid hg2; clear hg2) | (with_reducible refine Txt.wp_region_text mixed quiet (by decide +kernel) ?_) | (with_reducible refine Txt.text_done (by kernel_rfl) ?_))
      go_roundw
      case measure => simp [intOf]; omega
      case rel => exact ⟨k + 1, by omega, by go_num, hkw1.call hk2 HF.out, Lib.hid (hk2.cell HC1.out HNE.out), HG2⟩
    · go_wp2_with (first | (go_at_call 13; refine (doubt_ok HG1.out HN2 (by omega) (by omega) (by rw [startG_lat _ _ _ _ (by omega)]; simp [rowF]) (by simp [startG]) (q := 2) (t := 0) (by rw [startG_lat _ _ _ _ (by omega)]; simp [rowF])).mono ?_; rintro e w2 ⟨rfl, hk2, hg2⟩; rw [doubted_start _ (by omega)] at hg2; have HG2 := Lib.hid hg2; clear hg2) | (with_reducible refine Txt.wp_region_text mixed quiet (by decide +kernel) ?_) | (with_reducible refine Txt.text_done (by kernel_rfl) ?_))
      have hkw2 : Keep [] w w2 := hkw1.call hk2 HF.out
      have HC2 := Lib.hid (hk2.cell HC1.out HNE.out)
      clear hc1 HC1 HG1 hkw1 hk2
      go_loopw [40] (fun i wr => ∃ k : Nat, k ≤ q + 1 ∧ i = .int .i64 k ∧ Keep [] w wr ∧ Hid (wr.cell? ⟨b, off, none⟩ = some (.pointer (some ⟨b0, 0, none⟩))) ∧ Hid (GAt 55 wr b0 (doubted (1 + q) k))) (fun i _ => q + 1 - (intOf i).toNat)
      case atStart => exact ⟨0, by omega, rfl, hkw2, HC2, HG2⟩
      case round =>
        obtain ⟨k, hk, rfl, hkw3, HC3, HG3⟩ := hrel
        have hc3 := HC3.out
        clear HC2 HG2 hkw2
        by_cases hlt : k < q + 1
        · go_wp2_with (first | (go_at_call 14; refine (says_at HG3.out HN2 (by omega) (by omega) (by rw [doubted_lat _ _ _ (by omega)]; simp) (u := 2) (by rw [doubted_lat _ _ _ (by omega), if_pos rfl]; dsimp only; rw [if_pos (by omega)])).mono ?_; rintro e w3 ⟨rfl, hk3⟩; have hc4 := hk3.cell HC3.out (by simp)) | (go_at_call 12; refine (tick_any (by first | exact HG3.out.keep hk3 (by simp) | exact (HG3.out.keep hk3 (by simp)).drew) (doubted_tm _ _ (by omega) (by omega))).mono ?_; rintro e w4 ⟨rfl, hk4, hg4⟩; rw [doubted_tick _ _ (by omega)] at hg4; have HG4 := Lib.hid hg4; clear hg4) | (with_reducible refine Txt.wp_region_text mixed quiet (by decide +kernel) ?_) | (with_reducible refine Txt.text_done (by kernel_rfl) ?_))
          go_roundw
          case measure => simp [intOf]; omega
          case rel => exact ⟨k + 1, by omega, by go_num, (hkw3.call hk3 (by simp)).call hk4 HF.out, Lib.hid (hk4.cell hc4 HNE.out), HG4⟩
        · have hkq : (k : Int) = 1 + q := by omega
          have hg9 := HG3.out
          rw [hkq] at hg9
          have HG9 := Lib.hid hg9
          clear hkq hg9 HG3
          go_wp2_with (first | (go_at_call 14; (with_reducible refine (says_at HG9.out HN2 (by omega) (by omega) (by rw [doubted_lat _ _ _ (by omega)]; simp) (u := 3) (by rw [doubted_lat _ _ _ (by omega), if_pos rfl]; dsimp only; rw [if_neg (by omega)])).mono ?_); rintro e w3 ⟨rfl, hk3⟩; have hc4 := hk3.cell HC3.out (by simp)) | (go_at_call 14; refine (says_at (by first | exact HG9.out.keep hk3 (by simp) | exact (HG9.out.keep hk3 (by simp)).drew) HN3 (by omega) (by omega) (by rw [doubted_lat _ _ _ (by omega)]; simp [rowF]) (u := 1) (by rw [doubted_lat _ _ _ (by omega)]; simp [rowF])).mono ?_; rintro e w5 ⟨rfl, hk5⟩) | (with_reducible refine Txt.wp_region_text mixed quiet (by decide +kernel) ?_) | (with_reducible refine Txt.text_done (by kernel_rfl) ?_))
          go_ret
          exact ⟨rfl, (hkw3.call hk3 (by simp)).call hk5 (by simp)⟩
end Go.Proofs.Ytmkdppbnmogmlaa
