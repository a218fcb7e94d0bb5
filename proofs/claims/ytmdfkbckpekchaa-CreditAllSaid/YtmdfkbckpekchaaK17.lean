import Derived.Test.YtmdfkbckpekchaaK16
namespace Go.Proofs.Ytmdfkbckpekchaa
open Go.RowKit
theorem new_at {N room : Int} {n : Nat} (hN : Hid (N = n)) (w : World) (hr0 : 1 ≤ room) (hr1 : room ≤ 64) (h1 : 1 ≤ N) (h8 : N ≤ 8) :
    Calls Try.prog 33 #[.int .i64 room, .int .i64 N] w fun e w' => ∃ bp bl, e = .returned (.tuple #[.pointer (some ⟨bp, 0, none⟩), .int .i64 0]) ∧ w.heap.size ≤ bp ∧ w.heap.size ≤ bl ∧ Keep [] w w' ∧ PoolAt w' bp bl room (0 : Nat) n (zeros n) ∧ PoolOk room n 0 (zeros n) := by
  have := hN.out
  subst this
  exact new_any room n w hr0 hr1 (by omega) (by omega)
set_option maxHeartbeats 1000000 in
theorem creditTurns_walk (x y : Int) (w : World) :
    Calls Try.prog 8 #[.int .i64 x, .int .i64 y] w fun e w' => e = .returned (.bool true) ∧ Keep [] w w' := by
  obtain ⟨r, hr, hr1⟩ := rest_nat x 64 (by omega)
  obtain ⟨q, hq, hq1⟩ := rest_nat y 8 (by omega)
  have HR := Lib.hid hr
  have HQ := Lib.hid hq
  have HN : Hid ((1 : Int) + q = (q + 1 : Nat)) := Lib.hid (by omega)
  clear hr hq
  go_enter Try.func8, Try.ntmps8
  go_wp2_with (first | (go_at_call 32; refine (begun_any _).mono ?_; rintro e w0 ⟨rfl, hk0⟩) | (go_at_call 20; (with_reducible refine (rest_at HR (by omega) (by omega)).mono ?_); rintro e w' ⟨rfl, rfl⟩) | (go_at_call 20; (with_reducible refine (rest_at HQ (by omega) (by omega)).mono ?_); rintro e w' ⟨rfl, rfl⟩) | (with_reducible refine Txt.wp_region_text mixed quiet (by kernel_rfl) ?_) | (with_reducible refine Txt.text_done (by kernel_rfl) ?_) | (go_at_call 33; refine (new_at HN _ (by omega) (by omega) (by omega) (by omega)).mono ?_; rintro e w1 ⟨bp, bl, rfl, hbp, hbl, hk1, hp, hok⟩; have HP := Lib.hid hp; have HOK := Lib.hid hok; clear hp hok) | (go_at_call 34; refine (turns_first (by omega) (by omega) (by omega) HP.out HOK.out).mono ?_; rintro e w2 ⟨rfl, hk2, hst⟩; have HS := Lib.hid hst; clear hst))
  have hsz : w.heap.size ≤ w0.heap.size := hk0.size
  have hkw : Keep [] w w2 := (hk0.call hk1 (by simp)).call hk2 (by intro b hb; simp at hb; omega)
  have hfr : ∀ b ∈ [bp, bl], b ∈ ([] : List Nat) ∨ w.heap.size ≤ b := by intro b hb; simp at hb; omega
  have hfr1 : ∀ b ∈ [bl], b ∈ ([] : List Nat) ∨ w.heap.size ≤ b := by intro b hb; simp at hb; omega
  have HF := Lib.hid hfr
  have HF1 := Lib.hid hfr1
  clear hfr hfr1 hk0 hk1 hk2
  go_loopw [36] (fun i wr => ∃ k : Nat, k ≤ r + 1 ∧ i = .int .i64 k ∧ Keep [] w wr ∧ Hid (St wr bp bl (1 + r) (1 % (q + 1)) (q + 1) (usedL (q + 1) (1 + r) k))) (fun i _ => r + 1 - (intOf i).toNat)
  case atStart => exact ⟨0, by omega, rfl, hkw, HS.out⟩
  case round =>
    obtain ⟨k, hk, rfl, hkw1, hs1⟩ := hrel
    by_cases hlt : k < r + 1
    · go_wp2_with (first | (go_at_call 35; refine (turns_use (by omega) (by omega) (by omega) hs1.out).mono ?_; rintro e w3 ⟨rfl, hk3, hs3⟩; have HS3 := Lib.hid hs3; clear hs3) | (with_reducible refine Txt.wp_region_text mixed quiet (by kernel_rfl) ?_) | (with_reducible refine Txt.text_done (by kernel_rfl) ?_))
      go_roundw
      case rel => exact ⟨k + 1, by omega, by go_num, hkw1.call hk3 HF1.out, HS3⟩
      case measure => simp [intOf]; omega
    · have hs2 := Lib.hid (show St wr bp bl (1 + r) (1 % (q + 1)) (q + 1) (wantedL (q + 1) (1 + r) 0) by rw [← used_wanted (q + 1) (show (k : Int) = 1 + r by omega)]; exact hs1.out)
      clear hs1 hkw HS
      go_wp2_with fail
      go_loopw [43] (fun i wr => ∃ k : Nat, k ≤ q + 1 ∧ i = .int .i64 k ∧ Keep [] w wr ∧ Hid (St wr bp bl (1 + r) (1 % (q + 1)) (q + 1) (wantedL (q + 1) (1 + r) k))) (fun i _ => q + 1 - (intOf i).toNat)
      case atStart => exact ⟨0, by omega, rfl, hkw1, hs2⟩
      case round =>
        obtain ⟨k, hk, rfl, hkw2, hs3⟩ := hrel
        by_cases hlt : k < q + 1
        · go_wp2_with (first | (go_at_call 34; refine (turns_want hlt hs3.out).mono ?_; rintro e w3 ⟨rfl, hk3, hs3⟩; have HS3 := Lib.hid hs3; clear hs3) | (with_reducible refine Txt.wp_region_text mixed quiet (by kernel_rfl) ?_) | (with_reducible refine Txt.text_done (by kernel_rfl) ?_))
          go_roundw
          case rel => exact ⟨k + 1, by omega, by go_num, hkw2.call hk3 HF.out, HS3⟩
          case measure => simp [intOf]; omega
        · have hs4 := Lib.hid (show St wr bp bl (1 + r) ((1 + 0) % (q + 1)) (q + 1) (freedL (q + 1) (1 + r) 0) by rw [← wanted_freed (by omega)]; have h7 := hs3.out; rw [show k = q + 1 by omega] at h7; exact h7)
          clear hs2 hs3 hkw1
          go_wp2_with fail
          go_loopw [52] (fun i wr => ∃ k : Nat, k ≤ r + 1 ∧ i = .int .i64 k ∧ Keep [] w wr ∧ Hid (St wr bp bl (1 + r) ((1 + k) % (q + 1)) (q + 1) (freedL (q + 1) (1 + r) k))) (fun i _ => r + 1 - (intOf i).toNat)
          case atStart => exact ⟨0, by omega, rfl, hkw2, hs4⟩
          case round =>
            obtain ⟨k, hk, rfl, hkw3, hs5⟩ := hrel
            by_cases hlt : k < r + 1
            · go_wp2_with (first | (go_at_call 36; refine (turns_free (by omega) (by omega) (by omega) (by omega) hs5.out).mono ?_; rintro e w3 ⟨rfl, hk3, hs3⟩; have HS3 := Lib.hid hs3; clear hs3) | (with_reducible refine Txt.wp_region_text mixed quiet (by kernel_rfl) ?_) | (with_reducible refine Txt.text_done (by kernel_rfl) ?_))
              go_roundw
              case rel => exact ⟨k + 1, by omega, by go_num, hkw3.call hk3 HF.out, HS3⟩
              case measure => simp [intOf]; omega
            · have hs6 := Lib.hid (show St wr bp bl (1 + r) ((1 + (r + 1)) % (q + 1)) (q + 1) (freedL (q + 1) (1 + r) (r + 1)) by rw [← show k = r + 1 by omega]; exact hs5.out)
              clear hs4 hs5 hkw2
              go_wp2_with (first | (with_reducible refine Txt.wp_region_text mixed quiet (by kernel_rfl) ?_) | (with_reducible refine Txt.text_done (by kernel_rfl) ?_))
              obtain ⟨wo, rfl⟩ : ∃ wo : World, wo = wr := ⟨_, rfl⟩
              go_loopw [8, 9, 60] (fun lo hi i wr => ∃ (k : Nat) (l h : Int), k ≤ q + 1 ∧ i = .int .i64 k ∧ lo = .int .i64 l ∧ hi = .int .i64 h ∧ 0 ≤ l ∧ l ≤ 64 ∧ 0 ≤ h ∧ h ≤ 64 ∧ Hid (l = 1 + r ∨ ∃ x : Nat, l = cnt (q + 1) x (r + 1)) ∧ Hid (h = 0 ∨ ∃ x : Nat, h = cnt (q + 1) x (r + 1)) ∧ Keep [] w wr ∧ Keep [] wo wr) (fun _ _ i _ => q + 1 - (intOf i).toNat)
              case atStart => exact ⟨0, _, 0, by omega, rfl, rfl, rfl, by omega, by omega, by omega, by omega, Or.inl rfl, Or.inl rfl, hkw3, Keep.refl _ _⟩
              case round =>
                obtain ⟨k, l, h, hk, rfl, rfl, rfl, hl0, hl1, hh0, hh1, hl, hh, hkw4, hkw5⟩ := hrel
                by_cases hlt : k < q + 1
                · have hlane := Lib.hid (lane_any (hs6.out.p.keep hkw5 (by simp) (by simp)) hlt)
                  have hl3 := hlane.out
                  rw [freed_lane hlt] at hl3
                  dsimp only at hl3
                  have hc := cnt_le (q + 1) k (r + 1) (by omega) (by omega)
                  obtain ⟨c, hcc⟩ : ∃ c, cnt (q + 1) k (r + 1) = c := ⟨_, rfl⟩
                  rw [hcc] at hl3 hc
                  have HC := Lib.hid hcc
                  have HL := Lib.hid hl3
                  clear hlane hl3 hcc
                  go_wp2_with (first | (go_at_call 37; refine HL.out.mono ?_; rintro e w3 ⟨rfl, hk3⟩) | (with_reducible refine Txt.wp_region_text mixed quiet (by kernel_rfl) ?_) | (with_reducible refine Txt.text_done (by kernel_rfl) ?_))
                  all_goals go_roundw
                  case measure => simp [intOf]; omega
                  case rel =>
                    refine ⟨k + 1, if (c : Int) < l then c else l, if h < (c : Int) then c else h, by omega, by go_num, rfl, rfl, by split <;> omega, by split <;> omega, by split <;> omega, by split <;> omega, ?_, ?_, hkw4.call hk3 (by simp), hkw5.call hk3 (by simp)⟩
                    · refine Lib.hid ?_
                      split
                      · exact .inr ⟨k, by rw [HC.out]⟩
                      · exact hl.out
                    · refine Lib.hid ?_
                      split
                      · exact .inr ⟨k, by rw [HC.out]⟩
                      · exact hh.out
                · have hd : h - l ≤ 1 := by
                    have hcx : ∀ x, (cnt (q + 1) x (r + 1) : Int) ≤ 1 + r := fun x => by have := cnt_le (q + 1) x (r + 1) (by omega) (by omega); omega
                    have hcxy : ∀ x y, (cnt (q + 1) x (r + 1) : Int) ≤ cnt (q + 1) y (r + 1) + 1 := fun x y => by have := cnt_near (q + 1) x y (r + 1) (by omega) (by omega); omega
                    rcases hl.out with h1 | ⟨x1, h1⟩ <;> rcases hh.out with h2 | ⟨x2, h2⟩
                    · omega
                    · have := hcx x2; omega
                    · omega
                    · have := hcxy x2 x1; omega
                  have hdb : decide (h - l ≤ 1) = true := by simpa using hd
                  go_wp2_with (first | (with_reducible refine Txt.wp_region_text mixed quiet (by kernel_rfl) ?_) | (with_reducible refine Txt.text_done (by kernel_rfl) ?_))
                  go_ret
                  exact ⟨rfl, hkw4⟩
end Go.Proofs.Ytmdfkbckpekchaa
