import Derived.Test.YtkhchfjhmplaiaaH5
namespace Go.Proofs.Ytkhchfjhmplaiaa
open Go.RowKit
/-- The history, at its length. -/
theorem history_at {a : Option Addr} {len cap N : Nat} {zs : List Int} {w : World} (hv : IntsV w a len cap zs) (hN : Hid ((hist zs).length = N)) :
    Calls Try.prog 20 #[.slice a len cap] w fun e w' => ∃ a c, e = .returned (.slice a N c) ∧ Keep [] w w' ∧ LnsV w' a N c (hist zs) := by
  refine (history_any hv).mono ?_
  rintro e w' ⟨a', n, c, rfl, hk, hl, _⟩
  obtain rfl : n = N := by rw [← hN.out, hl.len]
  exact ⟨a', c, rfl, hk, hl⟩
theorem ahead_at {a : Option Addr} {n c : Nat} {h : List Ln} {w : World} {i j : Nat} {b : Bool} (hv : LnsV w a n c h) (hk : Hid (HOk h)) (hi : i < n) (hj : j < n) (hb : Hid (lessL (clk h i) (clk h j) = b)) :
    Calls Try.prog 23 #[.slice a n c, .int .i64 i, .int .i64 j] w fun e w' => e = .returned (.tuple #[.bool b, .int .i64 0]) ∧ Keep [] w w' := by
  have := ahead_any hv hk.out hi hj
  rw [hb.out] at this
  exact this
theorem cells_q {w : World} {b off n c : Nat} {ls : List Ln} (h : LnsV w (some ⟨b, off, none⟩) n c ls) {i : Nat} (hi : i < n) : w.cell? ⟨b, off + i * 3, none⟩ = some (.int .i64 (lat ls i).q) := by
  obtain ⟨b', off', he, c0, _⟩ := h.at_ hi
  cases he
  exact c0
set_option maxRecDepth 100000 in
set_option maxHeartbeats 4000000 in
theorem clockOrder_walk (a : Option Addr) (len cap : Nat) (zs : List Int) (x y z : Int) (w : World) (hv : IntsV w a len cap zs) :
    Calls Try.prog 4 #[.slice a len cap, .int .i64 x, .int .i64 y, .int .i64 z] w fun e w' => e = .returned (.bool true) ∧ Keep [] w w' := by
  obtain ⟨N, hN⟩ : ∃ N, (hist zs).length = N := ⟨_, rfl⟩
  have hok : HOk (hist zs) := (hist_inv zs).ok
  have hN60 := hist_len zs
  rw [hN] at hN60
  have hNle : N ≤ 60 := by omega
  have HV := Lib.hid hv
  clear hv hN60
  by_cases h0 : N = 0
  · have HN := Lib.hid (hN.trans h0)
    clear hN h0 hNle hok
    go_enter Try.func4, Try.ntmps4
    go_wp2_with (first | (go_at_call 22; refine (begun_any _).mono ?_; rintro e w1 ⟨rfl, hk1⟩) | (go_at_call 20; refine (history_at (HV.out.keep hk1 (by simp)) HN).mono ?_; rintro e w2 ⟨a2, c2, rfl, hk2, hv2⟩; clear hv2))
    go_ret
    exact ⟨rfl, hk1.trans hk2⟩
  · obtain ⟨i, hi, hi1⟩ := at_nat x (show 0 < N by omega)
    obtain ⟨j, hj, hj1⟩ := at_nat y (show 0 < N by omega)
    obtain ⟨k, hk, hk1'⟩ := at_nat z (show 0 < N by omega)
    have hlaw := clockOrder_law hok (i := i) (j := j) (k := k) (by omega) (by omega) (by omega)
    obtain ⟨A, hA⟩ : ∃ A, lessL (clk (hist zs) i) (clk (hist zs) j) = A := ⟨_, rfl⟩
    obtain ⟨B, hB⟩ : ∃ B, lessL (clk (hist zs) j) (clk (hist zs) k) = B := ⟨_, rfl⟩
    obtain ⟨C, hC⟩ : ∃ C, lessL (clk (hist zs) i) (clk (hist zs) k) = C := ⟨_, rfl⟩
    obtain ⟨D, hD⟩ : ∃ D, lessL (clk (hist zs) j) (clk (hist zs) i) = D := ⟨_, rfl⟩
    rw [hA, hB, hC, hD] at hlaw
    obtain ⟨qi, hqi⟩ : ∃ q, (lat (hist zs) i).q = q := ⟨_, rfl⟩
    obtain ⟨qj, hqj⟩ : ∃ q, (lat (hist zs) j).q = q := ⟨_, rfl⟩
    rw [hqi, hqj] at hlaw
    have HA := Lib.hid hA
    have HB := Lib.hid hB
    have HC := Lib.hid hC
    have HD := Lib.hid hD
    have HQI := Lib.hid hqi
    have HQJ := Lib.hid hqj
    have HN := Lib.hid hN
    have HOK := Lib.hid hok
    have HI := Lib.hid hi
    have HJ := Lib.hid hj
    have HKK := Lib.hid hk
    have HLAW := Lib.hid hlaw
    clear hA hB hC hD hqi hqj hN hok hi hj hk hlaw
    by_cases hq : qi = qj
    all_goals as_aux_lemma =>
      (try subst hq)
      go_enter Try.func4, Try.ntmps4
      go_wp2_with (first | (go_at_call 22; refine (begun_any _).mono ?_; rintro e w1 ⟨rfl, hk1⟩) | (go_at_call 20; refine (history_at (HV.out.keep hk1 (by simp)) HN).mono ?_; rintro e w2 ⟨a2, c2, rfl, hk2, hv2⟩; obtain ⟨b, off, rfl, _⟩ := hv2.at_ hi1; have HV2 := Lib.hid hv2; have hr2 := hv2.room; have hm2 := hv2.most; unfold maxLen at hm2; clear hv2) | (go_at_call 21; (with_reducible refine (rest_at HI (by omega) (by omega)).mono ?_); rintro e w' ⟨rfl, rfl⟩) | (go_at_call 21; (with_reducible refine (rest_at HJ (by omega) (by omega)).mono ?_); rintro e w' ⟨rfl, rfl⟩) | (go_at_call 21; (with_reducible refine (rest_at HKK (by omega) (by omega)).mono ?_); rintro e w' ⟨rfl, rfl⟩) | (go_at_call 23; (with_reducible refine (ahead_at HV2.out HOK hi1 hj1 HA).mono ?_); rintro e w3 ⟨rfl, hk3⟩; have HV3 := Lib.hid (HV2.out.keep hk3 (by simp))) | (go_at_call 23; (with_reducible refine (ahead_at HV3.out HOK hj1 hk1' HB).mono ?_); rintro e w4 ⟨rfl, hk4⟩; have HV4 := Lib.hid (HV3.out.keep hk4 (by simp))) | (go_at_call 23; (with_reducible refine (ahead_at HV4.out HOK hi1 hk1' HC).mono ?_); rintro e w5 ⟨rfl, hk5⟩; have HV5 := Lib.hid (HV4.out.keep hk5 (by simp))) | (go_at_call 23; (with_reducible refine (ahead_at HV5.out HOK hj1 hi1 HD).mono ?_); rintro e w6 ⟨rfl, hk6⟩; have ci := cells_q (HV5.out.keep hk6 (by simp)) hi1; have cj := cells_q (HV5.out.keep hk6 (by simp)) hj1; rw [HQI.out] at ci; rw [HQJ.out] at cj) | (with_reducible refine Txt.wp_region_text mixed quiet (by decide +kernel) ?_) | (with_reducible refine Txt.text_done (by kernel_rfl) ?_))
      all_goals
        go_ret
        refine ⟨?_, by first | exact ((((hk1.trans hk2).trans hk3).trans hk4).trans hk5).trans hk6 | exact (((((hk1.trans hk2).trans hk3).trans hk4).trans hk5).trans hk6).drew⟩
        have hl := HLAW.out
        first | rfl | (exfalso; omega) | (refine ret_bool ?_; clear HLAW HI HJ HKK HV; simp_all; done) | (refine ret_bool ?_; clear HLAW HI HJ HKK HV; simp_all; omega) | (exfalso; clear HLAW HI HJ HKK HV; simp at hl; omega) | (exfalso; clear HLAW HI HJ HKK HV; simp_all; done) | (exfalso; clear HLAW HI HJ HKK HV; simp_all; omega) | trace_state
end Go.Proofs.Ytkhchfjhmplaiaa
