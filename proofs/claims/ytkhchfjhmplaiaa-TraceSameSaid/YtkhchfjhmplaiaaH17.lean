import Derived.Test.YtkhchfjhmplaiaaH16
import Derived.Test.YtkhchfjhmplaiaaHP11
namespace Go
open Go.RowKit
theorem led_closed {h : List Ln} (hk : HOk h) {i : Nat} (hi : i < h.length) : Closed h (ledB h i) := ⟨fun j k hjk hkl hp he => by
  have h1 := reach_le hk (.step .here hjk he) hkl
  have h2 := le_less hk hjk hkl h1
  unfold ledB at hp ⊢
  rw [Bool.or_eq_true, decide_eq_true_eq] at hp ⊢
  rcases hp with hp | hp
  · rw [← hp]; exact .inr h2
  · exact .inr (lessL_trans h2 hp)⟩
theorem led_le {h : List Ln} (hk : HOk h) {i k : Nat} (hi : i < h.length) (hl : k < h.length) (hp : ledB h i k = true) : k ≤ i := by
  unfold ledB at hp
  rw [Bool.or_eq_true, decide_eq_true_eq] at hp
  rcases hp with hp | hp
  · omega
  · have := lessL_lt hk hl hi hp; omega
theorem led_self (h : List Ln) (i : Nat) : ledB h i i = true := by unfold ledB; simp
theorem led_last {h : List Ln} (hk : HOk h) {i : Nat} (hi : i < h.length) : rk (ledB h i) h.length = rk (ledB h i) i + 1 := by
  have h1 : ∀ m, i + 1 ≤ m → m ≤ h.length → rk (ledB h i) m = rk (ledB h i) (i + 1) := fun m => by
    induction m with
    | zero => intro h; omega
    | succ m ih =>
      intro h2 h3
      by_cases e : i = m
      · rw [e]
      · rw [rk_succ, ih (by omega) (by omega), if_neg, Nat.add_zero]
        intro hp
        have := led_le hk hi (show m < h.length by omega) hp
        omega
  rw [h1 _ (by omega) (Nat.le_refl _), rk_succ, if_pos (led_self h i)]
/-- The past of the last of a past is all of it. -/
theorem led_again {h : List Ln} (hk : HOk h) {i : Nat} (hi : i < h.length) : ledTo (ledTo h i h.length) (rk (ledB h i) i) (ledTo h i h.length).length = ledTo h i h.length := by
  have hc := led_closed hk hi
  have hlen : (ledTo h i h.length).length = rk (ledB h i) h.length := subL_len h (ledB h i) h.length
  have hall : ∀ x, x < (ledTo h i h.length).length → ledB (ledTo h i h.length) (rk (ledB h i) i) x = true := fun x hx => by
    rw [hlen] at hx
    obtain ⟨k, h1, h2, rfl⟩ := rk_inv hx
    unfold ledB
    rw [Bool.or_eq_true, decide_eq_true_eq]
    have e1 : clk (ledTo h i h.length) (rk (ledB h i) k) = clk h k := sub_clk hk hc (Nat.le_refl _) (k + 1) k (by omega) h1 h2
    have e2 : clk (ledTo h i h.length) (rk (ledB h i) i) = clk h i := sub_clk hk hc (Nat.le_refl _) (i + 1) i (by omega) hi (led_self h i)
    have h3 := h2
    unfold ledB at h3
    rw [Bool.or_eq_true, decide_eq_true_eq] at h3
    rcases h3 with h3 | h3
    · rw [h3]; exact .inl rfl
    · exact .inr (by rw [show clk (ledTo h i h.length) (rk (fun k => decide (k = i) || lessL (clk h k) (clk h i)) k) = clk h k from e1, show clk (ledTo h i h.length) (rk (fun k => decide (k = i) || lessL (clk h k) (clk h i)) i) = clk h i from e2]; exact h3)
  generalize ledTo h i h.length = a at *
  rw [ledTo, List.filter_eq_self.2 (fun x hx => hall x (List.mem_range.1 hx))]
  refine List.ext_getElem (by simp) fun p h1 h2 => ?_
  simp [lat, List.getD_eq_getElem?_getD, h2]
end Go
namespace Go.Proofs.Ytkhchfjhmplaiaa
open Go.RowKit
theorem led_at {a : Option Addr} {n c i M : Nat} {I : Int} {h g : List Ln} {w : World} (hv : LnsV w a n c h) (hk : HOk h) (hi : i < n) (hI : I = (i : Int)) (hg : ledTo h i n = g) (hM : g.length = M) :
    Calls Try.prog 43 #[.slice a n c, .int .i64 I] w fun e w' => ∃ a' c', e = .returned (.tuple #[.slice a' M c', .int .i64 0]) ∧ Keep [] w w' ∧ LnsV w' a' M c' g := by
  subst hI
  refine (led_any hv hk hi).mono ?_
  rintro e w' ⟨v, m, rfl, hk1, ho⟩
  rw [hg] at ho
  obtain ⟨a', c', rfl, hv', _⟩ := LnsV.ofOwn ho
  have : m = M := by rw [← hM]; exact hv'.len.symm
  subst this
  exact ⟨a', c', rfl, hk1, hv'⟩
theorem equal_same {a1 a2 : Option Addr} {n1 c1 n2 c2 : Nat} {xs ys : List Int} {w : World} (hx : IntsV w a1 n1 c1 xs) (hy : IntsV w a2 n2 c2 ys) (he : xs = ys) :
    Calls Try.prog 34 #[.slice a1 n1 c1, .slice a2 n2 c2] w fun e w' => e = .returned (.bool true) ∧ Keep [] w w' := by
  have h := equal_any hx hy
  rw [decide_eq_true he] at h
  exact h
set_option maxRecDepth 100000 in
set_option maxHeartbeats 4000000 in
theorem traceLed_walk (a : Option Addr) (len cap : Nat) (zs : List Int) (x : Int) (w : World) (hv : IntsV w a len cap zs) :
    Calls Try.prog 11 #[.slice a len cap, .int .i64 x] w fun e w' => e = .returned (.bool true) ∧ Keep [] w w' := by
  obtain ⟨N, hN⟩ : ∃ N, (hist zs).length = N := ⟨_, rfl⟩
  have hok : HOk (hist zs) := (hist_inv zs).ok
  have hN60 := hist_len zs
  rw [hN] at hN60
  have hNle : N ≤ 60 := by omega
  have HV := Lib.hid hv
  have HOK := Lib.hid hok
  clear hv hN60
  by_cases h0 : N = 0
  · have HN := Lib.hid (hN.trans h0)
    clear hN h0 hNle hok
    go_enter Try.func11, Try.ntmps11
    go_wp2_with (first | (go_at_call 35; refine (tbegun_any _).mono ?_; rintro e w0 ⟨rfl, hk0⟩) | (go_at_call 22; refine (begun_any _).mono ?_; rintro e w1 ⟨rfl, hk1⟩) | (go_at_call 20; refine (history_at (HV.out.keep (hk0.trans hk1) (by simp)) HN).mono ?_; rintro e w2 ⟨a2, c2, rfl, hk2, hv2⟩; clear hv2))
    go_ret
    exact ⟨rfl, (hk0.trans hk1).trans hk2⟩
  · obtain ⟨i, hi, hi1⟩ := at_nat x (show 0 < N by omega)
    obtain ⟨A, hA⟩ : ∃ A, ledTo (hist zs) i N = A := ⟨_, rfl⟩
    obtain ⟨M, hM⟩ : ∃ M, A.length = M := ⟨_, rfl⟩
    have hMr : M = rk (ledB (hist zs) i) i + 1 := by
      rw [← hM, ← hA, ← hN]
      exact (subL_len _ _ _).trans (led_last hok (by omega))
    have hMN : M ≤ N := by rw [← hM, ← hA]; exact ledTo_len _ _ _
    have hAok : HOk A := by rw [← hA, ← hN]; exact sub_ok hok (led_closed hok (by omega)) (Nat.le_refl _)
    have hag : ledTo A (M - 1) M = A := by
      have h9 := led_again hok (show i < (hist zs).length by omega)
      rw [hN, hA, hM] at h9
      rw [show M - 1 = rk (ledB (hist zs) i) i by omega]; exact h9
    have hcl : clk A (M - 1) = clk (hist zs) i := by
      rw [show M - 1 = rk (ledB (hist zs) i) i by omega, ← hA, ← hN]
      exact sub_clk hok (led_closed hok (by omega)) (Nat.le_refl _) (i + 1) i (by omega) (by omega) (led_self _ _)
    have HI := Lib.hid hi
    have HN := Lib.hid hN
    have HA := Lib.hid hA
    have HM := Lib.hid hM
    have HAOK := Lib.hid hAok
    have HAG := Lib.hid hag
    have HCL := Lib.hid hcl.symm
    have hM0 : 0 < M := by omega
    clear hi hN hA hM hMr hAok hag hcl hok
    go_enter Try.func11, Try.ntmps11
    go_wp2_with (first | (go_at_call 35; refine (tbegun_any _).mono ?_; rintro e w0 ⟨rfl, hk0⟩) | (go_at_call 22; refine (begun_any _).mono ?_; rintro e w1 ⟨rfl, hk1⟩) | (go_at_call 20; refine (history_at (HV.out.keep (hk0.trans hk1) (by simp)) HN).mono ?_; rintro e w2 ⟨a2, c2, rfl, hk2, hv2⟩; have HV2 := Lib.hid hv2; clear hv2) | (go_at_call 21; (with_reducible refine (rest_at HI (by omega) (by omega)).mono ?_); rintro e w' ⟨rfl, rfl⟩) | (go_at_call 43; (with_reducible refine (led_at HV2.out HOK.out hi1 rfl HA.out HM.out).mono ?_); rintro e w3 ⟨a3, c3, rfl, hk3, hv3⟩; have HV3 := Lib.hid (HV2.out.keep hk3 (by simp)); have HA3 := Lib.hid hv3; clear hv3) | (go_at_call 25; (with_reducible refine (clocks_at HV3.out HOK.out (by omega)).mono ?_); rintro e w4 ⟨g4, cg4, rfl, hk4, _, _, hnc4, hcm4, hcs4⟩; have HQ4 := Lib.hid hcs4; have HA4 := Lib.hid (HA3.out.keep hk4 (by simp)); unfold maxLen at hcm4; clear hcs4) | (go_at_call 25; (with_reducible refine (clocks_at HA4.out HAOK.out hM0).mono ?_); rintro e w5 ⟨g5, cg5, rfl, hk5, _, _, hnc5, hcm5, hcs5⟩; have HQ5 := Lib.hid hcs5; have HA5 := Lib.hid (HA4.out.keep hk5 (by simp)); unfold maxLen at hcm5; clear hcs5) | (go_at_call 43; (with_reducible refine (led_at HA5.out HAOK.out (show M - 1 < M by omega) (by omega) HAG.out HM.out).mono ?_); rintro e w6 ⟨a6, c6, rfl, hk6, hv6⟩; have HA6 := Lib.hid (HA5.out.keep hk6 (by simp)); have HB6 := Lib.hid hv6; clear hv6))
    have hIN : (i : Int) < (N : Int) := by omega
    have hMi : (M : Int) - 1 < (M : Int) := by omega
    obtain ⟨gi, ci, hci, hii⟩ := HQ4.out i hi1
    have hci6 := hk6.cell (hk5.cell hci (by simp)) (by simp)
    obtain ⟨gm, cm, hcm, him⟩ := HQ5.out (M - 1) (by omega)
    have hcm6 := hk6.cell hcm (by simp)
    have HII := Lib.hid ((hii.keep hk5 (by simp)).keep hk6 (by simp))
    have HIM := Lib.hid (him.keep hk6 (by simp))
    clear hci hii hcm him
    go_quiet (first | (go_at_call 44; exact eqe_q HB6.out HA6.out) | (go_at_call 34; exact eqi_q HII.out HIM.out HCL))
    go_wp2_with fail
    go_ret
    exact ⟨rfl, keep_drewN ((((((hk0.trans hk1).trans hk2).trans hk3).trans hk4).trans hk5).trans hk6) _⟩
end Go.Proofs.Ytkhchfjhmplaiaa
