import Derived.Test.YtkhchfjhmplaiaaH6
import Derived.Test.YtkhchfjhmplaiaaHP8
import Derived.Deep.QuietTactic
import Derived.BigQuiet
namespace Go.Proofs.Ytkhchfjhmplaiaa
open Go.RowKit
/-- The clocks of n events, in the cells of block g. -/
def ClksV (w : World) (g n : Nat) (h : List Ln) : Prop := ∀ i, i < n → ∃ gi ci, w.cell? ⟨g, i, none⟩ = some (.slice (some ⟨gi, 0, none⟩) 8 ci) ∧ IntsV w (some ⟨gi, 0, none⟩) 8 ci (clk h i)
theorem ClksV.keep {w w' : World} {g n : Nat} {h : List Ln} (q : ClksV w g n h) (k : Keep [] w w') : ClksV w' g n h := fun i hi =>
  let ⟨gi, ci, h1, h2⟩ := q i hi
  ⟨gi, ci, k.cell h1 (by simp), h2.keep k (by simp)⟩
theorem less_at {a1 a2 : Option Addr} {n1 c1 n2 c2 : Nat} {xs ys : List Int} {w : World} {b : Bool} (hx : IntsV w a1 n1 c1 xs) (hy : IntsV w a2 n2 c2 ys) (hb : Hid (lessL xs ys = b)) :
    Calls Try.prog 27 #[.slice a1 n1 c1, .slice a2 n2 c2] w fun e w' => e = .returned (.bool b) ∧ w = w' := by
  have := less_any hx hy
  rw [hb.out] at this
  exact this
/-- 'Less' in a region that only reads. -/
theorem less_q {a1 a2 : Option Addr} {n1 c1 n2 c2 m : Nat} {xs ys : List Int} {w : World} {b : Bool} (hx : IntsV w a1 n1 c1 xs) (hy : IntsV w a2 n2 c2 ys) (hb : Hid (lessL xs ys = b)) :
    Calls Try.prog 27 #[.slice a1 n1 c1, .slice a2 n2 c2] (w.drewN m) fun e w'' => e = .returned (.bool b) ∧ ∃ k, w'' = w.drewN k :=
  Calls.quiet_of_same ((less_at (hx.keep (keep_drewN (Keep.refl [] _) _) (by simp)) (hy.keep (keep_drewN (Keep.refl [] _) _) (by simp)) hb).mono fun _ _ h => ⟨h.1, h.2.symm⟩)
theorem apartAll_bd (h : List Ln) : ∀ m, 0 ≤ apartAll h m ∧ apartAll h m ≤ 1000 * m ∨ 1000 < m := by
  have h1 : ∀ i m, 0 ≤ apartN h i m ∧ apartN h i m ≤ m := fun i m => by
    induction m with
    | zero => exact ⟨Int.le_refl _, Int.le_refl _⟩
    | succ m ih => rw [apartN]; split <;> omega
  intro m
  induction m with
  | zero => exact .inl ⟨Int.le_refl _, Int.le_refl _⟩
  | succ m ih =>
    rw [apartAll]
    have := h1 m m
    omega
set_option maxRecDepth 100000 in
set_option maxHeartbeats 2000000 in
theorem apart_any {a : Option Addr} {n c : Nat} {h : List Ln} {w : World} (hv : LnsV w a n c h) (hk : HOk h) (hn : 0 < n) :
    Calls Try.prog 24 #[.slice a n c] w fun e w' => e = .returned (.tuple #[.int .i64 (apartAll h n), .int .i64 0]) ∧ Keep [] w w' := by
  have hc := Lib.hid (clocks_at hv hk hn)
  have hl := Lib.hid hv.len
  have hn2 : n ≤ 200 := by have := hk.len; have := hv.len; omega
  have HK := Lib.hid hk
  clear hv hk
  go_enter Try.func24, Try.ntmps24
  go_wp2_with (first | (go_at_call 25; refine hc.out.mono ?_; rintro e w1 ⟨g, cap, rfl, hk1, hg, hgl, hnc, hcm, hcs⟩; have HCS : Hid (ClksV w1 g n h) := Lib.hid hcs; unfold maxLen at hcm; clear hcs))
  go_loopw [6, 7, 19] (fun v _ i wr => ∃ I : Nat, I ≤ n ∧ v = .int .i64 (apartAll h I) ∧ i = .int .i64 I ∧ Keep [] w wr ∧ Hid (ClksV wr g n h)) (fun _ _ i _ => n - (intOf i).toNat)
  case atStart => exact ⟨0, by omega, rfl, rfl, hk1, HCS⟩
  case round =>
    obtain ⟨I, hI, rfl, rfl, hkw, HQ⟩ := hrel
    by_cases hlt : I < n
    · have hdec : decide ((I : Int) < n) = true := by simpa using hlt
      have hbI := apartAll_bd h I
      obtain ⟨S, hS⟩ : ∃ S, apartAll h I = S := ⟨_, rfl⟩
      rw [hS] at hbI
      have HS := Lib.hid hS
      rw [hS]
      clear hS
      go_wp2_with fail
      go_loopw [6, 8, 23] (fun v _ i wr => ∃ K : Nat, K ≤ I ∧ v = .int .i64 (S + apartN h I K) ∧ i = .int .i64 K ∧ Keep [] w wr ∧ Hid (ClksV wr g n h)) (fun _ _ i _ => I - (intOf i).toNat)
      case atStart => exact ⟨0, by omega, by simp [apartN], rfl, hkw, HQ⟩
      case round =>
        obtain ⟨K, hK, rfl, rfl, hkx, HX⟩ := hrel
        by_cases hlk : K < I
        · obtain ⟨gi, ci, hci, hii⟩ := HX.out I hlt
          obtain ⟨gk, ck, hck, hik⟩ := HX.out K (by omega)
          have HII := Lib.hid hii
          have HIK := Lib.hid hik
          have hno : lessL (clk h I) (clk h K) = false := by
            cases hb : lessL (clk h I) (clk h K) with
            | false => rfl
            | true => have := lessL_lt HK.out (by rw [hl.out]; omega) (by rw [hl.out]; omega) hb; omega
          have HNO := Lib.hid hno
          obtain ⟨b, hb⟩ : ∃ b, lessL (clk h K) (clk h I) = b := ⟨_, rfl⟩
          have HB := Lib.hid hb
          have hap : apartN h I (K + 1) = apartN h I K + (if b = false then 1 else 0) := by rw [apartN, hno, hb]; cases b <;> rfl
          have hbd : 0 ≤ apartN h I K ∧ apartN h I K ≤ 1000 := by
            have h1 := apart_ahead HK.out (show I < h.length by rw [hl.out]; omega) K hK
            have h2 := aheadN_nn h I K
            have h3 : ∀ m, 0 ≤ apartN h I m := fun m => by
              induction m with
              | zero => exact Int.le_refl _
              | succ m ih => rw [apartN]; split <;> omega
            have := h3 K
            omega
          obtain ⟨T, hT⟩ : ∃ T, apartN h I K = T := ⟨_, rfl⟩
          rw [hT] at hap hbd
          rw [hT]
          have HAP := Lib.hid hap
          clear hii hik hno hb hap hT
          go_wp2_with fail
          have f1 : (I : Int) < (n : Int) := by omega
          have f2 : (K : Int) < (n : Int) := by omega
          cases b
          all_goals
            go_quiet (first | (go_at_call 27; exact less_q HII.out HIK.out HNO) | (go_at_call 27; exact less_q HIK.out HII.out HB))
            go_wp2_with fail
            go_roundw
            case measure => simp [intOf]; omega
            case rel =>
              refine ⟨K + 1, by omega, ?_, by go_num, keep_drewN hkx _, Lib.hid (HX.out.keep (keep_drewN (Keep.refl [] _) _))⟩
              rw [HAP.out]
              simp only [if_true, if_false, reduceCtorEq, Bool.true_eq_false]
              first | rfl | (congr 1; omega) | (go_num)
        · have HKI := Lib.hid (show K = I by omega)
          go_wp2_with fail
          go_roundw
          case measure => simp [intOf]; omega
          case rel => exact ⟨I + 1, by omega, by rw [apartAll, HS.out, HKI.out], by go_num, hkx, HX⟩
    · have HIN := Lib.hid (show I = n by omega)
      go_wp2_with fail
      go_ret2
      exact ⟨by rw [← HIN.out]; rfl, hkw⟩
end Go.Proofs.Ytkhchfjhmplaiaa
