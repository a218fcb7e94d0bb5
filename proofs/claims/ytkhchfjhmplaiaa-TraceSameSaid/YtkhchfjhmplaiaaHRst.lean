import Derived.Test.YtkhchfjhmplaiaaR5
import Derived.Test.YtkhchfjhmplaiaaRows
namespace Go.Proofs.Ytkhchfjhmplaiaa
open Go.RowKit
theorem mixed : Try.prog.follows .mixedOrders = true := by kernel_rfl
set_option maxHeartbeats 400000 in
theorem rest_any (k n : Int) (w : World) (hn : 0 < n) (hn1 : n ≤ 1000000000) : Calls Try.prog 21 #[.int .i64 k, .int .i64 n] w fun e w' => e = .returned (.int .i64 (restI k n)) ∧ w = w' := by
  have hr := Lib.hid (rest_eq k n hn hn1)
  go_enter Try.func21, Try.ntmps21
  go_wp2_with fail
  go_ret
  exact ⟨ret_int hr.out, rfl⟩
theorem rest_at {k n q : Int} {w : World} (h : Hid (restI k n = q)) (hn : 0 < n) (hn1 : n ≤ 1000000000) : Calls Try.prog 21 #[.int .i64 k, .int .i64 n] w fun e w' => e = .returned (.int .i64 q) ∧ w = w' := by
  have := rest_any k n w hn hn1
  rw [h.out] at this
  exact this
/-- 'Rest' neither reads nor writes memory. -/
def isRest (args : Array Value) : Bool :=
  match args.toList with
  | [.int .i64 _, .int .i64 n] => decide (0 < n) && decide (n ≤ 1000000000)
  | _ => false
def quiets : Txt.Quiet := ⟨[21], fun f args => f == 21 && isRest args⟩
theorem quiet : Txt.QuietOk Try.prog quiets := by
  intro f args h
  simp only [quiets, Bool.and_eq_true, beq_iff_eq] at h
  obtain ⟨rfl, h⟩ := h
  refine ⟨by kernel_rfl, fun w => ?_, ?_⟩
  · have h1 : (Try.f21.name == "runtime.NumGoroutine") = false := by kernel_rfl
    have h2 : Try.f21.body.isNone = false := by kernel_rfl
    simp only [callFunc, Sem.run_bind, run_program, Result.andThen_ok, Try.func21, h1, h2, Bool.false_eq_true, if_false, Sem.run_pure]
  · unfold isRest at h
    split at h
    · rename_i k n he
      obtain rfl : args = #[.int .i64 k, .int .i64 n] := by cases args; simp_all
      simp only [Bool.and_eq_true, decide_eq_true_eq] at h
      exact ⟨_, fun w => rest_any k n w h.1 h.2⟩
    · cases h
theorem info3 : (Try.prog.info? 3).map (fun i => (i.zero, i.size, i.bytes)) = some (some (.int .i64 0), 1, 8) := by kernel_rfl
theorem rest_nat (k n : Int) (hn : 0 < n) : ∃ q : Nat, restI k n = q ∧ (q : Int) < n := by
  have h0 := restI_lo k hn
  have h1 := restI_hi k hn
  exact ⟨(restI k n).toNat, by omega, by omega⟩
end Go.Proofs.Ytkhchfjhmplaiaa
