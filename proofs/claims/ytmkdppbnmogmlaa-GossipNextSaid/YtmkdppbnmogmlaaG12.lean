import Derived.Test.YtmkdppbnmogmlaaG11
import Derived.Test.YtmkdppbnmogmlaaGP7
namespace Go.Proofs.Ytmkdppbnmogmlaa
open Go.RowKit
set_option maxHeartbeats 1000000 in
theorem equal_same {a a' : Option Addr} {n c c' : Nat} {ls : List Ln} {w : World} (h : LnsV w a n c ls) (h' : LnsV w a' n c' ls) :
    Calls Try.prog 19 #[.slice a n c, .slice a' n c'] w fun e w' => e = .returned (.bool true) ∧ Keep [] w w' := by
  have hr := h.room
  have hm := h.most
  unfold maxLen at hm
  have HV := Lib.hid h
  have HV' := Lib.hid h'
  clear h h'
  go_enter Try.func19, Try.ntmps19
  go_wp2_with fail
  go_loopw [13] (fun i wr => ∃ k : Nat, k ≤ n ∧ i = .int .i64 k ∧ Keep [] w wr) (fun i _ => n - (intOf i).toNat)
  case atStart => exact ⟨0, by omega, rfl, Keep.refl _ _⟩
  case round =>
    obtain ⟨k, hk, rfl, hkw⟩ := hrel
    by_cases hlt : k < n
    · obtain ⟨b, off, rfl, c0, c1, c2⟩ := (HV.out.keep hkw (by simp)).at_ hlt
      obtain ⟨b', off', rfl, d0, d1, d2⟩ := (HV'.out.keep hkw (by simp)).at_ hlt
      generalize lat ls k = L at *
      obtain ⟨q, t, u⟩ := L
      dsimp only at *
      go_wp2_with fail
      go_region
      all_goals go_wp2_with fail
      all_goals go_roundw
      all_goals first | (case rel => exact ⟨k + 1, by omega, by go_num, by repeat (first | exact hkw | apply Keep.drew)⟩) | (case measure => simp [intOf]; omega)
    · go_wp2_with fail
      go_ret
      exact ⟨rfl, hkw⟩
end Go.Proofs.Ytmkdppbnmogmlaa
