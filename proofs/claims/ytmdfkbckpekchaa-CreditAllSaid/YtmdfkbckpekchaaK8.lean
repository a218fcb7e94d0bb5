import Derived.Test.YtmdfkbckpekchaaK7
namespace Go.Proofs.Ytmdfkbckpekchaa
open Go.RowKit
def zeros (n : Nat) : List Ln := List.replicate n ⟨0, 0, 0⟩
theorem make_lanes (n : Nat) (h1 : 1 ≤ n) (h8 : n ≤ 8) (w : World) : (Instr.makeSlice 67 (.int .i64 (n : Int)) (.int .i64 (n : Int))).run Try.prog w =
    .ok (.slice (some ⟨w.heap.size, 0, none⟩) n n) (w.alloc (.cells (lanesC (zeros n)).toArray 71)) := by
  rcases (by omega : n = 1 ∨ n = 2 ∨ n = 3 ∨ n = 4 ∨ n = 5 ∨ n = 6 ∨ n = 7 ∨ n = 8) with rfl | rfl | rfl | rfl | rfl | rfl | rfl | rfl <;> kernel_rfl
set_option maxHeartbeats 600000 in
theorem new_any (room : Int) (n : Nat) (w : World) (hr0 : 1 ≤ room) (hr1 : room ≤ 64) (h1 : 1 ≤ n) (h8 : n ≤ 8) :
    Calls Try.prog 33 #[.int .i64 room, .int .i64 n] w fun e w' => ∃ bp bl, e = .returned (.tuple #[.pointer (some ⟨bp, 0, none⟩), .int .i64 0]) ∧ w.heap.size ≤ bp ∧ w.heap.size ≤ bl ∧ Keep [] w w' ∧ PoolAt w' bp bl room (0 : Nat) n (zeros n) ∧ PoolOk room n 0 (zeros n) := by
  have hmk := make_lanes n h1 h8
  have hok : PoolOk room n 0 (zeros n) := ⟨by simp [zeros], h1, h8, by omega, fun l hl => by rw [zeros, List.mem_replicate] at hl; rw [hl.2]; simp [LnOk], hr0, hr1, by
    have : ∀ m, held (List.replicate m ⟨0, 0, 0⟩) = 0 := fun m => by induction m with
      | zero => rfl
      | succ m ih => simp [List.replicate_succ, held, ih]
    rw [zeros, this]; omega⟩
  have HOK := Lib.hid hok
  clear hok
  go_enter Try.func33, Try.ntmps33
  go_wp2_with fail
  go_ret2
  refine ⟨w.heap.size + 1, w.heap.size, rfl, by omega, by omega, ((Keep.refl _ _).alloc _).alloc _, ⟨heap_alloc2_new _ _ _, heap_alloc2_old _ _ _, by simp [zeros], by omega⟩, HOK.out⟩
end Go.Proofs.Ytmdfkbckpekchaa
