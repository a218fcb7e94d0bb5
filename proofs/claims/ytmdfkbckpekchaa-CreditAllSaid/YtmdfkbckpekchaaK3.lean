import Derived.Test.YtmdfkbckpekchaaK2
namespace Go
def held : List Ln → Int
  | [] => 0
  | l :: ls => l.g + l.u + held ls
theorem held_append (a b : List Ln) : held (a ++ b) = held a + held b := by
  induction a with
  | nil => simp [held]
  | cons l a ih => simp [held, ih]; omega
theorem held_take_succ (ls : List Ln) (k : Nat) (h : k < ls.length) : held (ls.take (k + 1)) = held (ls.take k) + ((ls.getD k ⟨0, 0, 0⟩).g + (ls.getD k ⟨0, 0, 0⟩).u) := by
  rw [List.take_succ_eq_append_getElem h, held_append]
  simp [held, List.getD_eq_getElem?_getD, h]
/-- Every number of a lane is small. -/
def LnOk (l : Ln) : Prop := 0 ≤ l.q ∧ l.q ≤ 64 ∧ 0 ≤ l.g ∧ l.g ≤ 64 ∧ 0 ≤ l.u ∧ l.u ≤ 64
theorem held_bd (ls : List Ln) (h : ∀ l ∈ ls, LnOk l) : 0 ≤ held ls ∧ held ls ≤ 128 * ls.length := by
  induction ls with
  | nil => simp [held]
  | cons l ls ih =>
    have h1 := h l (by simp)
    have h2 := ih fun x hx => h x (by simp [hx])
    unfold LnOk at h1
    simp only [held, List.length_cons]
    omega
theorem getD_ok {ls : List Ln} (h : ∀ l ∈ ls, LnOk l) (i : Nat) : LnOk (ls.getD i ⟨0, 0, 0⟩) := by
  rw [List.getD_eq_getElem?_getD]
  cases hi : ls[i]? with
  | none => simp [LnOk]
  | some l => exact h l (List.mem_of_getElem? hi)
end Go
namespace Go.Proofs.Ytmdfkbckpekchaa
open Go.RowKit
set_option maxHeartbeats 400000 in
theorem left_any {bp bl : Nat} {room turn : Int} {n : Nat} {ls : List Ln} {w : World} (h : PoolAt w bp bl room turn n ls) (hok : ∀ l ∈ ls, LnOk l) (hn : n ≤ 8) (hr0 : 0 ≤ room) (hr1 : room ≤ 64) :
    Calls Try.prog 39 #[.pointer (some ⟨bp, 0, none⟩)] w fun e w' => e = .returned (.int .i64 (room - held ls)) ∧ Keep [] w w' := by
  obtain ⟨h0, h1, h2, hf⟩ := row3 h.p
  have HP := Lib.hid h
  have HOK := Lib.hid hok
  clear h hok
  go_enter Try.func39, Try.ntmps39
  go_wp2_with fail
  go_loopw [3, 15] (fun s i wr => ∃ k : Nat, k ≤ n ∧ i = .int .i64 k ∧ s = .int .i64 (room - held (ls.take k)) ∧ Keep [] w wr) (fun _ i _ => n - (intOf i).toNat)
  case atStart => exact ⟨0, by omega, rfl, by simp [held], Keep.refl _ _⟩
  case round =>
    obtain ⟨k, hk, rfl, rfl, hkw⟩ := hrel
    by_cases hlt : k < n
    · have hp := HP.out.keep hkw (by simp) (by simp)
      obtain ⟨l0, l1, l2⟩ := hp.lane hlt
      have hL := getD_ok HOK.out k
      have hs := Lib.hid (held_take_succ ls k (by have := HP.out.len; omega))
      have hb := held_bd (ls.take k) (fun l hl => HOK.out l (List.mem_of_mem_take hl))
      rw [List.length_take] at hb
      clear hp
      generalize ls.getD k ⟨0, 0, 0⟩ = L at *
      obtain ⟨q, g, u⟩ := L
      unfold LnOk at hL
      dsimp only at *
      generalize held (ls.take k) = sm at *
      go_wp2_with fail
      go_roundw
      case rel => exact ⟨k + 1, by omega, by go_num, by rw [hs.out]; first | go_num | (congr 1; omega) | skip, hkw.alloc _⟩
      case measure => simp [intOf]; omega
    · have HK := Lib.hid (show k = n by omega)
      go_wp2_with fail
      go_ret
      exact ⟨ret_int (by rw [HK.out, ← HP.out.len, List.take_length]), hkw⟩
end Go.Proofs.Ytmdfkbckpekchaa
