import Derived.Test.YtmdfkbckpekchaaK3
namespace Go
def nextGo (ls : List Ln) (turn n : Nat) : Nat → Nat → Option Nat
  | 0, _ => none
  | m + 1, k => if 0 < (ls.getD ((turn + k) % n) ⟨0, 0, 0⟩).q then some ((turn + k) % n) else nextGo ls turn n m (k + 1)
def nextL (ls : List Ln) (turn : Nat) : Option Nat := nextGo ls turn ls.length ls.length 0
def optI : Option Nat → Int
  | some j => j
  | none => -1
end Go
namespace Go.Proofs.Ytmdfkbckpekchaa
open Go.RowKit
set_option maxHeartbeats 400000 in
theorem next_any {bp bl : Nat} {room : Int} {turn n : Nat} {ls : List Ln} {w : World} (h : PoolAt w bp bl room turn n ls) (hn : n ≤ 8) (ht : turn < n) :
    Calls Try.prog 50 #[.pointer (some ⟨bp, 0, none⟩)] w fun e w' => e = .returned (.int .i64 (optI (nextL ls turn))) ∧ Keep [] w w' := by
  obtain ⟨h0, h1, h2, hf⟩ := row3 h.p
  have HP := Lib.hid h
  clear h
  go_enter Try.func50, Try.ntmps50
  go_wp2_with fail
  go_loopw [10] (fun i wr => ∃ k : Nat, k ≤ n ∧ i = .int .i64 k ∧ Keep [] w wr ∧ Hid (nextL ls turn = nextGo ls turn n (n - k) k)) (fun i _ => n - (intOf i).toNat)
  case atStart => exact ⟨0, by omega, rfl, Keep.refl _ _, by show nextL ls turn = _; rw [nextL, HP.out.len]; rfl⟩
  case round =>
    obtain ⟨k, hk, rfl, hkw, hnx⟩ := hrel
    by_cases hlt : k < n
    · have hp := HP.out.keep hkw (by simp) (by simp)
      obtain ⟨g0, g1, g2, _⟩ := row3 hp.p
      have hm : (turn + k) % n < n := Nat.mod_lt _ (by omega)
      obtain ⟨l0, l1, l2⟩ := hp.lane hm
      have hs := Lib.hid (show nextGo ls turn n (n - k) k = if 0 < (ls.getD ((turn + k) % n) ⟨0, 0, 0⟩).q then some ((turn + k) % n) else nextGo ls turn n (n - (k + 1)) (k + 1) by
        rw [show n - k = (n - (k + 1)) + 1 by omega]; rfl)
      have hmod : ((turn : Int) + (k : Int)).tmod (n : Int) = (((turn + k) % n : Nat) : Int) := by
        rw [Int.tmod_eq_emod_of_nonneg (by omega)]; simp
      clear hp l1 l2 h0 h1 h2
      generalize hj : (turn + k) % n = j at *
      generalize ls.getD j ⟨0, 0, 0⟩ = L at *
      obtain ⟨q, g, u⟩ := L
      dsimp only at *
      go_wp2_with (first | (with_reducible refine Txt.wp_region_text mixed quiet (by kernel_rfl) ?_) | (with_reducible refine Txt.text_done (by kernel_rfl) ?_))
      · go_ret
        exact ⟨ret_int (by rw [hnx.out, hs.out, if_pos (by assumption)]; rfl), hkw.drew⟩
      · go_roundw
        case rel => exact ⟨k + 1, by omega, by go_num, hkw.drew, by show nextL ls turn = _; rw [hnx.out, hs.out, if_neg (by omega)]⟩
        case measure => simp [intOf]; omega
    · have HK := Lib.hid (show k = n by omega)
      go_wp2_with fail
      go_ret
      exact ⟨ret_int (by rw [hnx.out, HK.out, Nat.sub_self]; rfl), hkw⟩
end Go.Proofs.Ytmdfkbckpekchaa
