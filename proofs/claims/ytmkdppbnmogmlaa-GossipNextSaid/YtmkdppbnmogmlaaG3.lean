import Derived.Test.YtmkdppbnmogmlaaG2
import Derived.Test.YtmkdppbnmogmlaaR4
import Derived.Outline
namespace Go
def stateL (rs : List Ln) : List Ln := rs.filter fun l => decide (l.q ≠ 0)
theorem stateL_snoc (rs : List Ln) (k : Nat) (h : k < rs.length) : stateL (rs.take (k + 1)) = if (lat rs k).q ≠ 0 then stateL (rs.take k) ++ [lat rs k] else stateL (rs.take k) := by
  unfold stateL
  rw [List.take_succ_eq_append_getElem h, List.filter_append]
  have e : rs[k] = lat rs k := by simp [lat, List.getD_eq_getElem?_getD, h]
  rw [e]
  generalize lat rs k = L
  by_cases hq : L.q = 0
  · simp [hq]
  · simp [hq]
theorem stateL_le (rs : List Ln) (k : Nat) : (stateL (rs.take k)).length ≤ k := by
  refine Nat.le_trans (List.length_filter_le _ _) ?_
  rw [List.length_take]; omega
end Go
namespace Go.Proofs.Ytmkdppbnmogmlaa
open Go.RowKit
theorem info39 : (Try.prog.info? 39).map (fun i => (i.zero, i.size, i.bytes)) = some (some (.agg #[.int .i64 0, .int .i64 0, .int .i64 0]), 3, 24) := by kernel_rfl
theorem ix0 (a0 b0 c0 a1 b1 c1 a2 b2 c2 a3 b3 c3 a4 b4 c4 a5 b5 c5 a6 b6 c6 a7 b7 c7 a8 b8 c8 : Int) (w : World) : (Instr.index 51 (.agg #[.int .i64 a0, .int .i64 b0, .int .i64 c0, .int .i64 a1, .int .i64 b1, .int .i64 c1, .int .i64 a2, .int .i64 b2, .int .i64 c2, .int .i64 a3, .int .i64 b3, .int .i64 c3, .int .i64 a4, .int .i64 b4, .int .i64 c4, .int .i64 a5, .int .i64 b5, .int .i64 c5, .int .i64 a6, .int .i64 b6, .int .i64 c6, .int .i64 a7, .int .i64 b7, .int .i64 c7, .int .i64 a8, .int .i64 b8, .int .i64 c8]) (.int .i64 0)).run Try.prog w = .ok (.agg #[.int .i64 a0, .int .i64 b0, .int .i64 c0]) w := by kernel_rfl
theorem ix1 (a0 b0 c0 a1 b1 c1 a2 b2 c2 a3 b3 c3 a4 b4 c4 a5 b5 c5 a6 b6 c6 a7 b7 c7 a8 b8 c8 : Int) (w : World) : (Instr.index 51 (.agg #[.int .i64 a0, .int .i64 b0, .int .i64 c0, .int .i64 a1, .int .i64 b1, .int .i64 c1, .int .i64 a2, .int .i64 b2, .int .i64 c2, .int .i64 a3, .int .i64 b3, .int .i64 c3, .int .i64 a4, .int .i64 b4, .int .i64 c4, .int .i64 a5, .int .i64 b5, .int .i64 c5, .int .i64 a6, .int .i64 b6, .int .i64 c6, .int .i64 a7, .int .i64 b7, .int .i64 c7, .int .i64 a8, .int .i64 b8, .int .i64 c8]) (.int .i64 1)).run Try.prog w = .ok (.agg #[.int .i64 a1, .int .i64 b1, .int .i64 c1]) w := by kernel_rfl
theorem ix2 (a0 b0 c0 a1 b1 c1 a2 b2 c2 a3 b3 c3 a4 b4 c4 a5 b5 c5 a6 b6 c6 a7 b7 c7 a8 b8 c8 : Int) (w : World) : (Instr.index 51 (.agg #[.int .i64 a0, .int .i64 b0, .int .i64 c0, .int .i64 a1, .int .i64 b1, .int .i64 c1, .int .i64 a2, .int .i64 b2, .int .i64 c2, .int .i64 a3, .int .i64 b3, .int .i64 c3, .int .i64 a4, .int .i64 b4, .int .i64 c4, .int .i64 a5, .int .i64 b5, .int .i64 c5, .int .i64 a6, .int .i64 b6, .int .i64 c6, .int .i64 a7, .int .i64 b7, .int .i64 c7, .int .i64 a8, .int .i64 b8, .int .i64 c8]) (.int .i64 2)).run Try.prog w = .ok (.agg #[.int .i64 a2, .int .i64 b2, .int .i64 c2]) w := by kernel_rfl
theorem ix3 (a0 b0 c0 a1 b1 c1 a2 b2 c2 a3 b3 c3 a4 b4 c4 a5 b5 c5 a6 b6 c6 a7 b7 c7 a8 b8 c8 : Int) (w : World) : (Instr.index 51 (.agg #[.int .i64 a0, .int .i64 b0, .int .i64 c0, .int .i64 a1, .int .i64 b1, .int .i64 c1, .int .i64 a2, .int .i64 b2, .int .i64 c2, .int .i64 a3, .int .i64 b3, .int .i64 c3, .int .i64 a4, .int .i64 b4, .int .i64 c4, .int .i64 a5, .int .i64 b5, .int .i64 c5, .int .i64 a6, .int .i64 b6, .int .i64 c6, .int .i64 a7, .int .i64 b7, .int .i64 c7, .int .i64 a8, .int .i64 b8, .int .i64 c8]) (.int .i64 3)).run Try.prog w = .ok (.agg #[.int .i64 a3, .int .i64 b3, .int .i64 c3]) w := by kernel_rfl
theorem ix4 (a0 b0 c0 a1 b1 c1 a2 b2 c2 a3 b3 c3 a4 b4 c4 a5 b5 c5 a6 b6 c6 a7 b7 c7 a8 b8 c8 : Int) (w : World) : (Instr.index 51 (.agg #[.int .i64 a0, .int .i64 b0, .int .i64 c0, .int .i64 a1, .int .i64 b1, .int .i64 c1, .int .i64 a2, .int .i64 b2, .int .i64 c2, .int .i64 a3, .int .i64 b3, .int .i64 c3, .int .i64 a4, .int .i64 b4, .int .i64 c4, .int .i64 a5, .int .i64 b5, .int .i64 c5, .int .i64 a6, .int .i64 b6, .int .i64 c6, .int .i64 a7, .int .i64 b7, .int .i64 c7, .int .i64 a8, .int .i64 b8, .int .i64 c8]) (.int .i64 4)).run Try.prog w = .ok (.agg #[.int .i64 a4, .int .i64 b4, .int .i64 c4]) w := by kernel_rfl
theorem ix5 (a0 b0 c0 a1 b1 c1 a2 b2 c2 a3 b3 c3 a4 b4 c4 a5 b5 c5 a6 b6 c6 a7 b7 c7 a8 b8 c8 : Int) (w : World) : (Instr.index 51 (.agg #[.int .i64 a0, .int .i64 b0, .int .i64 c0, .int .i64 a1, .int .i64 b1, .int .i64 c1, .int .i64 a2, .int .i64 b2, .int .i64 c2, .int .i64 a3, .int .i64 b3, .int .i64 c3, .int .i64 a4, .int .i64 b4, .int .i64 c4, .int .i64 a5, .int .i64 b5, .int .i64 c5, .int .i64 a6, .int .i64 b6, .int .i64 c6, .int .i64 a7, .int .i64 b7, .int .i64 c7, .int .i64 a8, .int .i64 b8, .int .i64 c8]) (.int .i64 5)).run Try.prog w = .ok (.agg #[.int .i64 a5, .int .i64 b5, .int .i64 c5]) w := by kernel_rfl
theorem ix6 (a0 b0 c0 a1 b1 c1 a2 b2 c2 a3 b3 c3 a4 b4 c4 a5 b5 c5 a6 b6 c6 a7 b7 c7 a8 b8 c8 : Int) (w : World) : (Instr.index 51 (.agg #[.int .i64 a0, .int .i64 b0, .int .i64 c0, .int .i64 a1, .int .i64 b1, .int .i64 c1, .int .i64 a2, .int .i64 b2, .int .i64 c2, .int .i64 a3, .int .i64 b3, .int .i64 c3, .int .i64 a4, .int .i64 b4, .int .i64 c4, .int .i64 a5, .int .i64 b5, .int .i64 c5, .int .i64 a6, .int .i64 b6, .int .i64 c6, .int .i64 a7, .int .i64 b7, .int .i64 c7, .int .i64 a8, .int .i64 b8, .int .i64 c8]) (.int .i64 6)).run Try.prog w = .ok (.agg #[.int .i64 a6, .int .i64 b6, .int .i64 c6]) w := by kernel_rfl
theorem ix7 (a0 b0 c0 a1 b1 c1 a2 b2 c2 a3 b3 c3 a4 b4 c4 a5 b5 c5 a6 b6 c6 a7 b7 c7 a8 b8 c8 : Int) (w : World) : (Instr.index 51 (.agg #[.int .i64 a0, .int .i64 b0, .int .i64 c0, .int .i64 a1, .int .i64 b1, .int .i64 c1, .int .i64 a2, .int .i64 b2, .int .i64 c2, .int .i64 a3, .int .i64 b3, .int .i64 c3, .int .i64 a4, .int .i64 b4, .int .i64 c4, .int .i64 a5, .int .i64 b5, .int .i64 c5, .int .i64 a6, .int .i64 b6, .int .i64 c6, .int .i64 a7, .int .i64 b7, .int .i64 c7, .int .i64 a8, .int .i64 b8, .int .i64 c8]) (.int .i64 7)).run Try.prog w = .ok (.agg #[.int .i64 a7, .int .i64 b7, .int .i64 c7]) w := by kernel_rfl
theorem ix8 (a0 b0 c0 a1 b1 c1 a2 b2 c2 a3 b3 c3 a4 b4 c4 a5 b5 c5 a6 b6 c6 a7 b7 c7 a8 b8 c8 : Int) (w : World) : (Instr.index 51 (.agg #[.int .i64 a0, .int .i64 b0, .int .i64 c0, .int .i64 a1, .int .i64 b1, .int .i64 c1, .int .i64 a2, .int .i64 b2, .int .i64 c2, .int .i64 a3, .int .i64 b3, .int .i64 c3, .int .i64 a4, .int .i64 b4, .int .i64 c4, .int .i64 a5, .int .i64 b5, .int .i64 c5, .int .i64 a6, .int .i64 b6, .int .i64 c6, .int .i64 a7, .int .i64 b7, .int .i64 c7, .int .i64 a8, .int .i64 b8, .int .i64 c8]) (.int .i64 8)).run Try.prog w = .ok (.agg #[.int .i64 a8, .int .i64 b8, .int .i64 c8]) w := by kernel_rfl
theorem index_row (rs : List Ln) (hl : rs.length = 9) (k : Nat) (hk : k < 9) (w : World) : (Instr.index 51 (.agg (lanesC rs).toArray) (.int .i64 k)).run Try.prog w = .ok (.agg #[.int .i64 (lat rs k).q, .int .i64 (lat rs k).g, .int .i64 (lat rs k).u]) w := by
  match rs, hl with
  | [⟨a0, b0, c0⟩, ⟨a1, b1, c1⟩, ⟨a2, b2, c2⟩, ⟨a3, b3, c3⟩, ⟨a4, b4, c4⟩, ⟨a5, b5, c5⟩, ⟨a6, b6, c6⟩, ⟨a7, b7, c7⟩, ⟨a8, b8, c8⟩], _ =>
    rcases (by omega : k = 0 ∨ k = 1 ∨ k = 2 ∨ k = 3 ∨ k = 4 ∨ k = 5 ∨ k = 6 ∨ k = 7 ∨ k = 8) with e | e | e | e | e | e | e | e | e
    · subst e; exact ix0 a0 b0 c0 a1 b1 c1 a2 b2 c2 a3 b3 c3 a4 b4 c4 a5 b5 c5 a6 b6 c6 a7 b7 c7 a8 b8 c8 w
    · subst e; exact ix1 a0 b0 c0 a1 b1 c1 a2 b2 c2 a3 b3 c3 a4 b4 c4 a5 b5 c5 a6 b6 c6 a7 b7 c7 a8 b8 c8 w
    · subst e; exact ix2 a0 b0 c0 a1 b1 c1 a2 b2 c2 a3 b3 c3 a4 b4 c4 a5 b5 c5 a6 b6 c6 a7 b7 c7 a8 b8 c8 w
    · subst e; exact ix3 a0 b0 c0 a1 b1 c1 a2 b2 c2 a3 b3 c3 a4 b4 c4 a5 b5 c5 a6 b6 c6 a7 b7 c7 a8 b8 c8 w
    · subst e; exact ix4 a0 b0 c0 a1 b1 c1 a2 b2 c2 a3 b3 c3 a4 b4 c4 a5 b5 c5 a6 b6 c6 a7 b7 c7 a8 b8 c8 w
    · subst e; exact ix5 a0 b0 c0 a1 b1 c1 a2 b2 c2 a3 b3 c3 a4 b4 c4 a5 b5 c5 a6 b6 c6 a7 b7 c7 a8 b8 c8 w
    · subst e; exact ix6 a0 b0 c0 a1 b1 c1 a2 b2 c2 a3 b3 c3 a4 b4 c4 a5 b5 c5 a6 b6 c6 a7 b7 c7 a8 b8 c8 w
    · subst e; exact ix7 a0 b0 c0 a1 b1 c1 a2 b2 c2 a3 b3 c3 a4 b4 c4 a5 b5 c5 a6 b6 c6 a7 b7 c7 a8 b8 c8 w
    · subst e; exact ix8 a0 b0 c0 a1 b1 c1 a2 b2 c2 a3 b3 c3 a4 b4 c4 a5 b5 c5 a6 b6 c6 a7 b7 c7 a8 b8 c8 w
set_option maxHeartbeats 1000000 in
theorem state_any {b : Nat} {g : Gs} {w : World} (h : GAt 55 w b g) :
    Calls Try.prog 15 #[.pointer (some ⟨b, 0, none⟩)] w fun e w' => ∃ a n c, e = .returned (.slice a n c) ∧ Keep [] w w' ∧ LnsV w' a n c (stateL g.rs) ∧ ∀ x, a = some x → w.heap.size ≤ x.block := by
  have HG := Lib.hid h
  have hl9 := Lib.hid h.2.1
  obtain ⟨i0, hi, hz0, hz1, hz2⟩ := info_parts info39
  have HI := Lib.hid (index_row g.rs h.2.1)
  clear h
  go_enter Try.func15, Try.ntmps15
  go_wp2_with (with_reducible refine wpList_load_at rfl 51 _ rfl ⟨b, 3, none⟩ rfl _ _ HG.out.rowsAt Try.underlying51 rfl (by rw [lanesC_len, hl9.out]; kernel_rfl) ?_)
  go_loopw [3, 10] (fun v i wr => ∃ k : Nat, k ≤ 9 ∧ i = .int .i64 k ∧ Keep [] w wr ∧ Hid (wr.ownsRow w.heap.size 39 3 v (stateL (g.rs.take k)).length (lanesC (stateL (g.rs.take k))))) (fun _ i _ => 9 - (intOf i).toNat)
  case atStart => exact ⟨0, by omega, rfl, Keep.refl _ _, by show World.ownsRow _ _ _ _ _ _ _; exact World.ownsRow_nil _ _ _ _⟩
  case round =>
    obtain ⟨k, hk, rfl, hkw, HO⟩ := hrel
    by_cases hlt : k < 9
    · have hix := HI.out k hlt
      have hsn := Lib.hid (stateL_snoc g.rs k (by rw [hl9.out]; exact hlt))
      have hle := stateL_le g.rs k
      generalize stateL (g.rs.take k) = out at *
      generalize lat g.rs k = L at *
      obtain ⟨q, t, u⟩ := L
      dsimp only at hix
      have hsz := hkw.size
      by_cases hq : q = 0
      · have hs2 := hsn.out
        rw [if_neg (by simpa using hq)] at hs2
        have HS2 := Lib.hid hs2
        clear hs2
        subst hq
        go_wp2_with (first | (with_reducible refine Txt.wp_region_text mixed quiet (by decide +kernel) ?_) | (with_reducible refine Txt.text_done (by kernel_rfl) ?_))
        go_roundw
        case rel => exact ⟨k + 1, by omega, by go_num, hkw.alloc _, by rw [HS2.out]; exact HO.out.alloc _⟩
        case measure => simp [intOf]; omega
      · have hs2 := hsn.out
        rw [if_pos hq] at hs2
        have HS2 := Lib.hid hs2
        clear hs2
        go_wp2_with (first | (with_reducible refine Txt.wp_region_text mixed quiet (by decide +kernel) ?_) | (with_reducible refine Txt.text_done (by kernel_rfl) ?_) | (at_builtin; refine wpList_append_own _ rfl _ _ 35 rfl w.heap.size 39 i0 (.agg #[.int .i64 0, .int .i64 0, .int .i64 0]) 3 24 Try.underlying35 hi hz0 hz1 hz2 rfl (by decide) _ _ _ rfl ((HO.out.alloc _).alloc _) ⟨wr.heap.size + 1, 0, none⟩ 1 1 [.int .i64 q, .int .i64 t, .int .i64 u] rfl rfl (cells_new2 _ _ _ _) (by intro u hu; simp at hu; rcases hu with hu | hu | hu <;> (subst hu; rfl)) (by unfold maxLen; omega) (by omega) (by simp; omega) ?_; intro v' w1 hown1 hgr1 _; have HW := Lib.hid hown1; clear hown1; have HGR := Lib.hid hgr1; clear hgr1))
        go_roundw
        case rel => exact ⟨k + 1, by omega, by go_num, ((hkw.alloc _).alloc _).grown HGR.out (fun b hb => .inr (HO.out.lt b hb).1), by rw [HS2.out, lanesC_snoc, List.length_append]; exact HW.out⟩
        case measure => simp [intOf]; omega
    · obtain rfl : k = 9 := by omega
      go_wp2_with fail
      go_ret
      have hout := HO.out
      rw [List.take_of_length_le (by rw [hl9.out]; omega)] at hout
      obtain ⟨a, c, hv, hl, hb⟩ := LnsV.ofOwn hout
      exact ⟨a, _, c, by rw [← hv]; rfl, hkw, hl, hb⟩
end Go.Proofs.Ytmkdppbnmogmlaa
