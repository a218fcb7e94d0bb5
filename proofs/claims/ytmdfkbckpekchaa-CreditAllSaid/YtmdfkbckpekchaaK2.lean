import Derived.Test.YtmdfkbckpekchaaK1
namespace Go
structure PoolAt (w : World) (bp bl : Nat) (room turn : Int) (n : Nat) (ls : List Ln) : Prop where
  p : w.heap[bp]? = some (.cells #[.int .i64 room, .int .i64 turn, .slice (some ⟨bl, 0, none⟩) n n] 69 (0, 0))
  l : w.heap[bl]? = some (.cells (lanesC ls).toArray 71 (0, 0))
  len : ls.length = n
  ne : bp ≠ bl
theorem PoolAt.lane {w : World} {bp bl : Nat} {room turn : Int} {n : Nat} {ls : List Ln} (h : PoolAt w bp bl room turn n ls) {i : Nat} (hi : i < n) :
    w.cell? ⟨bl, i * 3, none⟩ = some (.int .i64 (ls.getD i ⟨0, 0, 0⟩).q) ∧ w.cell? ⟨bl, i * 3 + 1, none⟩ = some (.int .i64 (ls.getD i ⟨0, 0, 0⟩).g) ∧
      w.cell? ⟨bl, i * 3 + 2, none⟩ = some (.int .i64 (ls.getD i ⟨0, 0, 0⟩).u) := by
  have hl := h.len
  have at_ : ∀ f, f < 3 → w.cell? ⟨bl, i * 3 + f, none⟩ = (ls.getD i ⟨0, 0, 0⟩).cells[f]? := fun f hf => by
    rw [cellAt h.l]
    simpa using lanesC_at ls i f (by omega) hf
  exact ⟨at_ 0 (by omega), at_ 1 (by omega), at_ 2 (by omega)⟩
theorem lanes_put (ls : List Ln) (i f : Nat) (v : Value) (L : Ln) (hi : i < ls.length) (hf : f < 3) (hL : (ls.getD i ⟨0, 0, 0⟩).cells.set f v = L.cells) : (lanesC ls).set (i * 3 + f) v = lanesC (ls.set i L) := by
  rw [lanesC_set ls i f v hi hf, hL, List.set_eq_take_append_cons_drop, if_pos hi]
  simp [lanesC]
theorem PoolAt.put {w : World} {bp bl : Nat} {room turn : Int} {n : Nat} {ls : List Ln} (h : PoolAt w bp bl room turn n ls) {i : Nat} (hi : i < n) (f : Nat) (hf : f < 3) (v : Value) (L : Ln) (hL : (ls.getD i ⟨0, 0, 0⟩).cells.set f v = L.cells) :
    PoolAt (w.setCell ⟨bl, i * 3 + f, none⟩ v) bp bl room turn n (ls.set i L) := by
  have hl := h.len
  refine ⟨?_, ?_, by simpa using hl, h.ne⟩
  · rw [blk_setCell, if_neg (fun e => h.ne e.symm)]; exact h.p
  · rw [blk_setCell, if_pos rfl, h.l, Option.map_some, Obj.put_cells, ← lanes_put ls i f v L (by omega) hf hL]
    simp
theorem PoolAt.putTurn {w : World} {bp bl : Nat} {room turn : Int} {n : Nat} {ls : List Ln} (h : PoolAt w bp bl room turn n ls) (t : Int) :
    PoolAt (w.setCell ⟨bp, 1, none⟩ (.int .i64 t)) bp bl room t n ls := by
  refine ⟨?_, ?_, h.len, h.ne⟩
  · rw [blk_setCell, if_pos rfl, h.p]; rfl
  · rw [blk_setCell, if_neg h.ne]; exact h.l
theorem PoolAt.drew {w : World} {bp bl : Nat} {room turn : Int} {n : Nat} {ls : List Ln} (h : PoolAt w bp bl room turn n ls) : PoolAt w.drew bp bl room turn n ls := ⟨h.p, h.l, h.len, h.ne⟩
theorem PoolAt.keep {w w' : World} {S : List Nat} {bp bl : Nat} {room turn : Int} {n : Nat} {ls : List Ln} (h : PoolAt w bp bl room turn n ls) (k : Keep S w w') (h1 : bp ∉ S) (h2 : bl ∉ S) : PoolAt w' bp bl room turn n ls :=
  ⟨k.at h.p h1, k.at h.l h2, h.len, h.ne⟩
theorem getD_set_same (ls : List Ln) (i : Nat) (L : Ln) (hi : i < ls.length) : (ls.set i L).getD i ⟨0, 0, 0⟩ = L := by simp [List.getD_eq_getElem?_getD, hi]
theorem set_set_same (ls : List Ln) (i : Nat) (L M : Ln) : (ls.set i L).set i M = ls.set i M := by simp
end Go
namespace Go.Proofs.Ytmdfkbckpekchaa
open Go.RowKit
set_option maxHeartbeats 400000 in
theorem there_any {bp bl : Nat} {room turn : Int} {n : Nat} {ls : List Ln} {w : World} (h : PoolAt w bp bl room turn n ls) (i : Int) :
    Calls Try.prog 47 #[.pointer (some ⟨bp, 0, none⟩), .int .i64 i] w fun e w' => e = .returned (.bool (decide (0 ≤ i) && decide (i < (n : Int)))) ∧ w = w' := by
  obtain ⟨h0, h1, h2, hf⟩ := row3 h.p
  clear h
  go_enter Try.func47, Try.ntmps47
  go_wp2_with (first | (with_reducible refine Txt.wp_region_text mixed quiet (by kernel_rfl) ?_) | (with_reducible refine Txt.text_done (by kernel_rfl) ?_))
  all_goals go_ret
  · rename_i hi
    exact ⟨ret_bool (by simp [hi]), rfl⟩
  · rename_i hi
    exact ⟨ret_bool (by simp; omega), rfl⟩
theorem there_in {bp bl : Nat} {room turn : Int} {n : Nat} {ls : List Ln} {w : World} (h : PoolAt w bp bl room turn n ls) {i : Nat} (hi : i < n) :
    Calls Try.prog 47 #[.pointer (some ⟨bp, 0, none⟩), .int .i64 i] w fun e w' => e = .returned (.bool true) ∧ w = w' :=
  (there_any h i).mono fun e w' ⟨he, hw⟩ => ⟨he.trans (ret_bool (by simp [hi])), hw⟩
set_option maxHeartbeats 400000 in
theorem use_ok {bp bl : Nat} {room turn : Int} {n : Nat} {ls : List Ln} {w : World} (h : PoolAt w bp bl room turn n ls) {i : Nat} (hi : i < n) {q g u : Int} (hL : ls.getD i ⟨0, 0, 0⟩ = ⟨q, g, u⟩) (hg : 0 < g) (hg1 : g ≤ 64) (hu : 0 ≤ u) (hu1 : u ≤ 64) :
    Calls Try.prog 35 #[.pointer (some ⟨bp, 0, none⟩), .int .i64 i] w fun e w' => e = .returned (.int .i64 0) ∧ Keep [bl] w w' ∧ PoolAt w' bp bl room turn n (ls.set i ⟨q, g - 1, u + 1⟩) := by
  obtain ⟨h0, h1, h2, hf⟩ := row3 h.p
  obtain ⟨l0, l1, l2⟩ := h.lane hi
  have lf := thaw h.l
  have hne := h.ne
  have HT := Lib.hid (there_in h hi)
  have HP := Lib.hid h
  rw [hL] at l0 l1 l2
  have HL := Lib.hid hL
  clear h hL
  go_enter Try.func35, Try.ntmps35
  go_wp2_with (first | (go_at_call 47; (with_reducible refine (HT.out).mono ?_); rintro e w' ⟨rfl, rfl⟩))
  go_ret
  refine ⟨rfl, ?_, ?_⟩
  · repeat (first | exact Keep.refl _ _ | apply Keep.drew | apply Keep.alloc | refine Keep.setCell ?_ (by simp) _)
  · have h1 := HP.out.put hi 1 (by omega) (.int .i64 (g - 1)) ⟨q, g - 1, u⟩ (by rw [HL.out]; rfl)
    have h2 := h1.put hi 2 (by omega) (.int .i64 (u + 1)) ⟨q, g - 1, u + 1⟩ (by rw [getD_set_same _ _ _ (by have := HP.out.len; omega)]; rfl)
    rw [set_set_same] at h2
    exact h2
end Go.Proofs.Ytmdfkbckpekchaa
