import Derived.Test.YtkhchfjhmplaiaaH14
import Derived.Shelf.Bytes.SlEqualAll
namespace Go.Proofs
open Go.Shelf
def Try.laysEq50_ren : Go.Shelf.Ren := ⟨fun | 115 => 50 | n => n, fun | 37 => 60 | 5 => 5 | 4 => 4 | 9 => 9 | n => n, fun | n => n⟩
theorem Try.laysEq50 : Go.Proofs.Lays.nb115 Try.prog Try.laysEq50_ren := {
  mixed := by kernel_rfl
  f115 := Try.func50.trans (congrArg some (by kernel_rfl))
  t4 := Try.underlying4
  a4 := Try.isAgg4
  z4 := Try.sizeOf4
  v4 := Try.zeroValue4
  t9 := Try.underlying9
  a9 := Try.isAgg9
  z9 := Try.sizeOf9
  v9 := Try.zeroValue9
  t37 := Try.underlying60
  a37 := Try.isAgg60
  z37 := Try.sizeOf60
  v37 := Try.zeroValue60
  t5 := Try.underlying5
  a5 := Try.isAgg5
  z5 := Try.sizeOf5
  v5 := Try.zeroValue5 }
end Go.Proofs
namespace Go.Proofs.Ytkhchfjhmplaiaa
open Go.RowKit
/-- bytes.Equal of equal bytes. -/
theorem eqb_same {p1 p2 : Option Addr} {n c d : Nat} {xs : List Int} {w : World} (hx : xs.length = n) (h1 : Lib.BytesIn w p1 n xs) (h2 : Lib.BytesIn w p2 n xs) :
    Calls Try.prog 50 #[.slice p1 n c, .slice p2 n d] w fun e w' => e = .returned (.bool true) ∧ w' = w := by
  have h : Calls Try.prog 50 #[.slice p1 n c, .slice p2 n d] w fun e w' => e = .returned (.bool (Lib.bytesOf xs == Lib.bytesOf xs)) ∧ w' = w :=
    Any.bytes_Equal_all Try.laysEq50 p1 p2 n c n d xs xs w hx hx h1 h2
  rw [beq_self_eq_true] at h
  exact h
/-- A row of bytes of one's own, as an argument. -/
theorem own_bytes {w : World} {B n : Nat} {v : Value} {xs : List Int} (ho : w.ownsRow B 5 1 v n (bytesC xs)) : ∃ a c, v = .slice a n c ∧ Lib.BytesIn w a n xs ∧ xs.length = n ∧ n ≤ c ∧ c ≤ maxLen := by
  obtain ⟨hl, h⟩ := ho
  have hlen : xs.length = n := by simpa [bytesC] using hl
  rcases h with ⟨rfl, h0⟩ | ⟨g, cap, cur, rfl, hb, hg, hnc, hcm, hcs, ht⟩
  · subst h0
    exact ⟨none, 0, rfl, Lib.BytesIn.nil _ _ _, hlen, Nat.le_refl _, Nat.zero_le _⟩
  · refine ⟨_, _, rfl, fun _ => ⟨g, 0, rfl, fun i hi => ?_⟩, hlen, hnc, hcm⟩
    rw [Nat.zero_add, cell_of_row w g i cur 5 (0, 0) hg]
    have : (cur.toList.take (n * 1))[i]? = (bytesC xs)[i]? := by rw [ht]
    rw [List.getElem?_take, if_pos (by omega)] at this
    simp only [Array.getElem?_toList] at this
    rw [this]
    simp [bytesC, List.getD_eq_getElem?_getD, hlen ▸ hi]
theorem bytes_keep {w w' : World} {a : Option Addr} {n : Nat} {xs : List Int} (h : Lib.BytesIn w a n xs) (hk : Keep [] w w') : Lib.BytesIn w' a n xs := fun hn =>
  let ⟨b, o, h1, h2⟩ := h hn
  ⟨b, o, h1, fun i hi => hk.cell (h2 i hi) (by simp)⟩
theorem bytes_new (w : World) (xs : List Int) : Lib.BytesIn (w.alloc (.cells (bytesC xs).toArray 5)) (some ⟨w.heap.size, 0, none⟩) xs.length xs := fun _ => ⟨_, 0, rfl, fun i hi => by
  rw [Nat.zero_add, cell_of_row _ _ _ _ _ _ (blk_new w _)]
  simp [bytesC, List.getD_eq_getElem?_getD, hi]⟩
def one1 : List Ln := [⟨2, 1, 0⟩]
theorem one1_ok : HOk one1 := by
  refine ⟨by decide, fun i hi => ?_, fun i j h1 h2 => ?_, fun i j h1 h2 => ?_, fun i hi hg => ?_⟩
  · have : i = 0 := by simp [one1] at hi; exact hi
    subst this; decide
  · simp [one1] at h2; omega
  · simp [one1] at h2; omega
  · have : i = 0 := by simp [one1] at hi; exact hi
    subst this; exact absurd hg (by decide)
theorem one1_pack : packB one1 = [1, 6] := by
  simp [packB, packTo, evB, one1, encN]
set_option maxRecDepth 100000 in
theorem tbegun_any (w : World) : Calls Try.prog 35 #[] w fun e w' => e = .returned (.bool true) ∧ Keep [] w w' := by
  have hp := fun (v : LnsV (w.alloc (.cells #[.int .i64 2, .int .i64 1, .int .i64 0] 27)) (some ⟨w.heap.size, 0, none⟩) 1 1 one1) => pack_any v one1_ok
  rw [one1_pack] at hp
  have HV : LnsV (w.alloc (.cells #[.int .i64 2, .int .i64 1, .int .i64 0] 27)) (some ⟨w.heap.size, 0, none⟩) 1 1 one1 := by
    refine ⟨rfl, Nat.le_refl _, by unfold maxLen; omega, fun _ => ⟨w.heap.size, 0, rfl, fun j hj => ?_⟩⟩
    rw [Nat.zero_add, cell_of_row _ _ _ _ _ _ (blk_new w _)]
    simp [lanesC, one1, Ln.cells]
  have hkw : Keep [] w (w.alloc (.cells #[.int .i64 2, .int .i64 1, .int .i64 0] 27)) := (Keep.refl _ _).alloc _
  have HP := Lib.hid (hp HV)
  clear hp HV
  go_enter Try.func35, Try.ntmps35
  go_wp2_with (first | (go_at_call 48; refine HP.out.mono ?_; rintro e w1 ⟨v1, rfl, hk1, ho1⟩; obtain ⟨a1, c1, rfl, hb1, _⟩ := own_bytes ho1; have HB1 := Lib.hid (bytes_keep hb1 ((Keep.refl [] w1).alloc (.cells #[.int .u8 1, .int .u8 6] 5))); clear hb1 ho1) | (go_at_call 50; refine (eqb_same (xs := [1, 6]) rfl HB1.out (bytes_new w1 [1, 6])).mono ?_; rintro e w2 ⟨rfl, rfl⟩))
  go_ret
  exact ⟨rfl, hkw.trans (hk1.alloc _)⟩
end Go.Proofs.Ytkhchfjhmplaiaa
