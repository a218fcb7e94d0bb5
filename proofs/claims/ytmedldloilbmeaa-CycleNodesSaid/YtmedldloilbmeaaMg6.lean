/- Texts laid together: YS2 YS5 Y8 Y9 YP4 Y16. -/
import Derived.Test.YtmedldloilbmeaaMg5
import Derived.Shelf.Slices.Turned
import Derived.Shelf.Slices.Equal
import Derived.Shelf.Slices.Empties
import Derived.Shelf.Slices.Empties2
import Derived.Ground.Names2Prog
import Derived.Shelf.Slices.SearchI
import Derived.Deep.QuietTactic
import Derived.BigQuiet
/- The contracts of slices.Contains and slices.Equal at this program. -/
namespace Go.Proofs
open Go.Shelf
def Try.lays108_ren : Go.Shelf.Ren := ⟨fun | 108 => 40 | n => n, fun | 28 => 22 | 3 => 3 | 0 => 0 | 4 => 4 | n => n, fun | n => n⟩
theorem Try.lays108 : Go.Proofs.Lays.n108 Try.prog Try.lays108_ren := {
  mixed := by kernel_rfl
  f108 := Try.func40.trans (congrArg some (by kernel_rfl))
  t0 := Try.underlying0
  a0 := Try.isAgg0
  z0 := Try.sizeOf0
  v0 := Try.zeroValue0
  t3 := Try.underlying3
  a3 := Try.isAgg3
  z3 := Try.sizeOf3
  v3 := Try.zeroValue3
  t4 := Try.underlying4
  a4 := Try.isAgg4
  z4 := Try.sizeOf4
  v4 := Try.zeroValue4
  t28 := Try.underlying22
  a28 := Try.isAgg22
  z28 := Try.sizeOf22
  v28 := Try.zeroValue22 }
def Try.lays107_ren : Go.Shelf.Ren := ⟨fun | 107 => 14 | 108 => 40 | n => n, fun | 28 => 22 | 3 => 3 | 4 => 4 | 0 => 0 | n => n, fun | n => n⟩
theorem Try.lays107 : Go.Proofs.Lays.n107 Try.prog Try.lays107_ren := {
  mixed := by kernel_rfl
  f107 := Try.func14.trans (congrArg some (by kernel_rfl))
  f108 := Try.func40.trans (congrArg some (by kernel_rfl))
  t0 := Try.underlying0
  a0 := Try.isAgg0
  z0 := Try.sizeOf0
  v0 := Try.zeroValue0
  t3 := Try.underlying3
  a3 := Try.isAgg3
  z3 := Try.sizeOf3
  v3 := Try.zeroValue3
  t4 := Try.underlying4
  a4 := Try.isAgg4
  z4 := Try.sizeOf4
  v4 := Try.zeroValue4
  t28 := Try.underlying22
  a28 := Try.isAgg22
  z28 := Try.sizeOf22
  v28 := Try.zeroValue22 }
open Go.Lib in
theorem Try.slices_Contains_int (b off n c : Nat) (zs : List Int) (x : Int) (w : World) (hz : n ≤ zs.length) (hbig : n ≤ 9223372036854775807) (hc : ∀ j, j < zs.length → w.cell? ⟨b, off + j, none⟩ = some (.int .i64 (zs.getD j 0))) :
    Calls Try.prog 14 #[.slice (some ⟨b, off, none⟩) n c, .int .i64 x] w fun e w' => e = .returned (.bool ((zs.take n).contains x)) ∧ w' = w := Any.slices_Contains_int Try.lays107 b off n c zs x w hz hbig hc
open Go.Lib in
theorem Try.slices_Contains_int_empty (a : Option Addr) (c : Nat) (x : Int) (w : World) :
    Calls Try.prog 14 #[.slice a 0 c, .int .i64 x] w fun e w' => e = .returned (.bool false) ∧ w' = w := Any.slices_Contains_int_empty Try.lays107 a c x w
def Try.lays111_ren : Go.Shelf.Ren := ⟨fun | 111 => 18 | n => n, fun | 28 => 22 | 3 => 3 | 4 => 4 | 0 => 0 | n => n, fun | n => n⟩
theorem Try.lays111 : Go.Proofs.Lays.n111 Try.prog Try.lays111_ren := {
  mixed := by kernel_rfl
  f111 := Try.func18.trans (congrArg some (by kernel_rfl))
  t0 := Try.underlying0
  a0 := Try.isAgg0
  z0 := Try.sizeOf0
  v0 := Try.zeroValue0
  t3 := Try.underlying3
  a3 := Try.isAgg3
  z3 := Try.sizeOf3
  v3 := Try.zeroValue3
  t4 := Try.underlying4
  a4 := Try.isAgg4
  z4 := Try.sizeOf4
  v4 := Try.zeroValue4
  t28 := Try.underlying22
  a28 := Try.isAgg22
  z28 := Try.sizeOf22
  v28 := Try.zeroValue22 }
open Go.RowKit Go.Lib in
theorem Try.slices_Equal_int (b1 o1 n c b2 o2 m d : Nat) (xs ys : List Int) (w : World) (hx : n ≤ xs.length) (hy : m ≤ ys.length) (hbig : n ≤ 9223372036854775807) (hbig2 : m ≤ 9223372036854775807) (hc1 : ∀ j, j < xs.length → w.cell? ⟨b1, o1 + j, none⟩ = some (.int .i64 (xs.getD j 0))) (hc2 : ∀ j, j < ys.length → w.cell? ⟨b2, o2 + j, none⟩ = some (.int .i64 (ys.getD j 0))) :
    Calls Try.prog 18 #[.slice (some ⟨b1, o1, none⟩) n c, .slice (some ⟨b2, o2, none⟩) m d] w fun e w' => e = .returned (.bool (xs.take n == ys.take m)) ∧ ∃ q, w' = w.drewN q := Any.slices_Equal_int Try.lays111 b1 o1 n c b2 o2 m d xs ys w hx hy hbig hbig2 hc1 hc2
open Go.RowKit Go.Lib in
theorem Try.slices_Equal_int_empty (a1 a2 : Option Addr) (c m d : Nat) (w : World) (hbig2 : m ≤ 9223372036854775807) :
    Calls Try.prog 18 #[.slice a1 0 c, .slice a2 m d] w fun e w' => e = .returned (.bool (decide (m = 0))) ∧ w' = w := Any.slices_Equal_int_empty Try.lays111 a1 a2 c m d w hbig2
open Go.RowKit Go.Lib in
theorem Try.slices_Equal_int_lens (a1 a2 : Option Addr) (n c m d : Nat) (w : World) (hnm : n ≠ m) :
    Calls Try.prog 18 #[.slice a1 n c, .slice a2 m d] w fun e w' => e = .returned (.bool false) ∧ w' = w := Any.slices_Equal_int_lens Try.lays111 a1 a2 n c m d w hnm
end Go.Proofs
/- The contract of cmp.Less at this program. -/
namespace Go.Proofs
open Go.Shelf
def Try.laysNm237_ren : Go.Shelf.Ren := ⟨fun | 37 => 58 | n => n, fun | 3 => 3 | 4 => 4 | n => n, fun | n => n⟩
theorem Try.laysNm237 : Go.Proofs.Lays2.n37 Try.prog Try.laysNm237_ren := {
  mixed := by kernel_rfl
  f37 := Try.func58.trans (congrArg some (by kernel_rfl))
  t3 := Try.underlying3
  a3 := Try.isAgg3
  z3 := Try.sizeOf3
  v3 := Try.zeroValue3
  t4 := Try.underlying4
  a4 := Try.isAgg4
  z4 := Try.sizeOf4
  v4 := Try.zeroValue4 }
def Try.laysNm231_ren : Go.Shelf.Ren := ⟨fun | 31 => 43 | 37 => 58 | n => n, fun | 3 => 3 | 4 => 4 | n => n, fun | n => n⟩
theorem Try.laysNm231 : Go.Proofs.Lays2.n31 Try.prog Try.laysNm231_ren := {
  mixed := by kernel_rfl
  f31 := Try.func43.trans (congrArg some (by kernel_rfl))
  f37 := Try.func58.trans (congrArg some (by kernel_rfl))
  t3 := Try.underlying3
  a3 := Try.isAgg3
  z3 := Try.sizeOf3
  v3 := Try.zeroValue3
  t4 := Try.underlying4
  a4 := Try.isAgg4
  z4 := Try.sizeOf4
  v4 := Try.zeroValue4 }
open Go.RowKit Go.Lib in
theorem Try.cmp_Less_int2 (x y : Int) (w : World) :
    Calls Try.prog 43 #[.int .i64 x, .int .i64 y] w fun e w' => e = .returned (.bool (decide (x < y))) ∧ w' = w := Any.cmp_Less_int2 Try.laysNm231 x y w
end Go.Proofs
/- Marking: what the statements ask of slices, and cycleBegun. -/
namespace Go
theorem sorted_ext {l1 l2 : List Int} (h1 : l1.Nodup) (h2 : l2.Nodup) (h3 : l1.Pairwise (· ≤ ·)) (h4 : l2.Pairwise (· ≤ ·)) (h : ∀ x, x ∈ l1 ↔ x ∈ l2) : l1 = l2 :=
  List.Perm.eq_of_pairwise (fun _ _ _ _ h5 h6 => Int.le_antisymm h5 h6) h3 h4 ((List.perm_ext_iff_of_nodup h1 h2).2 h)
end Go
namespace Go.Proofs.Ytmedldloilbmeaa
open Go.RowKit
theorem contains14_any {w : World} {a : Option Addr} {n c : Nat} {xs : List Int} {x : Int} (h : IntsV w a n c xs) :
    Calls Try.prog 14 #[.slice a n c, .int .i64 x] w fun e w' => e = .returned (.bool (decide (x ∈ xs))) ∧ w' = w := by
  have hm := h.most
  have hr := h.room
  unfold maxLen at hm
  by_cases h0 : 0 < n
  · obtain ⟨b, off, rfl, hc⟩ := h.cells h0
    refine (Go.Proofs.Try.slices_Contains_int b off n c xs x w (by rw [h.len]; exact Nat.le_refl _) (by omega) (fun j hj => hc j (by have := h.len; omega))).mono ?_
    rintro e w' ⟨rfl, rfl⟩
    refine ⟨?_, rfl⟩
    rw [List.take_of_length_le (by rw [h.len]; exact Nat.le_refl _)]
    exact ret_bool (by rw [Bool.eq_iff_iff]; simp)
  · obtain rfl : n = 0 := by omega
    have hx : xs = [] := List.eq_nil_of_length_eq_zero h.len
    subst hx
    refine (Go.Proofs.Try.slices_Contains_int_empty a c x w).mono ?_
    rintro e w' ⟨rfl, rfl⟩
    exact ⟨by simp, rfl⟩
theorem drewN_keep (w : World) (q : Nat) : Keep [] w (w.drewN q) := by
  induction q with
  | zero => exact Keep.refl _ _
  | succ q ih => exact ih.drew
theorem equal18_any {w : World} {a1 a2 : Option Addr} {n c1 m c2 : Nat} {xs ys : List Int} (h1 : IntsV w a1 n c1 xs) (h2 : IntsV w a2 m c2 ys) :
    Calls Try.prog 18 #[.slice a1 n c1, .slice a2 m c2] w fun e w' => e = .returned (.bool (decide (xs = ys))) ∧ Keep [] w w' := by
  have hm1 := h1.most
  have hr1 := h1.room
  have hm2 := h2.most
  have hr2 := h2.room
  unfold maxLen at hm1 hm2
  by_cases hnm : n = m
  · subst hnm
    by_cases h0 : 0 < n
    · obtain ⟨b1, o1, rfl, hc1⟩ := h1.cells h0
      obtain ⟨b2, o2, rfl, hc2⟩ := h2.cells h0
      refine (Go.Proofs.Try.slices_Equal_int b1 o1 n c1 b2 o2 n c2 xs ys w (by rw [h1.len]; exact Nat.le_refl _) (by rw [h2.len]; exact Nat.le_refl _) (by omega) (by omega) (fun j hj => hc1 j (by have := h1.len; omega)) (fun j hj => hc2 j (by have := h2.len; omega))).mono ?_
      rintro e w' ⟨rfl, q, rfl⟩
      refine ⟨?_, drewN_keep w q⟩
      rw [List.take_of_length_le (by rw [h1.len]; exact Nat.le_refl _), List.take_of_length_le (by rw [h2.len]; exact Nat.le_refl _)]
      exact ret_bool (by rw [Bool.eq_iff_iff]; simp)
    · obtain rfl : n = 0 := by omega
      have hx : xs = [] := List.eq_nil_of_length_eq_zero h1.len
      have hy : ys = [] := List.eq_nil_of_length_eq_zero h2.len
      subst hx hy
      refine (Go.Proofs.Try.slices_Equal_int_empty a1 a2 c1 0 c2 w (by omega)).mono ?_
      rintro e w' ⟨rfl, rfl⟩
      exact ⟨by simp, Keep.refl _ _⟩
  · refine (Go.Proofs.Try.slices_Equal_int_lens a1 a2 n c1 m c2 w hnm).mono ?_
    rintro e w' ⟨rfl, rfl⟩
    refine ⟨ret_bool ?_, Keep.refl _ _⟩
    refine (decide_eq_false fun he => hnm ?_).symm
    rw [← h1.len, ← h2.len, he]
set_option maxRecDepth 100000 in
set_option maxHeartbeats 2000000 in
theorem isSorted22_ok {w : World} {a : Option Addr} {n c : Nat} {xs : List Int} (h : IntsV w a n c xs) (hs : xs.Pairwise (· ≤ ·)) (hn : n ≤ 1000000) :
    Calls Try.prog 22 #[.slice a n c] w fun e w' => e = .returned (.bool true) ∧ Keep [] w w' := by
  have HV := Lib.hid h
  have HS := Lib.hid hs
  have hr := h.room
  have hm := h.most
  unfold maxLen at hm
  have hw0 : IntKind.i64.wrap ((n : Int) - 1) = (n : Int) - 1 := by simp [IntKind.wrap, IntKind.bits, IntKind.signed]; omega
  clear h hs
  go_enter Try.func22, Try.ntmps22
  go_wp2_with (first | (with_reducible refine Txt.wp_region_text mixed quiet (by decide +kernel) ?_) | (with_reducible refine Txt.text_done (by kernel_rfl) ?_))
  go_loopw [3] (fun j wr => ∃ i : Int, -1 ≤ i ∧ i < n ∧ j = .int .i64 i ∧ Keep [] w wr) (fun j _ => (intOf j + 1).toNat)
  case atStart => exact ⟨(n : Int) - 1, by omega, by omega, rfl, Keep.refl _ _⟩
  case round =>
    obtain ⟨i, h1, h2, rfl, hk⟩ := hrel
    by_cases hi : 0 < i
    · obtain ⟨k, rfl⟩ : ∃ k : Nat, i = (k : Int) + 1 := ⟨(i - 1).toNat, by omega⟩
      obtain ⟨b, off, rfl, hc⟩ := (HV.out.keep hk (by simp)).cells (by omega)
      have hc0 := hc k (by omega)
      have hc1 := hc (k + 1) (by omega)
      obtain ⟨x, hx⟩ : ∃ x, xs.getD k 0 = x := ⟨_, rfl⟩
      obtain ⟨y, hy⟩ : ∃ y, xs.getD (k + 1) 0 = y := ⟨_, rfl⟩
      have hle : x ≤ y := by
        have hl := HV.out.len
        rw [← hx, ← hy, List.getD_eq_getElem?_getD, List.getD_eq_getElem?_getD, List.getElem?_eq_getElem (by omega), List.getElem?_eq_getElem (by omega)]
        exact List.pairwise_iff_getElem.1 HS.out k (k + 1) (by omega) (by omega) (by omega)
      rw [hx] at hc0
      rw [hy] at hc1
      have hkn : k < n := by omega
      have h0k : (0 : Int) ≤ (k : Int) + 1 := by omega
      have hw1 : IntKind.i64.wrap (k : Int) = (k : Int) := by simp [IntKind.wrap, IntKind.bits, IntKind.signed]; omega
      have HLE : Hid (decide (y < x) = false) := Lib.hid (decide_eq_false (by omega))
      clear hc hx hy
      go_wp2_with fail
      go_region_law (first | (go_simp; go_at_call 43; (with_reducible refine (Go.Proofs.Try.cmp_Less_int2 y x _).mono ?_); rintro e w2 ⟨rfl, rfl⟩; rw [HLE.out]))
      all_goals
        go_wp2_with (first | (with_reducible refine Txt.wp_region_text mixed quiet (by decide +kernel) ?_) | (with_reducible refine Txt.text_done (by kernel_rfl) ?_))
        exact ⟨⟨(k : Int), by omega, by omega, by go_num, hk.drew⟩, by simp [intOf]; omega⟩
    · go_wp2_with (first | (with_reducible refine Txt.wp_region_text mixed quiet (by decide +kernel) ?_) | (with_reducible refine Txt.text_done (by kernel_rfl) ?_))
      go_ret
      exact ⟨rfl, hk⟩
theorem beg_out {out : List Int} {R : Int → Option (List Int)} {S : Int → Prop} (hR : ∀ x, R x = if x = 6 then some [] else if x = 5 then some [4] else if x = 4 then some [5] else none) (hS : ∀ x, S x ↔ x = 6) (h1 : out.Nodup) (h2 : out.Pairwise (· ≤ ·)) (h : ∀ x, x ∈ out ↔ ((R x).isSome = true ∧ ¬ Rch R S x)) : out = [4, 5] := by
  have hr : ∀ x, Rch R S x → x = 6 := fun x hx => by
    induction hx with
    | seed h _ => exact (hS _).1 h
    | step _ h3 h4 _ ih =>
      subst ih
      rw [hR] at h3
      simp at h3
      subst h3
      cases h4
  have h6 : Rch R S 6 := .seed ((hS 6).2 rfl) (by rw [hR]; rfl)
  refine sorted_ext h1 (by decide) h2 (by decide) fun x => ?_
  rw [h]
  constructor
  · rintro ⟨h3, h4⟩
    rw [hR] at h3
    by_cases e6 : x = 6
    · subst e6; exact absurd h6 h4
    · by_cases e5 : x = 5
      · subst e5; decide
      · by_cases e4 : x = 4
        · subst e4; decide
        · rw [if_neg e6, if_neg e5, if_neg e4] at h3; cases h3
  · intro hx
    simp at hx
    rcases hx with rfl | rfl
    · exact ⟨by rw [hR]; rfl, fun h => by have := hr _ h; omega⟩
    · exact ⟨by rw [hR]; rfl, fun h => by have := hr _ h; omega⟩
def begKs (g : Nat) : List Kn := [⟨4, false, false, some ⟨g, 0, none⟩, 1, [5]⟩, ⟨5, false, false, some ⟨g + 1, 0, none⟩, 1, [4]⟩, ⟨6, true, false, none, 0, []⟩]
theorem one_int {w : World} {g : Nat} {z : Int} (hb : w.heap[g]? = some (.cells #[.int .i64 z] 3 (0, 0))) (hz : (Lit.int .i64 z).wf = true) : IntsV w (some ⟨g, 0, none⟩) 1 1 [z] :=
  ⟨rfl, Nat.le_refl _, by unfold maxLen; omega, fun x hx => by rw [List.mem_singleton.1 hx]; exact hz, fun _ => ⟨g, 0, rfl, fun i hi => by
    obtain rfl : i = 0 := by omega
    exact cellAt hb 0⟩⟩
theorem two_ints (w : World) (y z : Int) (hy : (Lit.int .i64 y).wf = true) (hz : (Lit.int .i64 z).wf = true) : IntsV (w.alloc (.cells #[.int .i64 y, .int .i64 z] 3)) (some ⟨w.heap.size, 0, none⟩) 2 2 [y, z] :=
  ⟨rfl, Nat.le_refl _, by unfold maxLen; omega, fun x hx => by
    simp only [List.mem_cons, List.not_mem_nil, or_false] at hx
    rcases hx with rfl | rfl <;> assumption, fun _ => ⟨w.heap.size, 0, rfl, fun i hi => by
    have hb := blk_new w (.cells #[.int .i64 y, .int .i64 z] 3)
    rcases (show i = 0 ∨ i = 1 by omega) with rfl | rfl
    · exact cellAt hb 0
    · exact cellAt hb 1⟩⟩
theorem begKns (w : World) : KnsV (((w.alloc (.cells #[.int .i64 5] 3)).alloc (.cells #[.int .i64 4] 3)).alloc (.cells #[.int .i64 4, .bool false, .bool false, .slice (some ⟨w.heap.size, 0, none⟩) 1 1, .int .i64 5, .bool false, .bool false, .slice (some ⟨w.heap.size + 1, 0, none⟩) 1 1, .int .i64 6, .bool true, .bool false, .slice none 0 0] 38)) (some ⟨w.heap.size + 1 + 1, 0, none⟩) 3 3 (begKs w.heap.size) := by
  have b0 := blk_new w (.cells #[.int .i64 5] 3)
  have b1 := blk_new (w.alloc (.cells #[.int .i64 5] 3)) (.cells #[.int .i64 4] 3)
  have b2 := blk_new ((w.alloc (.cells #[.int .i64 5] 3)).alloc (.cells #[.int .i64 4] 3)) (.cells #[.int .i64 4, .bool false, .bool false, .slice (some ⟨w.heap.size, 0, none⟩) 1 1, .int .i64 5, .bool false, .bool false, .slice (some ⟨w.heap.size + 1, 0, none⟩) 1 1, .int .i64 6, .bool true, .bool false, .slice none 0 0] 38)
  have s1 : (w.alloc (.cells #[.int .i64 5] 3)).heap.size = w.heap.size + 1 := by simp
  have s2 : ((w.alloc (.cells #[.int .i64 5] 3)).alloc (.cells #[.int .i64 4] 3)).heap.size = w.heap.size + 1 + 1 := by simp
  rw [s1] at b1
  rw [s2] at b2
  have c0 := ((((Keep.refl [] _).alloc (.cells #[.int .i64 4] 3)).alloc (.cells #[.int .i64 4, .bool false, .bool false, .slice (some ⟨w.heap.size, 0, none⟩) 1 1, .int .i64 5, .bool false, .bool false, .slice (some ⟨w.heap.size + 1, 0, none⟩) 1 1, .int .i64 6, .bool true, .bool false, .slice none 0 0] 38))).at b0 (by simp)
  have c1 := ((Keep.refl [] _).alloc (.cells #[.int .i64 4, .bool false, .bool false, .slice (some ⟨w.heap.size, 0, none⟩) 1 1, .int .i64 5, .bool false, .bool false, .slice (some ⟨w.heap.size + 1, 0, none⟩) 1 1, .int .i64 6, .bool true, .bool false, .slice none 0 0] 38)).at b1 (by simp)
  refine ⟨rfl, Nat.le_refl _, by unfold maxLen; omega, fun _ => ⟨w.heap.size + 1 + 1, 0, rfl, ⟨_, b2⟩, fun j v hj => ?_⟩, fun x hx => ?_⟩
  · rw [Nat.zero_add, cell_of_row _ _ j _ 38 (0, 0) b2]
    have : (knsC (begKs w.heap.size)) = [.int .i64 4, .bool false, .bool false, .slice (some ⟨w.heap.size, 0, none⟩) 1 1, .int .i64 5, .bool false, .bool false, .slice (some ⟨w.heap.size + 1, 0, none⟩) 1 1, .int .i64 6, .bool true, .bool false, .slice none 0 0] := rfl
    rw [this] at hj
    simpa using hj
  · simp only [begKs, List.mem_cons, List.not_mem_nil, or_false] at hx
    rcases hx with rfl | rfl | rfl
    · exact ⟨one_int c0 (by decide), (by decide : (Lit.int .i64 4).wf = true), fun ad ha => by cases ha; exact ⟨_, c0⟩⟩
    · exact ⟨one_int c1 (by decide), (by decide : (Lit.int .i64 5).wf = true), fun ad ha => by cases ha; exact ⟨_, c1⟩⟩
    · exact ⟨IntsV.nil _, (by decide : (Lit.int .i64 6).wf = true), fun ad ha => by cases ha⟩
theorem begS (g : Nat) : ∀ k ∈ begKs g, k.refs.length ≤ 100 := fun k hk => by
  simp only [begKs, List.mem_cons, List.not_mem_nil, or_false] at hk
  rcases hk with rfl | rfl | rfl <;> simp
theorem begN (g : Nat) : ((begKs g).map Kn.ref).Nodup := by simp [begKs]
theorem begF (g : Nat) : ∀ x, x ∈ firsts (begKs g) ↔ x = 6 := fun x => by simp [firsts, begKs]
theorem begR (g : Nat) : ∀ x, refsR (begKs g) x = if x = 6 then some [] else if x = 5 then some [4] else if x = 4 then some [5] else none := fun x => by
  unfold refsR begKs
  simp only [List.reverse_cons, List.reverse_nil, List.nil_append, List.cons_append, List.find?_cons, List.find?_nil]
  by_cases h6 : x = 6
  · subst h6; rfl
  · rw [if_neg h6, show decide ((6 : Int) = x) = false from decide_eq_false (fun e => h6 e.symm)]
    by_cases h5 : x = 5
    · subst h5; rfl
    · rw [if_neg h5, show decide ((5 : Int) = x) = false from decide_eq_false (fun e => h5 e.symm)]
      by_cases h4 : x = 4
      · subst h4; rfl
      · rw [if_neg h4, show decide ((4 : Int) = x) = false from decide_eq_false (fun e => h4 e.symm)]
        rfl
set_option maxRecDepth 100000 in
set_option maxHeartbeats 2000000 in
theorem begun19_any {w : World} : Calls Try.prog 19 #[] w fun e w' => e = .returned (.bool true) ∧ Keep [] w w' := by
  have HB := Lib.hid (begKns w)
  go_enter Try.func19, Try.ntmps19
  go_wp2_with (first | (with_reducible refine Txt.wp_region_text mixed quiet (by decide +kernel) ?_) | (with_reducible refine Txt.text_done (by kernel_rfl) ?_) | (go_at_call 21; (with_reducible refine (garbage21_any HB.out (by decide) (begS _) (begN _)).mono ?_); rintro e1 w1 ⟨out, v, rfl, h1, h2, h3, h4, h5, h6⟩; have he := beg_out (begR _) (begF _) h3 h4 h6; subst he; obtain ⟨a1, c1, rfl, hv1, -⟩ := IntsV.ofOwn h1 h5; have HV1 : Hid (∀ o, IntsV (w1.alloc o) a1 2 c1 [4, 5]) := Lib.hid (fun o => hv1.keep ((Keep.refl [] w1).alloc o) (by simp)); have HK := Lib.hid ((((Keep.refl [] w).alloc _).alloc _).alloc _ |>.trans h2); clear h1 h2 h3 h4 h5 h6 hv1) | (go_at_call 18; (with_reducible refine (equal18_any (HV1.out _) (two_ints _ 4 5 (by decide) (by decide))).mono ?_); rintro e2 w2 ⟨rfl, hk2⟩))
  go_ret
  exact ⟨rfl, (HK.out.alloc _).trans hk2⟩
end Go.Proofs.Ytmedldloilbmeaa
/- CycleSafe: the walk. -/
namespace Go
/-- What the garbage of a list is. -/
def IsGarb (ks : List Kn) (out : List Int) : Prop := ∀ x, x ∈ out ↔ ((refsR ks x).isSome = true ∧ ¬ Rch (refsR ks) (fun x => x ∈ firsts ks) x)
theorem IsGarb.safe {ks : List Kn} {out : List Int} (h : IsGarb ks out) {x : Kn} (hx : x ∈ ks) (ho : x.ref ∈ out) : x.root = false ∧ x.awake = false := by
  have h1 := ((h x.ref).1 ho)
  have h2 : ¬ (x.root = true ∨ x.awake = true) := fun hr => h1.2 (.seed (firsts_mem.2 ⟨x, hx, rfl, hr⟩) h1.1)
  constructor
  · cases hr : x.root with
    | false => rfl
    | true => exact absurd (.inl hr) h2
  · cases hr : x.awake with
    | false => rfl
    | true => exact absurd (.inr hr) h2
theorem IsGarb.live {ks : List Kn} {out : List Int} (hn : (ks.map Kn.ref).Nodup) (h : IsGarb ks out) {x : Kn} (hx : x ∈ ks) (ho : x.ref ∉ out) {r : Int} (hr : r ∈ x.refs) : r ∉ out := fun hro => by
  have hR := refsR_of hn hx
  have hl : Rch (refsR ks) (fun x => x ∈ firsts ks) x.ref := Classical.byContradiction fun hnot => ho ((h x.ref).2 ⟨by rw [hR]; rfl, hnot⟩)
  obtain ⟨h1, h2⟩ := (h r).1 hro
  exact h2 (.step hl hR hr h1)
end Go
namespace Go.Proofs.Ytmedldloilbmeaa
open Go.RowKit
set_option maxRecDepth 100000 in
set_option maxHeartbeats 4000000 in
theorem cycleSafe_walk (ap : Option Addr) (len cap : Nat) (zs : List Int) (w : World) (hz : IntsV w ap len cap zs) :
    Calls Try.prog 4 #[.slice ap len cap] w fun e w' => e = .returned (.bool true) ∧ Keep [] w w' := by
  have HZ := Lib.hid hz
  clear hz
  go_enter Try.func4, Try.ntmps4
  go_wp2_with (first | (with_reducible refine Txt.wp_region_text mixed quiet (by decide +kernel) ?_) | (with_reducible refine Txt.text_done (by kernel_rfl) ?_) | (go_at_call 19; (with_reducible refine begun19_any.mono ?_); rintro e w1 ⟨rfl, hk1⟩; have HK1 := Lib.hid hk1; clear hk1) | (go_at_call 20; (with_reducible refine (knows20_any (HZ.out.keep HK1.out (by simp))).mono ?_); rintro e w2 ⟨v, ks, rfl, ho2, hi2, hl2, hk2⟩; obtain ⟨a2, c2, rfl, hv2, -⟩ := KnsV.ofOwn ho2 (fun x hx => (hi2 x hx).1); have HV2 := Lib.hid hv2; have HL2 := Lib.hid hl2; have HK2 := Lib.hid (HK1.out.trans hk2); have hc2 := hv2.room; have hm2 := hv2.most; unfold maxLen at hm2; have hf2 := hl2.few; clear ho2 hi2 hl2 hk2 hv2) | (go_at_call 21; (with_reducible refine (garbage21_any HV2.out (by omega) (fun k hk => Nat.le_trans (HL2.out.small k hk) (by decide)) HL2.out.nodup).mono ?_); rintro e w3 ⟨out, v3, rfl, h1, h2, h3, h4, h5, h6⟩; obtain ⟨a3, c3, rfl, hv3, -⟩ := IntsV.ofOwn h1 h5; have HV3 := Lib.hid hv3; have HS3 := Lib.hid h4; have HG3 : Hid (IsGarb ks out) := Lib.hid h6; have HK3 := Lib.hid (HK2.out.trans h2); have HV23 := Lib.hid (HV2.out.keep0 h2); have hN3 : out.length ≤ 40 := (by have := nodup_len out (ks.map Kn.ref) h3 (fun x hx => refsR_univ x ((h6 x).1 hx).1); rw [List.length_map] at this; omega); clear h1 h2 h3 h4 h5 h6 hv3) | (go_at_call 22; (with_reducible refine (isSorted22_ok HV3.out HS3.out (by omega)).mono ?_); rintro e w4 ⟨rfl, hk4⟩; have HK4 := Lib.hid (HK3.out.trans hk4); have HV4 := Lib.hid (HV3.out.keep hk4 (by simp)); have HV24 := Lib.hid (HV23.out.keep0 hk4); clear hk4))
  obtain ⟨n, hn⟩ : ∃ n, ks.length = n := ⟨_, rfl⟩
  have HN := Lib.hid hn
  rw [hn] at HV24 hc2 hf2 ⊢
  clear hn HV2 HV23 HV3 HS3 HK2 HK3
  go_loopw [28] (fun j wr => ∃ i : Nat, i ≤ n ∧ j = .int .i64 i ∧ Hid (Keep [] w4 wr)) (fun j _ => n - (intOf j).toNat)
  case atStart => exact ⟨0, by omega, rfl, Lib.hid (Keep.refl _ _)⟩
  case round =>
    obtain ⟨i, hi, rfl, HK⟩ := hrel
    by_cases hlt : i < n
    · obtain ⟨x, hxi⟩ : ∃ x, ks[i]? = some x := ⟨_, List.getElem?_eq_getElem (by have := HN.out; omega)⟩
      obtain ⟨b1, off, hab, c0, c1, c2', c3'⟩ := (HV24.out.keep0 HK.out).at_ hxi
      have HX := Lib.hid (List.mem_of_getElem? hxi)
      have hdec : decide ((i : Int) < (n : Int)) = true := by simp; omega
      obtain ⟨m, hm⟩ : ∃ m, x.refs.length = m := ⟨_, rfl⟩
      rw [hm] at c3'
      have HM := Lib.hid hm
      have hm4 : m ≤ 4 := by rw [← hm]; exact HL2.out.small x HX.out
      have HVO : Hid (∀ o, IntsV (wr.alloc o) a3 out.length c3 out) := Lib.hid (fun o => (HV4.out.keep HK.out (by simp)).keep ((Keep.refl [] wr).alloc o) (by simp))
      subst hab
      clear hxi hm
      by_cases ho : x.ref ∈ out
      · have HO : Hid (decide (x.ref ∈ out) = true) := Lib.hid (decide_eq_true ho)
        obtain ⟨hr, ha⟩ := HG3.out.safe HX.out ho
        rw [ha] at c1
        rw [hr] at c2'
        clear ho hr ha
        go_wp2_with (first | (with_reducible refine Txt.wp_region_text mixed quiet (by decide +kernel) ?_) | (with_reducible refine Txt.text_done (by kernel_rfl) ?_) | (go_at_call 14; (with_reducible refine (contains14_any (HVO.out _)).mono ?_); rintro e w5 ⟨rfl, rfl⟩; rw [HO.out]))
        exact ⟨⟨i + 1, hlt, by go_num, Lib.hid (HK.out.alloc _)⟩, by simp [intOf]; omega⟩
      · have HO : Hid (decide (x.ref ∈ out) = false) := Lib.hid (decide_eq_false ho)
        have HLV : Hid (∀ r ∈ x.refs, decide (r ∈ out) = false) := Lib.hid (fun r hr => decide_eq_false (HG3.out.live HL2.out.nodup HX.out ho hr))
        obtain ⟨aw, haw⟩ : ∃ aw, x.awake = aw := ⟨_, rfl⟩
        obtain ⟨rt, hrt⟩ : ∃ rt, x.root = rt := ⟨_, rfl⟩
        rw [haw] at c1
        rw [hrt] at c2'
        have HIR : Hid (∀ w', Keep [] wr w' → IntsV w' x.ra m x.rc x.refs) := Lib.hid (fun w' hk => by rw [← HM.out]; exact ((HV24.out.keep0 (HK.out.trans hk)).rows x HX.out).1)
        clear ho haw hrt
        go_wp2_with (first | (with_reducible refine Txt.wp_region_text mixed quiet (by decide +kernel) ?_) | (with_reducible refine Txt.text_done (by kernel_rfl) ?_) | (go_at_call 14; (with_reducible refine (contains14_any (HVO.out _)).mono ?_); rintro e w5 ⟨rfl, rfl⟩; rw [HO.out]))
        obtain ⟨W5, hW5⟩ : ∃ W5, wr.alloc (.cells #[.int .i64 x.ref, .bool aw, .bool rt, .slice x.ra m x.rc] 38) = W5 := ⟨_, rfl⟩
        have HK5 : Hid (Keep [] wr W5) := Lib.hid (by rw [← hW5]; exact (Keep.refl [] wr).alloc _)
        rw [hW5]
        have HKW5 : Hid (Keep [] w4 W5) := Lib.hid (HK.out.trans HK5.out)
        have HIR5 := Lib.hid (HIR.out W5 HK5.out)
        clear hW5 HVO HIR HK5
        go_loopw [45] (fun j wr => ∃ jn : Nat, jn ≤ m ∧ j = .int .i64 jn ∧ Hid (Keep [] W5 wr)) (fun j _ => m - (intOf j).toNat)
        case atStart => exact ⟨0, by omega, rfl, Lib.hid (Keep.refl _ _)⟩
        case round =>
          obtain ⟨jn, hj, rfl, HK6⟩ := hrel
          by_cases hlt2 : jn < m
          · have hiv := HIR5.out.keep HK6.out (by simp)
            obtain ⟨b4, o4, hab4, hc4⟩ := hiv.cells (by omega)
            have hcr := hc4 jn hlt2
            obtain ⟨r, hr⟩ : ∃ r, x.refs.getD jn 0 = r := ⟨_, rfl⟩
            rw [hr] at hcr
            have hrm : r ∈ x.refs := by
              have hl := HM.out
              rw [← hr, List.getD_eq_getElem?_getD, List.getElem?_eq_getElem (by omega)]
              exact List.getElem_mem _
            have HNO := Lib.hid (HLV.out r hrm)
            have HV6 : Hid (IntsV wr a3 out.length c3 out) := Lib.hid (HV4.out.keep (HKW5.out.trans HK6.out) (by simp))
            rw [hab4] at *
            clear hiv hc4 hr hrm
            go_wp2_with (first | (with_reducible refine Txt.wp_region_text mixed quiet (by decide +kernel) ?_) | (with_reducible refine Txt.text_done (by kernel_rfl) ?_) | (go_at_call 14; (with_reducible refine (contains14_any HV6.out).mono ?_); rintro e w7 ⟨rfl, rfl⟩; rw [HNO.out]))
            exact ⟨⟨jn + 1, hlt2, by go_num, HK6⟩, by simp [intOf]; omega⟩
          · obtain rfl : jn = m := by omega
            go_wp2_with (first | (with_reducible refine Txt.wp_region_text mixed quiet (by decide +kernel) ?_) | (with_reducible refine Txt.text_done (by kernel_rfl) ?_))
            exact ⟨⟨i + 1, hlt, by go_num, Lib.hid (HKW5.out.trans HK6.out)⟩, by simp [intOf]; omega⟩
    · obtain rfl : i = n := by omega
      go_wp2_with (first | (with_reducible refine Txt.wp_region_text mixed quiet (by decide +kernel) ?_) | (with_reducible refine Txt.text_done (by kernel_rfl) ?_))
      go_ret
      exact ⟨rfl, HK4.out.trans HK.out⟩
end Go.Proofs.Ytmedldloilbmeaa
/- CycleNodes (plain): the nodes, and the messages between them. -/
namespace Go
/-- The actors whose home is j. -/
def pf (hm : Int → Nat) (j : Nat) (l : List Kn) : List Kn := l.filter (fun k => decide (hm k.ref = j))
def upH (hm : Int → Nat) (r : Int) (n : Nat) : Int → Nat := fun y => if y = r then n else hm y
theorem pf_snoc {hm : Int → Nat} {l : List Kn} {x : Kn} {n : Nat} (hx : ∀ k ∈ l, k.ref ≠ x.ref) (j : Nat) : pf (upH hm x.ref n) j (l ++ [x]) = if n = j then pf hm j l ++ [x] else pf hm j l := by
  unfold pf
  have h1 : l.filter (fun k => decide (upH hm x.ref n k.ref = j)) = l.filter (fun k => decide (hm k.ref = j)) := List.filter_congr (fun k hk => by unfold upH; rw [if_neg (hx k hk)])
  rw [List.filter_append, h1]
  by_cases h : n = j
  · rw [if_pos h]
    simp [upH, h]
  · rw [if_neg h]
    simp [upH, h]
theorem pf_sub {hm : Int → Nat} {j : Nat} {l : List Kn} {x : Kn} (h : x ∈ pf hm j l) : x ∈ l := (List.mem_filter.1 h).1
theorem pf_len (hm : Int → Nat) (j : Nat) (l : List Kn) : (pf hm j l).length ≤ l.length := List.length_filter_le _ _
theorem pf_nodup {hm : Int → Nat} {j : Nat} {l : List Kn} (h : (l.map Kn.ref).Nodup) : ((pf hm j l).map Kn.ref).Nodup := (List.Sublist.map _ (List.filter_sublist)).nodup h
theorem refsR_pf (hm : Int → Nat) (j : Nat) (l : List Kn) (x : Int) : refsR (pf hm j l) x = if hm x = j then refsR l x else none := by
  unfold refsR pf
  rw [← List.filter_reverse, List.find?_filter]
  by_cases h : hm x = j
  · rw [if_pos h]
    congr 2
    funext k
    by_cases hk : k.ref = x
    · simp [hk, h]
    · simp [hk]
  · rw [if_neg h, Option.map_eq_none_iff, List.find?_eq_none]
    intro k _ hk
    simp only [decide_eq_true_eq] at hk
    exact h (hk.2 ▸ hk.1)
theorem firsts_pf {hm : Int → Nat} {j : Nat} {l : List Kn} {x : Int} : x ∈ firsts (pf hm j l) ↔ x ∈ firsts l ∧ hm x = j := by
  rw [firsts_mem, firsts_mem]
  constructor
  · rintro ⟨k, hk, rfl, hr⟩
    obtain ⟨h1, h2⟩ := List.mem_filter.1 hk
    exact ⟨⟨k, h1, rfl, hr⟩, by simpa using h2⟩
  · rintro ⟨⟨k, hk, rfl, hr⟩, h2⟩
    exact ⟨k, List.mem_filter.2 ⟨hk, by simpa using h2⟩, rfl, hr⟩
/-- How many numbers that may be told are told. -/
def cntT (tl : Int → Bool) : Nat := (((List.range 42).map (fun i : Nat => 1000 + (i : Int))).filter tl).length
theorem near_mem {x : Int} (h : 1000 ≤ x ∧ x < 1042) : x ∈ (List.range 42).map (fun i : Nat => 1000 + (i : Int)) := by
  rw [List.mem_map]
  exact ⟨(x - 1000).toNat, List.mem_range.2 (by omega), by omega⟩
theorem univ_nodup : ((List.range 42).map (fun i : Nat => 1000 + (i : Int))).Nodup := by decide
theorem cntT_le (tl : Int → Bool) : cntT tl ≤ 42 := Nat.le_trans (List.length_filter_le _ _) (by simp)
theorem cntT_due {tl0 tl : Int → Bool} {due : List Int} (h : DueInv tl0 tl due) (hn : ∀ x ∈ due, 1000 ≤ x ∧ x < 1042) : cntT tl0 + due.length ≤ cntT tl := by
  unfold cntT
  rw [← List.length_append]
  refine nodup_len _ _ ?_ (fun x hx => ?_)
  · rw [List.nodup_append]
    refine ⟨univ_nodup.filter _, h.nodup, fun a ha b hb e => ?_⟩
    subst e
    have h1 := (List.mem_filter.1 ha).2
    rw [((h.mem a).1 hb).2] at h1
    cases h1
  · rcases List.mem_append.1 hx with hx | hx
    · obtain ⟨h1, h2⟩ := List.mem_filter.1 hx
      exact List.mem_filter.2 ⟨h1, h.old x h2⟩
    · exact List.mem_filter.2 ⟨near_mem (hn x hx), ((h.mem x).1 hx).1⟩
/-- A node: where it lies, and what it knows. -/
structure Nd where
  mkNd ::
  b : Nat
  bR : Nat
  bM : Nat
  bT : Nat
  f : Int → Option Value
  R : Int → Option (List Int)
  S : Int → Prop
  mk : Int → Bool
  tl : Int → Bool
def cntD (ds : List Nd) : Nat := (ds.map (fun d => cntT d.tl)).sum
theorem cntD_snoc (ds : List Nd) (d : Nd) : cntD (ds ++ [d]) = cntD ds + cntT d.tl := by simp [cntD]
theorem cntD_le (ds : List Nd) : cntD ds ≤ 42 * ds.length := by
  unfold cntD
  induction ds with
  | nil => simp
  | cons d ds ih => simp only [List.map_cons, List.sum_cons, List.length_cons]; have := cntT_le d.tl; omega
theorem cntD_set {ds : List Nd} {h : Nat} {d d' : Nd} {n : Nat} (hd : ds[h]? = some d) (hn : cntT d.tl + n ≤ cntT d'.tl) : cntD ds + n ≤ cntD (ds.set h d') := by
  unfold cntD
  induction ds generalizing h with
  | nil => simp at hd
  | cons e ds ih =>
    cases h with
    | zero =>
      simp at hd
      subst hd
      simp only [List.set_cons_zero, List.map_cons, List.sum_cons]
      omega
    | succ h =>
      simp at hd
      have := ih hd
      simp only [List.set_cons_succ, List.map_cons, List.sum_cons]
      omega
abbrev SrR (ks : List Kn) : Int → Prop := Rch (refsR ks) (fun x => x ∈ firsts ks)
structure DsInv (ks : List Kn) (hm : Int → Nat) (ds : List Nd) (way : List Int) (i : Nat) : Prop where
  R : ∀ (j : Nat) (d : Nd), ds[j]? = some d → d.R = refsR (pf hm j ks)
  lv : ∀ (j : Nat) (d : Nd), ds[j]? = some d → LvInv d.R d.S d.mk d.tl []
  fst : ∀ (j : Nat) (d : Nd), ds[j]? = some d → ∀ x, x ∈ firsts (pf hm j ks) → d.S x
  snd : ∀ (j : Nat) (d : Nd), ds[j]? = some d → ∀ x, d.S x → SrR ks x
  told : ∀ (j : Nat) (d : Nd) (x : Int), ds[j]? = some d → d.tl x = true → x ∈ way ∨ refsR ks x = none ∨ ∃ d', ds[hm x]? = some d' ∧ d'.S x
  come : ∀ x ∈ way, (refsR ks x).isSome = true → SrR ks x
  near : ∀ x ∈ way, 1000 ≤ x ∧ x < 1042
  cnt : i + way.length ≤ cntD ds
section
variable {ks : List Kn} {hm : Int → Nat} {ds : List Nd} {way due : List Int} {i j : Nat} {d : Nd}
theorem rch_up {S' : Int → Prop} (hS : ∀ x, S' x → SrR ks x) {x : Int} (h : Rch (refsR (pf hm j ks)) S' x) : SrR ks x := by
  induction h with
  | seed h1 h2 => exact hS _ h1
  | step _ h2 h3 h4 ih =>
    rw [refsR_pf] at h2 h4
    split at h2
    · split at h4
      · exact .step ih h2 h3 h4
      · cases h4
    · cases h2
theorem told_up {S' : Int → Prop} {mk tl : Int → Bool} (hk : KnList ks) (hS : ∀ x, S' x → SrR ks x) (h : LvInv (refsR (pf hm j ks)) S' mk tl []) {x : Int} (hx : tl x = true) : (1000 ≤ x ∧ x < 1042) ∧ ((refsR ks x).isSome = true → SrR ks x) := by
  obtain ⟨r, xs, h1, h2, h3, h4⟩ := (h.told x).1 hx
  have hr := rch_up hS (h.sound r h1)
  rw [refsR_pf] at h2
  split at h2
  · refine ⟨?_, fun ho => .step hr h2 h3 ho⟩
    have hs : (refsR ks r).isSome = true := by rw [h2]; rfl
    obtain ⟨k, hkk, hkr⟩ := refsR_some.1 hs
    have := refsR_of hk.nodup hkk
    rw [hkr, h2] at this
    injection this with this
    subst this
    exact hk.near k hkk x h3
  · cases h2
theorem DsInv.start (ks : List Kn) (hm : Int → Nat) : DsInv ks hm [] [] 0 :=
  ⟨fun j d h => by simp at h, fun j d h => by simp at h, fun j d h => by simp at h, fun j d h => by simp at h, fun j d x h => by simp at h, fun x h => by simp at h, fun x h => by simp at h, Nat.le_refl _⟩
theorem get_snoc {ds : List Nd} {d d' : Nd} {j : Nat} (h : (ds ++ [d])[j]? = some d') : ds[j]? = some d' ∨ (j = ds.length ∧ d' = d) := by
  by_cases hj : j < ds.length
  · rw [List.getElem?_append_left hj] at h
    exact .inl h
  · rw [List.getElem?_append_right (by omega)] at h
    have h1 := (List.getElem?_eq_some_iff.1 h).1
    simp at h1
    have h2 : j - ds.length = 0 := by omega
    rw [h2] at h
    simp at h
    exact .inr ⟨by omega, h.symm⟩
/-- One more node. -/
theorem DsInv.new (hk : KnList ks) (h : DsInv ks hm ds way 0) (hR : d.R = refsR (pf hm ds.length ks)) (hl : LvInv d.R d.S d.mk d.tl []) (hS : ∀ x, d.S x ↔ x ∈ firsts (pf hm ds.length ks)) (hd : DueInv (fun _ => false) d.tl due) (due' : List Int) (hp : due'.Perm due) : DsInv ks hm (ds ++ [d]) (way ++ due') 0 := by
  have hS2 : ∀ x, d.S x → SrR ks x := fun x hx => by
    have := (firsts_pf.1 ((hS x).1 hx)).1
    obtain ⟨k, hkk, h2, _⟩ := firsts_mem.1 this
    exact .seed this (refsR_some.2 ⟨k, hkk, h2⟩)
  rw [hR] at hl
  have hup := fun {x : Int} (hx : d.tl x = true) => told_up hk hS2 hl hx
  have hdm : ∀ x, x ∈ due' ↔ d.tl x = true := fun x => by
    rw [hp.mem_iff, hd.mem]
    simp
  refine ⟨fun j e he => ?_, fun j e he => ?_, fun j e he x hx => ?_, fun j e he x hx => ?_, fun j e x he hx => ?_, fun x hx ho => ?_, fun x hx => ?_, ?_⟩
  · rcases get_snoc he with he | ⟨rfl, rfl⟩
    · exact h.R j e he
    · exact hR
  · rcases get_snoc he with he | ⟨rfl, rfl⟩
    · exact h.lv j e he
    · rw [hR]; exact hl
  · rcases get_snoc he with he | ⟨rfl, rfl⟩
    · exact h.fst j e he x hx
    · exact (hS x).2 hx
  · rcases get_snoc he with he | ⟨rfl, rfl⟩
    · exact h.snd j e he x hx
    · exact hS2 x hx
  · rcases get_snoc he with he | ⟨rfl, rfl⟩
    · rcases h.told j e x he hx with h1 | h1 | ⟨d', h1, h2⟩
      · exact .inl (List.mem_append_left _ h1)
      · exact .inr (.inl h1)
      · exact .inr (.inr ⟨d', by rw [List.getElem?_append_left (List.getElem?_eq_some_iff.1 h1).1]; exact h1, h2⟩)
    · exact .inl (List.mem_append_right _ ((hdm x).2 hx))
  · rcases List.mem_append.1 hx with hx | hx
    · exact h.come x hx ho
    · exact (hup ((hdm x).1 hx)).2 ho
  · rcases List.mem_append.1 hx with hx | hx
    · exact h.near x hx
    · exact (hup ((hdm x).1 hx)).1
  · have h1 := h.cnt
    have h2 := cntT_due hd (fun x hx => (hup ((hd.mem x).1 hx).1).1)
    have h3 := hp.length_eq
    rw [cntD_snoc, List.length_append]
    omega
theorem mem_cut {l : List Int} {k : Nat} {r x : Int} (hr : l[k]? = some r) : x ∈ l ↔ x = r ∨ x ∈ l.take k ++ l.drop (k + 1) := by
  have h1 : l = l.take k ++ r :: l.drop (k + 1) := by
    have hk := (List.getElem?_eq_some_iff.1 hr)
    obtain ⟨hk, he⟩ := hk
    rw [← he, List.getElem_cons_drop, List.take_append_drop]
  constructor
  · intro hx
    rw [h1, List.mem_append, List.mem_cons] at hx
    rw [List.mem_append]
    rcases hx with hx | hx | hx
    · exact .inr (.inl hx)
    · exact .inl hx
    · exact .inr (.inr hx)
  · rintro (hx | hx)
    · rw [hx]; exact List.mem_of_getElem? hr
    · rcases List.mem_append.1 hx with hx | hx
      · exact List.mem_of_mem_take hx
      · exact List.mem_of_mem_drop hx
theorem cut_len {l : List Int} {k : Nat} (hk : k < l.length) : (l.take k ++ l.drop (k + 1)).length + 1 = l.length := by
  rw [List.length_append, List.length_take, List.length_drop]; omega
/-- A message to nobody. -/
theorem DsInv.lost (h : DsInv ks hm ds way i) {k : Nat} {r : Int} (hr : way[k]? = some r) (hn : refsR ks r = none) : DsInv ks hm ds (way.take k ++ way.drop (k + 1)) (i + 1) := by
  have hm' := fun {x : Int} => mem_cut (x := x) hr
  refine ⟨h.R, h.lv, h.fst, h.snd, fun j e x he hx => ?_, fun x hx => h.come x (hm'.2 (.inr hx)), fun x hx => h.near x (hm'.2 (.inr hx)), ?_⟩
  · rcases h.told j e x he hx with h1 | h1
    · rcases hm'.1 h1 with h2 | h2
      · exact .inr (.inl (h2 ▸ hn))
      · exact .inl h2
    · exact .inr h1
  · have := cut_len (List.getElem?_eq_some_iff.1 hr).1
    have := h.cnt
    omega
/-- A message comes. -/
theorem DsInv.came (hk : KnList ks) (h : DsInv ks hm ds way i) {k : Nat} {r : Int} (hr : way[k]? = some r) (ho : (refsR ks r).isSome = true) (hd : ds[hm r]? = some d) {d' : Nd} (hR : d'.R = d.R) (hS : ∀ x, d'.S x ↔ d.S x ∨ x = r) (hl : LvInv d.R d'.S d'.mk d'.tl []) (hdue : DueInv d.tl d'.tl due) (due' : List Int) (hp : due'.Perm due) : DsInv ks hm (ds.set (hm r) d') ((way.take k ++ way.drop (k + 1)) ++ due') (i + 1) := by
  have hm' := fun {x : Int} => mem_cut (x := x) hr
  have hlt := (List.getElem?_eq_some_iff.1 hd).1
  have hS2 : ∀ x, d'.S x → SrR ks x := fun x hx => by
    rcases (hS x).1 hx with hx | hx
    · exact h.snd _ d hd x hx
    · subst hx
      exact h.come x (List.mem_of_getElem? hr) ho
  have hl2 := hl
  rw [h.R _ d hd] at hl2
  have hup := fun {x : Int} (hx : d'.tl x = true) => told_up hk hS2 hl2 hx
  have hget : ∀ j e, (ds.set (hm r) d')[j]? = some e → (j = hm r ∧ e = d') ∨ (j ≠ hm r ∧ ds[j]? = some e) := fun j e he => by
    by_cases hj : hm r = j
    · subst hj
      rw [List.getElem?_set_self hlt] at he
      injection he with he
      exact .inl ⟨rfl, he.symm⟩
    · rw [List.getElem?_set_ne hj] at he
      exact .inr ⟨fun e => hj e.symm, he⟩
  have hset : ∀ x, (∃ e, ds[hm x]? = some e ∧ e.S x) → ∃ e, (ds.set (hm r) d')[hm x]? = some e ∧ e.S x := fun x ⟨e, h1, h2⟩ => by
    by_cases hj : hm r = hm x
    · rw [← hj] at h1 ⊢
      rw [hd] at h1
      injection h1 with h1
      subst h1
      exact ⟨d', List.getElem?_set_self hlt, (hS x).2 (.inl h2)⟩
    · exact ⟨e, by rw [List.getElem?_set_ne hj]; exact h1, h2⟩
  have hold : ∀ (j : Nat) (e : Nd) (x : Int), ds[j]? = some e → e.tl x = true → x ∈ (way.take k ++ way.drop (k + 1)) ++ due' ∨ refsR ks x = none ∨ ∃ e', (ds.set (hm r) d')[hm x]? = some e' ∧ e'.S x := fun j e x he hx => by
    rcases h.told j e x he hx with h1 | h1 | h1
    · rcases hm'.1 h1 with h2 | h2
      · subst h2
        exact .inr (.inr ⟨d', List.getElem?_set_self hlt, (hS x).2 (.inr rfl)⟩)
      · exact .inl (List.mem_append_left _ h2)
    · exact .inr (.inl h1)
    · exact .inr (.inr (hset x h1))
  refine ⟨fun j e he => ?_, fun j e he => ?_, fun j e he x hx => ?_, fun j e he x hx => ?_, fun j e x he hx => ?_, fun x hx hxo => ?_, fun x hx => ?_, ?_⟩
  · rcases hget j e he with ⟨rfl, rfl⟩ | ⟨_, he⟩
    · rw [hR]; exact h.R _ d hd
    · exact h.R j e he
  · rcases hget j e he with ⟨rfl, rfl⟩ | ⟨_, he⟩
    · rw [hR]; exact hl
    · exact h.lv j e he
  · rcases hget j e he with ⟨rfl, rfl⟩ | ⟨_, he⟩
    · exact (hS x).2 (.inl (h.fst _ d hd x hx))
    · exact h.fst j e he x hx
  · rcases hget j e he with ⟨rfl, rfl⟩ | ⟨_, he⟩
    · exact hS2 x hx
    · exact h.snd j e he x hx
  · rcases hget j e he with ⟨rfl, rfl⟩ | ⟨_, he⟩
    · cases hx0 : d.tl x with
      | true => exact hold _ d x hd hx0
      | false => exact .inl (List.mem_append_right _ (hp.mem_iff.2 ((hdue.mem x).2 ⟨hx, hx0⟩)))
    · exact hold j e x he hx
  · rcases List.mem_append.1 hx with hx | hx
    · exact h.come x (hm'.2 (.inr hx)) hxo
    · exact (hup ((hdue.mem x).1 (hp.mem_iff.1 hx)).1).2 hxo
  · rcases List.mem_append.1 hx with hx | hx
    · exact h.near x (hm'.2 (.inr hx))
    · exact (hup ((hdue.mem x).1 (hp.mem_iff.1 hx)).1).1
  · have h1 := h.cnt
    have h2 := cntT_due hdue (fun x hx => (hup ((hdue.mem x).1 hx).1).1)
    have h3 := hp.length_eq
    have h4 := cntD_set hd h2
    have h5 := cut_len (List.getElem?_eq_some_iff.1 hr).1
    rw [List.length_append]
    omega
/-- All messages have come: marked is what is reached. -/
theorem DsInv.done (h : DsInv ks hm ds [] i) (hh : ∀ k ∈ ks, hm k.ref < ds.length) (x : Int) : SrR ks x ↔ ∃ d, ds[hm x]? = some d ∧ d.mk x = true := by
  have hmkD : ∀ j d, ds[j]? = some d → ∀ x, d.mk x = true ↔ Rch (refsR (pf hm j ks)) (fun x => ∃ d, ds[j]? = some d ∧ d.S x) x := fun j d hd x => by
    have he : (fun x => ∃ d, ds[j]? = some d ∧ d.S x) = d.S := by
      funext y
      rw [eq_iff_iff]
      exact ⟨fun ⟨e, h1, h2⟩ => by rw [hd] at h1; injection h1 with h1; subst h1; exact h2, fun h1 => ⟨d, hd, h1⟩⟩
    rw [he, ← h.R j d hd]
    exact (h.lv j d hd).all x
  have hown : ∀ j x, (refsR (pf hm j ks) x).isSome = true → hm x = j := fun j x hx => by
    rw [refsR_pf] at hx
    split at hx
    · assumption
    · cases hx
  have hlt : ∀ x, (refsR ks x).isSome = true → hm x < ds.length := fun x hx => by
    obtain ⟨k, hk, rfl⟩ := refsR_some.1 hx
    exact hh k hk
  have hmain := nodes_all (m := ds.length) (Ri := fun j => refsR (pf hm j ks)) (R := refsR ks) (S := fun x => x ∈ firsts ks) (Si := fun j x => ∃ d, ds[j]? = some d ∧ d.S x) (mk := fun j x => match ds[j]? with | some d => d.mk x | none => false) (tl := fun j x => match ds[j]? with | some d => d.tl x | none => false)
    (fun y xs => by
      constructor
      · intro hy
        refine ⟨hm y, hlt y (by rw [hy]; rfl), ?_⟩
        show refsR (pf hm (hm y) ks) y = some xs
        rw [refsR_pf, if_pos rfl, hy]
      · rintro ⟨j, _, hj⟩
        have hj : refsR (pf hm j ks) y = some xs := hj
        rw [refsR_pf] at hj
        split at hj
        · exact hj
        · cases hj)
    (fun j _ y ⟨d, hd, hy⟩ _ => h.snd j d hd y hy)
    (fun y hy ho => by
      have hl := hlt y ho
      refine ⟨hm y, hl, ⟨_, List.getElem?_eq_getElem hl, h.fst _ _ (List.getElem?_eq_getElem hl) y (firsts_pf.2 ⟨hy, rfl⟩)⟩, ?_⟩
      show (refsR (pf hm (hm y) ks) y).isSome = true
      rw [refsR_pf, if_pos rfl]
      exact ho)
    (fun j hj y => by
      simp only [List.getElem?_eq_getElem hj]
      have := hmkD j _ (List.getElem?_eq_getElem hj) y
      simp only [List.getElem?_eq_getElem hj] at this
      exact this)
    (fun j hj y => by
      simp only [List.getElem?_eq_getElem hj]
      rw [← h.R j _ (List.getElem?_eq_getElem hj)]
      exact (h.lv j _ (List.getElem?_eq_getElem hj)).told y)
    (fun j hj y hy ho => by
      simp only [List.getElem?_eq_getElem hj] at hy
      rcases h.told j _ y (List.getElem?_eq_getElem hj) hy with h1 | h1 | ⟨d', h1, h2⟩
      · cases h1
      · rw [h1] at ho; cases ho
      · refine ⟨hm y, (List.getElem?_eq_some_iff.1 h1).1, ⟨d', h1, h2⟩, ?_⟩
        show (refsR (pf hm (hm y) ks) y).isSome = true
        rw [refsR_pf, if_pos rfl]
        exact ho) x
  refine hmain.trans ?_
  constructor
  · rintro ⟨j, hj, hm1⟩
    simp only [List.getElem?_eq_getElem hj] at hm1
    have hR := (hmkD j _ (List.getElem?_eq_getElem hj) x).1 hm1
    have := hown j x hR.own
    subst this
    exact ⟨_, List.getElem?_eq_getElem hj, hm1⟩
  · rintro ⟨d, hd, hm1⟩
    refine ⟨hm x, (List.getElem?_eq_some_iff.1 hd).1, ?_⟩
    simp only [hd]
    exact hm1
/-- What is left over, of the first j nodes. -/
structure LeftInv (ds : List Nd) (j : Nat) (left : List Int) : Prop where
  nodup : left.Nodup
  mem : ∀ x, x ∈ left ↔ ∃ (i : Nat) (d : Nd), i < j ∧ ds[i]? = some d ∧ (d.R x).isSome = true ∧ d.mk x = false
theorem LeftInv.start (ds : List Nd) : LeftInv ds 0 [] := ⟨List.nodup_nil, fun x => ⟨fun h => (by cases h), fun ⟨i, d, h, _⟩ => (by omega)⟩⟩
theorem LeftInv.step {left out : List Int} {way : List Int} (hi : DsInv ks hm ds way i) (h : LeftInv ds j left) (hd : ds[j]? = some d) (hn : out.Nodup) (ho : ∀ x, x ∈ out ↔ ((d.R x).isSome = true ∧ d.mk x = false)) : LeftInv ds (j + 1) (left ++ out) := by
  have hown : ∀ (i : Nat) (e : Nd) (x : Int), ds[i]? = some e → (e.R x).isSome = true → hm x = i := fun i e x he hx => by
    rw [hi.R i e he, refsR_pf] at hx
    split at hx
    · assumption
    · cases hx
  refine ⟨?_, fun x => ?_⟩
  · rw [List.nodup_append]
    refine ⟨h.nodup, hn, fun a ha b hb e => ?_⟩
    subst e
    obtain ⟨i', e, h1, h2, h3, _⟩ := (h.mem a).1 ha
    have h4 := hown i' e a h2 h3
    have h5 := hown j d a hd ((ho a).1 hb).1
    omega
  · rw [List.mem_append, h.mem, ho]
    constructor
    · rintro (⟨i', e, h1, h2⟩ | h1)
      · exact ⟨i', e, by omega, h2⟩
      · exact ⟨j, d, by omega, hd, h1⟩
    · rintro ⟨i', e, h1, h2, h3⟩
      by_cases hij : i' = j
      · subst hij
        rw [hd] at h2
        injection h2 with h2
        subst h2
        exact .inr h3
      · exact .inl ⟨i', e, by omega, h2, h3⟩
theorem LeftInv.garb {left : List Int} (hi : DsInv ks hm ds [] i) (hh : ∀ k ∈ ks, hm k.ref < ds.length) (h : LeftInv ds ds.length left) : IsGarb ks left := fun x => by
  rw [h.mem, ← Classical.not_not (a := _ ∧ _)]
  have hdone := hi.done hh x
  constructor
  · rintro ⟨j, d, hj, hd, h1, h2⟩ hn
    have hR := h1
    rw [hi.R j d hd, refsR_pf] at hR
    split at hR
    · rename_i hx
      subst hx
      refine hn ⟨hR, fun hr => ?_⟩
      obtain ⟨e, he, hm1⟩ := hdone.1 hr
      rw [hd] at he
      injection he with he
      subst he
      rw [h2] at hm1
      cases hm1
    · cases hR
  · intro hn
    obtain ⟨h1, h2⟩ := Classical.not_not.1 hn
    obtain ⟨k, hk, hkr⟩ := refsR_some.1 h1
    have hl := hh k hk
    rw [hkr] at hl
    refine ⟨hm x, _, hl, List.getElem?_eq_getElem hl, ?_, ?_⟩
    · rw [hi.R _ _ (List.getElem?_eq_getElem hl), refsR_pf, if_pos rfl]
      exact h1
    · cases hmk : ds[hm x].mk x with
      | false => rfl
      | true => exact absurd (hdone.2 ⟨_, List.getElem?_eq_getElem hl, hmk⟩) h2
end
end Go
/- CycleNodes: Out and Come. -/
namespace Go.Proofs.Ytmedldloilbmeaa
open Go.RowKit
theorem out26_any {w : World} {H b bR bM bT N : Nat} {f : Int → Option Value} {R : Int → Option (List Int)} {mk tl : Int → Bool} {due : List Int} {came : Int} {vd : Value} (h : NodeAt w Try.prog H b bR bM bT N f R mk tl due came vd) (hd : due.length ≤ 1000000000) :
    Calls Try.prog 26 #[.pointer (some ⟨b, 0, none⟩)] w fun e w' => ∃ v, e = .returned v ∧ NodeAt w' Try.prog H b bR bM bT N f R mk tl [] came (.slice none 0 0) ∧ w'.ownsRow H 3 1 v due.length ((sortI due).map (Value.int .i64)) ∧ Keep (b :: vd.ownBlock.toList) w w' := by
  have HN := Lib.hid h
  obtain ⟨c0, c1, c2, c3, c4, hz⟩ := row5Y h.blk
  have hkS : Keep [b] w (w.setCell ⟨b, 2, none⟩ (.slice none 0 0)) := (Keep.refl _ _).setCell (.inl (by simp)) _
  have hbl : (w.setCell ⟨b, 2, none⟩ (.slice none 0 0)).heap[b]? = some (.cells #[.map (some bR), .map (some bM), .slice none 0 0, .map (some bT), .int .i64 came] 73 (0, 0)) := by
    rw [blk_setCell, if_pos rfl, h.blk]; rfl
  have hob : ∀ g, vd.ownBlock = some g → g ≠ b := fun g hg => by
    obtain ⟨_, _, cs, hc⟩ := ownLt h.rowD g hg
    exact fun e => neTypeY h.blk hc (by decide) e.symm
  have hoS := own_keep h.rowD hkS (fun g hg hm => hob g hg (List.mem_singleton.1 hm))
  have HSO := Lib.hid (sort16_any hoS hd)
  have HKS := Lib.hid hkS
  have HBL := Lib.hid hbl
  have HOB := Lib.hid hob
  clear h hkS hbl hob hoS
  go_enter Try.func26, Try.ntmps26
  go_wp2_with (first | (with_reducible refine Txt.wp_region_text mixed quiet (by decide +kernel) ?_) | (with_reducible refine Txt.text_done (by kernel_rfl) ?_) | (go_at_call 16; (with_reducible refine HSO.out.mono ?_); rintro e w3 ⟨rfl, ho3, hk3⟩; have HO3 := Lib.hid ho3; have HK3 := Lib.hid hk3; clear ho3 hk3))
  go_ret
  have hk : Keep (b :: vd.ownBlock.toList) w w3 := (HKS.out.more (by simp)).trans (HK3.out.more (by intro g hg; simp [hg]))
  have hR : bR ∉ b :: vd.ownBlock.toList := fun hm => by
    simp only [List.mem_cons, Option.mem_toList] at hm
    rcases hm with hm | hm
    · exact HN.out.mr.notCells HN.out.blk hm
    · obtain ⟨_, _, cs, hc⟩ := ownLt HN.out.rowD _ hm
      exact HN.out.mr.notCells hc rfl
  have hM : bM ∉ b :: vd.ownBlock.toList := fun hm => by
    simp only [List.mem_cons, Option.mem_toList] at hm
    rcases hm with hm | hm
    · exact HN.out.mm.notCells HN.out.blk hm
    · obtain ⟨_, _, cs, hc⟩ := ownLt HN.out.rowD _ hm
      exact HN.out.mm.notCells hc rfl
  have hT : bT ∉ b :: vd.ownBlock.toList := fun hm => by
    simp only [List.mem_cons, Option.mem_toList] at hm
    rcases hm with hm | hm
    · exact HN.out.mt.notCells HN.out.blk hm
    · obtain ⟨_, _, cs, hc⟩ := ownLt HN.out.rowD _ hm
      exact HN.out.mt.notCells hc rfl
  have hNR : NoR (b :: vd.ownBlock.toList) w H := fun g hg => HN.out.noR g (by
    simp only [List.mem_cons, Option.mem_toList] at hg
    simp only [ndS, List.mem_cons, Option.mem_toList]
    rcases hg with hg | hg
    · exact .inl hg
    · exact .inr (.inr (.inr hg)))
  refine ⟨_, rfl, ⟨HK3.out.at HBL.out (fun hm => HOB.out b (by simpa using hm) rfl), HN.out.mr.keep hk hR, HN.out.rf.keep hk hNR, HN.out.mm.keep hk hM, HN.out.mt.keep hk hT, World.ownsRow_nil _ _ _ _, by simp, HN.out.ne⟩, HO3.out, hk⟩
end Go.Proofs.Ytmedldloilbmeaa
