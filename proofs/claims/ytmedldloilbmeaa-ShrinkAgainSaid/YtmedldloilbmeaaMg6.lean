/- Texts laid together: Y8 SA1 Y13 Y14. -/
import Derived.Test.YtmedldloilbmeaaMg5
import Derived.Deep.QuietTactic
import Derived.BigQuiet
import Derived.Shelf.Spec.SlicesGrow
import Derived.Laws.AppendOwnNone
import Derived.Laws.IdiomCopy
/- Marking: what the statements ask of slices, and cycleBegun. -/
namespace Go
theorem sorted_ext {l1 l2 : List Int} (h1 : l1.Nodup) (h2 : l2.Nodup) (h3 : l1.Pairwise (· ≤ ·)) (h4 : l2.Pairwise (· ≤ ·)) (h : ∀ x, x ∈ l1 ↔ x ∈ l2) : l1 = l2 :=
  List.Perm.eq_of_pairwise (fun _ _ _ _ h5 h6 => Int.le_antisymm h5 h6) h3 h4 ((List.perm_ext_iff_of_nodup h1 h2).2 h)
end Go
namespace Go.Proofs.Ytmedldloilbmeaa
open Go.RowKit
theorem contains14_any {w : World} {a : Option Addr} {n c : Nat} {xs : List Int} {x : Int} (h : IntsV w a n c xs) :
    Calls Try.prog 14 #[.slice a n c, .int .i64 x] w fun e w' => e = .returned (.bool (decide (x ∈ xs))) ∧ w' = w := by
  have hm := h.most
  have hr := h.room
  unfold maxLen at hm
  by_cases h0 : 0 < n
  · obtain ⟨b, off, rfl, hc⟩ := h.cells h0
    refine (Go.Proofs.Try.slices_Contains_int b off n c xs x w (by rw [h.len]; exact Nat.le_refl _) (by omega) (fun j hj => hc j (by have := h.len; omega))).mono ?_
    rintro e w' ⟨rfl, rfl⟩
    refine ⟨?_, rfl⟩
    rw [List.take_of_length_le (by rw [h.len]; exact Nat.le_refl _)]
    exact ret_bool (by rw [Bool.eq_iff_iff]; simp)
  · obtain rfl : n = 0 := by omega
    have hx : xs = [] := List.eq_nil_of_length_eq_zero h.len
    subst hx
    refine (Go.Proofs.Try.slices_Contains_int_empty a c x w).mono ?_
    rintro e w' ⟨rfl, rfl⟩
    exact ⟨by simp, rfl⟩
theorem drewN_keep (w : World) (q : Nat) : Keep [] w (w.drewN q) := by
  induction q with
  | zero => exact Keep.refl _ _
  | succ q ih => exact ih.drew
theorem equal18_any {w : World} {a1 a2 : Option Addr} {n c1 m c2 : Nat} {xs ys : List Int} (h1 : IntsV w a1 n c1 xs) (h2 : IntsV w a2 m c2 ys) :
    Calls Try.prog 18 #[.slice a1 n c1, .slice a2 m c2] w fun e w' => e = .returned (.bool (decide (xs = ys))) ∧ Keep [] w w' := by
  have hm1 := h1.most
  have hr1 := h1.room
  have hm2 := h2.most
  have hr2 := h2.room
  unfold maxLen at hm1 hm2
  by_cases hnm : n = m
  · subst hnm
    by_cases h0 : 0 < n
    · obtain ⟨b1, o1, rfl, hc1⟩ := h1.cells h0
      obtain ⟨b2, o2, rfl, hc2⟩ := h2.cells h0
      refine (Go.Proofs.Try.slices_Equal_int b1 o1 n c1 b2 o2 n c2 xs ys w (by rw [h1.len]; exact Nat.le_refl _) (by rw [h2.len]; exact Nat.le_refl _) (by omega) (by omega) (fun j hj => hc1 j (by have := h1.len; omega)) (fun j hj => hc2 j (by have := h2.len; omega))).mono ?_
      rintro e w' ⟨rfl, q, rfl⟩
      refine ⟨?_, drewN_keep w q⟩
      rw [List.take_of_length_le (by rw [h1.len]; exact Nat.le_refl _), List.take_of_length_le (by rw [h2.len]; exact Nat.le_refl _)]
      exact ret_bool (by rw [Bool.eq_iff_iff]; simp)
    · obtain rfl : n = 0 := by omega
      have hx : xs = [] := List.eq_nil_of_length_eq_zero h1.len
      have hy : ys = [] := List.eq_nil_of_length_eq_zero h2.len
      subst hx hy
      refine (Go.Proofs.Try.slices_Equal_int_empty a1 a2 c1 0 c2 w (by omega)).mono ?_
      rintro e w' ⟨rfl, rfl⟩
      exact ⟨by simp, Keep.refl _ _⟩
  · refine (Go.Proofs.Try.slices_Equal_int_lens a1 a2 n c1 m c2 w hnm).mono ?_
    rintro e w' ⟨rfl, rfl⟩
    refine ⟨ret_bool ?_, Keep.refl _ _⟩
    refine (decide_eq_false fun he => hnm ?_).symm
    rw [← h1.len, ← h2.len, he]
set_option maxRecDepth 100000 in
set_option maxHeartbeats 2000000 in
theorem isSorted22_ok {w : World} {a : Option Addr} {n c : Nat} {xs : List Int} (h : IntsV w a n c xs) (hs : xs.Pairwise (· ≤ ·)) (hn : n ≤ 1000000) :
    Calls Try.prog 22 #[.slice a n c] w fun e w' => e = .returned (.bool true) ∧ Keep [] w w' := by
  have HV := Lib.hid h
  have HS := Lib.hid hs
  have hr := h.room
  have hm := h.most
  unfold maxLen at hm
  have hw0 : IntKind.i64.wrap ((n : Int) - 1) = (n : Int) - 1 := by simp [IntKind.wrap, IntKind.bits, IntKind.signed]; omega
  clear h hs
  go_enter Try.func22, Try.ntmps22
  go_wp2_with (first | (with_reducible refine Txt.wp_region_text mixed quiet (by decide +kernel) ?_) | (with_reducible refine Txt.text_done (by kernel_rfl) ?_))
  go_loopw [3] (fun j wr => ∃ i : Int, -1 ≤ i ∧ i < n ∧ j = .int .i64 i ∧ Keep [] w wr) (fun j _ => (intOf j + 1).toNat)
  case atStart => exact ⟨(n : Int) - 1, by omega, by omega, rfl, Keep.refl _ _⟩
  case round =>
    obtain ⟨i, h1, h2, rfl, hk⟩ := hrel
    by_cases hi : 0 < i
    · obtain ⟨k, rfl⟩ : ∃ k : Nat, i = (k : Int) + 1 := ⟨(i - 1).toNat, by omega⟩
      obtain ⟨b, off, rfl, hc⟩ := (HV.out.keep hk (by simp)).cells (by omega)
      have hc0 := hc k (by omega)
      have hc1 := hc (k + 1) (by omega)
      obtain ⟨x, hx⟩ : ∃ x, xs.getD k 0 = x := ⟨_, rfl⟩
      obtain ⟨y, hy⟩ : ∃ y, xs.getD (k + 1) 0 = y := ⟨_, rfl⟩
      have hle : x ≤ y := by
        have hl := HV.out.len
        rw [← hx, ← hy, List.getD_eq_getElem?_getD, List.getD_eq_getElem?_getD, List.getElem?_eq_getElem (by omega), List.getElem?_eq_getElem (by omega)]
        exact List.pairwise_iff_getElem.1 HS.out k (k + 1) (by omega) (by omega) (by omega)
      rw [hx] at hc0
      rw [hy] at hc1
      have hkn : k < n := by omega
      have h0k : (0 : Int) ≤ (k : Int) + 1 := by omega
      have hw1 : IntKind.i64.wrap (k : Int) = (k : Int) := by simp [IntKind.wrap, IntKind.bits, IntKind.signed]; omega
      have HLE : Hid (decide (y < x) = false) := Lib.hid (decide_eq_false (by omega))
      clear hc hx hy
      go_wp2_with fail
      go_region_law (first | (go_simp; go_at_call 43; (with_reducible refine (Go.Proofs.Try.cmp_Less_int2 y x _).mono ?_); rintro e w2 ⟨rfl, rfl⟩; rw [HLE.out]))
      all_goals
        go_wp2_with (first | (with_reducible refine Txt.wp_region_text mixed quiet (by decide +kernel) ?_) | (with_reducible refine Txt.text_done (by kernel_rfl) ?_))
        exact ⟨⟨(k : Int), by omega, by omega, by go_num, hk.drew⟩, by simp [intOf]; omega⟩
    · go_wp2_with (first | (with_reducible refine Txt.wp_region_text mixed quiet (by decide +kernel) ?_) | (with_reducible refine Txt.text_done (by kernel_rfl) ?_))
      go_ret
      exact ⟨rfl, hk⟩
theorem beg_out {out : List Int} {R : Int → Option (List Int)} {S : Int → Prop} (hR : ∀ x, R x = if x = 6 then some [] else if x = 5 then some [4] else if x = 4 then some [5] else none) (hS : ∀ x, S x ↔ x = 6) (h1 : out.Nodup) (h2 : out.Pairwise (· ≤ ·)) (h : ∀ x, x ∈ out ↔ ((R x).isSome = true ∧ ¬ Rch R S x)) : out = [4, 5] := by
  have hr : ∀ x, Rch R S x → x = 6 := fun x hx => by
    induction hx with
    | seed h _ => exact (hS _).1 h
    | step _ h3 h4 _ ih =>
      subst ih
      rw [hR] at h3
      simp at h3
      subst h3
      cases h4
  have h6 : Rch R S 6 := .seed ((hS 6).2 rfl) (by rw [hR]; rfl)
  refine sorted_ext h1 (by decide) h2 (by decide) fun x => ?_
  rw [h]
  constructor
  · rintro ⟨h3, h4⟩
    rw [hR] at h3
    by_cases e6 : x = 6
    · subst e6; exact absurd h6 h4
    · by_cases e5 : x = 5
      · subst e5; decide
      · by_cases e4 : x = 4
        · subst e4; decide
        · rw [if_neg e6, if_neg e5, if_neg e4] at h3; cases h3
  · intro hx
    simp at hx
    rcases hx with rfl | rfl
    · exact ⟨by rw [hR]; rfl, fun h => by have := hr _ h; omega⟩
    · exact ⟨by rw [hR]; rfl, fun h => by have := hr _ h; omega⟩
def begKs (g : Nat) : List Kn := [⟨4, false, false, some ⟨g, 0, none⟩, 1, [5]⟩, ⟨5, false, false, some ⟨g + 1, 0, none⟩, 1, [4]⟩, ⟨6, true, false, none, 0, []⟩]
theorem one_int {w : World} {g : Nat} {z : Int} (hb : w.heap[g]? = some (.cells #[.int .i64 z] 3 (0, 0))) (hz : (Lit.int .i64 z).wf = true) : IntsV w (some ⟨g, 0, none⟩) 1 1 [z] :=
  ⟨rfl, Nat.le_refl _, by unfold maxLen; omega, fun x hx => by rw [List.mem_singleton.1 hx]; exact hz, fun _ => ⟨g, 0, rfl, fun i hi => by
    obtain rfl : i = 0 := by omega
    exact cellAt hb 0⟩⟩
theorem two_ints (w : World) (y z : Int) (hy : (Lit.int .i64 y).wf = true) (hz : (Lit.int .i64 z).wf = true) : IntsV (w.alloc (.cells #[.int .i64 y, .int .i64 z] 3)) (some ⟨w.heap.size, 0, none⟩) 2 2 [y, z] :=
  ⟨rfl, Nat.le_refl _, by unfold maxLen; omega, fun x hx => by
    simp only [List.mem_cons, List.not_mem_nil, or_false] at hx
    rcases hx with rfl | rfl <;> assumption, fun _ => ⟨w.heap.size, 0, rfl, fun i hi => by
    have hb := blk_new w (.cells #[.int .i64 y, .int .i64 z] 3)
    rcases (show i = 0 ∨ i = 1 by omega) with rfl | rfl
    · exact cellAt hb 0
    · exact cellAt hb 1⟩⟩
theorem begKns (w : World) : KnsV (((w.alloc (.cells #[.int .i64 5] 3)).alloc (.cells #[.int .i64 4] 3)).alloc (.cells #[.int .i64 4, .bool false, .bool false, .slice (some ⟨w.heap.size, 0, none⟩) 1 1, .int .i64 5, .bool false, .bool false, .slice (some ⟨w.heap.size + 1, 0, none⟩) 1 1, .int .i64 6, .bool true, .bool false, .slice none 0 0] 38)) (some ⟨w.heap.size + 1 + 1, 0, none⟩) 3 3 (begKs w.heap.size) := by
  have b0 := blk_new w (.cells #[.int .i64 5] 3)
  have b1 := blk_new (w.alloc (.cells #[.int .i64 5] 3)) (.cells #[.int .i64 4] 3)
  have b2 := blk_new ((w.alloc (.cells #[.int .i64 5] 3)).alloc (.cells #[.int .i64 4] 3)) (.cells #[.int .i64 4, .bool false, .bool false, .slice (some ⟨w.heap.size, 0, none⟩) 1 1, .int .i64 5, .bool false, .bool false, .slice (some ⟨w.heap.size + 1, 0, none⟩) 1 1, .int .i64 6, .bool true, .bool false, .slice none 0 0] 38)
  have s1 : (w.alloc (.cells #[.int .i64 5] 3)).heap.size = w.heap.size + 1 := by simp
  have s2 : ((w.alloc (.cells #[.int .i64 5] 3)).alloc (.cells #[.int .i64 4] 3)).heap.size = w.heap.size + 1 + 1 := by simp
  rw [s1] at b1
  rw [s2] at b2
  have c0 := ((((Keep.refl [] _).alloc (.cells #[.int .i64 4] 3)).alloc (.cells #[.int .i64 4, .bool false, .bool false, .slice (some ⟨w.heap.size, 0, none⟩) 1 1, .int .i64 5, .bool false, .bool false, .slice (some ⟨w.heap.size + 1, 0, none⟩) 1 1, .int .i64 6, .bool true, .bool false, .slice none 0 0] 38))).at b0 (by simp)
  have c1 := ((Keep.refl [] _).alloc (.cells #[.int .i64 4, .bool false, .bool false, .slice (some ⟨w.heap.size, 0, none⟩) 1 1, .int .i64 5, .bool false, .bool false, .slice (some ⟨w.heap.size + 1, 0, none⟩) 1 1, .int .i64 6, .bool true, .bool false, .slice none 0 0] 38)).at b1 (by simp)
  refine ⟨rfl, Nat.le_refl _, by unfold maxLen; omega, fun _ => ⟨w.heap.size + 1 + 1, 0, rfl, ⟨_, b2⟩, fun j v hj => ?_⟩, fun x hx => ?_⟩
  · rw [Nat.zero_add, cell_of_row _ _ j _ 38 (0, 0) b2]
    have : (knsC (begKs w.heap.size)) = [.int .i64 4, .bool false, .bool false, .slice (some ⟨w.heap.size, 0, none⟩) 1 1, .int .i64 5, .bool false, .bool false, .slice (some ⟨w.heap.size + 1, 0, none⟩) 1 1, .int .i64 6, .bool true, .bool false, .slice none 0 0] := rfl
    rw [this] at hj
    simpa using hj
  · simp only [begKs, List.mem_cons, List.not_mem_nil, or_false] at hx
    rcases hx with rfl | rfl | rfl
    · exact ⟨one_int c0 (by decide), (by decide : (Lit.int .i64 4).wf = true), fun ad ha => by cases ha; exact ⟨_, c0⟩⟩
    · exact ⟨one_int c1 (by decide), (by decide : (Lit.int .i64 5).wf = true), fun ad ha => by cases ha; exact ⟨_, c1⟩⟩
    · exact ⟨IntsV.nil _, (by decide : (Lit.int .i64 6).wf = true), fun ad ha => by cases ha⟩
theorem begS (g : Nat) : ∀ k ∈ begKs g, k.refs.length ≤ 100 := fun k hk => by
  simp only [begKs, List.mem_cons, List.not_mem_nil, or_false] at hk
  rcases hk with rfl | rfl | rfl <;> simp
theorem begN (g : Nat) : ((begKs g).map Kn.ref).Nodup := by simp [begKs]
theorem begF (g : Nat) : ∀ x, x ∈ firsts (begKs g) ↔ x = 6 := fun x => by simp [firsts, begKs]
theorem begR (g : Nat) : ∀ x, refsR (begKs g) x = if x = 6 then some [] else if x = 5 then some [4] else if x = 4 then some [5] else none := fun x => by
  unfold refsR begKs
  simp only [List.reverse_cons, List.reverse_nil, List.nil_append, List.cons_append, List.find?_cons, List.find?_nil]
  by_cases h6 : x = 6
  · subst h6; rfl
  · rw [if_neg h6, show decide ((6 : Int) = x) = false from decide_eq_false (fun e => h6 e.symm)]
    by_cases h5 : x = 5
    · subst h5; rfl
    · rw [if_neg h5, show decide ((5 : Int) = x) = false from decide_eq_false (fun e => h5 e.symm)]
      by_cases h4 : x = 4
      · subst h4; rfl
      · rw [if_neg h4, show decide ((4 : Int) = x) = false from decide_eq_false (fun e => h4 e.symm)]
        rfl
set_option maxRecDepth 100000 in
set_option maxHeartbeats 2000000 in
theorem begun19_any {w : World} : Calls Try.prog 19 #[] w fun e w' => e = .returned (.bool true) ∧ Keep [] w w' := by
  have HB := Lib.hid (begKns w)
  go_enter Try.func19, Try.ntmps19
  go_wp2_with (first | (with_reducible refine Txt.wp_region_text mixed quiet (by decide +kernel) ?_) | (with_reducible refine Txt.text_done (by kernel_rfl) ?_) | (go_at_call 21; (with_reducible refine (garbage21_any HB.out (by decide) (begS _) (begN _)).mono ?_); rintro e1 w1 ⟨out, v, rfl, h1, h2, h3, h4, h5, h6⟩; have he := beg_out (begR _) (begF _) h3 h4 h6; subst he; obtain ⟨a1, c1, rfl, hv1, -⟩ := IntsV.ofOwn h1 h5; have HV1 : Hid (∀ o, IntsV (w1.alloc o) a1 2 c1 [4, 5]) := Lib.hid (fun o => hv1.keep ((Keep.refl [] w1).alloc o) (by simp)); have HK := Lib.hid ((((Keep.refl [] w).alloc _).alloc _).alloc _ |>.trans h2); clear h1 h2 h3 h4 h5 h6 hv1) | (go_at_call 18; (with_reducible refine (equal18_any (HV1.out _) (two_ints _ 4 5 (by decide) (by decide))).mono ?_); rintro e2 w2 ⟨rfl, hk2⟩))
  go_ret
  exact ⟨rfl, (HK.out.alloc _).trans hk2⟩
end Go.Proofs.Ytmedldloilbmeaa
/- slices.Grow and slices.Concat, for shrink.List. -/
namespace Go.Proofs
open Go.Shelf
def Try.growI_ren : Go.Shelf.Ren := ⟨fun | 4 => 47 | n => n, fun | 22 => 22 | 25 => 3 | 3 => 3 | 4 => 4 | 9 => 9 | 20 => 20 | 0 => 0 | n => n, fun | n => n⟩
theorem Try.growI : Go.Proofs.Lays8.n4 Try.prog Try.growI_ren := {
  mixed := by kernel_rfl
  f4 := ⟨Try.f47.name, by decide, Try.func47.trans (congrArg some (by kernel_rfl))⟩
  t0 := Try.underlying0
  a0 := Try.isAgg0
  z0 := Try.sizeOf0
  v0 := Try.zeroValue0
  t3 := Try.underlying3
  a3 := Try.isAgg3
  z3 := Try.sizeOf3
  v3 := Try.zeroValue3
  t4 := Try.underlying4
  a4 := Try.isAgg4
  z4 := Try.sizeOf4
  v4 := Try.zeroValue4
  t9 := Try.underlying9
  a9 := Try.isAgg9
  z9 := Try.sizeOf9
  v9 := Try.zeroValue9
  t20 := Try.underlying20
  a20 := Try.isAgg20
  z20 := Try.sizeOf20
  v20 := Try.zeroValue20
  t22 := Try.underlying22
  a22 := Try.isAgg22
  z22 := Try.sizeOf22
  v22 := Try.zeroValue22 }
end Go.Proofs
namespace Go
open Go.RowKit
/-- How many cells the first k rows hold; the cells. -/
def sumN (N : Nat → Nat) : Nat → Nat
  | 0 => 0
  | k + 1 => sumN N k + N k
def catV (V : Nat → List Value) : Nat → List Value
  | 0 => []
  | k + 1 => catV V k ++ V k
theorem sumN_mono (N : Nat → Nat) {i k : Nat} (h : i ≤ k) : sumN N i ≤ sumN N k := by
  induction k with
  | zero => rw [show i = 0 by omega]; exact Nat.le_refl _
  | succ k ih =>
    by_cases e : i = k + 1
    · rw [e]; exact Nat.le_refl _
    · have := ih (by omega); rw [sumN]; omega
/-- A slice of one-celled values. -/
structure VSl (w : World) (a : Option Addr) (n : Nat) (vs : List Value) : Prop where
  len : vs.length = n
  one : ∀ u ∈ vs, u.oneCell' = true
  none : a = none → n = 0
  cells : ∀ ad, a = some ad → ∀ j u, vs[j]? = some u → w.cell? (ad.add j) = some u
theorem VSl.keep {w w' : World} {a : Option Addr} {n : Nat} {vs : List Value} (h : VSl w a n vs) (hk : Keep [] w w') : VSl w' a n vs :=
  ⟨h.len, h.one, h.none, fun ad ha j u hu => hk.cell (h.cells ad ha j u hu) (by simp)⟩
theorem own_sl {w : World} {B e n : Nat} {v : Value} {xs : List Value} (ho : w.ownsRow B e 1 v n xs) (h1 : ∀ u ∈ xs, u.oneCell' = true) : ∃ a c, v = .slice a n c ∧ VSl w a n xs ∧ n ≤ c ∧ c ≤ maxLen ∧ (0 < n → ∃ g, a = some ⟨g, 0, none⟩) := by
  have hl : xs.length = n := by simpa using ho.1
  rcases ho.2 with ⟨rfl, h0⟩ | ⟨g, cap, cur, rfl, hb, hg, hnc, hcm, hcs, ht⟩
  · subst h0
    exact ⟨_, 0, rfl, ⟨hl, h1, fun _ => rfl, fun ad h => (by cases h)⟩, Nat.le_refl _, Nat.zero_le _, fun h => absurd h (by decide)⟩
  · refine ⟨_, _, rfl, ⟨hl, h1, fun h => (by cases h), fun ad ha j u hu => ?_⟩, hnc, hcm, fun _ => ⟨g, rfl⟩⟩
    cases ha
    have hj : j < n := by have := (List.getElem?_eq_some_iff.1 hu).1; omega
    rw [Go.WideShapes.add_plain, Nat.zero_add, cell_of_row w g j cur e (0, 0) hg, ← hu, ← ht, List.getElem?_take, if_pos (by omega)]
    simp
end Go
namespace Go.Proofs.Ytmedldloilbmeaa
open Go.RowKit
theorem grow47_any {n : Nat} {w : World} (hb : n ≤ 1000000) :
    Calls Try.prog 47 #[.slice none 0 0, .int .i64 n] w fun e w' => ∃ v, e = .returned v ∧ Keep [] w w' ∧ w'.ownsRow w.heap.size 3 1 v 0 [] := by
  by_cases hn : n = 0
  · subst hn
    refine (Any8.slices_Grow_room Try.growI none 0 0 0 w (by omega) (by omega) (by omega) (by omega)).mono ?_
    rintro e w' ⟨rfl, rfl⟩
    exact ⟨_, rfl, Keep.refl _ _, World.ownsRow_nil _ _ _ _⟩
  obtain ⟨i5, hi5, hy0, hy1, hy2⟩ := infoY info3
  refine (Any8.slices_Grow_grow Try.growI i5 (.int .i64 0) hi5 hy0 (by omega) none 0 0 n [] w (by omega) (by omega) (by rw [hy2]; omega) (by omega) (by simp) (fun _ => rfl) (fun a h => by cases h)).mono ?_
  rintro e w' ⟨rfl, rfl⟩
  refine ⟨_, rfl, ?_, rfl, .inr ?_⟩
  · exact ((Keep.refl [] w).drew).alloc _
  · have e5 : Try.growI_ren.t 25 = 3 := rfl
    have h1 := grownCap_ge w (0 + n) 0 3
    have h2 := grownCap_le_maxLen w (0 + n) 0 3 (by unfold maxLen; omega)
    rw [e5]
    refine ⟨w.heap.size, _, #[] ++ Builtin.zeroCells (Value.int IntKind.i64 0).cells (0 + n - 0) ++ Builtin.zeroCells (Value.int IntKind.i64 0).cells (grownCap w (0 + n) 0 3 - (0 + n)), rfl, Nat.le_refl _, ?_, Nat.zero_le _, h2, ?_, by simp⟩
    · have := blk_new w.drew (.cells (#[] ++ Builtin.zeroCells (Value.int IntKind.i64 0).cells (0 + n - 0) ++ Builtin.zeroCells (Value.int IntKind.i64 0).cells (grownCap w (0 + n) 0 3 - (0 + n))) 3)
      exact this
    · rw [Nat.zero_add] at h1 ⊢
      simp only [Array.size_append, size_zeroCells, List.size_toArray, Value.cells]
      simp
      omega
end Go.Proofs.Ytmedldloilbmeaa
namespace Go
theorem own_baseS {w : World} {b b' e m n : Nat} {v : Value} {xs : List Value} (h : w.ownsRow b e m v n xs) (hb : b' ≤ b) : w.ownsRow b' e m v n xs :=
  ⟨h.1, h.2.imp id fun ⟨g, cap, cur, h1, h2, h3⟩ => ⟨g, cap, cur, h1, Nat.le_trans hb h2, h3⟩⟩
end Go
namespace Go.Proofs.Ytmedldloilbmeaa
open Go.RowKit
def VRows (w : World) (Q m : Nat) (B O N C : Nat → Nat) (V : Nat → List Value) : Prop :=
  ∀ k, k < m → w.cell? ⟨Q, k, none⟩ = some (.slice (some ⟨B k, O k, none⟩) (N k) (C k)) ∧ VSl w (some ⟨B k, O k, none⟩) (N k) (V k)
theorem VRows.keep {w w' : World} {Q m : Nat} {B O N C : Nat → Nat} {V : Nat → List Value} (h : VRows w Q m B O N C V) (hk : Keep [] w w') : VRows w' Q m B O N C V := fun k hkm =>
  ⟨hk.cell (h k hkm).1 (by simp), (h k hkm).2.keep hk⟩
set_option maxRecDepth 100000 in
set_option maxHeartbeats 2000000 in
theorem concat38_any {Q m c : Nat} {B O N C : Nat → Nat} {V : Nat → List Value} {w : World} (h : VRows w Q m B O N C V) (hm : m ≤ 1000) (hmc : m ≤ c) (hcm : c ≤ maxLen) (hb : sumN N m ≤ 1000000) :
    Calls Try.prog 38 #[.slice (some ⟨Q, 0, none⟩) m c] w fun e w' => ∃ v, e = .returned v ∧ Keep [] w w' ∧ w'.ownsRow w.heap.size 3 1 v (sumN N m) (catV V m) := by
  have HR := Lib.hid h
  have HM : Hid (∀ k, k ≤ m → sumN N k ≤ sumN N m) := Lib.hid (fun k hk => sumN_mono N hk)
  unfold maxLen at hcm
  obtain ⟨i5, hi5, hy0, hy1, hy2⟩ := infoY info3
  clear h
  go_enter Try.func38, Try.ntmps38
  go_wp2_with fail
  go_loopw [3, 5, 11] (fun s _ j wr => ∃ k : Nat, k ≤ m ∧ j = .int .i64 k ∧ s = .int .i64 (sumN N k) ∧ Keep [] w wr) (fun _ _ j _ => m - (intOf j).toNat)
  case atStart => exact ⟨0, by omega, rfl, rfl, Keep.refl _ _⟩
  case round =>
    obtain ⟨k, hk, rfl, rfl, hkw⟩ := hrel
    by_cases hlt : k < m
    · obtain ⟨hc, hv⟩ := HR.out.keep hkw k hlt
      have h1 := HM.out (k + 1) hlt
      have HS : Hid (sumN N (k + 1) = sumN N k + N k) := Lib.hid rfl
      rw [HS.out] at h1
      obtain ⟨s, hs⟩ : ∃ s, sumN N k = s := ⟨_, rfl⟩
      obtain ⟨x, hx⟩ : ∃ x, N k = x := ⟨_, rfl⟩
      rw [hx] at hc h1
      rw [hs] at h1 ⊢
      rw [hs, hx] at HS
      clear hv hs hx
      go_wp2_with (first | (with_reducible refine Txt.wp_region_text mixed quiet (by decide +kernel) ?_) | (with_reducible refine Txt.text_done (by kernel_rfl) ?_))
      exact ⟨⟨k + 1, hlt, by go_num, by rw [HS.out]; go_num, hkw⟩, by simp [intOf]; omega⟩
    · have hkm := Lib.hid (show k = m by omega)
      rw [show sumN N k = sumN N m by rw [hkm.out]]
      obtain ⟨T, hT⟩ : ∃ T, sumN N m = T := ⟨_, rfl⟩
      rw [hT] at hb HM ⊢
      have HT := Lib.hid hT
      clear hT
      go_wp2_with (first | (go_at_call 47; (with_reducible refine (grow47_any hb).mono ?_); rintro e w2 ⟨v2, rfl, hk2, ho2⟩; have HO2 := Lib.hid ho2; clear ho2))
      have hkw2 := hkw.trans hk2
      have hsz2 := hkw.size
      have HO3 := Lib.hid (own_baseS HO2.out hsz2)
      clear HO2 hk2
      go_loopw [6, 8, 27] (fun v _ j wr' => ∃ k : Nat, k ≤ m ∧ j = .int .i64 k ∧ Keep [] w wr' ∧ Hid (wr'.ownsRow w.heap.size 3 1 v (sumN N k) (catV V k))) (fun _ _ j _ => m - (intOf j).toNat)
      case atStart => exact ⟨0, by omega, rfl, hkw2, HO3⟩
      case round =>
        obtain ⟨i, hi, rfl, hkq, HO⟩ := hrel
        have hsq := hkq.size
        by_cases hli : i < m
        · obtain ⟨hc, hv⟩ := HR.out.keep hkq i hli
          have h1 := HM.out (i + 1) hli
          have HS : Hid (sumN N (i + 1) = sumN N i + N i) := Lib.hid rfl
          have HZ : Hid (catV V (i + 1) = catV V i ++ V i) := Lib.hid rfl
          rw [HS.out] at h1
          obtain ⟨s, hs⟩ : ∃ s, sumN N i = s := ⟨_, rfl⟩
          obtain ⟨x, hx⟩ : ∃ x, N i = x := ⟨_, rfl⟩
          obtain ⟨y, hy⟩ : ∃ y, C i = y := ⟨_, rfl⟩
          rw [hx, hy] at hc
          rw [hx] at hv
          rw [hs, hx] at h1 HS
          rw [hs] at HO
          have HNW : Hid (∀ j u, (V i)[j]? = some u → wr.cell? ((⟨B i, O i, none⟩ : Addr).add j) = some u) := Lib.hid (hv.cells _ rfl)
          have HLN : Hid ((V i).length = x * 1) := Lib.hid (by rw [hv.len, Nat.mul_one])
          have HOC : Hid (∀ u ∈ V i, u.oneCell' = true) := Lib.hid hv.one
          clear hv hs hx hy
          go_wp2_with (first | (at_builtin; refine wpList_append_own _ rfl _ _ 22 rfl w.heap.size 3 i5 (.int .i64 0) 1 8 Try.underlying22 hi5 hy0 hy1 hy2 rfl (by decide) _ _ _ rfl HO.out ⟨B i, O i, none⟩ x y (V i) rfl HLN.out HNW.out HOC.out (by unfold maxLen; omega) (by omega) (by omega) ?_; intro v6 w6 hown6 hgr6 _; have HO6 := Lib.hid hown6; have HGR6 := Lib.hid hgr6; clear hown6 hgr6))
          exact ⟨⟨i + 1, hli, by go_num, hkq.grown HGR6.out (fun g hg => .inr (HO.out.lt g hg).1), Lib.hid (by rw [HS.out, HZ.out]; exact HO6.out)⟩, by simp [intOf]; omega⟩
        · have him := Lib.hid (show i = m by omega)
          go_wp2_with fail
          go_ret
          have h9 := HO.out
          rw [him.out, HT.out] at h9
          exact ⟨_, rfl, hkq, by rw [HT.out]; exact h9⟩
end Go.Proofs.Ytmedldloilbmeaa
/- Marking: Passes. -/
namespace Go
open Go.RowKit
/-- A row of numbers, with its place. -/
structure Rw where
  a : Option Addr
  c : Nat
  xs : List Int
def Rw.val (r : Rw) : Value := .slice r.a r.xs.length r.c
def Rw.ok (w : World) (r : Rw) : Prop := IntsV w r.a r.xs.length r.c r.xs ∧ ∀ ad, r.a = some ad → ∃ cs, w.heap[ad.block]? = some (.cells cs 3 (0, 0))
theorem Rw.ok.keep {S : List Nat} {w w' : World} {r : Rw} (h : r.ok w) (hk : Keep S w w') (hS : ∀ ad, r.a = some ad → ad.block ∉ S) : r.ok w' :=
  ⟨h.1.keep hk hS, fun ad ha => by obtain ⟨cs, hc⟩ := h.2 ad ha; exact ⟨cs, hk.at hc (hS ad ha)⟩⟩
theorem one_rws (l : List Rw) : ∀ u ∈ l.map Rw.val, u.oneCell' = true := fun u hu => by
  obtain ⟨x, _, rfl⟩ := List.mem_map.1 hu
  rfl
/-- Levels: each thing in a level, and why. -/
def Chn (R : Int → Option (List Int)) (S : Int → Prop) (LV : List (List Int)) : Prop :=
  ∀ (i : Nat) (l : List Int), LV[i]? = some l → ∀ r ∈ l, (R r).isSome = true ∧ (i = 0 → S r) ∧ (0 < i → ¬ S r ∧ ∃ (l' : List Int) (r' : Int) (xs : List Int), LV[i - 1]? = some l' ∧ r' ∈ l' ∧ R r' = some xs ∧ r ∈ xs)
/-- The levels so far, and the next one. -/
structure PsInv (R : Int → Option (List Int)) (S : Int → Prop) (mk : Int → Bool) (LV : List (List Int)) (Fr : List Int) : Prop where
  chn : Chn R S (LV ++ [Fr])
  nodup : LV.flatten.Nodup
  marks : ∀ x, mk x = true ↔ x ∈ LV.flatten
theorem PsInv.start {R : Int → Option (List Int)} {F : List Int} (ho : ∀ x ∈ F, (R x).isSome = true) : PsInv R (fun x => x ∈ F) (fun _ => false) [] F :=
  ⟨fun i l h r hr => by
    match i, h with
    | 0, h => cases h; exact ⟨ho r hr, fun _ => hr, fun h => absurd h (by decide)⟩, List.nodup_nil, fun x => by simp⟩
theorem PsInv.step {R : Int → Option (List Int)} {S : Int → Prop} {mk tl mk' tl' : Int → Bool} {LV : List (List Int)} {Fr due due' out : List Int} (h : PsInv R S mk LV Fr) (hl : LvInv R S mk tl Fr) (k : LvTo R mk tl due Fr mk' tl' due' out) : PsInv R S mk' (LV ++ [Fr]) out := by
  have hmk : ∀ x, mk' x = true ↔ mk x = true ∨ x ∈ Fr := fun x => by rw [k.marks]; simp
  refine ⟨fun i l hi r hr => ?_, ?_, fun x => ?_⟩
  · by_cases hlt : i < (LV ++ [Fr]).length
    · rw [List.getElem?_append_left hlt] at hi
      obtain ⟨h1, h2, h3⟩ := h.chn i l hi r hr
      refine ⟨h1, h2, fun h0 => ?_⟩
      obtain ⟨h4, l', r', xs, h5, h6⟩ := h3 h0
      exact ⟨h4, l', r', xs, by rw [List.getElem?_append_left (by omega)]; exact h5, h6⟩
    · have hi2 := (List.getElem?_eq_some_iff.1 hi).1
      simp only [List.length_append, List.length_singleton] at hi2 hlt
      obtain rfl : i = LV.length + 1 := by omega
      rw [List.getElem?_append_right (by simp)] at hi
      simp at hi
      subst hi
      obtain ⟨h1, h2, h3⟩ := (k.outs r).1 hr
      obtain ⟨r', xs, hr', hR, hx⟩ := tosL_mem.1 h1
      refine ⟨h2, fun h => absurd h (by omega), fun _ => ⟨fun hs => ?_, Fr, r', xs, ?_, hr', hR, hx⟩⟩
      · have := (hmk r).2 (hl.seeds r hs h2)
        rw [h3] at this
        cases this
      · rw [Nat.add_sub_cancel, List.getElem?_append_left (by simp), List.getElem?_append_right (Nat.le_refl _)]
        simp
  · rw [List.flatten_append, List.flatten_singleton, List.nodup_append]
    refine ⟨h.nodup, hl.nodup, fun a ha b hb e => ?_⟩
    subst e
    have := (h.marks a).2 ha
    rw [(hl.fr a hb).2] at this
    cases this
  · rw [hmk, h.marks, List.flatten_append, List.flatten_singleton, List.mem_append]
theorem psNode {w w5 : World} {P : Program} {S : List Nat} {H b bR bM bT N : Nat} {f : Int → Option Value} {R : Int → Option (List Int)} {mk tl : Int → Bool} {due : List Int} {came : Int} {vd : Value} {T : TypeId} (h : NodeAt w P H b bR bM bT N f R mk tl due came vd) (hk : Keep S w w5) (hS : ∀ g ∈ S, w.heap.size ≤ g ∨ ∃ cs, w.heap[g]? = some (.cells cs T (0, 0))) (h73 : T ≠ 73) (h3 : T ≠ 3) : NodeAt w5 P H b bR bM bT N f R mk tl due came vd := by
  have hlt : ∀ {g : Nat} {o : Obj}, w.heap[g]? = some o → g < w.heap.size := fun h => (Array.getElem?_eq_some_iff.1 h).1
  have hb : ∀ {g : Nat} {cs : Array Value} {T' : TypeId} {fr : Nat × Nat}, w.heap[g]? = some (.cells cs T' fr) → T' ≠ T → g ∉ S := fun hc hT hm => by
    rcases hS _ hm with h1 | ⟨cs', h1⟩
    · have := hlt hc; omega
    · exact neTypeY hc h1 hT rfl
  have hmp : ∀ {c m : Nat} {fm : Int → Option Value}, MapF w P 3 c m fm → c ∉ S := fun hm hin => by
    rcases hS _ hin with h1 | ⟨cs', h1⟩
    · have := hm.lt; omega
    · exact hm.notCells h1 rfl
  refine h.keep hk (hmp h.mr) (fun g hg => ?_) (fun g hg _ cs fr hc => ?_)
  · simp only [ndS, List.mem_cons, Option.mem_toList] at hg
    rcases hg with rfl | rfl | rfl | hg
    · exact hb h.blk (Ne.symm h73)
    · exact hmp h.mm
    · exact hmp h.mt
    · obtain ⟨_, _, cs, hc⟩ := ownLt h.rowD g hg
      exact hb hc (Ne.symm h3)
  · rcases hS _ hg with h1 | ⟨cs', h1⟩
    · have := hlt hc; omega
    · exact neTypeY h1 hc h3 rfl
end Go
namespace Go.Proofs.Ytmedldloilbmeaa
open Go.RowKit
theorem info22 : (Try.prog.info? 22).map (fun i => (i.zero, i.size, i.bytes)) = some (some (.slice none 0 0), 1, 24) := by kernel_rfl
/-- Passes under way. -/
def PsSt (w wr : World) (H b bR bM bT : Nat) (f : Int → Option Value) (R : Int → Option (List Int)) (S : Int → Prop) (U : List Int) (K k : Nat) (v : Value) (Fr : List Int) (rows : List Rw) (vo : Value) : Prop :=
  ∃ mk tl due vd N, NodeAt wr Try.prog H b bR bM bT N f R mk tl due 0 vd ∧ LvInv R S mk tl Fr ∧ DueInv (fun _ => false) tl due ∧ N ≤ 400 + 200000 * (K - k) ∧ due.length ≤ 100000 * (K - k) ∧ k = unm U mk ∧ k ≤ K ∧ wr.ownsRow w.heap.size 3 1 v Fr.length (Fr.map (Value.int .i64)) ∧ (∀ x ∈ Fr, (Lit.int .i64 x).wf = true) ∧ (∀ g, vd.ownBlock = some g → v.ownBlock ≠ some g ∧ w.heap.size ≤ g) ∧ Keep [b, bM, bT] w wr ∧
    PsInv R S mk (rows.map Rw.xs) Fr ∧ rows.length ≤ K - k ∧ wr.ownsRow w.heap.size 22 1 vo rows.length (rows.map Rw.val) ∧ ∀ r ∈ rows, r.ok wr ∧ ∀ ad, r.a = some ad → vd.ownBlock ≠ some ad.block
theorem psDone {R : Int → Option (List Int)} {S : Int → Prop} {mk : Int → Bool} {LV : List (List Int)} (h : PsInv R S mk LV []) : Chn R S LV := fun i l hi r hr => by
  have hlt := (List.getElem?_eq_some_iff.1 hi).1
  obtain ⟨h1, h2, h3⟩ := h.chn i l (by rw [List.getElem?_append_left hlt]; exact hi) r hr
  refine ⟨h1, h2, fun h0 => ?_⟩
  obtain ⟨h4, l', r', xs, h5, h6⟩ := h3 h0
  exact ⟨h4, l', r', xs, by rw [List.getElem?_append_left (by omega)] at h5; exact h5, h6⟩
theorem firsts_sorted (l : List Kn) : (fun x => x ∈ sortI (firsts l)) = fun x => x ∈ firsts l := by
  funext x
  exact propext (sortI_perm _).mem_iff
theorem psStep {w wr w5 w9 : World} {H b bR bM bT K k L n g9 c9 N co : Nat} {f : Int → Option Value} {R : Int → Option (List Int)} {S : Int → Prop} {U Fr : List Int} {mk tl : Int → Bool} {due : List Int} {vd : Value} {ao av : Option Addr} {cv : Nat} {rows : List Rw} {o : Obj} (hU : ∀ x, (R x).isSome = true → x ∈ U) (hf : Fr ≠ []) (hnl : Fr.length = n) (hLl : rows.length = L)
    (h1 : NodeAt wr Try.prog H b bR bM bT N f R mk tl due 0 vd) (h2 : LvInv R S mk tl Fr) (h3 : DueInv (fun _ => false) tl due) (h4 : N ≤ 400 + 200000 * (K - k)) (h5 : due.length ≤ 100000 * (K - k)) (h6 : k = unm U mk) (h7 : k ≤ K) (h8 : wr.ownsRow w.heap.size 3 1 (.slice av n cv) n (Fr.map (Value.int .i64))) (hwf : ∀ x ∈ Fr, (Lit.int .i64 x).wf = true) (h10 : ∀ g, vd.ownBlock = some g → (Value.slice av n cv).ownBlock ≠ some g ∧ w.heap.size ≤ g) (h11 : Keep [b, bM, bT] w wr)
    (h12 : PsInv R S mk (rows.map Rw.xs) Fr) (h13 : L ≤ K - k) (h15 : ∀ r ∈ rows, r.ok wr ∧ ∀ ad, r.a = some ad → vd.ownBlock ≠ some ad.block)
    (hown : wr.ownsRow w.heap.size 22 1 (.slice ao L co) L (rows.map Rw.val)) (hk5 : Keep (Value.slice ao L co).ownBlock.toList (wr.alloc o) w5) (ho5 : w5.ownsRow w.heap.size 22 1 (.slice (some ⟨g9, 0, none⟩) (L + 1) c9) (L + 1) (rows.map Rw.val ++ [.slice av n cv]))
    {mk' tl' : Int → Bool} {due' out : List Int} {vd' v' : Value} (k1 : NodeAt w9 Try.prog H b bR bM bT (N + 200000) f R mk' tl' due' 0 vd') (k2 : LvTo R mk tl due Fr mk' tl' due' out) (k3 : w9.ownsRow w5.heap.size 3 1 v' out.length (out.map (Value.int .i64))) (k4 : ∀ x ∈ out, (Lit.int .i64 x).wf = true) (k5 : Keep (ndS b bM bT vd) w5 w9) (k6 : NwY w5 vd vd') (k7 : due'.length ≤ due.length + 100000) (k8 : ∀ g, vd'.ownBlock = some g → v'.ownBlock ≠ some g) :
    unm U mk' < k ∧ PsSt w w9 H b bR bM bT f R S U K (unm U mk') v' out (rows ++ [⟨av, cv, Fr⟩]) (.slice (some ⟨g9, 0, none⟩) (L + 1) c9) := by
  have hlt := unm_step hU h2 k2 hf
  rw [← h6] at hlt
  have hS : ∀ g ∈ (Value.slice ao L co).ownBlock.toList, w.heap.size ≤ g ∧ ∃ cs, wr.heap[g]? = some (.cells cs 22 (0, 0)) := fun g hg => by
    obtain ⟨h, _, cs, hc⟩ := ownLt hown g (by simpa using hg)
    exact ⟨h, cs, hc⟩
  have hal : Keep [] wr (wr.alloc o) := (Keep.refl [] wr).alloc o
  have hk25 : Keep (Value.slice ao L co).ownBlock.toList wr w5 := (hal.more (by simp)).call hk5 (fun g hg => .inl hg)
  have hw5 : Keep [b, bM, bT] w w5 := h11.call hk25 (fun g hg => .inr (hS g hg).1)
  have hN5 : NodeAt w5 Try.prog H b bR bM bT N f R mk tl due 0 vd := psNode h1 hk25 (fun g hg => .inr (hS g hg).2) (by decide) (by decide)
  have hrow : ∀ r : Rw, r.ok wr → (∀ ad, r.a = some ad → vd.ownBlock ≠ some ad.block) → r.ok w9 ∧ ∀ ad, r.a = some ad → vd'.ownBlock ≠ some ad.block := fun r hr hv => by
    have hr5 := hr.keep hk25 (fun ad ha hm => by
      obtain ⟨cs, hc⟩ := hr.2 ad ha
      obtain ⟨_, cs', hc'⟩ := hS _ hm
      exact neTypeY hc hc' (by decide) rfl)
    refine ⟨hr5.keep k5 (fun ad ha hm => ?_), fun ad ha he => ?_⟩
    · obtain ⟨cs, hc⟩ := hr5.2 ad ha
      simp only [ndS, List.mem_cons, Option.mem_toList] at hm
      rcases hm with hm | hm | hm | hm
      · exact neTypeY hc hN5.blk (by decide) hm
      · exact hN5.mm.notCells hc hm.symm
      · exact hN5.mt.notCells hc hm.symm
      · exact hv ad ha hm
    · rcases k6 _ he with h | h
      · exact hv ad ha h
      · obtain ⟨cs, hc⟩ := hr5.2 ad ha
        have := lt_of_blk hc
        omega
  have hnew : Rw.ok wr ⟨av, cv, Fr⟩ ∧ ∀ ad, av = some ad → vd.ownBlock ≠ some ad.block := by
    obtain ⟨a', c', he, hiv, hbv⟩ := IntsV.ofOwnB h8 hwf
    injection he with e1 _ e3
    subst e1 e3
    refine ⟨⟨by show IntsV wr av Fr.length cv Fr; rw [hnl]; exact hiv, fun ad ha => by obtain ⟨_, _, cs, hc⟩ := ownLt h8 _ (hbv ad ha); exact ⟨cs, hc⟩⟩, fun ad ha hv => (h10 _ hv).1 (hbv ad ha)⟩
  have hmap : (rows ++ [(⟨av, cv, Fr⟩ : Rw)]).map Rw.xs = rows.map Rw.xs ++ [Fr] := by simp
  have hval : (rows ++ [(⟨av, cv, Fr⟩ : Rw)]).map Rw.val = rows.map Rw.val ++ [.slice av n cv] := by simp [Rw.val, hnl]
  have hlen : (rows ++ [(⟨av, cv, Fr⟩ : Rw)]).length = L + 1 := by simp [hLl]
  refine ⟨hlt, mk', tl', due', vd', _, k1, h2.step k2, h3.step k2, by omega, by omega, rfl, by omega, ownBaseY k3 hw5.size, k4, fun g hg => ⟨k8 g hg, ?_⟩, ?_, by rw [hmap]; exact h12.step h2 k2, by rw [hlen]; omega, ?_, fun r hr => ?_⟩
  · rcases k6 g hg with h | h
    · exact (h10 g h).2
    · exact Nat.le_trans hw5.size h
  · refine hw5.call k5 (fun g hg => ?_)
    simp only [ndS, List.mem_cons, Option.mem_toList] at hg
    rcases hg with hg | hg | hg | hg
    · exact .inl (by simp [hg])
    · exact .inl (by simp [hg])
    · exact .inl (by simp [hg])
    · exact .inr (h10 g hg).2
  · rw [hlen, hval]
    refine own_keep ho5 k5 (fun g hg hm => ?_)
    obtain ⟨_, _, cs, hc⟩ := ownLt ho5 g hg
    simp only [ndS, List.mem_cons, Option.mem_toList] at hm
    rcases hm with hm | hm | hm | hm
    · exact neTypeY hc hN5.blk (by decide) hm
    · exact hN5.mm.notCells hc hm.symm
    · exact hN5.mt.notCells hc hm.symm
    · obtain ⟨_, _, cs', hc'⟩ := ownLt hN5.rowD g hm
      exact neTypeY hc hc' (by decide) rfl
  · rcases List.mem_append.1 hr with hr | hr
    · exact hrow r (h15 r hr).1 (h15 r hr).2
    · rw [List.mem_singleton.1 hr]
      exact hrow _ hnew.1 hnew.2
set_option maxRecDepth 100000 in
set_option maxHeartbeats 4000000 in
theorem passes33_any {w : World} {a : Option Addr} {n c : Nat} {l : List Kn} (hv : KnsV w a n c l) (hn : n ≤ 400) (hs : ∀ k ∈ l, k.refs.length ≤ 100) (hd : (l.map Kn.ref).Nodup) :
    Calls Try.prog 33 #[.slice a n c] w fun e w' => ∃ (rows : List Rw) (vo : Value), e = .returned (.tuple #[vo, .int .i64 0]) ∧ w'.ownsRow w.heap.size 22 1 vo rows.length (rows.map Rw.val) ∧ (∀ r ∈ rows, r.ok w') ∧ Keep [] w w' ∧ Chn (refsR l) (fun x => x ∈ firsts l) (rows.map Rw.xs) ∧ (rows.map Rw.xs).flatten.Nodup ∧ (∀ x, x ∈ (rows.map Rw.xs).flatten ↔ Rch (refsR l) (fun x => x ∈ firsts l) x) ∧ rows.length ≤ 400 := by
  have HV := Lib.hid hv
  have HS := Lib.hid hs
  have HD := Lib.hid hd
  have HL := Lib.hid hv.len
  have HU : Hid (∀ x, (refsR l x).isSome = true → x ∈ l.map Kn.ref) := Lib.hid refsR_univ
  obtain ⟨i22, hi22, hy0, hy1, hy2⟩ := infoY info22
  clear hv hs hd
  go_enter Try.func33, Try.ntmps33
  go_wp2_with (first | (with_reducible refine Txt.wp_region_text mixed quiet (by decide +kernel) ?_) | (with_reducible refine Txt.text_done (by kernel_rfl) ?_) | (go_at_call 44; (with_reducible refine (check44_ok HV.out hn HD.out).mono ?_); rintro e1 w1 ⟨rfl, hk1⟩; have HK1 := Lib.hid hk1; clear hk1) | (go_at_call 45; (with_reducible refine (start45_any (HV.out.keep0 HK1.out) hn HS.out).mono ?_); rintro e2 w2 ⟨b, bR, bM, bT, f, v, rfl, hn2, ho2, hk2, hg2⟩; have HN2 := Lib.hid hn2; have HO2 := Lib.hid ho2; have HK2 := Lib.hid hk2; have HG2 := Lib.hid hg2; clear hn2 ho2 hk2 hg2) | (go_at_call 16; (with_reducible refine (sort16_any HO2.out (by have := firsts_len l; have := HL.out; omega)).mono ?_); rintro e3 w3 ⟨rfl, ho3, hk3⟩; have HO3 := Lib.hid ho3; have HK3 := Lib.hid hk3; clear ho3 hk3))
  obtain ⟨U, hUe⟩ : ∃ U, l.map Kn.ref = U := ⟨_, rfl⟩
  obtain ⟨K, hK⟩ : ∃ K, unm U (fun _ => false) = K := ⟨_, rfl⟩
  have hK4 : K ≤ 400 := by
    have := unm_le U (fun _ => false)
    rw [← hUe, List.length_map, HL.out, hUe, hK] at this
    omega
  rw [hUe] at HU
  have HU4 : Hid (U.length ≤ 400) := Lib.hid (by rw [← hUe, List.length_map, HL.out]; exact hn)
  have hnm : ∀ {c m : Nat} {fm : Int → Option Value}, MapF w2 Try.prog 3 c m fm → c ∉ v.ownBlock.toList := fun hmm hm => by
    obtain ⟨_, _, cs, hc⟩ := ownLt HO2.out _ (by simpa using hm)
    exact hmm.notCells hc rfl
  have hN3 : NodeAt w3 Try.prog w2.heap.size b bR bM bT 400 f (refsR l) (fun _ => false) (fun _ => false) [] 0 (.slice none 0 0) := by
    have hN := HN2.out
    exact ⟨HK3.out.at hN.blk (fun hm => by obtain ⟨_, _, cs, hc⟩ := ownLt HO2.out _ (by simpa using hm); exact neTypeY hc hN.blk (by decide) rfl), hN.mr.keep HK3.out (hnm hN.mr), hN.rf.keepA HK3.out HG2.out.2.2.2.2 (fun g hg => .inl (by simpa using hg)), MapF.keep hN.mm HK3.out (hnm hN.mm), MapF.keep hN.mt HK3.out (hnm hN.mt), World.ownsRow_nil _ _ _ _, fun x hx => (by cases hx), hN.ne⟩
  have hkw : Keep [] w w3 := (HK1.out.trans HK2.out).call HK3.out (fun g hg => .inr (by have := (ownLt HO2.out _ (by simpa using hg)).1; have := HK1.out.size; omega))
  have hlen : (sortI (firsts l)).length = (firsts l).length := sortI_len _
  have hown : ∀ x ∈ sortI (firsts l), (refsR l x).isSome = true := fun x hx => by
    obtain ⟨k, hk, rfl, _⟩ := firsts_mem.1 ((sortI_perm _).mem_iff.1 hx)
    exact refsR_some.2 ⟨k, hk, rfl⟩
  have hg2 := HG2.out
  have hs1 := HK1.out.size
  have HST : Hid (PsSt w w3 w2.heap.size b bR bM bT f (refsR l) (fun x => x ∈ sortI (firsts l)) U K K v (sortI (firsts l)) [] (.slice none 0 0)) := Lib.hid ⟨_, _, [], _, 400, hN3, LvInv.start ((sortI_perm _).nodup_iff.2 (firsts_nodup HD.out)) hown, DueInv.start _, by omega, by simp, hK.symm, Nat.le_refl _, by rw [hlen]; exact ownBaseY HO3.out hs1, fun x hx => (by obtain ⟨k, hk, rfl, _⟩ := firsts_mem.1 ((sortI_perm _).mem_iff.1 hx); exact (HV.out.rows k hk).2.1), fun g hg => by simp [Value.ownBlock] at hg, hkw.more (by simp), PsInv.start hown, by simp, World.ownsRow_nil _ _ _ _, fun r hr => (by cases hr)⟩
  have HB1 : Hid (w.heap.size ≤ b ∧ w.heap.size ≤ bR ∧ w.heap.size ≤ bM ∧ w.heap.size ≤ bT) := Lib.hid ⟨by have := hg2.1; omega, by have := hg2.2.1; omega, by have := hg2.2.2.1; omega, by have := hg2.2.2.2.1; omega⟩
  rw [firsts_sorted] at HST
  obtain ⟨H, hH⟩ : ∃ H, w2.heap.size = H := ⟨_, rfl⟩
  obtain ⟨S, hS⟩ : ∃ S : Int → Prop, (fun x => x ∈ firsts l) = S := ⟨_, rfl⟩
  obtain ⟨R, hR⟩ : ∃ R, refsR l = R := ⟨_, rfl⟩
  obtain ⟨Fr0, hF0⟩ : ∃ Fr0, sortI (firsts l) = Fr0 := ⟨_, rfl⟩
  have HHW : Hid (H ≤ w3.heap.size) := Lib.hid (by rw [← hH]; exact HK3.out.size)
  rw [hS, hR, hH, hF0] at HST
  rw [hR] at HU
  have HRE := Lib.hid hR
  have HSE := Lib.hid hS
  clear HN2 HO2 HK2 HG2 hUe hK hH hS hR hF0 hN3 hkw hlen hown hg2 HO3 HK3 hnm
  go_loopg [6, 7] K (fun k v vo wr => ∃ Fr rows, Hid (PsSt w wr H b bR bM bT f R S U K k v Fr rows vo) ∧ Hid (H ≤ wr.heap.size))
  case atStart => exact ⟨Fr0, [], HST, HHW⟩
  case round =>
    obtain ⟨Fr, rows, HP, HHR⟩ := hrel
    obtain ⟨mk, tl, due, vd, N, h1, h2, h3, h4, h5, h6, h7, h8, h9, h10, h11, h12, h13, h14, h15⟩ := HP.out
    obtain ⟨av, cv, hve, hiv, hbv⟩ := IntsV.ofOwnB h8 h9
    subst hve
    obtain ⟨ao, co, hoe, hco1, hco2, -⟩ := ownSlice h14
    subst hoe
    unfold maxLen at hco2
    obtain ⟨L, hLr⟩ : ∃ L, rows.length = L := ⟨_, rfl⟩
    have HLR := Lib.hid hLr
    rw [hLr] at h13 h14 hco1 ⊢
    by_cases h0 : Fr = []
    · subst h0
      have HFIN : Hid (wr.ownsRow w.heap.size 22 1 (.slice ao L co) L (rows.map Rw.val) ∧ (∀ r ∈ rows, r.ok wr) ∧ Keep [] w wr ∧ Chn R S (rows.map Rw.xs) ∧ (rows.map Rw.xs).flatten.Nodup ∧ (∀ x, x ∈ (rows.map Rw.xs).flatten ↔ Rch R S x)) := Lib.hid ⟨h14, fun r hr => (h15 r hr).1, h11.fresh (fun g hg => by have h12 := HB1.out; simp only [List.mem_cons, List.not_mem_nil, or_false] at hg; rcases hg with rfl | rfl | rfl <;> omega), psDone h12, h12.nodup, fun x => by rw [← h12.marks]; exact h2.all x⟩
      have hL400 : L ≤ 400 := by omega
      clear HP h1 h2 h3 h4 h5 h6 h8 h9 h10 h11 h12 h14 h15 hiv hbv hLr
      go_wp2_with (first | (with_reducible refine Txt.wp_region_text mixed quiet (by decide +kernel) ?_) | (with_reducible refine Txt.text_done (by kernel_rfl) ?_))
      go_ret2
      obtain ⟨f1, f2, f3, f4, f5, f6⟩ := HFIN.out
      rw [← HRE.out] at f4 f6
      rw [← HSE.out] at f4 f6
      exact ⟨rows, _, rfl, by rw [HLR.out]; exact f1, f2, f3, f4, f5, f6, by rw [HLR.out]; exact hL400⟩
    · have hpos : 0 < Fr.length := List.length_pos_iff.2 h0
      have hFl : Fr.length ≤ 400 := Nat.le_trans (nodup_len Fr U h2.nodup (fun x hx => HU.out x (h2.fr x hx).1.own)) HU4.out
      have hn400 := hFl
      obtain ⟨n, hnl⟩ : ∃ n, Fr.length = n := ⟨_, rfl⟩
      have HNL := Lib.hid hnl
      rw [hnl] at h8 h10 hiv hbv hpos hFl ⊢
      have H1 := Lib.hid h1
      have H2 := Lib.hid h2
      have H3 := Lib.hid h3
      have H4 := Lib.hid h4
      have H5 := Lib.hid h5
      have H6 := Lib.hid h6
      have H8 := Lib.hid h8
      have H9 := Lib.hid h9
      have H10 := Lib.hid h10
      have H11 := Lib.hid h11
      have H12 := Lib.hid h12
      have H14 := Lib.hid h14
      have H15 := Lib.hid h15
      have HOA : Hid (∀ o, (wr.alloc o).ownsRow w.heap.size 22 1 (.slice ao L co) L (rows.map Rw.val)) := Lib.hid (fun o => own_keep h14 ((Keep.refl [] wr).alloc o) (by simp))
      have HSZ : Hid (∀ o, w.heap.size ≤ (wr.alloc o).heap.size) := Lib.hid (fun o => Nat.le_trans h11.size ((Keep.refl [] wr).alloc o).size)
      have HONE : Hid (∀ u ∈ [Value.slice av n cv], u.oneCell' = true) := Lib.hid (fun u hu => by rw [List.mem_singleton.1 hu]; rfl)
      have HS : Hid (∀ g ∈ (Value.slice ao L co).ownBlock.toList, wr.heap.size ≤ g ∨ ∃ cs, wr.heap[g]? = some (.cells cs 22 (0, 0))) := Lib.hid (fun g hg => .inr (by obtain ⟨_, _, cs, hc⟩ := ownLt h14 g (by simpa using hg); exact ⟨cs, hc⟩))
      have HIV : Hid (∀ w', Keep (Value.slice ao L co).ownBlock.toList wr w' → IntsV w' av n cv Fr) := Lib.hid (fun w' hk => hiv.keep hk (fun ad ha hm => by obtain ⟨_, _, cs, hc⟩ := ownLt h8 _ (hbv ad ha); obtain ⟨_, _, cs', hc'⟩ := ownLt h14 _ (by simpa using hm); exact neTypeY hc hc' (by decide) rfl))
      have HAP : Hid (∀ w', Keep (Value.slice ao L co).ownBlock.toList wr w' → ∀ ad, av = some ad → ad.block ∉ ndS b bM bT vd) := Lib.hid (fun w' _ ad he hm => by
        have hob := hbv ad he
        obtain ⟨hge, _, cs, hc⟩ := ownLt h8 _ hob
        simp only [ndS, List.mem_cons, Option.mem_toList] at hm
        rcases hm with hm | hm | hm | hm
        · exact neTypeY hc h1.blk (by decide) hm
        · exact h1.mm.notCells hc hm.symm
        · exact h1.mt.notCells hc hm.symm
        · exact (h10 _ hm).1 hob)
      have HF0 := Lib.hid h0
      have hLK : L ≤ 400 := by omega
      clear HP h1 h2 h3 h4 h5 h6 h8 h9 h10 h11 h12 h14 h15 hiv hbv h0 hnl hLr
      go_wp2_with (first | (with_reducible refine Txt.wp_region_text mixed quiet (by decide +kernel) ?_) | (with_reducible refine Txt.text_done (by kernel_rfl) ?_) | (at_builtin; refine wpList_append_lies _ rfl _ _ 54 rfl w.heap.size 22 i22 (.slice none 0 0) 1 24 Try.underlying54 hi22 hy0 hy1 hy2 rfl (by decide) (.slice ao L co) L (rows.map Rw.val) rfl (HOA.out _) ⟨wr.heap.size, 0, none⟩ 1 1 [.slice av n cv] rfl rfl (cells_new wr [.slice av n cv] 22 (0, 0)) HONE.out (by decide) (by unfold maxLen; omega) (by omega) (HSZ.out _) _ rfl ?_; intro g9 c9 w5 hown9 hgr9 hat9 hlt9; have hk5 : Keep (Value.slice ao L co).ownBlock.toList (wr.alloc (.cells #[.slice av n cv] 22)) w5 := Keep.ofGrown hgr9 (fun x hx => by simp [hx]); have HK5 := Lib.hid hk5; have hkr : Keep (Value.slice ao L co).ownBlock.toList wr w5 := (((Keep.refl [] wr).alloc (.cells #[.slice av n cv] 22)).more (by simp)).call hk5 (fun g hg => .inl hg); have HKR := Lib.hid hkr; have HO5 := Lib.hid hown9; have HN5 := Lib.hid (psNode H1.out hkr HS.out (by decide) (by decide)); have HH5 := Lib.hid (Nat.le_trans HHR.out hkr.size); clear hown9 hgr9 hat9 hk5 hkr) | (go_at_call 46; (with_reducible refine (level46_any HN5.out (HIV.out _ HKR.out) (HAP.out _ HKR.out) (by omega) (by have := H4.out; omega) (by have := H5.out; omega) HH5.out).mono ?_); rintro e9 w9 ⟨mk9, tl9, due9, vd9, out9, v9, rfl, k1, k2, k3, k4, k5, k6, k7, k8⟩; obtain ⟨hlt9, hst9⟩ := psStep HU.out HF0.out HNL.out HLR.out H1.out H2.out H3.out H4.out H5.out H6.out h7 H8.out H9.out H10.out H11.out H12.out h13 H15.out H14.out HK5.out HO5.out k1 k2 k3 k4 k5 k6 k7 k8; have HST9 := Lib.hid hst9; have HH9 := Lib.hid (Nat.le_trans HH5.out k5.size); clear hst9 k1 k2 k3 k4 k5 k6 k7 k8))
      go_roundg (unm U mk9)
      case measure => exact hlt9
      case rel => exact ⟨out9, _, HST9, HH9⟩
end Go.Proofs.Ytmedldloilbmeaa
/- CycleWhole: its closures. -/
namespace Go
theorem keep_drewN {S : List Nat} {w w' : World} (h : Keep S w w') (q : Nat) : Keep S w (w'.drewN q) := by
  induction q with
  | zero => exact h
  | succ q ih => exact ih.drew
end Go
namespace Go.Proofs.Ytmedldloilbmeaa
open Go.RowKit
set_option maxRecDepth 100000 in
set_option maxHeartbeats 1000000 in
/-- The place of the first one that the closure 35 holds for. -/
theorem index34_35 {w : World} {g n2 c2 : Nat} {a2 : Option Addr} {p : Kn → Bool} {l : List Kn} (hcl : ∀ x ∈ l, ∀ w', Keep [] w w' → Calls Try.prog 35 #[.agg #[.int .i64 x.ref, .bool x.awake, .bool x.root, .slice x.ra x.refs.length x.rc], .pointer (some ⟨g, 0, none⟩)] w' fun e w2 => e = .returned (.bool (p x)) ∧ Keep [] w' w2) (hh : KnsV w a2 n2 c2 l) (hn : n2 ≤ 1000) :
    Calls Try.prog 34 #[.slice a2 n2 c2, .func (.func 35) #[] #[.pointer (some ⟨g, 0, none⟩)]] w fun e w' => Keep [] w w' ∧ ((e = .returned (.int .i64 (-1)) ∧ ∀ x ∈ l, p x = false) ∨ ∃ i x, e = .returned (.int .i64 (i : Nat)) ∧ l[i]? = some x ∧ p x = true ∧ ∀ x ∈ l.take i, p x = false) := by
  have HC := Lib.hid hcl
  have HH := Lib.hid hh
  have hcc := hh.room
  have hcm := hh.most
  unfold maxLen at hcm
  clear hcl hh
  go_enter Try.func34, Try.ntmps34
  go_wp2_with (first | (with_reducible refine Txt.wp_region_text mixed quiet (by decide +kernel) ?_) | (with_reducible refine Txt.text_done (by kernel_rfl) ?_))
  go_loopw [8] (fun j wr => ∃ i : Nat, i ≤ n2 ∧ j = .int .i64 i ∧ Hid (Keep [] w wr) ∧ Hid (∀ x ∈ l.take i, p x = false)) (fun j _ => n2 - (intOf j).toNat)
  case atStart => exact ⟨0, by omega, rfl, Lib.hid (Keep.refl _ _), Lib.hid (fun x hx => by simp at hx)⟩
  case round =>
    obtain ⟨i, hi, rfl, HK, HNO⟩ := hrel
    by_cases hlt : i < n2
    · obtain ⟨x, hxi⟩ : ∃ x, l[i]? = some x := ⟨_, List.getElem?_eq_getElem (by have := HH.out.len; omega)⟩
      obtain ⟨b1, off, hab, c0, c1, c2', c3⟩ := (HH.out.keep0 HK.out).at_ hxi
      have HXI := Lib.hid hxi
      have HXM := Lib.hid (List.mem_of_getElem? hxi)
      subst hab
      clear hxi
      by_cases hx : p x = true
      · have HX := Lib.hid hx
        clear hx
        go_wp2_with (first | (with_reducible refine Txt.wp_region_text mixed quiet (by decide +kernel) ?_) | (with_reducible refine Txt.text_done (by kernel_rfl) ?_) | (go_at_call 35; (with_reducible refine (HC.out x HXM.out _ HK.out).mono ?_); rintro e w5 ⟨rfl, hk5⟩; rw [HX.out]))
        go_ret
        exact ⟨HK.out.trans hk5, .inr ⟨i, x, rfl, HXI.out, HX.out, HNO.out⟩⟩
      · have HX : Hid (p x = false) := Lib.hid (by simpa using hx)
        clear hx
        go_wp2_with (first | (with_reducible refine Txt.wp_region_text mixed quiet (by decide +kernel) ?_) | (with_reducible refine Txt.text_done (by kernel_rfl) ?_) | (go_at_call 35; (with_reducible refine (HC.out x HXM.out _ HK.out).mono ?_); rintro e w5 ⟨rfl, hk5⟩; rw [HX.out]; have HK5 := Lib.hid (HK.out.trans hk5)))
        refine ⟨⟨i + 1, hlt, by go_num, HK5, Lib.hid (fun y hy => ?_)⟩, by simp [intOf]; omega⟩
        rw [take_snoc l i x HXI.out] at hy
        rcases List.mem_append.1 hy with hy | hy
        · exact HNO.out y hy
        · rw [List.mem_singleton.1 hy]; exact HX.out
    · obtain rfl : i = n2 := by omega
      go_wp2_with (first | (with_reducible refine Txt.wp_region_text mixed quiet (by decide +kernel) ?_) | (with_reducible refine Txt.text_done (by kernel_rfl) ?_))
      go_ret
      exact ⟨HK.out, .inl ⟨rfl, fun x hx => HNO.out x (by rw [List.take_of_length_le (by rw [HH.out.len]; exact Nat.le_refl _)]; exact hx)⟩⟩
set_option maxRecDepth 100000 in
set_option maxHeartbeats 1000000 in
/-- The place of the first one that the closure 37 holds for. -/
theorem index34_37 {w : World} {g6 g9 g12 n2 c2 : Nat} {a2 : Option Addr} {p : Kn → Bool} {l : List Kn} (hcl : ∀ x ∈ l, ∀ w', Keep [] w w' → Calls Try.prog 37 #[.agg #[.int .i64 x.ref, .bool x.awake, .bool x.root, .slice x.ra x.refs.length x.rc], .pointer (some ⟨g6, 0, none⟩), .pointer (some ⟨g9, 0, none⟩), .pointer (some ⟨g12, 0, none⟩)] w' fun e w2 => e = .returned (.bool (p x)) ∧ Keep [] w' w2) (hh : KnsV w a2 n2 c2 l) (hn : n2 ≤ 1000) :
    Calls Try.prog 34 #[.slice a2 n2 c2, .func (.func 37) #[] #[.pointer (some ⟨g6, 0, none⟩), .pointer (some ⟨g9, 0, none⟩), .pointer (some ⟨g12, 0, none⟩)]] w fun e w' => Keep [] w w' ∧ ((e = .returned (.int .i64 (-1)) ∧ ∀ x ∈ l, p x = false) ∨ ∃ i x, e = .returned (.int .i64 (i : Nat)) ∧ l[i]? = some x ∧ p x = true ∧ ∀ x ∈ l.take i, p x = false) := by
  have HC := Lib.hid hcl
  have HH := Lib.hid hh
  have hcc := hh.room
  have hcm := hh.most
  unfold maxLen at hcm
  clear hcl hh
  go_enter Try.func34, Try.ntmps34
  go_wp2_with (first | (with_reducible refine Txt.wp_region_text mixed quiet (by decide +kernel) ?_) | (with_reducible refine Txt.text_done (by kernel_rfl) ?_))
  go_loopw [8] (fun j wr => ∃ i : Nat, i ≤ n2 ∧ j = .int .i64 i ∧ Hid (Keep [] w wr) ∧ Hid (∀ x ∈ l.take i, p x = false)) (fun j _ => n2 - (intOf j).toNat)
  case atStart => exact ⟨0, by omega, rfl, Lib.hid (Keep.refl _ _), Lib.hid (fun x hx => by simp at hx)⟩
  case round =>
    obtain ⟨i, hi, rfl, HK, HNO⟩ := hrel
    by_cases hlt : i < n2
    · obtain ⟨x, hxi⟩ : ∃ x, l[i]? = some x := ⟨_, List.getElem?_eq_getElem (by have := HH.out.len; omega)⟩
      obtain ⟨b1, off, hab, c0, c1, c2', c3⟩ := (HH.out.keep0 HK.out).at_ hxi
      have HXI := Lib.hid hxi
      have HXM := Lib.hid (List.mem_of_getElem? hxi)
      subst hab
      clear hxi
      by_cases hx : p x = true
      · have HX := Lib.hid hx
        clear hx
        go_wp2_with (first | (with_reducible refine Txt.wp_region_text mixed quiet (by decide +kernel) ?_) | (with_reducible refine Txt.text_done (by kernel_rfl) ?_) | (go_at_call 37; (with_reducible refine (HC.out x HXM.out _ HK.out).mono ?_); rintro e w5 ⟨rfl, hk5⟩; rw [HX.out]))
        go_ret
        exact ⟨HK.out.trans hk5, .inr ⟨i, x, rfl, HXI.out, HX.out, HNO.out⟩⟩
      · have HX : Hid (p x = false) := Lib.hid (by simpa using hx)
        clear hx
        go_wp2_with (first | (with_reducible refine Txt.wp_region_text mixed quiet (by decide +kernel) ?_) | (with_reducible refine Txt.text_done (by kernel_rfl) ?_) | (go_at_call 37; (with_reducible refine (HC.out x HXM.out _ HK.out).mono ?_); rintro e w5 ⟨rfl, hk5⟩; rw [HX.out]; have HK5 := Lib.hid (HK.out.trans hk5)))
        refine ⟨⟨i + 1, hlt, by go_num, HK5, Lib.hid (fun y hy => ?_)⟩, by simp [intOf]; omega⟩
        rw [take_snoc l i x HXI.out] at hy
        rcases List.mem_append.1 hy with hy | hy
        · exact HNO.out y hy
        · rw [List.mem_singleton.1 hy]; exact HX.out
    · obtain rfl : i = n2 := by omega
      go_wp2_with (first | (with_reducible refine Txt.wp_region_text mixed quiet (by decide +kernel) ?_) | (with_reducible refine Txt.text_done (by kernel_rfl) ?_))
      go_ret
      exact ⟨HK.out, .inl ⟨rfl, fun x hx => HNO.out x (by rw [List.take_of_length_le (by rw [HH.out.len]; exact Nat.le_refl _)]; exact hx)⟩⟩
theorem index34_at {w : World} {g n2 c2 i : Nat} {a2 : Option Addr} {p : Kn → Bool} {l : List Kn} {x : Kn} (hcl : ∀ x ∈ l, ∀ w', Keep [] w w' → Calls Try.prog 35 #[.agg #[.int .i64 x.ref, .bool x.awake, .bool x.root, .slice x.ra x.refs.length x.rc], .pointer (some ⟨g, 0, none⟩)] w' fun e w2 => e = .returned (.bool (p x)) ∧ Keep [] w' w2) (hh : KnsV w a2 n2 c2 l) (hn : n2 ≤ 1000) (h0 : l[i]? = some x) (h1 : p x = true) (h2 : ∀ j y, l[j]? = some y → p y = true → j = i) :
    Calls Try.prog 34 #[.slice a2 n2 c2, .func (.func 35) #[] #[.pointer (some ⟨g, 0, none⟩)]] w fun e w' => e = .returned (.int .i64 (i : Nat)) ∧ Keep [] w w' := by
  refine (index34_35 hcl hh hn).mono ?_
  rintro e w' ⟨hk, ⟨rfl, h3⟩ | ⟨j, y, rfl, h3, h4, _⟩⟩
  · have := h3 x (List.mem_of_getElem? h0); rw [h1] at this; cases this
  · rw [h2 j y h3 h4]
    exact ⟨rfl, hk⟩
theorem index34_found {w : World} {g6 g9 g12 n2 c2 : Nat} {a2 : Option Addr} {p : Kn → Bool} {l : List Kn} {x : Kn} (hcl : ∀ x ∈ l, ∀ w', Keep [] w w' → Calls Try.prog 37 #[.agg #[.int .i64 x.ref, .bool x.awake, .bool x.root, .slice x.ra x.refs.length x.rc], .pointer (some ⟨g6, 0, none⟩), .pointer (some ⟨g9, 0, none⟩), .pointer (some ⟨g12, 0, none⟩)] w' fun e w2 => e = .returned (.bool (p x)) ∧ Keep [] w' w2) (hh : KnsV w a2 n2 c2 l) (hn : n2 ≤ 1000) (h0 : x ∈ l) (h1 : p x = true) :
    Calls Try.prog 34 #[.slice a2 n2 c2, .func (.func 37) #[] #[.pointer (some ⟨g6, 0, none⟩), .pointer (some ⟨g9, 0, none⟩), .pointer (some ⟨g12, 0, none⟩)]] w fun e w' => ∃ i : Nat, e = .returned (.int .i64 i) ∧ Keep [] w w' := by
  refine (index34_37 hcl hh hn).mono ?_
  rintro e w' ⟨hk, ⟨rfl, h3⟩ | ⟨j, y, rfl, h3, h4, _⟩⟩
  · have := h3 x h0; rw [h1] at this; cases this
  · exact ⟨j, rfl, hk⟩
theorem contains36_found {w : World} {g6 g9 g12 n2 c2 : Nat} {a2 : Option Addr} {p : Kn → Bool} {l : List Kn} {x : Kn} (hcl : ∀ x ∈ l, ∀ w', Keep [] w w' → Calls Try.prog 37 #[.agg #[.int .i64 x.ref, .bool x.awake, .bool x.root, .slice x.ra x.refs.length x.rc], .pointer (some ⟨g6, 0, none⟩), .pointer (some ⟨g9, 0, none⟩), .pointer (some ⟨g12, 0, none⟩)] w' fun e w2 => e = .returned (.bool (p x)) ∧ Keep [] w' w2) (hh : KnsV w a2 n2 c2 l) (hn : n2 ≤ 1000) (h0 : x ∈ l) (h1 : p x = true) :
    Calls Try.prog 36 #[.slice a2 n2 c2, .func (.func 37) #[] #[.pointer (some ⟨g6, 0, none⟩), .pointer (some ⟨g9, 0, none⟩), .pointer (some ⟨g12, 0, none⟩)]] w fun e w' => e = .returned (.bool true) ∧ Keep [] w w' := by
  have HC := Lib.hid (index34_found hcl hh hn h0 h1)
  go_enter Try.func36, Try.ntmps36
  go_wp2_with (first | (with_reducible refine Txt.wp_region_text mixed quiet (by decide +kernel) ?_) | (with_reducible refine Txt.text_done (by kernel_rfl) ?_) | (go_at_call 34; (with_reducible refine HC.out.mono ?_); rintro e w5 ⟨i, rfl, hk5⟩))
  go_ret
  exact ⟨by first | rfl | (simp; done), hk5⟩
set_option maxRecDepth 100000 in
theorem whole35 {w : World} {g : Nat} {r : Int} {x : Kn} {m : Nat} (hb : w.heap[g]? = some (.cells #[.int .i64 r] 3 (0, 0))) :
    Calls Try.prog 35 #[.agg #[.int .i64 x.ref, .bool x.awake, .bool x.root, .slice x.ra m x.rc], .pointer (some ⟨g, 0, none⟩)] w fun e w' => e = .returned (.bool (x.ref == r)) ∧ Keep [] w w' := by
  have hne : g < w.heap.size := lt_of_blk hb
  obtain ⟨c0, -⟩ := row1 hb
  clear hb
  go_enter Try.func35, Try.ntmps35
  go_wp2_with (first | (with_reducible refine Txt.wp_region_text mixed quiet (by decide +kernel) ?_) | (with_reducible refine Txt.text_done (by kernel_rfl) ?_))
  go_ret
  exact ⟨rfl, (Keep.refl _ _).alloc _⟩
theorem contains14_q {w : World} {a : Option Addr} {n c m : Nat} {xs : List Int} {x : Int} {b : Bool} (h : IntsV w a n c xs) (hb : Hid (decide (x ∈ xs) = b)) :
    Calls Try.prog 14 #[.slice a n c, .int .i64 x] (w.drewN m) fun e w'' => e = .returned (.bool b) ∧ ∃ k, w'' = w.drewN k :=
  Calls.quiet_of_same ((contains14_any (h.keep (keep_drewN (Keep.refl [] _) _) (by simp))).mono fun _ _ h => ⟨by rw [← hb.out]; exact h.1, h.2⟩)
set_option maxRecDepth 100000 in
set_option maxHeartbeats 2000000 in
theorem whole37 {w : World} {g6 g9 g12 go L co i : Nat} {r : Int} {x : Kn} {rw' : Rw} (h6 : w.heap[g6]? = some (.cells #[.slice (some ⟨go, 0, none⟩) L co] 54 (0, 0))) (h9 : w.heap[g9]? = some (.cells #[.int .i64 ((i : Int) + 1)] 3 (0, 0))) (h12 : w.heap[g12]? = some (.cells #[.int .i64 r] 3 (0, 0))) (hc : w.cell? ⟨go, i, none⟩ = some rw'.val) (hi : i < L) (hL : L ≤ 400) (hr : rw'.ok w) (hx : KnOk w x) :
    Calls Try.prog 37 #[.agg #[.int .i64 x.ref, .bool x.awake, .bool x.root, .slice x.ra x.refs.length x.rc], .pointer (some ⟨g6, 0, none⟩), .pointer (some ⟨g9, 0, none⟩), .pointer (some ⟨g12, 0, none⟩)] w fun e w' => e = .returned (.bool (decide (x.ref ∈ rw'.xs) && decide (r ∈ x.refs))) ∧ Keep [] w w' := by
  obtain ⟨WA, hWA⟩ : ∃ WA, w.alloc (.cells #[.int .i64 x.ref, .bool x.awake, .bool x.root, .slice x.ra x.refs.length x.rc] 38) = WA := ⟨_, rfl⟩
  have hkA : Keep [] w WA := by rw [← hWA]; exact (Keep.refl [] w).alloc _
  obtain ⟨a0, -⟩ := row1 (hkA.at h6 (by simp))
  obtain ⟨b0, -⟩ := row1 (hkA.at h9 (by simp))
  obtain ⟨d0, -⟩ := row1 (hkA.at h12 (by simp))
  have hcA := hkA.cell hc (by simp)
  have hbx : WA.heap[w.heap.size]? = some (.cells #[.int .i64 x.ref, .bool x.awake, .bool x.root, .slice x.ra x.refs.length x.rc] 38 (0, 0)) := by rw [← hWA]; exact blk_new w _
  obtain ⟨f0, f1, f2, f3, -⟩ := row4 hbx
  obtain ⟨bx, hb⟩ : ∃ bx, w.heap.size = bx := ⟨_, rfl⟩
  rw [hb] at f0 f1 f2 f3
  have HB := Lib.hid hb
  have HWA := Lib.hid hWA
  have HR : Hid (IntsV WA rw'.a rw'.xs.length rw'.c rw'.xs) := Lib.hid (hr.1.keep hkA (by simp))
  have HX : Hid (IntsV WA x.ra x.refs.length x.rc x.refs) := Lib.hid (hx.1.keep hkA (by simp))
  have HKA := Lib.hid hkA
  have hw1 : IntKind.i64.wrap ((i : Int) + 1 - 1) = (i : Int) := by simp [IntKind.wrap, IntKind.bits, IntKind.signed]; omega
  have hw2 : IntKind.i64.wrap (i : Int) = (i : Int) := by simp [IntKind.wrap, IntKind.bits, IntKind.signed]; omega
  unfold Rw.val at hcA
  obtain ⟨A, hA⟩ : ∃ A, decide (x.ref ∈ rw'.xs) = A := ⟨_, rfl⟩
  have HAE := Lib.hid hA
  rw [hA]
  clear hb hWA h6 h9 h12 hc hr hx hkA hbx hA
  cases A
  all_goals
    go_enter Try.func37, Try.ntmps37
    go_wp2_with fail
    rw [HWA.out, HB.out]
    go_quiet (first | (go_at_call 14; exact contains14_q HR.out HAE) | (go_at_call 14; exact contains14_q HX.out (Lib.hid rfl)))
    go_wp2_with (first | (with_reducible refine Txt.wp_region_text mixed quiet (by decide +kernel) ?_) | (with_reducible refine Txt.text_done (by kernel_rfl) ?_))
    go_ret
    exact ⟨by first | rfl | (simp; done), keep_drewN HKA.out _⟩
end Go.Proofs.Ytmedldloilbmeaa
