/- Texts laid together: Y8 Y9 Y10 R8. -/
import Derived.Test.YtmedldloilbmeaaMg5
import Derived.Deep.QuietTactic
import Derived.BigQuiet
import Derived.Laws.CopyRow
/- Marking: what the statements ask of slices, and cycleBegun. -/
namespace Go
theorem sorted_ext {l1 l2 : List Int} (h1 : l1.Nodup) (h2 : l2.Nodup) (h3 : l1.Pairwise (· ≤ ·)) (h4 : l2.Pairwise (· ≤ ·)) (h : ∀ x, x ∈ l1 ↔ x ∈ l2) : l1 = l2 :=
  List.Perm.eq_of_pairwise (fun _ _ _ _ h5 h6 => Int.le_antisymm h5 h6) h3 h4 ((List.perm_ext_iff_of_nodup h1 h2).2 h)
end Go
namespace Go.Proofs.Ytmedldloilbmeaa
open Go.RowKit
theorem contains14_any {w : World} {a : Option Addr} {n c : Nat} {xs : List Int} {x : Int} (h : IntsV w a n c xs) :
    Calls Try.prog 14 #[.slice a n c, .int .i64 x] w fun e w' => e = .returned (.bool (decide (x ∈ xs))) ∧ w' = w := by
  have hm := h.most
  have hr := h.room
  unfold maxLen at hm
  by_cases h0 : 0 < n
  · obtain ⟨b, off, rfl, hc⟩ := h.cells h0
    refine (Go.Proofs.Try.slices_Contains_int b off n c xs x w (by rw [h.len]; exact Nat.le_refl _) (by omega) (fun j hj => hc j (by have := h.len; omega))).mono ?_
    rintro e w' ⟨rfl, rfl⟩
    refine ⟨?_, rfl⟩
    rw [List.take_of_length_le (by rw [h.len]; exact Nat.le_refl _)]
    exact ret_bool (by rw [Bool.eq_iff_iff]; simp)
  · obtain rfl : n = 0 := by omega
    have hx : xs = [] := List.eq_nil_of_length_eq_zero h.len
    subst hx
    refine (Go.Proofs.Try.slices_Contains_int_empty a c x w).mono ?_
    rintro e w' ⟨rfl, rfl⟩
    exact ⟨by simp, rfl⟩
theorem drewN_keep (w : World) (q : Nat) : Keep [] w (w.drewN q) := by
  induction q with
  | zero => exact Keep.refl _ _
  | succ q ih => exact ih.drew
theorem equal18_any {w : World} {a1 a2 : Option Addr} {n c1 m c2 : Nat} {xs ys : List Int} (h1 : IntsV w a1 n c1 xs) (h2 : IntsV w a2 m c2 ys) :
    Calls Try.prog 18 #[.slice a1 n c1, .slice a2 m c2] w fun e w' => e = .returned (.bool (decide (xs = ys))) ∧ Keep [] w w' := by
  have hm1 := h1.most
  have hr1 := h1.room
  have hm2 := h2.most
  have hr2 := h2.room
  unfold maxLen at hm1 hm2
  by_cases hnm : n = m
  · subst hnm
    by_cases h0 : 0 < n
    · obtain ⟨b1, o1, rfl, hc1⟩ := h1.cells h0
      obtain ⟨b2, o2, rfl, hc2⟩ := h2.cells h0
      refine (Go.Proofs.Try.slices_Equal_int b1 o1 n c1 b2 o2 n c2 xs ys w (by rw [h1.len]; exact Nat.le_refl _) (by rw [h2.len]; exact Nat.le_refl _) (by omega) (by omega) (fun j hj => hc1 j (by have := h1.len; omega)) (fun j hj => hc2 j (by have := h2.len; omega))).mono ?_
      rintro e w' ⟨rfl, q, rfl⟩
      refine ⟨?_, drewN_keep w q⟩
      rw [List.take_of_length_le (by rw [h1.len]; exact Nat.le_refl _), List.take_of_length_le (by rw [h2.len]; exact Nat.le_refl _)]
      exact ret_bool (by rw [Bool.eq_iff_iff]; simp)
    · obtain rfl : n = 0 := by omega
      have hx : xs = [] := List.eq_nil_of_length_eq_zero h1.len
      have hy : ys = [] := List.eq_nil_of_length_eq_zero h2.len
      subst hx hy
      refine (Go.Proofs.Try.slices_Equal_int_empty a1 a2 c1 0 c2 w (by omega)).mono ?_
      rintro e w' ⟨rfl, rfl⟩
      exact ⟨by simp, Keep.refl _ _⟩
  · refine (Go.Proofs.Try.slices_Equal_int_lens a1 a2 n c1 m c2 w hnm).mono ?_
    rintro e w' ⟨rfl, rfl⟩
    refine ⟨ret_bool ?_, Keep.refl _ _⟩
    refine (decide_eq_false fun he => hnm ?_).symm
    rw [← h1.len, ← h2.len, he]
set_option maxRecDepth 100000 in
set_option maxHeartbeats 2000000 in
theorem isSorted22_ok {w : World} {a : Option Addr} {n c : Nat} {xs : List Int} (h : IntsV w a n c xs) (hs : xs.Pairwise (· ≤ ·)) (hn : n ≤ 1000000) :
    Calls Try.prog 22 #[.slice a n c] w fun e w' => e = .returned (.bool true) ∧ Keep [] w w' := by
  have HV := Lib.hid h
  have HS := Lib.hid hs
  have hr := h.room
  have hm := h.most
  unfold maxLen at hm
  have hw0 : IntKind.i64.wrap ((n : Int) - 1) = (n : Int) - 1 := by simp [IntKind.wrap, IntKind.bits, IntKind.signed]; omega
  clear h hs
  go_enter Try.func22, Try.ntmps22
  go_wp2_with (first | (with_reducible refine Txt.wp_region_text mixed quiet (by decide +kernel) ?_) | (with_reducible refine Txt.text_done (by kernel_rfl) ?_))
  go_loopw [3] (fun j wr => ∃ i : Int, -1 ≤ i ∧ i < n ∧ j = .int .i64 i ∧ Keep [] w wr) (fun j _ => (intOf j + 1).toNat)
  case atStart => exact ⟨(n : Int) - 1, by omega, by omega, rfl, Keep.refl _ _⟩
  case round =>
    obtain ⟨i, h1, h2, rfl, hk⟩ := hrel
    by_cases hi : 0 < i
    · obtain ⟨k, rfl⟩ : ∃ k : Nat, i = (k : Int) + 1 := ⟨(i - 1).toNat, by omega⟩
      obtain ⟨b, off, rfl, hc⟩ := (HV.out.keep hk (by simp)).cells (by omega)
      have hc0 := hc k (by omega)
      have hc1 := hc (k + 1) (by omega)
      obtain ⟨x, hx⟩ : ∃ x, xs.getD k 0 = x := ⟨_, rfl⟩
      obtain ⟨y, hy⟩ : ∃ y, xs.getD (k + 1) 0 = y := ⟨_, rfl⟩
      have hle : x ≤ y := by
        have hl := HV.out.len
        rw [← hx, ← hy, List.getD_eq_getElem?_getD, List.getD_eq_getElem?_getD, List.getElem?_eq_getElem (by omega), List.getElem?_eq_getElem (by omega)]
        exact List.pairwise_iff_getElem.1 HS.out k (k + 1) (by omega) (by omega) (by omega)
      rw [hx] at hc0
      rw [hy] at hc1
      have hkn : k < n := by omega
      have h0k : (0 : Int) ≤ (k : Int) + 1 := by omega
      have hw1 : IntKind.i64.wrap (k : Int) = (k : Int) := by simp [IntKind.wrap, IntKind.bits, IntKind.signed]; omega
      have HLE : Hid (decide (y < x) = false) := Lib.hid (decide_eq_false (by omega))
      clear hc hx hy
      go_wp2_with fail
      go_region_law (first | (go_simp; go_at_call 43; (with_reducible refine (Go.Proofs.Try.cmp_Less_int2 y x _).mono ?_); rintro e w2 ⟨rfl, rfl⟩; rw [HLE.out]))
      all_goals
        go_wp2_with (first | (with_reducible refine Txt.wp_region_text mixed quiet (by decide +kernel) ?_) | (with_reducible refine Txt.text_done (by kernel_rfl) ?_))
        exact ⟨⟨(k : Int), by omega, by omega, by go_num, hk.drew⟩, by simp [intOf]; omega⟩
    · go_wp2_with (first | (with_reducible refine Txt.wp_region_text mixed quiet (by decide +kernel) ?_) | (with_reducible refine Txt.text_done (by kernel_rfl) ?_))
      go_ret
      exact ⟨rfl, hk⟩
theorem beg_out {out : List Int} {R : Int → Option (List Int)} {S : Int → Prop} (hR : ∀ x, R x = if x = 6 then some [] else if x = 5 then some [4] else if x = 4 then some [5] else none) (hS : ∀ x, S x ↔ x = 6) (h1 : out.Nodup) (h2 : out.Pairwise (· ≤ ·)) (h : ∀ x, x ∈ out ↔ ((R x).isSome = true ∧ ¬ Rch R S x)) : out = [4, 5] := by
  have hr : ∀ x, Rch R S x → x = 6 := fun x hx => by
    induction hx with
    | seed h _ => exact (hS _).1 h
    | step _ h3 h4 _ ih =>
      subst ih
      rw [hR] at h3
      simp at h3
      subst h3
      cases h4
  have h6 : Rch R S 6 := .seed ((hS 6).2 rfl) (by rw [hR]; rfl)
  refine sorted_ext h1 (by decide) h2 (by decide) fun x => ?_
  rw [h]
  constructor
  · rintro ⟨h3, h4⟩
    rw [hR] at h3
    by_cases e6 : x = 6
    · subst e6; exact absurd h6 h4
    · by_cases e5 : x = 5
      · subst e5; decide
      · by_cases e4 : x = 4
        · subst e4; decide
        · rw [if_neg e6, if_neg e5, if_neg e4] at h3; cases h3
  · intro hx
    simp at hx
    rcases hx with rfl | rfl
    · exact ⟨by rw [hR]; rfl, fun h => by have := hr _ h; omega⟩
    · exact ⟨by rw [hR]; rfl, fun h => by have := hr _ h; omega⟩
def begKs (g : Nat) : List Kn := [⟨4, false, false, some ⟨g, 0, none⟩, 1, [5]⟩, ⟨5, false, false, some ⟨g + 1, 0, none⟩, 1, [4]⟩, ⟨6, true, false, none, 0, []⟩]
theorem one_int {w : World} {g : Nat} {z : Int} (hb : w.heap[g]? = some (.cells #[.int .i64 z] 3 (0, 0))) (hz : (Lit.int .i64 z).wf = true) : IntsV w (some ⟨g, 0, none⟩) 1 1 [z] :=
  ⟨rfl, Nat.le_refl _, by unfold maxLen; omega, fun x hx => by rw [List.mem_singleton.1 hx]; exact hz, fun _ => ⟨g, 0, rfl, fun i hi => by
    obtain rfl : i = 0 := by omega
    exact cellAt hb 0⟩⟩
theorem two_ints (w : World) (y z : Int) (hy : (Lit.int .i64 y).wf = true) (hz : (Lit.int .i64 z).wf = true) : IntsV (w.alloc (.cells #[.int .i64 y, .int .i64 z] 3)) (some ⟨w.heap.size, 0, none⟩) 2 2 [y, z] :=
  ⟨rfl, Nat.le_refl _, by unfold maxLen; omega, fun x hx => by
    simp only [List.mem_cons, List.not_mem_nil, or_false] at hx
    rcases hx with rfl | rfl <;> assumption, fun _ => ⟨w.heap.size, 0, rfl, fun i hi => by
    have hb := blk_new w (.cells #[.int .i64 y, .int .i64 z] 3)
    rcases (show i = 0 ∨ i = 1 by omega) with rfl | rfl
    · exact cellAt hb 0
    · exact cellAt hb 1⟩⟩
theorem begKns (w : World) : KnsV (((w.alloc (.cells #[.int .i64 5] 3)).alloc (.cells #[.int .i64 4] 3)).alloc (.cells #[.int .i64 4, .bool false, .bool false, .slice (some ⟨w.heap.size, 0, none⟩) 1 1, .int .i64 5, .bool false, .bool false, .slice (some ⟨w.heap.size + 1, 0, none⟩) 1 1, .int .i64 6, .bool true, .bool false, .slice none 0 0] 38)) (some ⟨w.heap.size + 1 + 1, 0, none⟩) 3 3 (begKs w.heap.size) := by
  have b0 := blk_new w (.cells #[.int .i64 5] 3)
  have b1 := blk_new (w.alloc (.cells #[.int .i64 5] 3)) (.cells #[.int .i64 4] 3)
  have b2 := blk_new ((w.alloc (.cells #[.int .i64 5] 3)).alloc (.cells #[.int .i64 4] 3)) (.cells #[.int .i64 4, .bool false, .bool false, .slice (some ⟨w.heap.size, 0, none⟩) 1 1, .int .i64 5, .bool false, .bool false, .slice (some ⟨w.heap.size + 1, 0, none⟩) 1 1, .int .i64 6, .bool true, .bool false, .slice none 0 0] 38)
  have s1 : (w.alloc (.cells #[.int .i64 5] 3)).heap.size = w.heap.size + 1 := by simp
  have s2 : ((w.alloc (.cells #[.int .i64 5] 3)).alloc (.cells #[.int .i64 4] 3)).heap.size = w.heap.size + 1 + 1 := by simp
  rw [s1] at b1
  rw [s2] at b2
  have c0 := ((((Keep.refl [] _).alloc (.cells #[.int .i64 4] 3)).alloc (.cells #[.int .i64 4, .bool false, .bool false, .slice (some ⟨w.heap.size, 0, none⟩) 1 1, .int .i64 5, .bool false, .bool false, .slice (some ⟨w.heap.size + 1, 0, none⟩) 1 1, .int .i64 6, .bool true, .bool false, .slice none 0 0] 38))).at b0 (by simp)
  have c1 := ((Keep.refl [] _).alloc (.cells #[.int .i64 4, .bool false, .bool false, .slice (some ⟨w.heap.size, 0, none⟩) 1 1, .int .i64 5, .bool false, .bool false, .slice (some ⟨w.heap.size + 1, 0, none⟩) 1 1, .int .i64 6, .bool true, .bool false, .slice none 0 0] 38)).at b1 (by simp)
  refine ⟨rfl, Nat.le_refl _, by unfold maxLen; omega, fun _ => ⟨w.heap.size + 1 + 1, 0, rfl, ⟨_, b2⟩, fun j v hj => ?_⟩, fun x hx => ?_⟩
  · rw [Nat.zero_add, cell_of_row _ _ j _ 38 (0, 0) b2]
    have : (knsC (begKs w.heap.size)) = [.int .i64 4, .bool false, .bool false, .slice (some ⟨w.heap.size, 0, none⟩) 1 1, .int .i64 5, .bool false, .bool false, .slice (some ⟨w.heap.size + 1, 0, none⟩) 1 1, .int .i64 6, .bool true, .bool false, .slice none 0 0] := rfl
    rw [this] at hj
    simpa using hj
  · simp only [begKs, List.mem_cons, List.not_mem_nil, or_false] at hx
    rcases hx with rfl | rfl | rfl
    · exact ⟨one_int c0 (by decide), (by decide : (Lit.int .i64 4).wf = true), fun ad ha => by cases ha; exact ⟨_, c0⟩⟩
    · exact ⟨one_int c1 (by decide), (by decide : (Lit.int .i64 5).wf = true), fun ad ha => by cases ha; exact ⟨_, c1⟩⟩
    · exact ⟨IntsV.nil _, (by decide : (Lit.int .i64 6).wf = true), fun ad ha => by cases ha⟩
theorem begS (g : Nat) : ∀ k ∈ begKs g, k.refs.length ≤ 100 := fun k hk => by
  simp only [begKs, List.mem_cons, List.not_mem_nil, or_false] at hk
  rcases hk with rfl | rfl | rfl <;> simp
theorem begN (g : Nat) : ((begKs g).map Kn.ref).Nodup := by simp [begKs]
theorem begF (g : Nat) : ∀ x, x ∈ firsts (begKs g) ↔ x = 6 := fun x => by simp [firsts, begKs]
theorem begR (g : Nat) : ∀ x, refsR (begKs g) x = if x = 6 then some [] else if x = 5 then some [4] else if x = 4 then some [5] else none := fun x => by
  unfold refsR begKs
  simp only [List.reverse_cons, List.reverse_nil, List.nil_append, List.cons_append, List.find?_cons, List.find?_nil]
  by_cases h6 : x = 6
  · subst h6; rfl
  · rw [if_neg h6, show decide ((6 : Int) = x) = false from decide_eq_false (fun e => h6 e.symm)]
    by_cases h5 : x = 5
    · subst h5; rfl
    · rw [if_neg h5, show decide ((5 : Int) = x) = false from decide_eq_false (fun e => h5 e.symm)]
      by_cases h4 : x = 4
      · subst h4; rfl
      · rw [if_neg h4, show decide ((4 : Int) = x) = false from decide_eq_false (fun e => h4 e.symm)]
        rfl
set_option maxRecDepth 100000 in
set_option maxHeartbeats 2000000 in
theorem begun19_any {w : World} : Calls Try.prog 19 #[] w fun e w' => e = .returned (.bool true) ∧ Keep [] w w' := by
  have HB := Lib.hid (begKns w)
  go_enter Try.func19, Try.ntmps19
  go_wp2_with (first | (with_reducible refine Txt.wp_region_text mixed quiet (by decide +kernel) ?_) | (with_reducible refine Txt.text_done (by kernel_rfl) ?_) | (go_at_call 21; (with_reducible refine (garbage21_any HB.out (by decide) (begS _) (begN _)).mono ?_); rintro e1 w1 ⟨out, v, rfl, h1, h2, h3, h4, h5, h6⟩; have he := beg_out (begR _) (begF _) h3 h4 h6; subst he; obtain ⟨a1, c1, rfl, hv1, -⟩ := IntsV.ofOwn h1 h5; have HV1 : Hid (∀ o, IntsV (w1.alloc o) a1 2 c1 [4, 5]) := Lib.hid (fun o => hv1.keep ((Keep.refl [] w1).alloc o) (by simp)); have HK := Lib.hid ((((Keep.refl [] w).alloc _).alloc _).alloc _ |>.trans h2); clear h1 h2 h3 h4 h5 h6 hv1) | (go_at_call 18; (with_reducible refine (equal18_any (HV1.out _) (two_ints _ 4 5 (by decide) (by decide))).mono ?_); rintro e2 w2 ⟨rfl, hk2⟩))
  go_ret
  exact ⟨rfl, (HK.out.alloc _).trans hk2⟩
end Go.Proofs.Ytmedldloilbmeaa
/- CycleSafe: the walk. -/
namespace Go
/-- What the garbage of a list is. -/
def IsGarb (ks : List Kn) (out : List Int) : Prop := ∀ x, x ∈ out ↔ ((refsR ks x).isSome = true ∧ ¬ Rch (refsR ks) (fun x => x ∈ firsts ks) x)
theorem IsGarb.safe {ks : List Kn} {out : List Int} (h : IsGarb ks out) {x : Kn} (hx : x ∈ ks) (ho : x.ref ∈ out) : x.root = false ∧ x.awake = false := by
  have h1 := ((h x.ref).1 ho)
  have h2 : ¬ (x.root = true ∨ x.awake = true) := fun hr => h1.2 (.seed (firsts_mem.2 ⟨x, hx, rfl, hr⟩) h1.1)
  constructor
  · cases hr : x.root with
    | false => rfl
    | true => exact absurd (.inl hr) h2
  · cases hr : x.awake with
    | false => rfl
    | true => exact absurd (.inr hr) h2
theorem IsGarb.live {ks : List Kn} {out : List Int} (hn : (ks.map Kn.ref).Nodup) (h : IsGarb ks out) {x : Kn} (hx : x ∈ ks) (ho : x.ref ∉ out) {r : Int} (hr : r ∈ x.refs) : r ∉ out := fun hro => by
  have hR := refsR_of hn hx
  have hl : Rch (refsR ks) (fun x => x ∈ firsts ks) x.ref := Classical.byContradiction fun hnot => ho ((h x.ref).2 ⟨by rw [hR]; rfl, hnot⟩)
  obtain ⟨h1, h2⟩ := (h r).1 hro
  exact h2 (.step hl hR hr h1)
end Go
namespace Go.Proofs.Ytmedldloilbmeaa
open Go.RowKit
set_option maxRecDepth 100000 in
set_option maxHeartbeats 4000000 in
theorem cycleSafe_walk (ap : Option Addr) (len cap : Nat) (zs : List Int) (w : World) (hz : IntsV w ap len cap zs) :
    Calls Try.prog 4 #[.slice ap len cap] w fun e w' => e = .returned (.bool true) ∧ Keep [] w w' := by
  have HZ := Lib.hid hz
  clear hz
  go_enter Try.func4, Try.ntmps4
  go_wp2_with (first | (with_reducible refine Txt.wp_region_text mixed quiet (by decide +kernel) ?_) | (with_reducible refine Txt.text_done (by kernel_rfl) ?_) | (go_at_call 19; (with_reducible refine begun19_any.mono ?_); rintro e w1 ⟨rfl, hk1⟩; have HK1 := Lib.hid hk1; clear hk1) | (go_at_call 20; (with_reducible refine (knows20_any (HZ.out.keep HK1.out (by simp))).mono ?_); rintro e w2 ⟨v, ks, rfl, ho2, hi2, hl2, hk2⟩; obtain ⟨a2, c2, rfl, hv2, -⟩ := KnsV.ofOwn ho2 (fun x hx => (hi2 x hx).1); have HV2 := Lib.hid hv2; have HL2 := Lib.hid hl2; have HK2 := Lib.hid (HK1.out.trans hk2); have hc2 := hv2.room; have hm2 := hv2.most; unfold maxLen at hm2; have hf2 := hl2.few; clear ho2 hi2 hl2 hk2 hv2) | (go_at_call 21; (with_reducible refine (garbage21_any HV2.out (by omega) (fun k hk => Nat.le_trans (HL2.out.small k hk) (by decide)) HL2.out.nodup).mono ?_); rintro e w3 ⟨out, v3, rfl, h1, h2, h3, h4, h5, h6⟩; obtain ⟨a3, c3, rfl, hv3, -⟩ := IntsV.ofOwn h1 h5; have HV3 := Lib.hid hv3; have HS3 := Lib.hid h4; have HG3 : Hid (IsGarb ks out) := Lib.hid h6; have HK3 := Lib.hid (HK2.out.trans h2); have HV23 := Lib.hid (HV2.out.keep0 h2); have hN3 : out.length ≤ 40 := (by have := nodup_len out (ks.map Kn.ref) h3 (fun x hx => refsR_univ x ((h6 x).1 hx).1); rw [List.length_map] at this; omega); clear h1 h2 h3 h4 h5 h6 hv3) | (go_at_call 22; (with_reducible refine (isSorted22_ok HV3.out HS3.out (by omega)).mono ?_); rintro e w4 ⟨rfl, hk4⟩; have HK4 := Lib.hid (HK3.out.trans hk4); have HV4 := Lib.hid (HV3.out.keep hk4 (by simp)); have HV24 := Lib.hid (HV23.out.keep0 hk4); clear hk4))
  obtain ⟨n, hn⟩ : ∃ n, ks.length = n := ⟨_, rfl⟩
  have HN := Lib.hid hn
  rw [hn] at HV24 hc2 hf2 ⊢
  clear hn HV2 HV23 HV3 HS3 HK2 HK3
  go_loopw [28] (fun j wr => ∃ i : Nat, i ≤ n ∧ j = .int .i64 i ∧ Hid (Keep [] w4 wr)) (fun j _ => n - (intOf j).toNat)
  case atStart => exact ⟨0, by omega, rfl, Lib.hid (Keep.refl _ _)⟩
  case round =>
    obtain ⟨i, hi, rfl, HK⟩ := hrel
    by_cases hlt : i < n
    · obtain ⟨x, hxi⟩ : ∃ x, ks[i]? = some x := ⟨_, List.getElem?_eq_getElem (by have := HN.out; omega)⟩
      obtain ⟨b1, off, hab, c0, c1, c2', c3'⟩ := (HV24.out.keep0 HK.out).at_ hxi
      have HX := Lib.hid (List.mem_of_getElem? hxi)
      have hdec : decide ((i : Int) < (n : Int)) = true := by simp; omega
      obtain ⟨m, hm⟩ : ∃ m, x.refs.length = m := ⟨_, rfl⟩
      rw [hm] at c3'
      have HM := Lib.hid hm
      have hm4 : m ≤ 4 := by rw [← hm]; exact HL2.out.small x HX.out
      have HVO : Hid (∀ o, IntsV (wr.alloc o) a3 out.length c3 out) := Lib.hid (fun o => (HV4.out.keep HK.out (by simp)).keep ((Keep.refl [] wr).alloc o) (by simp))
      subst hab
      clear hxi hm
      by_cases ho : x.ref ∈ out
      · have HO : Hid (decide (x.ref ∈ out) = true) := Lib.hid (decide_eq_true ho)
        obtain ⟨hr, ha⟩ := HG3.out.safe HX.out ho
        rw [ha] at c1
        rw [hr] at c2'
        clear ho hr ha
        go_wp2_with (first | (with_reducible refine Txt.wp_region_text mixed quiet (by decide +kernel) ?_) | (with_reducible refine Txt.text_done (by kernel_rfl) ?_) | (go_at_call 14; (with_reducible refine (contains14_any (HVO.out _)).mono ?_); rintro e w5 ⟨rfl, rfl⟩; rw [HO.out]))
        exact ⟨⟨i + 1, hlt, by go_num, Lib.hid (HK.out.alloc _)⟩, by simp [intOf]; omega⟩
      · have HO : Hid (decide (x.ref ∈ out) = false) := Lib.hid (decide_eq_false ho)
        have HLV : Hid (∀ r ∈ x.refs, decide (r ∈ out) = false) := Lib.hid (fun r hr => decide_eq_false (HG3.out.live HL2.out.nodup HX.out ho hr))
        obtain ⟨aw, haw⟩ : ∃ aw, x.awake = aw := ⟨_, rfl⟩
        obtain ⟨rt, hrt⟩ : ∃ rt, x.root = rt := ⟨_, rfl⟩
        rw [haw] at c1
        rw [hrt] at c2'
        have HIR : Hid (∀ w', Keep [] wr w' → IntsV w' x.ra m x.rc x.refs) := Lib.hid (fun w' hk => by rw [← HM.out]; exact ((HV24.out.keep0 (HK.out.trans hk)).rows x HX.out).1)
        clear ho haw hrt
        go_wp2_with (first | (with_reducible refine Txt.wp_region_text mixed quiet (by decide +kernel) ?_) | (with_reducible refine Txt.text_done (by kernel_rfl) ?_) | (go_at_call 14; (with_reducible refine (contains14_any (HVO.out _)).mono ?_); rintro e w5 ⟨rfl, rfl⟩; rw [HO.out]))
        obtain ⟨W5, hW5⟩ : ∃ W5, wr.alloc (.cells #[.int .i64 x.ref, .bool aw, .bool rt, .slice x.ra m x.rc] 38) = W5 := ⟨_, rfl⟩
        have HK5 : Hid (Keep [] wr W5) := Lib.hid (by rw [← hW5]; exact (Keep.refl [] wr).alloc _)
        rw [hW5]
        have HKW5 : Hid (Keep [] w4 W5) := Lib.hid (HK.out.trans HK5.out)
        have HIR5 := Lib.hid (HIR.out W5 HK5.out)
        clear hW5 HVO HIR HK5
        go_loopw [45] (fun j wr => ∃ jn : Nat, jn ≤ m ∧ j = .int .i64 jn ∧ Hid (Keep [] W5 wr)) (fun j _ => m - (intOf j).toNat)
        case atStart => exact ⟨0, by omega, rfl, Lib.hid (Keep.refl _ _)⟩
        case round =>
          obtain ⟨jn, hj, rfl, HK6⟩ := hrel
          by_cases hlt2 : jn < m
          · have hiv := HIR5.out.keep HK6.out (by simp)
            obtain ⟨b4, o4, hab4, hc4⟩ := hiv.cells (by omega)
            have hcr := hc4 jn hlt2
            obtain ⟨r, hr⟩ : ∃ r, x.refs.getD jn 0 = r := ⟨_, rfl⟩
            rw [hr] at hcr
            have hrm : r ∈ x.refs := by
              have hl := HM.out
              rw [← hr, List.getD_eq_getElem?_getD, List.getElem?_eq_getElem (by omega)]
              exact List.getElem_mem _
            have HNO := Lib.hid (HLV.out r hrm)
            have HV6 : Hid (IntsV wr a3 out.length c3 out) := Lib.hid (HV4.out.keep (HKW5.out.trans HK6.out) (by simp))
            rw [hab4] at *
            clear hiv hc4 hr hrm
            go_wp2_with (first | (with_reducible refine Txt.wp_region_text mixed quiet (by decide +kernel) ?_) | (with_reducible refine Txt.text_done (by kernel_rfl) ?_) | (go_at_call 14; (with_reducible refine (contains14_any HV6.out).mono ?_); rintro e w7 ⟨rfl, rfl⟩; rw [HNO.out]))
            exact ⟨⟨jn + 1, hlt2, by go_num, HK6⟩, by simp [intOf]; omega⟩
          · obtain rfl : jn = m := by omega
            go_wp2_with (first | (with_reducible refine Txt.wp_region_text mixed quiet (by decide +kernel) ?_) | (with_reducible refine Txt.text_done (by kernel_rfl) ?_))
            exact ⟨⟨i + 1, hlt, by go_num, Lib.hid (HKW5.out.trans HK6.out)⟩, by simp [intOf]; omega⟩
    · obtain rfl : i = n := by omega
      go_wp2_with (first | (with_reducible refine Txt.wp_region_text mixed quiet (by decide +kernel) ?_) | (with_reducible refine Txt.text_done (by kernel_rfl) ?_))
      go_ret
      exact ⟨rfl, HK4.out.trans HK.out⟩
end Go.Proofs.Ytmedldloilbmeaa
/- CycleGrows: the walk. -/
namespace Go
open Go.RowKit
def holdRoot (x : Kn) : Kn := { x with root := true }
theorem knsC_set (l : List Kn) : ∀ (i : Nat) (x : Kn), l[i]? = some x → (knsC l).set (i * 4 + 2) (.bool true) = knsC (l.set i (holdRoot x)) := by
  induction l with
  | nil => intro i x h; simp at h
  | cons y l ih =>
    intro i x h
    have hy : y.cells.length = 4 := rfl
    cases i with
    | zero =>
      simp at h
      subst h
      rw [knsC, List.flatMap_cons, List.set_append_left _ _ (by rw [hy]; omega)]
      rfl
    | succ i =>
      simp at h
      rw [knsC, List.flatMap_cons, List.set_append_right _ _ (by rw [hy, Nat.succ_mul]; omega), hy, show (i + 1) * 4 + 2 - 4 = i * 4 + 2 by rw [Nat.succ_mul]; omega]
      show _ ++ (knsC l).set _ _ = knsC ((y :: l).set (i + 1) (holdRoot x))
      rw [ih i x h, List.set_cons_succ]
      rfl
theorem set_refs {l : List Kn} {i : Nat} {x : Kn} (h : l[i]? = some x) : (l.set i (holdRoot x)).map Kn.ref = l.map Kn.ref := by
  rw [List.map_set]
  refine List.ext_getElem? fun j => ?_
  rw [List.getElem?_set]
  split
  · rename_i hij
    subst hij
    have hl := (List.getElem?_eq_some_iff.1 h).1
    rw [List.getElem?_map, h]
    simp [hl, holdRoot]
  · rfl
theorem set_mem {l : List Kn} {i : Nat} {x y : Kn} (h : l[i]? = some x) (hy : y ∈ l.set i (holdRoot x)) : ∃ z ∈ l, y.ref = z.ref ∧ y.refs = z.refs ∧ y.ra = z.ra ∧ y.rc = z.rc := by
  rcases List.mem_or_eq_of_mem_set hy with h1 | rfl
  · exact ⟨y, h1, rfl, rfl, rfl, rfl⟩
  · exact ⟨x, List.mem_of_getElem? h, rfl, rfl, rfl, rfl⟩
theorem set_refsR {l : List Kn} {i : Nat} {x : Kn} (hn : (l.map Kn.ref).Nodup) (h : l[i]? = some x) : refsR (l.set i (holdRoot x)) = refsR l := by
  have hn' : ((l.set i (holdRoot x)).map Kn.ref).Nodup := by rw [set_refs h]; exact hn
  funext r
  cases hr : refsR (l.set i (holdRoot x)) r with
  | none =>
    have h1 : ¬ (refsR l r).isSome = true := fun hs => by
      obtain ⟨k, hk, rfl⟩ := refsR_some.1 hs
      have : k.ref ∈ (l.set i (holdRoot x)).map Kn.ref := by rw [set_refs h]; exact List.mem_map.2 ⟨k, hk, rfl⟩
      obtain ⟨k', hk', he⟩ := List.mem_map.1 this
      have := refsR_of hn' hk'
      rw [he, hr] at this
      cases this
    cases hr2 : refsR l r with
    | none => rfl
    | some xs => rw [hr2] at h1; exact absurd rfl h1
  | some xs =>
    have hs : (refsR (l.set i (holdRoot x)) r).isSome = true := by rw [hr]; rfl
    obtain ⟨k, hk, rfl⟩ := refsR_some.1 hs
    rw [refsR_of hn' hk] at hr
    obtain ⟨z, hz, e1, e2, _⟩ := set_mem h hk
    rw [e1, refsR_of hn hz, ← e2]
    exact hr.symm
theorem set_firsts {l : List Kn} {i : Nat} {x : Kn} (h : l[i]? = some x) : ∀ r, r ∈ firsts l → r ∈ firsts (l.set i (holdRoot x)) := fun r hr => by
  obtain ⟨k, hk, rfl, hl⟩ := firsts_mem.1 hr
  obtain ⟨j, hj, rfl⟩ := List.getElem_of_mem hk
  by_cases hij : i = j
  · subst hij
    have : l[i] = x := by rw [List.getElem?_eq_getElem hj] at h; injection h
    refine firsts_mem.2 ⟨holdRoot x, List.mem_of_getElem? (i := i) ?_, ?_, .inl rfl⟩
    · rw [List.getElem?_set, if_pos rfl, if_pos hj]
    · rw [this]; rfl
  · refine firsts_mem.2 ⟨l[j], List.mem_of_getElem? (i := j) ?_, rfl, hl⟩
    rw [List.getElem?_set, if_neg hij, List.getElem?_eq_getElem hj]
/-- Who is held in addition makes nobody garbage. -/
theorem IsGarb.grows {ks : List Kn} {i : Nat} {x : Kn} {g h : List Int} (hn : (ks.map Kn.ref).Nodup) (hx : ks[i]? = some x) (hg : IsGarb ks g) (hh : IsGarb (ks.set i (holdRoot x)) h) : ∀ r ∈ h, r ∈ g := fun r hr => by
  obtain ⟨h1, h2⟩ := (hh r).1 hr
  rw [set_refsR hn hx] at h1 h2
  exact (hg r).2 ⟨h1, fun h3 => h2 (h3.mono (set_firsts hx))⟩
theorem IsGarb.empty {g : List Int} (h : IsGarb [] g) : g = [] := List.eq_nil_iff_forall_not_mem.2 fun x hx => by
  have := ((h x).1 hx).1
  cases this
theorem own_setRoot {w : World} {B g n c i : Nat} {l : List Kn} {x : Kn} (h : w.ownsRow B 38 4 (.slice (some ⟨g, 0, none⟩) n c) n (knsC l)) (hx : l[i]? = some x) : (w.setCell ⟨g, i * 4 + 2, none⟩ (.bool true)).ownsRow B 38 4 (.slice (some ⟨g, 0, none⟩) n c) n (knsC (l.set i (holdRoot x))) := by
  have hl := h.1
  rw [knsC_len] at hl
  have hi := (List.getElem?_eq_some_iff.1 hx).1
  refine ⟨by rw [knsC_len, List.length_set]; exact hl, ?_⟩
  rcases h.2 with ⟨h1, _⟩ | ⟨g', cap, cur, he, hb, hg, hnc, hcm, hcs, ht⟩
  · cases h1
  · have hgg : g = g' := by injection he with h1 _ _; injection h1 with h1; injection h1
    subst hgg
    refine .inr ⟨g, cap, cur.setIfInBounds (i * 4 + 2) (.bool true), he, hb, ?_, hnc, hcm, by simpa using hcs, ?_⟩
    · rw [blk_setCell, if_pos rfl, hg]; rfl
    · rw [← knsC_set l i x hx, ← ht, Array.toList_setIfInBounds, List.take_set]
end Go
namespace Go.Proofs.Ytmedldloilbmeaa
open Go.RowKit
set_option maxRecDepth 100000 in
theorem grows24 {w : World} {g n c : Nat} {a : Option Addr} {xs : List Int} {x : Int} (hb : w.heap[g]? = some (.cells #[.slice a n c] 22 (0, 0))) (hv : IntsV w a n c xs) (hx : x ∈ xs) :
    Calls Try.prog 24 #[.int .i64 x, .pointer (some ⟨g, 0, none⟩)] w fun e w' => e = .returned (.bool false) ∧ Keep [] w w' := by
  have HV := Lib.hid hv
  have HX : Hid (decide (x ∈ xs) = true) := Lib.hid (decide_eq_true hx)
  obtain ⟨c0, -⟩ := row1 hb
  clear hv hx
  go_enter Try.func24, Try.ntmps24
  go_wp2_with (first | (with_reducible refine Txt.wp_region_text mixed quiet (by decide +kernel) ?_) | (with_reducible refine Txt.text_done (by kernel_rfl) ?_) | (go_at_call 14; (with_reducible refine (contains14_any HV.out).mono ?_); rintro e w5 ⟨rfl, rfl⟩; rw [HX.out]))
  go_ret
  exact ⟨rfl, Keep.refl _ _⟩
set_option maxRecDepth 100000 in
set_option maxHeartbeats 1000000 in
theorem index39_grows {w : World} {g n c n2 c2 : Nat} {a a2 : Option Addr} {xs hs : List Int} (hb : w.heap[g]? = some (.cells #[.slice a n c] 22 (0, 0))) (hv : IntsV w a n c xs) (hh : IntsV w a2 n2 c2 hs) (hx : ∀ x ∈ hs, x ∈ xs) (hn : n2 ≤ 1000000) :
    Calls Try.prog 39 #[.slice a2 n2 c2, .func (.func 24) #[] #[.pointer (some ⟨g, 0, none⟩)]] w fun e w' => e = .returned (.int .i64 (-1)) ∧ Keep [] w w' := by
  have HV := Lib.hid hv
  have HH := Lib.hid hh
  have HB := Lib.hid hb
  have HX := Lib.hid hx
  clear hv hh hb hx
  go_enter Try.func39, Try.ntmps39
  go_wp2_with (first | (with_reducible refine Txt.wp_region_text mixed quiet (by decide +kernel) ?_) | (with_reducible refine Txt.text_done (by kernel_rfl) ?_))
  go_loopw [8] (fun j wr => ∃ i : Nat, i ≤ n2 ∧ j = .int .i64 i ∧ Hid (Keep [] w wr)) (fun j _ => n2 - (intOf j).toNat)
  case atStart => exact ⟨0, by omega, rfl, Lib.hid (Keep.refl _ _)⟩
  case round =>
    obtain ⟨i, hi, rfl, HK⟩ := hrel
    by_cases hlt : i < n2
    · obtain ⟨b, off, hab, hc⟩ := (HH.out.keep HK.out (by simp)).cells (by omega)
      have hcx := hc i hlt
      obtain ⟨x, hxi⟩ : ∃ x, hs.getD i 0 = x := ⟨_, rfl⟩
      rw [hxi] at hcx
      have hm : x ∈ hs := by
        have hl := HH.out.len
        rw [← hxi, List.getD_eq_getElem?_getD, List.getElem?_eq_getElem (by omega)]
        exact List.getElem_mem _
      have HM := Lib.hid (HX.out x hm)
      subst hab
      clear hc hxi hm
      go_wp2_with (first | (with_reducible refine Txt.wp_region_text mixed quiet (by decide +kernel) ?_) | (with_reducible refine Txt.text_done (by kernel_rfl) ?_) | (go_at_call 24; (with_reducible refine (grows24 (HK.out.at HB.out (by simp)) (HV.out.keep HK.out (by simp)) HM.out).mono ?_); rintro e w5 ⟨rfl, hk5⟩; have HK5 := Lib.hid (HK.out.trans hk5)))
      exact ⟨⟨i + 1, hlt, by go_num, HK5⟩, by simp [intOf]; omega⟩
    · obtain rfl : i = n2 := by omega
      go_wp2_with (first | (with_reducible refine Txt.wp_region_text mixed quiet (by decide +kernel) ?_) | (with_reducible refine Txt.text_done (by kernel_rfl) ?_))
      go_ret
      exact ⟨rfl, HK.out⟩
theorem contains12_grows {w : World} {g n c n2 c2 : Nat} {a a2 : Option Addr} {xs hs : List Int} (hb : w.heap[g]? = some (.cells #[.slice a n c] 22 (0, 0))) (hv : IntsV w a n c xs) (hh : IntsV w a2 n2 c2 hs) (hx : ∀ x ∈ hs, x ∈ xs) (hn : n2 ≤ 1000000) :
    Calls Try.prog 12 #[.slice a2 n2 c2, .func (.func 24) #[] #[.pointer (some ⟨g, 0, none⟩)]] w fun e w' => e = .returned (.bool false) ∧ Keep [] w w' := by
  have HC := Lib.hid (index39_grows hb hv hh hx hn)
  go_enter Try.func12, Try.ntmps12
  go_wp2_with (first | (with_reducible refine Txt.wp_region_text mixed quiet (by decide +kernel) ?_) | (with_reducible refine Txt.text_done (by kernel_rfl) ?_) | (go_at_call 39; (with_reducible refine HC.out.mono ?_); rintro e w5 ⟨rfl, hk5⟩))
  go_ret
  exact ⟨rfl, hk5⟩
set_option maxRecDepth 100000 in
set_option maxHeartbeats 4000000 in
theorem cycleGrows_walk (ap : Option Addr) (len cap : Nat) (zs : List Int) (x : Int) (w : World) (hz : IntsV w ap len cap zs) :
    Calls Try.prog 5 #[.slice ap len cap, .int .i64 x] w fun e w' => e = .returned (.bool true) ∧ Keep [] w w' := by
  have HZ := Lib.hid hz
  clear hz
  have tok1 : True := trivial
  go_enter Try.func5, Try.ntmps5
  go_wp2_with (first | (with_reducible refine Txt.wp_region_text mixed quiet (by decide +kernel) ?_) | (with_reducible refine Txt.text_done (by kernel_rfl) ?_) | (go_at_call 19; (with_reducible refine begun19_any.mono ?_); rintro e w1 ⟨rfl, hk1⟩; have HK1 := Lib.hid hk1; clear hk1) | (go_at_call 20; (with_reducible refine (knows20_any (HZ.out.keep HK1.out (by simp))).mono ?_); rintro e w2 ⟨v, ks, rfl, ho2, hi2, hl2, hk2⟩; obtain ⟨a2, c2, rfl, hv2, hb2⟩ := KnsV.ofOwn ho2 (fun x hx => (hi2 x hx).1); have HV2 := Lib.hid hv2; have HL2 := Lib.hid hl2; have HK2 := Lib.hid (HK1.out.trans hk2); have HO2 := Lib.hid ho2; have HI2 := Lib.hid hi2; have hc2 := hv2.room; have hm2 := hv2.most; unfold maxLen at hm2; have hf2 := hl2.few; have HBB := Lib.hid hb2; have HS2 := Lib.hid HK1.out.size; clear ho2 hi2 hl2 hk2 hv2 hb2) | (go_at_call 21; have _t := tok1; (with_reducible refine (garbage21_any HV2.out (by omega) (fun k hk => Nat.le_trans (HL2.out.small k hk) (by decide)) HL2.out.nodup).mono ?_); rintro e w3 ⟨out, v3, rfl, h1, h2, h3, h4, h5, h6⟩; obtain ⟨a3, c3, rfl, hv3, -⟩ := IntsV.ofOwn h1 h5; have HV3 := Lib.hid hv3; have HG3 : Hid (IsGarb ks out) := Lib.hid h6; have HK3 := Lib.hid (HK2.out.trans h2); have HK23 := Lib.hid h2; have HO3 := Lib.hid h1; clear h1 h2 h3 h4 h5 h6 hv3 tok1 _t))
  · have h0 := eq_of_beq (by assumption : ((ks.length : Int) == 0) = true)
    have hk : ks = [] := List.eq_nil_of_length_eq_zero (by omega)
    have hg := HG3.out
    rw [hk] at hg
    have ho := hg.empty
    go_ret
    refine ⟨ret_bool ?_, HK3.out.alloc _⟩
    rw [ho]; rfl
  · have h0 : ((ks.length : Int) == 0) = false := by assumption
    have hpos : 0 < ks.length := by
      rcases Nat.eq_zero_or_pos ks.length with h | h
      · rw [h] at h0; exact absurd h0 (by decide)
      · exact h
    obtain ⟨n, hn⟩ : ∃ n, ks.length = n := ⟨_, rfl⟩
    have HN := Lib.hid hn
    rw [hn] at hpos hc2 hf2 h0 ⊢
    have hO3 := own_keep HO2.out HK23.out (by simp)
    obtain ⟨a', c', hve, _, _, hx'⟩ := ownSlice hO3
    obtain ⟨g2, hg2⟩ : ∃ g2, a2 = some ⟨g2, 0, none⟩ := by
      obtain ⟨b, off, hab, _⟩ := HV2.out.cells (by omega)
      obtain ⟨-, hxx⟩ := HBB.out _ hab
      exact ⟨b, by rw [hab, hxx]⟩
    subst hg2
    rw [hn] at hO3
    obtain ⟨hge, hlt, cur, hcur⟩ := ownLt hO3 g2 rfl
    have hz2 := thaw hcur
    have HO3R := Lib.hid hO3
    have HGE : Hid (w.heap.size ≤ g2) := Lib.hid (Nat.le_trans HS2.out hge)
    have HVW := Lib.hid (HV2.out.keep0 HK23.out)
    have hne : ¬ g2 = w3.heap.size := by omega
    clear hn hO3 hve hx' hge
    go_wp2_with (first | (with_reducible refine Txt.wp_region_text mixed quiet (by decide +kernel) ?_) | (with_reducible refine Txt.text_done (by kernel_rfl) ?_) | (go_at_call 23; (with_reducible refine (rest_ex _ _ _ (by omega) (by omega)).mono ?_); rintro e4 w4 ⟨q, rfl, hq, rfl⟩; obtain ⟨y, hy⟩ : ∃ y, ks[q]? = some y := ⟨_, List.getElem?_eq_getElem (by have := HN.out; omega)⟩; obtain ⟨b9, o9, h9, -, -, d2, -⟩ := HVW.out.at_ hy; obtain ⟨rfl, rfl⟩ : g2 = b9 ∧ o9 = 0 := (by injection h9 with h9; injection h9 with h8 h7 _; exact ⟨h8, h7.symm⟩); rw [Nat.zero_add] at d2; have HY := Lib.hid hy; have hq2 : (q : Int) < (n : Int) := hq; clear h9 hy))
    obtain ⟨WS, hWS⟩ : ∃ WS, (w3.setCell ⟨g2, q * 4 + 2, none⟩ (.bool true)).alloc (.cells #[.slice a3 out.length c3] 22) = WS := ⟨_, rfl⟩
    have hkS : Keep [g2] w3 WS := by rw [← hWS]; exact ((Keep.refl [g2] w3).setCell (.inl (by simp)) _).alloc _
    have hoS : WS.ownsRow w1.heap.size 38 4 (.slice (some ⟨g2, 0, none⟩) n c2) n (knsC (ks.set q (holdRoot y))) := by rw [← hWS]; exact own_keep (own_setRoot HO3R.out HY.out) ((Keep.refl [] _).alloc _) (by simp)
    have hlen : (ks.set q (holdRoot y)).length = n := by rw [List.length_set]; exact HN.out
    have hrow : ∀ x ∈ ks.set q (holdRoot y), KnOk WS x := fun z hz => by
      obtain ⟨z', hz', e1, e2, e3, e4⟩ := set_mem HY.out hz
      have h1 := (HVW.out.rows z' hz').keep hkS (fun g hg cs f hc => by rw [List.mem_singleton.1 hg] at hc; exact neTypeY hcur hc (by decide) rfl)
      unfold KnOk at *
      rw [e1, e2, e3, e4]; exact h1
    have hvS : KnsV WS (some ⟨g2, 0, none⟩) n c2 (ks.set q (holdRoot y)) := by
      rw [← hlen] at hoS
      obtain ⟨a9, c9, he9, hv9, -⟩ := KnsV.ofOwn hoS hrow
      injection he9 with h1 h2 h3
      subst h1 h3
      rw [hlen] at hv9
      exact hv9
    have hbox : WS.heap[w3.heap.size]? = some (.cells #[.slice a3 out.length c3] 22 (0, 0)) := by
      have := blk_new (w3.setCell ⟨g2, q * 4 + 2, none⟩ (.bool true)) (.cells #[.slice a3 out.length c3] 22)
      rw [← hWS]
      simpa using this
    have hvO : IntsV WS a3 out.length c3 out := HV3.out.keep hkS (fun ad ha hm => by
      obtain ⟨a', c', he, _, _, hx'⟩ := ownSlice HO3.out
      injection he with h1 _ _
      obtain ⟨h2, _⟩ := hx' ad (h1 ▸ ha)
      obtain ⟨_, _, cs, hc⟩ := ownLt HO3.out _ h2
      rw [List.mem_singleton.1 hm] at hc
      exact neTypeY hc hcur (by decide) rfl)
    obtain ⟨bx, hbx⟩ : ∃ bx, w3.heap.size = bx := ⟨_, rfl⟩
    rw [hbx] at hbox ⊢
    have HVS := Lib.hid hvS
    have HBX := Lib.hid hbox
    have HVO := Lib.hid hvO
    have HKS := Lib.hid (HK3.out.call hkS (fun g hg => .inr (by rw [List.mem_singleton.1 hg]; exact HGE.out)))
    have HND : Hid ((ks.set q (holdRoot y)).map Kn.ref).Nodup := Lib.hid (by rw [set_refs HY.out]; exact HL2.out.nodup)
    have HSM : Hid (∀ k ∈ ks.set q (holdRoot y), k.refs.length ≤ 100) := Lib.hid (fun k hk => by obtain ⟨z, hz, _, e2, _⟩ := set_mem HY.out hk; rw [e2]; exact Nat.le_trans (HL2.out.small z hz) (by decide))
    rw [hWS]
    clear hWS hkS hoS hrow hvS hbox hvO hbx
    go_wp2_with (first | (with_reducible refine Txt.wp_region_text mixed quiet (by decide +kernel) ?_) | (with_reducible refine Txt.text_done (by kernel_rfl) ?_) | (go_at_call 21; (with_reducible refine (garbage21_any HVS.out (by omega) HSM.out HND.out).mono ?_); rintro e5 w5 ⟨out5, v5, rfl, h1, h2, h3, h4, h5, h6⟩; obtain ⟨a5, c5, rfl, hv5, -⟩ := IntsV.ofOwn h1 h5; have HV5 := Lib.hid hv5; have HG5 : Hid (IsGarb (ks.set q (holdRoot y)) out5) := Lib.hid h6; have HK5 := Lib.hid (HKS.out.trans h2); have HB5 := Lib.hid (h2.at HBX.out (by simp)); have HVO5 := Lib.hid (HVO.out.keep h2 (by simp)); have hn5 : out5.length ≤ 40 := (by have h9 := nodup_len out5 ((ks.set q (holdRoot y)).map Kn.ref) h3 (fun x hx => refsR_univ x ((h6 x).1 hx).1); rw [List.length_map, hlen] at h9; omega); clear h1 h2 h3 h4 h5 h6 hv5) | (go_at_call 12; (with_reducible refine (contains12_grows HB5.out HVO5.out HV5.out (IsGarb.grows HL2.out.nodup HY.out HG3.out HG5.out) (by omega)).mono ?_); rintro e6 w6 ⟨rfl, hk6⟩))
    go_ret
    exact ⟨rfl, HK5.out.trans hk6⟩
end Go.Proofs.Ytmedldloilbmeaa
/- Writing in place into a row of one's own, elements of however many cells. -/
namespace Go
theorem keep_setRow (w : World) (g : Nat) (cs : Array Value) : Keep [g] w (w.setRow g cs) :=
  ⟨rfl, rfl, rfl, by simp, fun i _ hs => setRow_other w g i cs (by simpa using hs)⟩
section
variable {P : Program}
theorem wpList_append_room {w : World} {ops : Array Oper} {rest : List Oper} {o : Oper} {a : Act} {Q : Exit → Act → World → Prop} (hgd : o.guard = none) (s x : Operand) (t : TypeId)
    (ho : o.op = .call { callee := .builtin .append, args := #[s, x], argTypes := #[t, t] })
    (e : TypeId) (i : TypeInfo) (ht : P.underlying t = some (.slice e)) (hi : P.info? e = some i) (size : Nat) (hsz : i.size = size)
    (g sLen sCap : Nat) (cur : Array Value) (hg : w.heap[g]? = some (.cells cur e (0, 0))) (hs : a.eval s = .slice (some ⟨g, 0, none⟩) sLen sCap)
    (ad : Addr) (m c : Nat) (news : List Value) (hx : a.eval x = .slice (some ad) m c) (hl : news.length = m * size) (hnews : ∀ j u, news[j]? = some u → w.cell? (ad.add j) = some u) (h1 : ∀ u ∈ news, u.oneCell' = true)
    (hroom : sLen + m ≤ sCap) (hfit : sLen * size + news.length ≤ cur.size)
    (h : wpList P ops Q rest (a.put o.dst (.slice (some ⟨g, 0, none⟩) (sLen + m) sCap)) (w.setRow g (cur.toList.take (sLen * size) ++ news ++ cur.toList.drop (sLen * size + news.length)).toArray)) : wpList P ops Q (o :: rest) a w := by
  subst hsz
  refine wpList_plain hgd fun K hK => ?_
  have hrun := run_append_room (P := P) (w := w) t o.type e i ht hi g sLen sCap cur hg ad m c news hl hnews h1 hroom hfit
  unfold Oper.wp
  simp [execOp, ho, resolve, invoke, builtin, hs, hx, hrun, Result.andThen]
  exact hK _ _ (by simpa only [List.append_assoc] using h)
theorem wpList_clear_row {w : World} {ops : Array Oper} {rest : List Oper} {o : Oper} {a : Act} {Q : Exit → Act → World → Prop} (hgd : o.guard = none) (s : Operand) (t : TypeId)
    (ho : o.op = .call { callee := .builtin .clear, args := #[s], argTypes := #[t] })
    (e : TypeId) (z : Value) (ht : P.underlying t = some (.slice e)) (hv : ∀ w, (zeroValue e).run P w = .ok z w) (hz1 : ∀ u ∈ z.cells, u.oneCell' = true)
    (g off n c : Nat) (cur : Array Value) (hg : w.heap[g]? = some (.cells cur e (0, 0))) (hs : a.eval s = .slice (some ⟨g, off, none⟩) (n + 1) c) (hfit : off + (n + 1) * z.cells.size ≤ cur.size)
    (h : ∀ L : List Value, L.length = (n + 1) * z.cells.size → wpList P ops Q rest (a.put o.dst (.tuple #[])) (w.setRow g (cur.toList.take off ++ L ++ cur.toList.drop (off + L.length)).toArray)) : wpList P ops Q (o :: rest) a w := by
  refine wpList_plain hgd fun K hK => ?_
  obtain ⟨L, hL⟩ : ∃ L, (Builtin.zeroCells z.cells (n + 1)).toList = L := ⟨_, rfl⟩
  have hlen : L.length = (n + 1) * z.cells.size := by rw [← hL, Array.length_toList, size_zeroCells]
  have hone : ∀ u ∈ L, u.oneCell' = true := fun u hu => by
    rw [← hL] at hu
    have hu' : u ∈ Builtin.zeroCells z.cells (n + 1) := by simpa using hu
    unfold Builtin.zeroCells at hu'
    obtain ⟨j, hj, rfl⟩ := Array.mem_map.1 hu'
    have hj2 := Array.mem_range.1 hj
    have hs0 : 0 < z.cells.size := by
      rcases Nat.eq_zero_or_pos z.cells.size with h0 | h0
      · rw [h0] at hj2; simp at hj2
      · exact h0
    have hlt := Nat.mod_lt j hs0
    rw [getElem!_pos z.cells (j % z.cells.size) hlt]
    exact hz1 _ (Array.getElem_mem hlt)
  have hst := run_storeCells_at P g off e L 0 cur w hg (by omega) hone
  simp only [Nat.add_zero] at hst
  have hL' : Builtin.zeroCells z.cells (n + 1) = L.toArray := by rw [← hL]
  unfold Oper.wp
  simp [execOp, ho, resolve, invoke, builtin, hs, Builtin.clear_, run_underlying ht, hv, hL, hst, Result.andThen]
  exact hK _ _ (by simpa only [List.append_assoc] using h L hlen)
end
end Go
