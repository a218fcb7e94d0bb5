/- Texts laid together: E3 E4 EP4 R15 ES E5 R7 R9 R12. -/
import Derived.Test.YtfcellgjbbfobaaMg6
import Derived.StillTailTactics
import Derived.Shelf.SlSortCmp.WholeK
import Derived.Ground.SlsfProg
import Derived.Shelf.Bytes.SlEqualAll
import Derived.Below
import Derived.WalkKit
import Derived.Deep.AppendLies
import Derived.Laws.AppendOwnNone
/- Explore: compare. -/
namespace Go.Proofs.Ytfcellgjbbfobaa
open Go.RowKit Go.Ex
theorem nan77 (x : Int) (w : World) : Calls Try.prog 77 #[.int .i64 x] w fun e w' => e = .returned (.bool false) ∧ w' = w := by
  have hx : (x != x) = false := by simp
  go_enter Try.func77, Try.ntmps77
  go_wp2_with fail
  go_ret
  exact ⟨rfl, rfl⟩
theorem cmp68 (x y : Int) (w : World) : Calls Try.prog 68 #[.int .i64 x, .int .i64 y] w fun e w' => e = .returned (.int .i64 (cmp1 x y)) ∧ w' = w := by
  by_cases h1 : x < y
  · have hc : cmp1 x y = -1 := by simp [cmp1, h1]
    have hd : decide (x < y) = true := by simpa using h1
    rw [hc]
    clear hc h1
    go_enter Try.func68, Try.ntmps68
    go_wp2_with (first | (go_at_call 77; (with_reducible refine (nan77 _ _).mono ?_); rintro e1 w1 ⟨rfl, rfl⟩))
    go_ret
    exact ⟨rfl, rfl⟩
  · by_cases h2 : x > y
    · have hc : cmp1 x y = 1 := by unfold cmp1; rw [if_neg h1, if_pos h2]
      have hd : decide (x < y) = false := by simpa using h1
      have hd2 : decide (x > y) = true := by simpa using h2
      rw [hc]
      clear hc h1 h2
      go_enter Try.func68, Try.ntmps68
      go_wp2_with (first | (go_at_call 77; (with_reducible refine (nan77 _ _).mono ?_); rintro e1 w1 ⟨rfl, rfl⟩))
      go_ret
      exact ⟨rfl, rfl⟩
    · have hc : cmp1 x y = 0 := by unfold cmp1; rw [if_neg h1, if_neg h2]
      have hd : decide (x < y) = false := by simpa using h1
      have hd2 : decide (x > y) = false := by simpa using h2
      rw [hc]
      clear hc h1 h2
      go_enter Try.func68, Try.ntmps68
      go_wp2_with (first | (go_at_call 77; (with_reducible refine (nan77 _ _).mono ?_); rintro e1 w1 ⟨rfl, rfl⟩))
      go_ret
      exact ⟨rfl, rfl⟩
theorem cmpL_drop {xs ys : List Int} {k : Nat} {x y : Int} (hx : xs[k]? = some x) (hy : ys[k]? = some y) : cmpL (xs.drop k) (ys.drop k) = if cmp1 x y ≠ 0 then cmp1 x y else cmpL (xs.drop (k + 1)) (ys.drop (k + 1)) := by
  have h1 := (List.getElem?_eq_some_iff.1 hx)
  have h2 := (List.getElem?_eq_some_iff.1 hy)
  obtain ⟨h1, h1'⟩ := h1
  obtain ⟨h2, h2'⟩ := h2
  rw [List.drop_eq_getElem_cons h1, List.drop_eq_getElem_cons h2, h1', h2']
  rfl
set_option maxHeartbeats 1000000 in
theorem cmp49 {b1 o1 c1 b2 o2 c2 n : Nat} {xs ys : List Int} {w : World} (hx : xs.length = n) (hy : ys.length = n) (h1 : ∀ j u, xs[j]? = some u → w.cell? ⟨b1, o1 + j, none⟩ = some (.int .i64 u)) (h2 : ∀ j u, ys[j]? = some u → w.cell? ⟨b2, o2 + j, none⟩ = some (.int .i64 u)) (hn : n ≤ 1000) (hc1 : n ≤ c1) (hc2 : n ≤ c2) (hm1 : c1 ≤ 1000) (hm2 : c2 ≤ 1000) :
    Calls Try.prog 49 #[.slice (some ⟨b1, o1, none⟩) n c1, .slice (some ⟨b2, o2, none⟩) n c2] w fun e w' => e = .returned (.int .i64 (cmpL xs ys)) ∧ w' = w := by
  have H1 := Lib.hid h1
  have H2 := Lib.hid h2
  have HX := Lib.hid hx
  have HY := Lib.hid hy
  clear h1 h2 hx hy
  go_enter Try.func49, Try.ntmps49
  go_wp2_with fail
  go_loopw [11] (fun j wr => ∃ k : Nat, k ≤ n ∧ j = .int .i64 k ∧ wr = w ∧ Hid (cmpL xs ys = cmpL (xs.drop k) (ys.drop k))) (fun j _ => n - (intOf j).toNat)
  case atStart => exact ⟨0, by omega, rfl, rfl, Lib.hid (by simp)⟩
  case round =>
    obtain ⟨k, hk, rfl, rfl, HI⟩ := hrel
    by_cases hlt : k < n
    · obtain ⟨x, hx⟩ : ∃ x, xs[k]? = some x := ⟨_, List.getElem?_eq_getElem (by rw [HX.out]; exact hlt)⟩
      obtain ⟨y, hy⟩ : ∃ y, ys[k]? = some y := ⟨_, List.getElem?_eq_getElem (by rw [HY.out]; exact hlt)⟩
      have hd := cmpL_drop hx hy
      have hcx := H1.out k x hx
      have hcy := H2.out k y hy
      have hdec : decide ((k : Int) < (n : Int)) = true := by simp; omega
      have hdec2 : decide ((k : Int) ≥ (n : Int)) = false := by simp; omega
      clear hx hy
      obtain ⟨z, hz⟩ : ∃ z, cmp1 x y = z := ⟨_, rfl⟩
      have HZ := Lib.hid hz
      rw [hz] at hd
      clear hz
      by_cases e : z = 0
      · have he : (z != 0) = false := by simp [e]
        have HN : Hid (cmpL xs ys = cmpL (xs.drop (k + 1)) (ys.drop (k + 1))) := Lib.hid (by rw [HI.out, hd, if_neg (by simp [e])])
        clear hd e
        go_wp2_with (first | (go_at_call 68; (with_reducible refine (cmp68 _ _ _).mono ?_); rintro e1 w1 ⟨rfl, rfl⟩; rw [HZ.out]))
        exact ⟨⟨k + 1, hlt, by go_num, trivial, HN⟩, by simp [intOf]; omega⟩
      · have he : (z != 0) = true := by simp [e]
        have HN : Hid (cmpL xs ys = z) := Lib.hid (by rw [HI.out, hd, if_pos e])
        clear hd e
        go_wp2_with (first | (go_at_call 68; (with_reducible refine (cmp68 _ _ _).mono ?_); rintro e1 w1 ⟨rfl, rfl⟩; rw [HZ.out]))
        go_ret
        exact ⟨by rw [HN.out]; rfl, rfl⟩
    · have hkn : k = n := by omega
      subst hkn
      have hdec : decide ((k : Int) < (k : Int)) = false := by simp
      have HN : Hid (cmpL xs ys = 0) := Lib.hid (by rw [HI.out, List.drop_eq_nil_of_le (by rw [HX.out]; omega)]; rfl)
      go_wp2_with fail
      go_ret
      exact ⟨by rw [HN.out]; rfl, rfl⟩
def orI : List Int → Int
  | [] => 0
  | x :: xs => if x ≠ 0 then x else orI xs
set_option maxHeartbeats 1000000 in
theorem or48 {b n : Nat} {xs : List Int} {w : World} (hx : xs.length = n) (h1 : ∀ j u, xs[j]? = some u → w.cell? ⟨b, j, none⟩ = some (.int .i64 u)) (hn : n ≤ 1000) :
    Calls Try.prog 48 #[.slice (some ⟨b, 0, none⟩) n n] w fun e w' => e = .returned (.int .i64 (orI xs)) ∧ w' = w := by
  have H1 := Lib.hid h1
  have HX := Lib.hid hx
  clear h1 hx
  go_enter Try.func48, Try.ntmps48
  go_wp2_with fail
  go_loopw [8] (fun j wr => ∃ k : Nat, k ≤ n ∧ j = .int .i64 k ∧ wr = w ∧ Hid (orI xs = orI (xs.drop k))) (fun j _ => n - (intOf j).toNat)
  case atStart => exact ⟨0, by omega, rfl, rfl, Lib.hid (by simp)⟩
  case round =>
    obtain ⟨k, hk, rfl, rfl, HI⟩ := hrel
    by_cases hlt : k < n
    · obtain ⟨x, hx⟩ : ∃ x, xs[k]? = some x := ⟨_, List.getElem?_eq_getElem (by rw [HX.out]; exact hlt)⟩
      have hd : orI (xs.drop k) = if x ≠ 0 then x else orI (xs.drop (k + 1)) := by
        obtain ⟨h2, h2'⟩ := List.getElem?_eq_some_iff.1 hx
        rw [List.drop_eq_getElem_cons h2, h2']; rfl
      have hcx := H1.out k x hx
      have hdec : decide ((k : Int) < (n : Int)) = true := by simp; omega
      clear hx
      by_cases e : x = 0
      · have he : (x != 0) = false := by simp [e]
        have HN : Hid (orI xs = orI (xs.drop (k + 1))) := Lib.hid (by rw [HI.out, hd, if_neg (by simp [e])])
        clear hd e
        go_wp2_with fail
        exact ⟨⟨k + 1, hlt, by go_num, trivial, HN⟩, by simp [intOf]; omega⟩
      · have he : (x != 0) = true := by simp [e]
        have HN : Hid (orI xs = x) := Lib.hid (by rw [HI.out, hd, if_pos e])
        clear hd e
        go_wp2_with fail
        go_ret
        exact ⟨by rw [HN.out]; rfl, rfl⟩
    · have hkn : k = n := by omega
      subst hkn
      have hdec : decide ((k : Int) < (k : Int)) = false := by simp
      have HN : Hid (orI xs = 0) := Lib.hid (by rw [HI.out, List.drop_eq_nil_of_le (by rw [HX.out]; omega)]; rfl)
      go_wp2_with fail
      go_ret
      exact ⟨by rw [HN.out]; rfl, rfl⟩
end Go.Proofs.Ytfcellgjbbfobaa
/- Explore: compare, whole. -/
namespace Go.Proofs.Ytfcellgjbbfobaa
open Go.RowKit Go.Ex
theorem getElem_take_drop {s : List Int} {a n j : Nat} {u : Int} (h : ((s.drop a).take n)[j]? = some u) : s[a + j]? = some u := by
  by_cases hj : j < n
  · rw [List.getElem?_take_of_lt hj, List.getElem?_drop] at h
    exact h
  · rw [List.getElem?_take_eq_none (by omega)] at h
    cases h
theorem part4 {T : TypeId} {w : World} {b a : Nat} {s : List Int} (hA : ArrAt T w b s) : ∀ j u, ((s.drop a).take 4)[j]? = some u → w.cell? ⟨b, a + j, none⟩ = some (.int .i64 u) := fun j u hu => by
  have h1 := getElem_take_drop hu
  rw [hA.cell (List.getElem?_eq_some_iff.1 h1).1, List.getD_eq_getElem?_getD, h1]; rfl
theorem split12 {s : List Int} (h : s.length = 12) : s = (s.drop 0).take 4 ++ ((s.drop 4).take 4 ++ (s.drop 8).take 4) := by
  obtain ⟨x0, x1, x2, x3, x4, x5, x6, x7, x8, x9, xa, xb, rfl⟩ : ∃ x0 x1 x2 x3 x4 x5 x6 x7 x8 x9 xa xb, s = [x0, x1, x2, x3, x4, x5, x6, x7, x8, x9, xa, xb] := by
    match s, h with
    | [x0, x1, x2, x3, x4, x5, x6, x7, x8, x9, xa, xb], _ => exact ⟨_, _, _, _, _, _, _, _, _, _, _, _, rfl⟩
  rfl
theorem cmp12 {s t : List Int} (hs : s.length = 12) (ht : t.length = 12) : orI [cmpL ((s.drop 0).take 4) ((t.drop 0).take 4), cmpL ((s.drop 4).take 4) ((t.drop 4).take 4), cmpL ((s.drop 8).take 4) ((t.drop 8).take 4)] = cmpL s t := by
  conv => rhs; rw [split12 hs, split12 ht]
  rw [cmpL_app (by simp [hs, ht]), cmpL_app (by simp [hs, ht])]
  simp only [orI]
  split
  · rfl
  · split
    · rfl
    · split
      · rfl
      · rename_i h
        simp at h
        exact h.symm
set_option maxRecDepth 100000 in
set_option maxHeartbeats 2000000 in
theorem compare42 {s t : List Int} (hs : s.length = 12) (ht : t.length = 12) (w : World) :
    Calls Try.prog 42 #[.agg (s.map (Value.int .i64)).toArray, .agg (t.map (Value.int .i64)).toArray] w fun e w' => e = .returned (.int .i64 (cmpL s t)) ∧ ∃ o, w' = (((w.alloc (.cells (s.map (Value.int .i64)).toArray 62)).alloc (.cells (t.map (Value.int .i64)).toArray 62)).drew).alloc o := by
  have hA : ArrAt 62 ((w.alloc (.cells (s.map (Value.int .i64)).toArray 62)).alloc (.cells (t.map (Value.int .i64)).toArray 62)) w.heap.size s := (ArrAt.new 62 w s).keep ((Keep.refl [] _).alloc _) (by simp)
  have hB : ArrAt 62 ((w.alloc (.cells (s.map (Value.int .i64)).toArray 62)).alloc (.cells (t.map (Value.int .i64)).toArray 62)) (w.heap.size + 1) t := by
    have h9 := ArrAt.new 62 (w.alloc (.cells (s.map (Value.int .i64)).toArray 62)) t
    rw [show (w.alloc (.cells (s.map (Value.int .i64)).toArray 62)).heap.size = w.heap.size + 1 by simp] at h9
    exact h9
  have hlen : ∀ a, a ≤ 8 → ((s.drop a).take 4).length = 4 ∧ ((t.drop a).take 4).length = 4 := fun a ha => by simp [hs, ht]; omega
  obtain ⟨w2, hw2⟩ : ∃ w2, (w.alloc (.cells (s.map (Value.int .i64)).toArray 62)).alloc (.cells (t.map (Value.int .i64)).toArray 62) = w2 := ⟨_, rfl⟩
  rw [hw2] at hA hB ⊢
  obtain ⟨wd, hwd⟩ : ∃ wd : World, { w2 with drawn := w2.drawn + 1 } = wd := ⟨_, rfl⟩
  have hwd2 : wd = w2.drew := hwd.symm
  have hC : ∀ a, a ≤ 8 → Calls Try.prog 49 #[.slice (some ⟨w.heap.size, a, none⟩) 4 4, .slice (some ⟨w.heap.size + 1, a, none⟩) 4 4] wd fun e w' => e = .returned (.int .i64 (cmpL ((s.drop a).take 4) ((t.drop a).take 4))) ∧ w' = wd := fun a ha =>
    cmp49 (hlen a ha).1 (hlen a ha).2 (part4 (show ArrAt 62 wd w.heap.size s from hwd2 ▸ hA.drew)) (part4 (show ArrAt 62 wd (w.heap.size + 1) t from hwd2 ▸ hB.drew)) (by omega) (by omega) (by omega) (by omega) (by omega)
  have h0 := Lib.hid (hC 0 (by omega))
  have h4 := Lib.hid (hC 4 (by omega))
  have h8 := Lib.hid (hC 8 (by omega))
  have HE := Lib.hid (cmp12 hs ht)
  obtain ⟨c0, hc0⟩ : ∃ c, cmpL ((s.drop 0).take 4) ((t.drop 0).take 4) = c := ⟨_, rfl⟩
  obtain ⟨c4, hc4⟩ : ∃ c, cmpL ((s.drop 4).take 4) ((t.drop 4).take 4) = c := ⟨_, rfl⟩
  obtain ⟨c8, hc8⟩ : ∃ c, cmpL ((s.drop 8).take 4) ((t.drop 8).take 4) = c := ⟨_, rfl⟩
  rw [hc0] at h0 HE
  rw [hc4] at h4 HE
  rw [hc8] at h8 HE
  clear hA hB hC hlen hs ht hc0 hc4 hc8 hwd2
  go_enter Try.func42, Try.ntmps42
  go_wp2_with fail
  refine wp_region_still_tail 15 mixed (by kernel_rfl) ?_
  simp only [List.take_succ_cons, List.take_zero, List.drop_succ_cons, List.drop_zero]
  rw [hwd]
  still_step
  still_step
  still_step
  still_step
  still_call h0.out
  still_step
  still_step
  still_step
  still_step
  still_call h4.out
  still_step
  still_step
  still_step
  still_step
  still_call h8.out
  refine wpStill_nil ?_
  change wpList _ _ _ _ _ wd
  have HW : Hid ((wd.alloc (.cells #[.int .i64 c0, .int .i64 c4, .int .i64 c8] 3)).heap[wd.heap.size]? = some (.cells #[.int .i64 c0, .int .i64 c4, .int .i64 c8] 3 (0, 0))) := Lib.hid (blk_new wd _)
  have HO := Lib.hid (or48 (b := wd.heap.size) (n := 3) (xs := [c0, c4, c8]) (w := wd.alloc (.cells #[.int .i64 c0, .int .i64 c4, .int .i64 c8] 3)) rfl (fun j u hu => by
    rw [cellAt HW.out]
    match j, hu with
    | 0, hu => injection hu with hu; subst hu; rfl
    | 1, hu => injection hu with hu; subst hu; rfl
    | 2, hu => injection hu with hu; subst hu; rfl
    | j + 3, hu => simp at hu) (by omega))
  clear HW
  go_wp2_with (first | (go_at_call 48; (with_reducible refine HO.out.mono ?_); rintro e1 w1 ⟨rfl, rfl⟩; rw [HE.out]))
  go_ret
  exact ⟨rfl, _, by rw [← hwd]; rfl⟩
end Go.Proofs.Ytfcellgjbbfobaa
/- The order of states, for the sort. -/
namespace Go.Ex
open Go.Sort Go.Shelf Go.Proofs Go.Lib
abbrev St12 : Type := {s : List Int // s.length = 12}
instance : Inhabited St12 := ⟨⟨[0, 0, 0, 0, 0, 0, 0, 0, 0, 0, 0, 0], rfl⟩⟩
def stI (x : St12) : List Value := x.1.map (Value.int .i64)
theorem stI_len (x : St12) : (stI x).length = 12 := by unfold stI; rw [List.length_map]; exact x.2
theorem stI_one (x : St12) : ∀ v ∈ stI x, v.oneCell' = true := fun v hv => by
  obtain ⟨z, _, rfl⟩ := List.mem_map.1 hv
  rfl
def cmpS (x y : St12) : Int := cmpL x.1 y.1
theorem swoS : SWO (ltOf cmpS) := by
  have hs := fun x y : St12 => cmpL_swap x.1 y.1
  have ht := fun x y z : St12 => @cmpL_trans x.1 y.1 z.1 (by rw [x.2, y.2]) (by rw [y.2, z.2])
  refine ⟨fun x => ?_, fun x y z => ?_, fun x y z => ?_⟩
  · simp only [ltOf, cmpS, cmpL_self]; decide
  · intro h1 h2
    have h1 : cmpL x.1 y.1 < 0 := of_decide_eq_true h1
    have h2 : cmpL y.1 z.1 < 0 := of_decide_eq_true h2
    refine decide_eq_true (show cmpL x.1 z.1 < 0 from ?_)
    have a1 := hs x y
    have a2 := hs y z
    have a3 := hs x z
    have h3 := ht x y z (by omega) (by omega)
    refine Classical.byContradiction fun h4 => ?_
    have h5 := ht z x y (by omega) (by omega)
    omega
  · intro h1 h2
    have h1 : ¬ cmpL x.1 y.1 < 0 := of_decide_eq_false h1
    have h2 : ¬ cmpL y.1 z.1 < 0 := of_decide_eq_false h2
    refine decide_eq_false (show ¬ cmpL x.1 z.1 < 0 from ?_)
    have a1 := hs x y
    have a2 := hs y z
    have a3 := hs x z
    have h3 := ht z y x (by omega) (by omega)
    omega
end Go.Ex
/- Rows of one's own and the sort: things of whatever number of cells. -/
namespace Go
open Go.RowKit Go.Sort Go.Shelf Go.Proofs Go.Lib
theorem flat_at {α : Type} {enc : α → List Value} {k : Nat} (hk : ∀ x, (enc x).length = k) (l : List α) : ∀ (i j : Nat) (x : α), l[i]? = some x → j < k → (l.flatMap enc)[i * k + j]? = (enc x)[j]? := by
  induction l with
  | nil => intro i j x h; simp at h
  | cons y l ih =>
    intro i j x h hj
    rw [List.flatMap_cons]
    cases i with
    | zero =>
      simp at h
      subst h
      rw [Nat.zero_mul, Nat.zero_add, List.getElem?_append_left (by rw [hk]; exact hj)]
    | succ i =>
      simp at h
      rw [List.getElem?_append_right (by rw [hk, Nat.succ_mul]; omega), hk, show (i + 1) * k + j - k = i * k + j by rw [Nat.succ_mul]; omega]
      exact ih i j x h hj
theorem flat_len {α : Type} {enc : α → List Value} {k : Nat} (hk : ∀ x, (enc x).length = k) (l : List α) : (l.flatMap enc).length = l.length * k := by
  induction l with
  | nil => simp
  | cons y l ih => rw [List.flatMap_cons, List.length_append, ih, hk, List.length_cons, Nat.succ_mul]; omega
theorem flatK_list {α : Type} [Inhabited α] {enc : α → List Value} {k : Nat} (hk : ∀ x, (enc x).length = k) (l : List α) : (flatK enc k l.toArray).toList = l.flatMap enc := by
  refine List.ext_getElem? fun t => ?_
  by_cases ht : t < l.length * k
  · have hk0 : 0 < k := by
      rcases Nat.eq_zero_or_pos k with h | h
      · rw [h] at ht; omega
      · exact h
    have hi : t / k < l.length := (Nat.div_lt_iff_lt_mul hk0).2 ht
    have hm := Nat.mod_lt t hk0
    have h1 := flat_at hk l (t / k) (t % k) _ (List.getElem?_eq_getElem hi) hm
    rw [Nat.div_add_mod' t k] at h1
    rw [h1, Array.getElem?_toList]
    have h2 := get_flatK enc k l.toArray t (by simpa using ht)
    rw [Array.getElem?_eq_getElem (by simpa using ht)]
    rw [getElem!_pos _ t (by simpa using ht)] at h2
    rw [h2]
    simp only [List.getElem!_toArray]
    rw [getElem!_pos l _ hi, getElem!_pos _ _ (by rw [hk]; exact hm), List.getElem?_eq_getElem (by rw [hk]; exact hm)]
  · rw [List.getElem?_eq_none (by simp; omega), List.getElem?_eq_none (by rw [flat_len hk]; omega)]
theorem holdsK_own {α : Type} [Inhabited α] {enc : α → List Value} {k : Nat} (hk : ∀ x, (enc x).length = k) {w : World} {g : Nat} {cur : Array Value} {e : TypeId} {l : List α} (hb : w.heap[g]? = some (.cells cur e (0, 0))) (ht : cur.toList.take (l.length * k) = l.flatMap enc) : HoldsK enc k w g 0 l.toArray := by
  intro j hj
  rw [size_flatK] at hj
  have hj2 : j < l.length * k := by simpa using hj
  refine ⟨?_, thaw hb _⟩
  rw [Nat.zero_add, cellAt hb]
  show cur[j]? = some ((flatK enc k l.toArray)[j]!)
  rw [getElem!_pos (flatK enc k l.toArray) j (by simpa using hj2)]
  have h1 : (cur.toList.take (l.length * k))[j]? = (flatK enc k l.toArray).toList[j]? := by rw [ht, flatK_list hk]
  rw [List.getElem?_take, if_pos hj2, Array.getElem?_toList, Array.getElem?_toList, Array.getElem?_eq_getElem (xs := flatK enc k l.toArray) (i := j) (by simpa using hj2)] at h1
  exact h1
theorem sortedK_heap {α : Type} [Inhabited α] {enc : α → List Value} {k : Nat} {w : World} {g n : Nat} {os : Array Obj} {cur : Array Value} {e : TypeId} {fr : Nat × Nat} (d : Array α) (hb : w.heap[g]? = some (.cells cur e fr)) :
    (sortWorldK enc k w g 0 n d os).heap[g]? = some (.cells (putCells id 0 (flatK enc k d) cur) e fr) := by
  have hg : g < w.heap.size := (Array.getElem?_eq_some_iff.1 hb).1
  unfold sortWorldK
  rw [heap_grow_old _ _ (by simpa [putRowK, putRow, mapBlock, Sort.ahead] using hg)]
  simp [putRowK, putRow, mapBlock, Sort.ahead, Array.getElem?_modify, hb, onCells]
theorem sortedK_keep {α : Type} [Inhabited α] {enc : α → List Value} {k : Nat} {w : World} {g n : Nat} {os : Array Obj} (d : Array α) : Keep [g] w (sortWorldK enc k w g 0 n d os) := by
  refine Keep.ofGrown (row := some g) ⟨rfl, rfl, rfl, by simp [sortWorldK, putRowK, putRow, mapBlock, Sort.ahead, grow], fun j hj hne => ?_⟩ (fun x hx => by simp at hx; simp [hx])
  unfold sortWorldK
  rw [heap_grow_old _ _ (by simpa [putRowK, putRow, mapBlock, Sort.ahead] using hj)]
  have : g ≠ j := fun e => hne (by rw [e])
  simp [putRowK, putRow, mapBlock, Sort.ahead, Array.getElem?_modify, this]
theorem sortedK_own {α : Type} [Inhabited α] {enc : α → List Value} {k : Nat} (hk : ∀ x, (enc x).length = k) {w : World} {B g cap n : Nat} {os : Array Obj} {e : TypeId} {l m : List α} (ho : w.ownsRow B e k (.slice (some ⟨g, 0, none⟩) l.length cap) l.length (l.flatMap enc)) (hm : m.length = l.length) : (sortWorldK enc k w g 0 n m.toArray os).ownsRow B e k (.slice (some ⟨g, 0, none⟩) l.length cap) l.length (m.flatMap enc) := by
  refine ⟨by rw [flat_len hk, hm], ?_⟩
  rcases ho.2 with ⟨h, _⟩ | ⟨g', cap', cur, hv, hb, hg, hnc, hcm, hcs, ht⟩
  · cases h
  · cases hv
    refine .inr ⟨g, cap, _, rfl, hb, sortedK_heap _ hg, hnc, hcm, by simp [putCells, hcs], ?_⟩
    rw [← flatK_list hk m]
    have hle : l.length * k ≤ cap * k := Nat.mul_le_mul_right _ hnc
    refine List.ext_getElem? fun j => ?_
    by_cases hj : j < l.length * k
    · rw [List.getElem?_take_of_lt hj, Array.getElem?_toList, Array.getElem?_toList]
      have h2 : j < m.length * k := by rw [hm]; exact hj
      have h3 : j < cur.size := by rw [hcs]; omega
      simp [putCells, h2, h3]
    · rw [List.getElem?_take_eq_none (by omega), List.getElem?_eq_none (by simp [hm]; omega)]
end Go
/- The shelf: slices.SortFunc. -/
namespace Go.Proofs
open Go.Shelf
def Try.sort41_ren : Go.Shelf.Ren := ⟨fun | 6 => 41 | 15 => 46 | 14 => 47 | 28 => 58 | 29 => 59 | 20 => 60 | 21 => 61 | 22 => 62 | 23 => 63 | 24 => 64 | 25 => 65 | 26 => 66 | 27 => 67 | 46 => 74 | 47 => 70 | 48 => 71 | 49 => 75 | 50 => 76 | 57 => 79 | n => n, fun | 22 => 58 | 24 => 62 | 25 => 80 | 3 => 3 | 39 => 85 | 0 => 0 | 53 => 98 | 55 => 66 | 4 => 4 | 46 => 91 | 45 => 90 | 50 => 95 | 5 => 5 | 9 => 9 | 66 => 105 | 70 => 109 | 76 => 113 | 77 => 114 | n => n, fun | n => n⟩
theorem Try.sort41 : Go.Proofs.SlLaysF0.n6 Try.prog Try.sort41_ren := {
  mixed := by kernel_rfl
  f6 := ⟨Try.f41.name, by decide, Try.func41.trans (congrArg some (by kernel_rfl))⟩
  f14 := ⟨Try.f47.name, by decide, Try.func47.trans (congrArg some (by kernel_rfl))⟩
  f15 := Try.func46.trans (congrArg some (by kernel_rfl))
  f20 := ⟨Try.f60.name, by decide, Try.func60.trans (congrArg some (by kernel_rfl))⟩
  f21 := ⟨Try.f61.name, by decide, Try.func61.trans (congrArg some (by kernel_rfl))⟩
  f22 := ⟨Try.f62.name, by decide, Try.func62.trans (congrArg some (by kernel_rfl))⟩
  f23 := ⟨Try.f63.name, by decide, Try.func63.trans (congrArg some (by kernel_rfl))⟩
  f24 := ⟨Try.f64.name, by decide, Try.func64.trans (congrArg some (by kernel_rfl))⟩
  f25 := ⟨Try.f65.name, by decide, Try.func65.trans (congrArg some (by kernel_rfl))⟩
  f26 := ⟨Try.f66.name, by decide, Try.func66.trans (congrArg some (by kernel_rfl))⟩
  f27 := ⟨Try.f67.name, by decide, Try.func67.trans (congrArg some (by kernel_rfl))⟩
  f28 := Try.func58.trans (congrArg some (by kernel_rfl))
  f29 := Try.func59.trans (congrArg some (by kernel_rfl))
  f46 := ⟨Try.f74.name, by decide, Try.func74.trans (congrArg some (by kernel_rfl))⟩
  f47 := Try.func70.trans (congrArg some (by kernel_rfl))
  f48 := Try.func71.trans (congrArg some (by kernel_rfl))
  f49 := ⟨Try.f75.name, by decide, Try.func75.trans (congrArg some (by kernel_rfl))⟩
  f50 := ⟨Try.f76.name, by decide, Try.func76.trans (congrArg some (by kernel_rfl))⟩
  f57 := ⟨Try.f79.name, by decide, Try.func79.trans (congrArg some (by kernel_rfl))⟩
  t0 := Try.underlying0
  a0 := Try.isAgg0
  z0 := Try.sizeOf0
  v0 := Try.zeroValue0
  t3 := Try.underlying3
  a3 := Try.isAgg3
  z3 := Try.sizeOf3
  v3 := Try.zeroValue3
  t4 := Try.underlying4
  a4 := Try.isAgg4
  z4 := Try.sizeOf4
  v4 := Try.zeroValue4
  t5 := Try.underlying5
  a5 := Try.isAgg5
  z5 := Try.sizeOf5
  v5 := Try.zeroValue5
  t9 := Try.underlying9
  a9 := Try.isAgg9
  z9 := Try.sizeOf9
  v9 := Try.zeroValue9
  t22 := Try.underlying58
  a22 := Try.isAgg58
  z22 := Try.sizeOf58
  v22 := Try.zeroValue58
  t25 := Try.underlying80
  a25 := Try.isAgg80
  z25 := Try.sizeOf80
  v25 := Try.zeroValue80
  t39 := Try.underlying85
  a39 := Try.isAgg85
  z39 := Try.sizeOf85
  v39 := Try.zeroValue85
  t45 := Try.underlying90
  a45 := Try.isAgg90
  z45 := Try.sizeOf90
  v45 := Try.zeroValue90
  t46 := Try.underlying91
  a46 := Try.isAgg91
  z46 := Try.sizeOf91
  v46 := Try.zeroValue91
  t50 := Try.underlying95
  a50 := Try.isAgg95
  z50 := Try.sizeOf95
  v50 := Try.zeroValue95
  t53 := Try.underlying98
  a53 := Try.isAgg98
  z53 := Try.sizeOf98
  v53 := Try.zeroValue98
  t55 := Try.underlying66
  a55 := Try.isAgg66
  z55 := Try.sizeOf66
  v55 := Try.zeroValue66
  t66 := Try.underlying105
  a66 := Try.isAgg105
  z66 := Try.sizeOf105
  v66 := Try.zeroValue105
  t70 := Try.underlying109
  a70 := Try.isAgg109
  z70 := Try.sizeOf109
  v70 := Try.zeroValue109
  t76 := Try.underlying113
  a76 := Try.isAgg113
  z76 := Try.sizeOf113
  v76 := Try.zeroValue113
  t77 := Try.underlying114
  a77 := Try.isAgg114
  z77 := Try.sizeOf114
  v77 := Try.zeroValue114 }
end Go.Proofs
/- Explore: slices.SortFunc of states. -/
namespace Go.Proofs.Ytfcellgjbbfobaa
open Go.RowKit Go.Sort Go.Shelf Go.Proofs Go.Ex
def encS (x : List Int) : List Value := x.map (Value.int .i64)
theorem stI_flat (l : List St12) : l.flatMap stI = (l.map (·.1)).flatMap encS := by
  induction l with
  | nil => rfl
  | cons x l ih => rw [List.flatMap_cons, ih]; rfl
theorem attach12 {l : List (List Int)} (h : ∀ x ∈ l, x.length = 12) : ∃ m : List St12, m.map (·.1) = l := by
  induction l with
  | nil => exact ⟨[], rfl⟩
  | cons x l ih =>
    obtain ⟨m, hm⟩ := ih (fun y hy => h y (by simp [hy]))
    exact ⟨⟨x, h x (by simp)⟩ :: m, by rw [List.map_cons, hm]⟩
theorem sort41_own {w : World} {B : Nat} {v : Value} {l : List (List Int)} (ho : w.ownsRow B 62 12 v l.length (l.flatMap encS)) (hl : 0 < l.length) (hok : ∀ x ∈ l, x.length = 12) (hn : l.length ≤ 1000000000) :
    Calls Try.prog 41 #[v, .func (.func 42) #[] #[]] w fun e w' => e = .returned (.tuple #[]) ∧ (∃ l' : List (List Int), l'.Perm l ∧ w'.ownsRow B 62 12 v l.length (l'.flatMap encS)) ∧ Keep v.ownBlock.toList w w' := by
  obtain ⟨m, rfl⟩ := attach12 hok
  rw [← stI_flat, List.length_map] at ho
  rw [List.length_map] at hl hn ⊢
  rcases ho.2 with ⟨_, h0⟩ | ⟨g, cap, cur, rfl, hb, hg, hnc, hcm, hcs, ht⟩
  · omega
  · have hH := holdsK_own stI_len hg ht
    have hsz : m.toArray.size = m.length := by simp
    have h := AnyQ.slices_SortFunc Try.sort41 12 (fun w => by kernel_rfl) (fun w => by kernel_rfl) stI stI_len stI_one cmpS swoS 42 #[] g 0 cap m.toArray w (fun args w => by kernel_rfl) (fun k os dk _ x y => (compare42 x.2 y.2 _).mono (by
      rintro e w' ⟨rfl, o, rfl⟩
      exact ⟨rfl, 1, #[.cells (x.1.map (Value.int .i64)).toArray 62 (0, 0), .cells (y.1.map (Value.int .i64)).toArray 62 (0, 0), o], by rw [alloc_eq_grow, alloc_eq_grow, alloc_eq_grow, grow_grow, drew_grow, grow_grow]; rfl⟩)) hH (Array.getElem?_eq_some_iff.1 hg).1 (by rw [hsz]; omega)
    rw [hsz] at h
    refine h.mono ?_
    rintro e w' ⟨rfl, d', n, os, hp, hsd, rfl⟩
    obtain ⟨m', rfl⟩ : ∃ m' : List St12, d' = m'.toArray := ⟨d'.toList, by simp⟩
    have hlen : m'.length = m.length := by have := hp.1; simpa using this
    have hperm : m'.Perm m := by
      have := hp.2.2
      simp only [List.extract_toArray, List.extract_eq_take_drop, Nat.sub_zero, List.drop_zero] at this
      rw [List.take_of_length_le (by omega), List.take_of_length_le (Nat.le_refl _)] at this
      exact this
    have h9 := sortedK_own stI_len (n := n) (os := os) ho hlen
    rw [stI_flat] at h9
    exact ⟨rfl, ⟨_, hperm.map (·.1), h9⟩, sortedK_keep _⟩
end Go.Proofs.Ytfcellgjbbfobaa
namespace Go
open Go.ChangeShapes Go.WideShapes Go.ChangeAt Go.RowKit Go.Deep
/-- A slice of bytes in memory. -/
structure BytesV (w : World) (a : Option Addr) (n c : Nat) (bs : List Int) : Prop where
  len : bs.length = n
  room : n ≤ c
  most : c ≤ maxLen
  wf : ∀ z ∈ bs, 0 ≤ z ∧ z < 256
  cells : Lib.BytesIn w a n bs
  onNil : a = none → c = 0
theorem byte_wf {z : Int} (h : (Lit.int .u8 z).wf = true) : 0 ≤ z ∧ z < 256 := by
  have h2 : IntKind.u8.min = 0 := by decide
  have h3 : IntKind.u8.max = 255 := by decide
  simp [Lit.wf, h2, h3] at h
  omega
theorem BytesV.keep {S : List Nat} {w w' : World} {a : Option Addr} {n c : Nat} {bs : List Int} (h : BytesV w a n c bs) (hk : Keep S w w') (hS : ∀ x, a = some x → x.block ∉ S) : BytesV w' a n c bs :=
  ⟨h.len, h.room, h.most, h.wf, fun hn =>
    let ⟨b, o, h1, h2⟩ := h.cells hn
    ⟨b, o, h1, fun i hi => hk.cell (h2 i hi) (hS ⟨b, o, none⟩ h1)⟩, h.onNil⟩
section
variable {H : Type} {enc : TypeId × Value → H} {P : Program} {W : World}
theorem BytesV.empty (W : World) : BytesV W none 0 0 [] := ⟨rfl, Nat.le_refl _, Nat.zero_le _, by simp, Lib.BytesIn.nil _ _ _, fun _ => rfl⟩
theorem BytesV.ofRow {x : Addr} {n c : Nat} {zs : List Int} (hl : n ≤ c) (hm : c ≤ maxLen) (hz : zs.length = c) (hc : ∀ i, i < zs.length → W.cell? (x.add i) = some (.int .u8 (zs.getD i 0))) (hw : ∀ z ∈ zs, (Lit.int .u8 z).wf = true) :
    BytesV W (some x) n c (zs.take n) := by
  refine ⟨by simp; omega, hl, hm, fun z hz => byte_wf (hw z (List.mem_of_mem_take hz)), fun hn => ?_, fun h => by cases h⟩
  obtain ⟨b, off, spot⟩ := x
  have hspot : spot = none := by simpa [Addr.add] using World.cell?_spot (hc 0 (by omega))
  subst hspot
  refine ⟨b, off, rfl, fun i hi => ?_⟩
  have := hc i (by omega)
  rw [add_plain] at this
  rw [this]
  congr 2
  simp [List.getD_eq_getElem?_getD, hi]
theorem bytes_of {t e : TypeId} {a : Option Addr} {n c : Nat} {d : DataW H} {ps : List MemPlace} (ht : P.underlying t = some (.slice e)) (he : P.underlying e = some (.int .u8)) (ce : P.cellsOf e = 1)
    (h : DataW.Trod enc P W 0 (fun _ => true) true t (.slice a n c) d ps) : ∃ bs, BytesV W a n c bs := by
  obtain ⟨fuel, hf⟩ := h
  rcases open_ints ht he ce hf with ⟨hcs, _⟩ | ⟨x, l, c', zs, hcs, _, hl, hm, hz, _, hcell, hwz⟩
  · simp [Value.cells] at hcs
    obtain ⟨rfl, rfl, rfl⟩ := hcs
    exact ⟨[], BytesV.empty W⟩
  · simp [Value.cells] at hcs
    obtain ⟨rfl, rfl, rfl⟩ := hcs
    exact ⟨_, BytesV.ofRow hl hm (by simpa using hz) hcell hwz⟩
theorem bytes_room {ts : List TypeId} {ds : List (DataW H)} {j : Nat} {t e : TypeId} {a : Option Addr} {n c : Nat} {d : DataW H} {ps : List MemPlace} (ht : P.underlying t = some (.slice e)) (he : P.underlying e = some (.int .u8)) (ce : P.cellsOf e = 1) (be : P.bytesOf e = 1)
    (hs : (DataW.weightsEach P ts ds).all (· ≤ reachBytes) = true) (htj : ts[j]? = some t) (hdj : ds[j]? = some d)
    (h : DataW.Trod enc P W 0 (fun _ => true) true t (.slice a n c) d ps) : n ≤ 140737488351232 := by
  obtain ⟨fuel, hf⟩ := h
  rcases open_ints ht he ce hf with ⟨hcs, _⟩ | ⟨x, l, c', zs, hcs, _, hl, hm, hz, hx, hcell, hwz⟩
  · simp [Value.cells] at hcs
    omega
  · simp [Value.cells] at hcs
    obtain ⟨rfl, rfl, rfl⟩ := hcs
    simp only [Prod.mk.injEq] at hx
    obtain ⟨rfl, _⟩ := hx
    have := sized_slice hs htj hdj ht
    rw [be] at this
    simp only [lits, List.length_map, List.length_take, List.length_drop, reachBytes] at this
    simp only [if_true] at hz
    omega
end
end Go
/- Rows of bytes, as an argument. -/
namespace Go
open Go.ChangeShapes Go.WideShapes Go.ChangeAt Go.RowKit Go.Deep
/-- A slice of slices of bytes. -/
structure BRowsV (w : World) (a : Option Addr) (n c : Nat) (A : Nat → Option Addr) (L C : Nat → Nat) (Z : Nat → List Int) : Prop where
  room : n ≤ c
  most : c ≤ maxLen
  onNil : a = none → c = 0
  cells : 0 < n → ∃ b off, a = some ⟨b, off, none⟩ ∧ ∀ i, i < n → w.cell? ⟨b, off + i, none⟩ = some (.slice (A i) (L i) (C i))
  rows : ∀ i, i < n → BytesV w (A i) (L i) (C i) (Z i)
section
variable {H : Type} {enc : TypeId × Value → H} {P : Program} {W : World}
theorem byterows_of {t e q : TypeId} {a : Option Addr} {n c : Nat} {d : DataW H} {ps : List MemPlace} (ht : P.underlying t = some (.slice e)) (he : P.underlying e = some (.slice q)) (hq : P.underlying q = some (.int .u8)) (ce : P.cellsOf e = 1) (cq : P.cellsOf q = 1)
    (h : DataW.Trod enc P W 0 (fun _ => true) true t (.slice a n c) d ps) : ∃ A L C Z, BRowsV W a n c A L C Z := by
  obtain ⟨fuel, hf⟩ := h
  rcases open_int_rows ht he hq ce cq hf with ⟨hcs, _⟩ | ⟨x, l, c', A, L, C, Z, hcs, _, hl, hm, _, hr⟩
  · simp [Value.cells] at hcs
    obtain ⟨rfl, rfl, rfl⟩ := hcs
    exact ⟨fun _ => none, fun _ => 0, fun _ => 0, fun _ => [], Nat.le_refl _, Nat.zero_le _, fun _ => rfl, fun h => absurd h (by decide), fun i hi => absurd hi (by omega)⟩
  · simp [Value.cells] at hcs
    obtain ⟨rfl, rfl, rfl⟩ := hcs
    refine ⟨A, L, C, fun i => (Z i).take (L i), hl, hm, fun h => (by cases h), fun hn => ?_, fun i hi => ?_⟩
    · obtain ⟨b, off, spot⟩ := x
      have hspot : spot = none := by simpa [Addr.add] using World.cell?_spot (hr 0 (by omega)).1
      subst hspot
      exact ⟨b, off, rfl, fun i hi => by rw [← add_plain]; exact (hr i (by omega)).1⟩
    · obtain ⟨_, h1, h2, h3, h4, h5, h6⟩ := hr i (by omega)
      cases hA : A i with
      | none =>
        have hc := h5 hA
        have hl0 : L i = 0 := by omega
        have hz0 : (Z i).take (L i) = [] := by rw [hl0]; rfl
        (try dsimp only)
        rw [hz0, hl0, hc]
        exact BytesV.empty W
      | some y => exact BytesV.ofRow h1 h2 h3 (fun j hj => (h6 y hA).2 j (by omega)) h4
end
end Go
/- A queue: q = q[1:]; q = append(q, x): a row of one's own of which the first things were taken off. -/
namespace Go
open Go.RowKit
def World.ownsTail (w : World) (base : Nat) (e : TypeId) (size : Nat) (v : Value) (n : Nat) (xs : List Value) : Prop :=
  xs.length = n * size ∧ ∃ (g o cap : Nat) (cur : Array Value), v = .slice (some ⟨g, o * size, none⟩) n cap ∧ base ≤ g ∧ w.heap[g]? = some (.cells cur e (0, 0)) ∧ n ≤ cap ∧ cap ≤ maxLen ∧ (o + cap) * size ≤ cur.size ∧ (cur.toList.drop (o * size)).take (n * size) = xs
section
variable {P : Program} {w w' : World} {base e size n : Nat} {v : Value} {xs : List Value}
theorem World.ownsTail.keep {S : List Nat} (h : w.ownsTail base e size v n xs) (hk : Keep S w w') (hs : ∀ a c, v = .slice (some a) n c → a.block ∉ S) : w'.ownsTail base e size v n xs := by
  obtain ⟨hl, g, o, cap, cur, rfl, hb, hg, rest⟩ := h
  exact ⟨hl, g, o, cap, cur, rfl, hb, hk.at hg (hs _ _ rfl), rest⟩
theorem tail_cells (h : w.ownsTail base e size v n xs) : ∃ a c, v = .slice (some a) n c ∧ base ≤ a.block ∧ n ≤ c ∧ c ≤ maxLen ∧ (∃ cs, w.heap[a.block]? = some (.cells cs e (0, 0))) ∧ ∀ j u, xs[j]? = some u → w.cell? (a.add j) = some u := by
  obtain ⟨hl, g, o, cap, cur, rfl, hb, hg, hnc, hcm, hcs, ht⟩ := h
  refine ⟨_, _, rfl, hb, hnc, hcm, ⟨cur, hg⟩, fun j u hu => ?_⟩
  have hj : j < n * size := by rw [← hl]; exact (List.getElem?_eq_some_iff.1 hu).1
  rw [Go.WideShapes.add_plain, cell_of_row w g _ cur e (0, 0) hg]
  rw [← ht, List.getElem?_take, if_pos hj, List.getElem?_drop] at hu
  simpa using hu
theorem run_append_tail (base : Nat) (t ty e : TypeId) (i : TypeInfo) (z : Value) (size bytes : Nat) (ht : P.underlying t = some (.slice e)) (hi : P.info? e = some i) (hz : i.zero = some z)
    (hsize : i.size = size) (hby : i.bytes = bytes) (hzs : z.cells.size = size)
    (v : Value) (n : Nat) (xs : List Value) (hown : w.ownsTail base e size v n xs)
    (a : Addr) (m c : Nat) (news : List Value) (hl : news.length = m * size) (hnews : ∀ j u, news[j]? = some u → w.cell? (a.add j) = some u) (h1 : ∀ u ∈ news, u.oneCell' = true)
    (h63 : n + m ≤ maxLen) (hbytes : (n + m) * bytes ≤ 140737488355328) (hbase : base ≤ w.heap.size) :
    ∃ v' w' g, (Builtin.append_ #[t, t] ty #[v, .slice (some a) m c]).run P w = .ok v' w' ∧ w'.ownsTail base e size v' (n + m) (xs ++ news) ∧ w.grownBy w' (some g) ∧ base ≤ g ∧ ∃ ad cc, v = .slice (some ad) n cc ∧ ad.block = g := by
  subst hsize
  subst hby
  have hsmall : n + m ≤ 9223372036854775807 := by simp only [maxLen] at h63; omega
  have hlen : (xs ++ news).length = (n + m) * i.size := by rw [List.length_append, hown.1, hl, Nat.add_mul]
  obtain ⟨_, _, he, _, _, _, _, hcell⟩ := tail_cells hown
  obtain ⟨hxl, g, o, cap, cur, rfl, hb, hg, hnc, hcm, hcs, htk⟩ := hown
  injection he with he _ _
  injection he with he
  subst he
  by_cases hroom : n + m ≤ cap
  · have hmul : (o + n + m) * i.size ≤ cur.size := Nat.le_trans (Nat.mul_le_mul_right _ (by omega)) hcs
    have hfit : o * i.size + n * i.size + news.length ≤ cur.size := by rw [hl, ← Nat.add_mul, ← Nat.add_mul]; exact hmul
    have hf := run_firstCells_some (P := P) w i.size m a m c news hl hnews
    have hst := run_storeCells_at P g (o * i.size + n * i.size) e news 0 cur w hg (by simpa using hfit) h1
    simp only [Nat.add_zero] at hst
    refine ⟨.slice (some ⟨g, o * i.size, none⟩) (n + m) cap, w.setRow g (cur.toList.take (o * i.size + n * i.size) ++ news ++ cur.toList.drop (o * i.size + n * i.size + news.length)).toArray, g, ?_, ⟨hlen, g, o, cap, _, rfl, hb, setRow_heap w g cur _ e _ hg, hroom, hcm, ?_, ?_⟩, ⟨rfl, rfl, rfl, by simp, fun k _ hk => setRow_other w g k _ (fun e => hk (by rw [e]))⟩, hb, _, _, rfl, rfl⟩
    · simp [Builtin.append_, run_underlying ht, sizeOf, typeInfo, hi, Builtin.lenOf, hroom, hf, Go.WideShapes.add_plain, hst]
    · simp only [List.size_toArray, List.length_append, List.length_take, List.length_drop, Array.length_toList]
      omega
    · have hA : (cur.toList.take (o * i.size + n * i.size)).length = o * i.size + n * i.size := by rw [List.length_take, Array.length_toList]; omega
      rw [List.append_assoc, List.drop_append_of_le_length (by rw [hA]; omega), List.drop_take, show o * i.size + n * i.size - o * i.size = n * i.size by omega, htk, ← List.append_assoc, ← hlen]
      exact List.take_left
  · have hr := run_append_grow (P := P) w t ty e i z ht hi hz ⟨g, o * i.size, none⟩ n cap xs hxl hcell a m c news hl hnews (by omega) (by omega) (growslice_fits (by omega) hbytes)
    have hge := grownCap_ge w (n + m) cap e
    have hcm2 : grownCap w (n + m) cap e ≤ maxLen := grownCap_le_maxLen w (n + m) cap e h63
    refine ⟨_, _, g, hr, ⟨hlen, w.heap.size, 0, _, _, by rw [Nat.zero_mul], hbase, blk_new w.drew _, hge, hcm2, ?_, ?_⟩, ⟨rfl, rfl, rfl, by simp, fun k hk _ => Below.heap_alloc w.drew _ _ hk⟩, hb, _, _, rfl, rfl⟩
    · simp only [Array.size_append, List.size_toArray, size_zeroCells, hzs, hxl, hl, ← Nat.add_mul]
      refine Nat.mul_le_mul_right _ ?_
      omega
    · rw [Nat.zero_mul, List.drop_zero]
      simp only [Array.toList_append, List.append_assoc]
      rw [← List.append_assoc, ← hlen]
      exact List.take_left
/-- q[1:]. -/
theorem tail_next {t : TypeId} {i : TypeInfo} (ht : P.underlying t = some (.slice e)) (hi : P.info? e = some i) (hsize : i.size = size) (h : w.ownsTail base e size v (n + 1) xs) :
    ∃ v', (∀ W, (Instr.slice t v (some (.int .i64 1)) none none).run P W = .ok v' W) ∧ w.ownsTail base e size v' n (xs.drop size) := by
  obtain ⟨hl, g, o, cap, cur, rfl, hb, hg, hnc, hcm, hcs, htk⟩ := h
  subst hsize
  have hdl : (xs.drop i.size).length = n * i.size := by rw [List.length_drop, hl, Nat.add_mul]; omega
  have hnc2 : (n : Int) + 1 ≤ (cap : Int) := by omega
  by_cases hc : cap = 1
  · subst hc
    obtain rfl : n = 0 := by omega
    refine ⟨.slice (some ⟨g, o * i.size, none⟩) 0 0, fun W => ?_, hdl, g, o, 0, cur, rfl, hb, hg, Nat.le_refl _, Nat.zero_le _, Nat.le_trans (Nat.mul_le_mul_right _ (by omega)) hcs, ?_⟩
    · simp [Instr.slice, run_underlying ht, sizeOf, typeInfo, hi, Instr.sliceBounds, Instr.sliceBound, asIntOf, Result.andThen]
    · have : xs.drop i.size = [] := List.eq_nil_of_length_eq_zero (by rw [hdl]; simp)
      rw [this]; simp
  · refine ⟨.slice (some ⟨g, (o + 1) * i.size, none⟩) n (cap - 1), fun W => ?_, hdl, g, o + 1, cap - 1, cur, rfl, hb, hg, by omega, by omega, ?_, ?_⟩
    · have h9 : (1 : Int) ≤ (n : Int) + 1 := by omega
      simp [Instr.slice, run_underlying ht, sizeOf, typeInfo, hi, Instr.sliceBounds, Instr.sliceBound, asIntOf, Result.andThen, h9, hc, Go.WideShapes.add_plain, Nat.add_mul]
    · rw [show o + 1 + (cap - 1) = o + cap by omega]; exact hcs
    · rw [← htk, List.drop_take, List.drop_drop, Nat.add_mul, Nat.add_mul]
      congr 1
      · omega
      · congr 1
        omega
end
end Go
