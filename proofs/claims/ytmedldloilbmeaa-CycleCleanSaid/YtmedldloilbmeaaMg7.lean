/- Texts laid together: Y11 Y12. -/
import Derived.Test.YtmedldloilbmeaaMg6
/- CycleClean: Clone and DeleteFunc over what is known of actors. -/
namespace Go.Proofs
open Go.Shelf
def Try.laysSlE041_f31_ren : Go.Shelf.Ren := ⟨fun | 41 => 31 | n => n, fun | 22 => 34 | 23 => 38 | 4 => 4 | n => n, fun | n => n⟩
theorem Try.laysSlE041_f31 : Go.Proofs.SlLaysE0.n41 Try.prog Try.laysSlE041_f31_ren := {
  mixed := by kernel_rfl
  f41 := ⟨Try.f31.name, by decide, Try.func31.trans (congrArg some (by kernel_rfl))⟩
  t4 := Try.underlying4
  a4 := Try.isAgg4
  z4 := Try.sizeOf4
  v4 := Try.zeroValue4
  t22 := Try.underlying34
  a22 := Try.isAgg34
  z22 := Try.sizeOf34
  v22 := Try.zeroValue34 }
end Go.Proofs
namespace Go
open Go.RowKit
theorem knsC_put (l : List Kn) : ∀ (i : Nat) (x : Kn), i < l.length → ((((knsC l).set (i * 4) (.int .i64 x.ref)).set (i * 4 + 1) (.bool x.awake)).set (i * 4 + 2) (.bool x.root)).set (i * 4 + 3) (.slice x.ra x.refs.length x.rc) = knsC (l.set i x) := by
  induction l with
  | nil => intro i x h; simp at h
  | cons y l ih =>
    intro i x h
    have hy : y.cells.length = 4 := rfl
    cases i with
    | zero => rfl
    | succ i =>
      simp at h
      have e : ∀ k, (i + 1) * 4 + k = 4 + (i * 4 + k) := fun k => by rw [Nat.succ_mul]; omega
      have e0 : (i + 1) * 4 = 4 + i * 4 := by rw [Nat.succ_mul]; omega
      rw [List.set_cons_succ, e 1, e 2, e 3, e0]
      show ((((y.cells ++ knsC l).set (4 + i * 4) _).set (4 + (i * 4 + 1)) _).set (4 + (i * 4 + 2)) _).set (4 + (i * 4 + 3)) _ = y.cells ++ knsC (l.set i x)
      have hs : ∀ (L : List Value) (k : Nat) (v : Value), (y.cells ++ L).set (4 + k) v = y.cells ++ L.set k v := fun L k v => by
        rw [List.set_append_right _ _ (by rw [hy]; omega), hy, show 4 + k - 4 = k by omega]
      rw [hs, hs, hs, hs, ih i x h]
def put4 (w : World) (g i : Nat) (x : Kn) : World := (((w.setCell ⟨g, i * 4, none⟩ (.int .i64 x.ref)).setCell ⟨g, i * 4 + 1, none⟩ (.bool x.awake)).setCell ⟨g, i * 4 + 2, none⟩ (.bool x.root)).setCell ⟨g, i * 4 + 3, none⟩ (.slice x.ra x.refs.length x.rc)
theorem put4_keep (w : World) (g i : Nat) (x : Kn) : Keep [g] w (put4 w g i x) := ((((Keep.refl [g] w).setCell (.inl (by simp)) _).setCell (.inl (by simp)) _).setCell (.inl (by simp)) _).setCell (.inl (by simp)) _
/-- A row of actors in a block of its own. -/
def RowK (w : World) (g n c : Nat) (l : List Kn) : Prop := ∃ cur : Array Value, w.heap[g]? = some (.cells cur 38 (0, 0)) ∧ n ≤ c ∧ c ≤ maxLen ∧ cur.size = c * 4 ∧ l.length = n ∧ cur.toList.take (n * 4) = knsC l
theorem RowK.put {w : World} {g n c i : Nat} {l : List Kn} (h : RowK w g n c l) (hi : i < n) (x : Kn) : RowK (put4 w g i x) g n c (l.set i x) := by
  obtain ⟨cur, h1, h2, h3, h4, h5, h6⟩ := h
  refine ⟨(((cur.setIfInBounds (i * 4) (.int .i64 x.ref)).setIfInBounds (i * 4 + 1) (.bool x.awake)).setIfInBounds (i * 4 + 2) (.bool x.root)).setIfInBounds (i * 4 + 3) (.slice x.ra x.refs.length x.rc), ?_, h2, h3, by simpa using h4, by rw [List.length_set]; exact h5, ?_⟩
  · unfold put4
    rw [blk_setCell, if_pos rfl, blk_setCell, if_pos rfl, blk_setCell, if_pos rfl, blk_setCell, if_pos rfl, h1]; rfl
  · rw [← knsC_put l i x (by omega), ← h6]
    simp only [Array.toList_setIfInBounds, List.take_set]
theorem RowK.keep {w w' : World} {S : List Nat} {g n c : Nat} {l : List Kn} (h : RowK w g n c l) (hk : Keep S w w') (hg : g ∉ S) : RowK w' g n c l := by
  obtain ⟨cur, h1, h2⟩ := h
  exact ⟨cur, hk.at h1 hg, h2⟩
theorem RowK.at_ {w : World} {g n c i : Nat} {l : List Kn} {x : Kn} (h : RowK w g n c l) (hx : l[i]? = some x) : w.cell? ⟨g, i * 4, none⟩ = some (.int .i64 x.ref) ∧ w.cell? ⟨g, i * 4 + 1, none⟩ = some (.bool x.awake) ∧ w.cell? ⟨g, i * 4 + 2, none⟩ = some (.bool x.root) ∧ w.cell? ⟨g, i * 4 + 3, none⟩ = some (.slice x.ra x.refs.length x.rc) := by
  obtain ⟨cur, h1, h2, h3, h4, h5, h6⟩ := h
  have hi := (List.getElem?_eq_some_iff.1 hx).1
  have e : ∀ j v, j < 4 → x.cells[j]? = some v → w.cell? ⟨g, i * 4 + j, none⟩ = some v := fun j v hj hv => by
    have h7 := (knsC_at l i j x hx hj).trans hv
    rw [← h6, List.getElem?_take, if_pos (by omega)] at h7
    rw [cell_of_row w g _ cur 38 (0, 0) h1]
    simpa using h7
  exact ⟨e 0 _ (by decide) rfl, e 1 _ (by decide) rfl, e 2 _ (by decide) rfl, e 3 _ (by decide) rfl⟩
theorem RowK.vals {w : World} {g n c : Nat} {l : List Kn} (h : RowK w g n c l) (hr : ∀ x ∈ l, KnOk w x) : KnsV w (some ⟨g, 0, none⟩) n c l := by
  obtain ⟨cur, h1, h2, h3, h4, h5, h6⟩ := h
  refine ⟨h5, h2, h3, fun hn => ⟨g, 0, rfl, ⟨cur, h1⟩, fun j v hj => ?_⟩, hr⟩
  rw [Nat.zero_add, cell_of_row w g j cur 38 (0, 0) h1]
  have hjl : j < n * 4 := by have := (List.getElem?_eq_some_iff.1 hj).1; rw [knsC_len, h5] at this; exact this
  rw [← h6, List.getElem?_take, if_pos hjl] at hj
  simpa using hj
theorem RowK.ofOwn {w : World} {B g n c : Nat} {l : List Kn} (h : w.ownsRow B 38 4 (.slice (some ⟨g, 0, none⟩) n c) n (knsC l)) : RowK w g n c l := by
  have hl := h.1
  rw [knsC_len] at hl
  rcases h.2 with ⟨h1, _⟩ | ⟨g', cap, cur, he, hb, hg, hnc, hcm, hcs, ht⟩
  · cases h1
  · injection he with h1 _ h3
    injection h1 with h1
    injection h1 with h1 _ _
    subst h1 h3
    exact ⟨cur, hg, hnc, hcm, hcs, by omega, ht⟩
theorem RowK.frozen {w : World} {g n c : Nat} {l : List Kn} (h : RowK w g n c l) : ∀ i, w.frozen? ⟨g, i, none⟩ = false := by
  obtain ⟨cur, h1, _⟩ := h
  exact thaw h1
end Go
namespace Go.Proofs.Ytmedldloilbmeaa
open Go.RowKit
theorem knsV_cells {w : World} {a : Option Addr} {n c : Nat} {l : List Kn} (h : KnsV w a n c l) (hn : 0 < n) : ∃ b off, a = some ⟨b, off, none⟩ ∧ ∀ j u, (knsC l)[j]? = some u → w.cell? ⟨b, off + j, none⟩ = some u := by
  obtain ⟨b, off, hab, _, hc⟩ := h.cells hn
  exact ⟨b, off, hab, hc⟩
theorem clone31_any {w : World} {a : Option Addr} {n c : Nat} {l : List Kn} (hv : KnsV w a n c l) (hn : n ≤ 1000) (h0 : 0 < n) :
    Calls Try.prog 31 #[.slice a n c] w fun e w' => ∃ g c', e = .returned (.slice (some ⟨g, 0, none⟩) n c') ∧ Keep [] w w' ∧ w.heap.size ≤ g ∧ RowK w' g n c' l := by
  obtain ⟨b, off, rfl, hc⟩ := knsV_cells hv h0
  obtain ⟨i38, hi38, hz0, hz1, hz2⟩ := infoY info38
  have hlen : (knsC l).length = n * 4 := by rw [knsC_len, hv.len]
  refine (Go.Proofs.AnyE.slices_Clone Go.Proofs.Try.laysSlE041_f31 i38 _ 4 40 hi38 hz0 hz1 hz2 rfl (by decide) (fun w => by kernel_rfl) b off n c (knsC l) w hlen (by unfold maxLen; omega) (by omega) hc knsC_one).mono ?_
  rintro e w' ⟨v', rfl, ho', _, hb'⟩
  have hk : Keep [] w w' := ⟨hb'.os, hb'.tape, hb'.output, hb'.size, fun i hi _ => hb'.block i hi⟩
  rcases ho'.2 with ⟨_, h1⟩ | ⟨g, cap, cur, rfl, hb, hg, hnc, hcm, hcs, ht⟩
  · omega
  · exact ⟨g, cap, rfl, hk, hb, cur, hg, hnc, hcm, hcs, hv.len, ht⟩
theorem clone31_nil {w : World} {a : Option Addr} {c : Nat} (ha : ∀ x, a = some x → x = ⟨x.block, 0, none⟩) :
    Calls Try.prog 31 #[.slice a 0 c] w fun e w' => ∃ a' c', e = .returned (.slice a' 0 c') ∧ Keep [] w w' ∧ c' ≤ maxLen := by
  obtain ⟨i38, hi38, hz0, hz1, hz2⟩ := infoY info38
  cases a with
  | none =>
    refine (Go.Proofs.AnyE.slices_Clone_nil Go.Proofs.Try.laysSlE041_f31 0 c w).mono ?_
    rintro e w' ⟨rfl, rfl⟩
    exact ⟨none, 0, rfl, Keep.refl _ _, Nat.zero_le _⟩
  | some ad =>
    have had := ha ad rfl
    rw [had]
    refine (Go.Proofs.AnyE.slices_Clone Go.Proofs.Try.laysSlE041_f31 i38 _ 4 40 hi38 hz0 hz1 hz2 rfl (by decide) (fun w => by kernel_rfl) ad.block 0 0 c [] w rfl (Nat.zero_le _) (by decide) (fun j u hu => by simp at hu) (fun u hu => by cases hu)).mono ?_
    rintro e w' ⟨v', rfl, ho', _, hb'⟩
    obtain ⟨a', c', rfl, _, hm, _⟩ := ownSlice ho'
    exact ⟨a', c', rfl, ⟨hb'.os, hb'.tape, hb'.output, hb'.size, fun i hi _ => hb'.block i hi⟩, hm⟩
set_option maxRecDepth 100000 in
theorem clean32 {w : World} {g n c : Nat} {a : Option Addr} {xs : List Int} {x : Kn} {m : Nat} (hb : w.heap[g]? = some (.cells #[.slice a n c] 22 (0, 0))) (hv : IntsV w a n c xs) :
    Calls Try.prog 32 #[.agg #[.int .i64 x.ref, .bool x.awake, .bool x.root, .slice x.ra m x.rc], .pointer (some ⟨g, 0, none⟩)] w fun e w' => e = .returned (.bool (decide (x.ref ∈ xs))) ∧ Keep [] w w' := by
  have HVA : Hid (∀ o, IntsV (w.alloc o) a n c xs) := Lib.hid (fun o => hv.keep ((Keep.refl [] w).alloc o) (by simp))
  have hne : g < w.heap.size := lt_of_blk hb
  obtain ⟨c0, -⟩ := row1 hb
  clear hv hb
  go_enter Try.func32, Try.ntmps32
  go_wp2_with (first | (with_reducible refine Txt.wp_region_text mixed quiet (by decide +kernel) ?_) | (with_reducible refine Txt.text_done (by kernel_rfl) ?_) | (go_at_call 14; (with_reducible refine (contains14_any (HVA.out _)).mono ?_); rintro e w5 ⟨rfl, rfl⟩))
  go_ret
  exact ⟨rfl, (Keep.refl _ _).alloc _⟩
set_option maxRecDepth 100000 in
set_option maxHeartbeats 1000000 in
/-- The place of the first one that is on the list xs. -/
theorem index34_clean {w : World} {g n c n2 c2 : Nat} {a a2 : Option Addr} {xs : List Int} {l : List Kn} (hb : w.heap[g]? = some (.cells #[.slice a n c] 22 (0, 0))) (hv : IntsV w a n c xs) (hh : KnsV w a2 n2 c2 l) (hn : n2 ≤ 1000) :
    Calls Try.prog 34 #[.slice a2 n2 c2, .func (.func 32) #[] #[.pointer (some ⟨g, 0, none⟩)]] w fun e w' => Keep [] w w' ∧ ((e = .returned (.int .i64 (-1)) ∧ ∀ x ∈ l, x.ref ∉ xs) ∨ ∃ i x, e = .returned (.int .i64 (i : Nat)) ∧ l[i]? = some x ∧ x.ref ∈ xs ∧ ∀ x ∈ l.take i, x.ref ∉ xs) := by
  have HV := Lib.hid hv
  have HH := Lib.hid hh
  have HB := Lib.hid hb
  have hcc := hh.room
  have hcm := hh.most
  unfold maxLen at hcm
  clear hv hh hb
  go_enter Try.func34, Try.ntmps34
  go_wp2_with (first | (with_reducible refine Txt.wp_region_text mixed quiet (by decide +kernel) ?_) | (with_reducible refine Txt.text_done (by kernel_rfl) ?_))
  go_loopw [8] (fun j wr => ∃ i : Nat, i ≤ n2 ∧ j = .int .i64 i ∧ Hid (Keep [] w wr) ∧ Hid (∀ x ∈ l.take i, x.ref ∉ xs)) (fun j _ => n2 - (intOf j).toNat)
  case atStart => exact ⟨0, by omega, rfl, Lib.hid (Keep.refl _ _), Lib.hid (fun x hx => by simp at hx)⟩
  case round =>
    obtain ⟨i, hi, rfl, HK, HNO⟩ := hrel
    by_cases hlt : i < n2
    · obtain ⟨x, hxi⟩ : ∃ x, l[i]? = some x := ⟨_, List.getElem?_eq_getElem (by have := HH.out.len; omega)⟩
      obtain ⟨b1, off, hab, c0, c1, c2', c3⟩ := (HH.out.keep0 HK.out).at_ hxi
      have HXI := Lib.hid hxi
      subst hab
      clear hxi
      by_cases hx : x.ref ∈ xs
      · have HX : Hid (decide (x.ref ∈ xs) = true) := Lib.hid (decide_eq_true hx)
        go_wp2_with (first | (with_reducible refine Txt.wp_region_text mixed quiet (by decide +kernel) ?_) | (with_reducible refine Txt.text_done (by kernel_rfl) ?_) | (go_at_call 32; (with_reducible refine (clean32 (HK.out.at HB.out (by simp)) (HV.out.keep HK.out (by simp))).mono ?_); rintro e w5 ⟨rfl, hk5⟩; rw [HX.out]))
        go_ret
        exact ⟨HK.out.trans hk5, .inr ⟨i, x, rfl, HXI.out, hx, HNO.out⟩⟩
      · have HX : Hid (decide (x.ref ∈ xs) = false) := Lib.hid (decide_eq_false hx)
        go_wp2_with (first | (with_reducible refine Txt.wp_region_text mixed quiet (by decide +kernel) ?_) | (with_reducible refine Txt.text_done (by kernel_rfl) ?_) | (go_at_call 32; (with_reducible refine (clean32 (HK.out.at HB.out (by simp)) (HV.out.keep HK.out (by simp))).mono ?_); rintro e w5 ⟨rfl, hk5⟩; rw [HX.out]; have HK5 := Lib.hid (HK.out.trans hk5)))
        refine ⟨⟨i + 1, hlt, by go_num, HK5, Lib.hid (fun y hy => ?_)⟩, by simp [intOf]; omega⟩
        rw [take_snoc l i x HXI.out] at hy
        rcases List.mem_append.1 hy with hy | hy
        · exact HNO.out y hy
        · rw [List.mem_singleton.1 hy]; exact hx
    · obtain rfl : i = n2 := by omega
      go_wp2_with (first | (with_reducible refine Txt.wp_region_text mixed quiet (by decide +kernel) ?_) | (with_reducible refine Txt.text_done (by kernel_rfl) ?_))
      go_ret
      exact ⟨HK.out, .inl ⟨rfl, fun x hx => HNO.out x (by rw [List.take_of_length_le (by rw [HH.out.len]; exact Nat.le_refl _)]; exact hx)⟩⟩
theorem index34_none {w : World} {g n c n2 c2 : Nat} {a a2 : Option Addr} {xs : List Int} {l : List Kn} (hb : w.heap[g]? = some (.cells #[.slice a n c] 22 (0, 0))) (hv : IntsV w a n c xs) (hh : KnsV w a2 n2 c2 l) (hn : n2 ≤ 1000) (h0 : ∀ x ∈ l, x.ref ∉ xs) :
    Calls Try.prog 34 #[.slice a2 n2 c2, .func (.func 32) #[] #[.pointer (some ⟨g, 0, none⟩)]] w fun e w' => e = .returned (.int .i64 (-1)) ∧ Keep [] w w' := by
  refine (index34_clean hb hv hh hn).mono ?_
  rintro e w' ⟨hk, ⟨rfl, _⟩ | ⟨i, x, rfl, h1, h2, _⟩⟩
  · exact ⟨rfl, hk⟩
  · exact absurd h2 (h0 x (List.mem_of_getElem? h1))
theorem index34_some {w : World} {g n c n2 c2 i : Nat} {a a2 : Option Addr} {xs : List Int} {l : List Kn} {x : Kn} (hb : w.heap[g]? = some (.cells #[.slice a n c] 22 (0, 0))) (hv : IntsV w a n c xs) (hh : KnsV w a2 n2 c2 l) (hn : n2 ≤ 1000) (h0 : l[i]? = some x) (h1 : x.ref ∈ xs) (h2 : ∀ y ∈ l.take i, y.ref ∉ xs) :
    Calls Try.prog 34 #[.slice a2 n2 c2, .func (.func 32) #[] #[.pointer (some ⟨g, 0, none⟩)]] w fun e w' => e = .returned (.int .i64 (i : Nat)) ∧ Keep [] w w' := by
  refine (index34_clean hb hv hh hn).mono ?_
  have hm : ∀ {a b : Nat} {y : Kn}, l[a]? = some y → a < b → y ∈ l.take b := fun hy hab => List.mem_of_getElem? (by rw [List.getElem?_take, if_pos hab]; exact hy)
  rintro e w' ⟨hk, ⟨rfl, h3⟩ | ⟨j, y, rfl, h3, h4, h5⟩⟩
  · exact absurd h1 (h3 x (List.mem_of_getElem? h0))
  · rcases Nat.lt_trichotomy i j with hlt | rfl | hlt
    · exact absurd h1 (h5 x (hm h0 hlt))
    · exact ⟨rfl, hk⟩
    · exact absurd h4 (h2 y (hm h3 hlt))
theorem first_in (xs : List Int) : ∀ l : List Kn, (∀ x ∈ l, x.ref ∉ xs) ∨ ∃ i x, l[i]? = some x ∧ x.ref ∈ xs ∧ ∀ y ∈ l.take i, y.ref ∉ xs
  | [] => .inl (fun x hx => by cases hx)
  | x :: l => by
    by_cases hx : x.ref ∈ xs
    · exact .inr ⟨0, x, rfl, hx, fun y hy => by simp at hy⟩
    · rcases first_in xs l with h | ⟨i, y, h1, h2, h3⟩
      · left
        intro y hy
        rcases List.mem_cons.1 hy with rfl | hy
        · exact hx
        · exact h y hy
      · refine .inr ⟨i + 1, y, h1, h2, fun z hz => ?_⟩
        rw [List.take_succ_cons] at hz
        rcases List.mem_cons.1 hz with rfl | hz
        · exact hx
        · exact h3 z hz
theorem zero38 (w : World) : (zeroValue 38).run Try.prog w = .ok (.agg #[.int .i64 0, .bool false, .bool false, .slice none 0 0]) w := by kernel_rfl
theorem rows_keep {w w' : World} {g : Nat} {cs : Array Value} {l : List Kn} (h : ∀ x ∈ l, KnOk w x) (hg : w.heap[g]? = some (.cells cs 38 (0, 0))) (hk : Keep [g] w w') : ∀ x ∈ l, KnOk w' x := fun x hx => (h x hx).keep hk (fun y hy cs' f hc => by rw [List.mem_singleton.1 hy] at hc; exact neTypeY hg hc (by decide) rfl)
set_option maxRecDepth 100000 in
set_option maxHeartbeats 4000000 in
/-- DeleteFunc, with those that are on the list xs. -/
theorem delete30_clean {w : World} {g0 n0 c0 g n c : Nat} {a0 : Option Addr} {xs : List Int} {l : List Kn} (hb : w.heap[g0]? = some (.cells #[.slice a0 n0 c0] 22 (0, 0))) (hv : IntsV w a0 n0 c0 xs) (hav : ∀ ad, a0 = some ad → ad.block ≠ g) (hr : RowK w g n c l) (hk : ∀ x ∈ l, KnOk w x) (hn : n ≤ 1000) :
    Calls Try.prog 30 #[.slice (some ⟨g, 0, none⟩) n c, .func (.func 32) #[] #[.pointer (some ⟨g0, 0, none⟩)]] w fun e w' => ∃ m, e = .returned (.slice (some ⟨g, 0, none⟩) m c) ∧ RowK w' g m c (l.filter (fun x => !decide (x.ref ∈ xs))) ∧ Keep [g] w w' := by
  have HB := Lib.hid hb
  have HV := Lib.hid hv
  have HA := Lib.hid hav
  have HR := Lib.hid hr
  have HKR := Lib.hid hk
  have HKV := Lib.hid (hr.vals hk)
  obtain ⟨cur0, hcur0, hnc, hcm, -, hln, -⟩ := hr
  have HC0 := Lib.hid hcur0
  have HLN := Lib.hid hln
  unfold maxLen at hcm
  clear hb hv hav hk hcur0 hln
  rcases first_in xs l with hno | ⟨i0, x0, hxi, hx0, hno⟩
  · have HNO := Lib.hid hno
    clear hno
    go_enter Try.func30, Try.ntmps30
    go_wp2_with (first | (with_reducible refine Txt.wp_region_text mixed quiet (by decide +kernel) ?_) | (with_reducible refine Txt.text_done (by kernel_rfl) ?_) | (go_at_call 34; (with_reducible refine (index34_none HB.out HV.out HKV.out hn HNO.out).mono ?_); rintro e1 w1 ⟨rfl, hk1⟩))
    go_ret
    have hf : l.filter (fun x => !decide (x.ref ∈ xs)) = l := List.filter_eq_self.2 (fun x hx => by simp [HNO.out x hx])
    exact ⟨n, rfl, by rw [hf]; exact HR.out.keep hk1 (by simp), hk1.more (by simp)⟩
  · have HXI := Lib.hid hxi
    have HX0 := Lib.hid hx0
    have HNO := Lib.hid hno
    have hi0 : i0 < n := by have := (List.getElem?_eq_some_iff.1 hxi).1; have := HLN.out; omega
    have hw1 : wrap64 ((i0 : Int) + 1) = (i0 : Int) + 1 := by unfold wrap64; omega
    have hbf : ((i0 : Int) == -1) = false := beq_eq_false_iff_ne.2 (by omega)
    clear hxi hx0 hno
    go_enter Try.func30, Try.ntmps30
    go_wp2_with (first | (with_reducible refine Txt.wp_region_text mixed quiet (by decide +kernel) ?_) | (with_reducible refine Txt.text_done (by kernel_rfl) ?_) | (go_at_call 34; (with_reducible refine (index34_some HB.out HV.out HKV.out hn HXI.out HX0.out HNO.out).mono ?_); rintro e1 w1 ⟨rfl, hk1⟩; have HK1 := Lib.hid hk1; clear hk1))
    go_loopw [5, 6] (fun i j wr => ∃ (i' j' : Nat) (R : List Kn), i = .int .i64 i' ∧ j = .int .i64 j' ∧ i' < j' ∧ j' ≤ n ∧ Hid (RowK wr g n c R) ∧ Hid (R.take i' = (l.take j').filter (fun x => !decide (x.ref ∈ xs))) ∧ Hid (∀ k, j' ≤ k → R[k]? = l[k]?) ∧ Hid (Keep [g] w wr)) (fun _ j _ => n - (intOf j).toNat)
    case atStart =>
      refine ⟨i0, i0 + 1, l, rfl, by go_num, by omega, by omega, Lib.hid (HR.out.keep HK1.out (by simp)), Lib.hid ?_, Lib.hid (fun k _ => rfl), Lib.hid (HK1.out.more (by simp))⟩
      rw [take_snoc l i0 x0 HXI.out, List.filter_append, List.filter_eq_self.2 (fun x hx => by simp [HNO.out x hx])]
      simp [HX0.out]
    case round =>
      obtain ⟨i, j, R, rfl, rfl, hij, hjn, HR2, HT2, HD2, HK2⟩ := hrel
      by_cases hlt : j < n
      · obtain ⟨x, hxj⟩ : ∃ x, l[j]? = some x := ⟨_, List.getElem?_eq_getElem (by have := HLN.out; omega)⟩
        have hRj := (HD2.out j (Nat.le_refl _)).trans hxj
        obtain ⟨d0, d1, d2, d3⟩ := HR2.out.at_ hRj
        have hkg : ∀ {T : TypeId} {b : Nat} {cs : Array Value}, w.heap[b]? = some (.cells cs T (0, 0)) → T ≠ 38 → wr.heap[b]? = some (.cells cs T (0, 0)) := fun hb hT => HK2.out.at hb (fun hm => neTypeY hb HC0.out hT (List.mem_singleton.1 hm))
        have HBA : Hid (∀ o, (wr.alloc o).heap[g0]? = some (.cells #[.slice a0 n0 c0] 22 (0, 0))) := Lib.hid (fun o => ((Keep.refl [] wr).alloc o).at (hkg HB.out (by decide)) (by simp))
        have HVA : Hid (∀ o, IntsV (wr.alloc o) a0 n0 c0 xs) := Lib.hid (fun o => (HV.out.keep HK2.out (fun ad ha hm => HA.out ad ha (List.mem_singleton.1 hm))).keep ((Keep.refl [] wr).alloc o) (by simp))
        have HXJ := Lib.hid hxj
        have hw2 : wrap64 ((j : Int) + 1) = (j : Int) + 1 := by unfold wrap64; omega
        have hw3 : wrap64 ((i : Int) + 1) = (i : Int) + 1 := by unfold wrap64; omega
        clear hxj hRj hkg
        by_cases hx : x.ref ∈ xs
        · have HX : Hid (decide (x.ref ∈ xs) = true) := Lib.hid (decide_eq_true hx)
          go_wp2_with (first | (with_reducible refine Txt.wp_region_text mixed quiet (by decide +kernel) ?_) | (with_reducible refine Txt.text_done (by kernel_rfl) ?_) | (go_at_call 32; (with_reducible refine (clean32 (HBA.out _) (HVA.out _)).mono ?_); rintro e5 w5 ⟨rfl, hk5⟩; rw [HX.out]; have HK5 := Lib.hid hk5; clear hk5))
          have hk6 : Keep [] wr w5 := ((Keep.refl [] wr).alloc _).trans HK5.out
          refine ⟨⟨i, j + 1, R, rfl, by go_num, by omega, hlt, Lib.hid (HR2.out.keep hk6 (by simp)), Lib.hid ?_, Lib.hid (fun k hk => HD2.out k (by omega)), Lib.hid (HK2.out.trans (hk6.more (by simp)))⟩, by simp [intOf]; omega⟩
          rw [take_snoc l j x HXJ.out, List.filter_append, HT2.out]
          simp [hx]
        · have HX : Hid (decide (x.ref ∈ xs) = false) := Lib.hid (decide_eq_false hx)
          have HRA : Hid (∀ o, RowK (wr.alloc o) g n c R) := Lib.hid (fun o => HR2.out.keep ((Keep.refl [] wr).alloc o) (by simp))
          obtain ⟨y, hy⟩ : ∃ y, R[i]? = some y := ⟨_, List.getElem?_eq_getElem (by obtain ⟨_, _, _, _, _, h9, _⟩ := HR2.out; omega)⟩
          have HYY := Lib.hid hy
          clear hy
          go_wp2_with (first | (with_reducible refine Txt.wp_region_text mixed quiet (by decide +kernel) ?_) | (with_reducible refine Txt.text_done (by kernel_rfl) ?_) | (go_at_call 32; (with_reducible refine (clean32 (HBA.out _) (HVA.out _)).mono ?_); rintro e5 w5 ⟨rfl, hk5⟩; rw [HX.out]; have HK5 := Lib.hid hk5; obtain ⟨f0, f1, f2, f3, hzf⟩ := row4 (hk5.at (blk_new wr _) (by simp)); have hR5 := (HRA.out _).keep hk5 (by simp); have hz5 := hR5.frozen; have HR5 := Lib.hid hR5; obtain ⟨h50, h51, h52, h53⟩ := hR5.at_ HYY.out; clear hk5 hR5))
          have hli : i < R.length := (List.getElem?_eq_some_iff.1 HYY.out).1
          refine ⟨⟨i + 1, j + 1, R.set i x, by go_num, by go_num, by omega, hlt, Lib.hid (RowK.put HR5.out (by omega) x), Lib.hid ?_, Lib.hid (fun k hk => ?_), Lib.hid ((HK2.out.trans ((((Keep.refl [] wr).alloc _).trans HK5.out).more (by simp))).trans (put4_keep w5 g i x))⟩, by simp [intOf]; omega⟩
          · rw [take_snoc (R.set i x) i x (by rw [List.getElem?_set, if_pos rfl, if_pos hli]), take_snoc l j x HXJ.out, List.filter_append, ← HT2.out, List.take_set, List.set_eq_of_length_le (by rw [List.length_take]; omega)]
            simp [hx]
          · rw [List.getElem?_set, if_neg (by omega)]
            exact HD2.out k (by omega)
      · obtain rfl : j = n := by omega
        obtain ⟨cur, hcur, -, -, hcs, hRl, hRt⟩ := HR2.out
        have hz5 := thaw hcur
        obtain ⟨k, hk⟩ : ∃ k, j - i = k + 1 := ⟨j - i - 1, by omega⟩
        have HNK := Lib.hid hk
        have HFT : Hid (i * 4 + (k + 1) * 4 ≤ cur.size) := Lib.hid (by omega)
        have HCU := Lib.hid hcur
        have HZ1 : Hid (∀ u ∈ (Value.agg #[.int .i64 0, .bool false, .bool false, .slice none 0 0]).cells, u.oneCell' = true) := Lib.hid (by intro u hu; simp [Value.cells] at hu; rcases hu with rfl | rfl | rfl <;> rfl)
        clear hk hcur
        go_wp2_with (first | (with_reducible refine Txt.wp_region_text mixed quiet (by decide +kernel) ?_) | (with_reducible refine Txt.text_done (by kernel_rfl) ?_) | (refine wpList_clear_row rfl _ 34 rfl 38 _ Try.underlying34 zero38 HZ1.out g (i * 4) k (c - i) cur HCU.out (by rw [← HNK.out]; rfl) HFT.out ?_; intro L hL))
        go_ret
        have hL4 : L.length = (k + 1) * 4 := hL
        have hnk := HNK.out
        have h1 : (cur.toList.take (i * 4)).length = i * 4 := by rw [List.length_take, Array.length_toList]; omega
        refine ⟨i, rfl, ⟨_, setRow_heap wr g cur _ 38 (0, 0) HCU.out, by omega, by unfold maxLen; omega, ?_, ?_, ?_⟩, HK2.out.trans (keep_setRow wr g _)⟩
        · have h7 : ∀ A B D : List Value, (A ++ (B ++ D)).toArray.size = A.length + (B.length + D.length) := fun A B D => by simp
          refine (h7 _ _ _).trans ?_
          rw [h1, List.length_drop, hL4, Array.length_toList]; omega
        · have h2 := congrArg List.length HT2.out
          rw [List.take_of_length_le (show l.length ≤ j by rw [HLN.out]; exact Nat.le_refl _)] at h2
          rw [← h2, List.length_take]; omega
        · show List.take (i * 4) (cur.toList.take (i * 4) ++ (L ++ _)) = _
          rw [List.take_left' h1]
          have h2 := HT2.out
          rw [List.take_of_length_le (show l.length ≤ j by rw [HLN.out]; exact Nat.le_refl _)] at h2
          rw [← h2]
          have h3 := congrArg (List.take (i * 4)) hRt
          rw [List.take_take, Nat.min_eq_left (by omega)] at h3
          rw [h3]
          have h5 : knsC R = knsC (R.take i) ++ knsC (R.drop i) := by
            have h6 : knsC (R.take i ++ R.drop i) = knsC (R.take i) ++ knsC (R.drop i) := by unfold knsC; rw [List.flatMap_append]
            rwa [List.take_append_drop] at h6
          rw [h5, List.take_left' (by rw [knsC_len, List.length_take]; omega)]
end Go.Proofs.Ytmedldloilbmeaa
/- CycleClean: the walk. -/
namespace Go
theorem filter_refsR {ks : List Kn} (hn : (ks.map Kn.ref).Nodup) (p : Kn → Bool) {k : Kn} (hk : k ∈ ks) : refsR (ks.filter p) k.ref = if p k = true then some k.refs else none := by
  have hn' : ((ks.filter p).map Kn.ref).Nodup := (List.Sublist.map Kn.ref List.filter_sublist).nodup hn
  by_cases hp : p k = true
  · rw [if_pos hp]
    exact refsR_of hn' (List.mem_filter.2 ⟨hk, hp⟩)
  · rw [if_neg hp]
    cases h : refsR (ks.filter p) k.ref with
    | none => rfl
    | some xs =>
      have hs : (refsR (ks.filter p) k.ref).isSome = true := by rw [h]; rfl
      obtain ⟨k', hk', he⟩ := refsR_some.1 hs
      obtain ⟨h1, h2⟩ := List.mem_filter.1 hk'
      have : k' = k := by
        obtain ⟨i, hi, rfl⟩ := List.getElem_of_mem hk
        obtain ⟨j, hj, rfl⟩ := List.getElem_of_mem h1
        have hne := List.pairwise_iff_getElem.1 (List.nodup_iff_pairwise_ne.1 hn)
        rcases Nat.lt_trichotomy i j with hlt | rfl | hlt
        · exact absurd (by rw [List.getElem_map, List.getElem_map]; exact he.symm) (hne i j (by simpa using hi) (by simpa using hj) hlt)
        · rfl
        · exact absurd (by rw [List.getElem_map, List.getElem_map]; exact he) (hne j i (by simpa using hj) (by simpa using hi) hlt)
      subst this
      exact absurd h2 hp
/-- Without the garbage there is none. -/
theorem IsGarb.clean {ks : List Kn} {g h : List Int} (hn : (ks.map Kn.ref).Nodup) (hg : IsGarb ks g) (hh : IsGarb (ks.filter (fun x => !decide (x.ref ∈ g))) h) : h = [] := by
  refine List.eq_nil_iff_forall_not_mem.2 fun r hr => ?_
  obtain ⟨h1, h2⟩ := (hh r).1 hr
  obtain ⟨k, hk, rfl⟩ := refsR_some.1 h1
  obtain ⟨hk1, hk2⟩ := List.mem_filter.1 hk
  have hk3 : k.ref ∉ g := by simpa using hk2
  have hlive : Rch (refsR ks) (fun x => x ∈ firsts ks) k.ref := Classical.byContradiction fun hnot => hk3 ((hg k.ref).2 ⟨by rw [refsR_of hn hk1]; rfl, hnot⟩)
  have hall : ∀ x, Rch (refsR ks) (fun x => x ∈ firsts ks) x → Rch (refsR (ks.filter (fun x => !decide (x.ref ∈ g)))) (fun x => x ∈ firsts (ks.filter (fun x => !decide (x.ref ∈ g)))) x := fun x hx => by
    have hng : ∀ {y}, Rch (refsR ks) (fun x => x ∈ firsts ks) y → y ∉ g := fun hy hyg => ((hg _).1 hyg).2 hy
    induction hx with
    | @seed x hs ho =>
      obtain ⟨y, hy, rfl, hl⟩ := firsts_mem.1 hs
      have hyg := hng (Rch.seed hs ho)
      have hyf : y ∈ ks.filter (fun x => !decide (x.ref ∈ g)) := List.mem_filter.2 ⟨hy, by simp [hyg]⟩
      exact .seed (firsts_mem.2 ⟨y, hyf, rfl, hl⟩) (refsR_some.2 ⟨y, hyf, rfl⟩)
    | @step r x xs hr hR hx ho ih =>
      obtain ⟨y, hy, rfl⟩ := refsR_some.1 ho
      obtain ⟨z, hz, rfl⟩ := refsR_some.1 hr.own
      have hyg := hng (Rch.step hr hR hx ho)
      have hyf : y ∈ ks.filter (fun x => !decide (x.ref ∈ g)) := List.mem_filter.2 ⟨hy, by simp [hyg]⟩
      rw [refsR_of hn hz] at hR
      injection hR with hR
      subst hR
      refine .step ih ?_ hx (refsR_some.2 ⟨y, hyf, rfl⟩)
      rw [filter_refsR hn _ hz, if_pos (by simp [hng hr])]
  exact h2 (hall _ hlive)
theorem filter_parts {α : Type} (p : α → Bool) : ∀ l : List α, (l.filter p).length + (l.filter (fun x => !p x)).length = l.length
  | [] => rfl
  | x :: l => by
    have ih := filter_parts p l
    rw [List.filter_cons, List.filter_cons]
    cases p x
    · simp; omega
    · simp; omega
/-- What is left, and the garbage, are all. -/
theorem IsGarb.count {ks : List Kn} {g : List Int} (hn : (ks.map Kn.ref).Nodup) (hg : IsGarb ks g) (hgn : g.Nodup) : (ks.filter (fun x => !decide (x.ref ∈ g))).length + g.length = ks.length := by
  have h1 : (ks.filter (fun x => decide (x.ref ∈ g))).length = g.length := by
    have h2 : ((ks.filter (fun x => decide (x.ref ∈ g))).map Kn.ref).Perm g := by
      refine (List.perm_ext_iff_of_nodup ((List.Sublist.map Kn.ref List.filter_sublist).nodup hn) hgn).2 fun x => ?_
      rw [List.mem_map]
      constructor
      · rintro ⟨k, hk, rfl⟩
        simpa using (List.mem_filter.1 hk).2
      · intro hx
        obtain ⟨k, hk, rfl⟩ := refsR_some.1 ((hg x).1 hx).1
        exact ⟨k, List.mem_filter.2 ⟨hk, by simpa using hx⟩, rfl⟩
    have := h2.length_eq
    rwa [List.length_map] at this
  have h3 := filter_parts (fun x : Kn => decide (x.ref ∈ g)) ks
  omega
end Go
namespace Go.Proofs.Ytmedldloilbmeaa
open Go.RowKit
set_option maxRecDepth 100000 in
theorem delete30_nil {w : World} {g0 n0 c0 c : Nat} {a0 a : Option Addr} {xs : List Int} (hb : w.heap[g0]? = some (.cells #[.slice a0 n0 c0] 22 (0, 0))) (hv : IntsV w a0 n0 c0 xs) (hc : c ≤ maxLen) :
    Calls Try.prog 30 #[.slice a 0 c, .func (.func 32) #[] #[.pointer (some ⟨g0, 0, none⟩)]] w fun e w' => e = .returned (.slice a 0 c) ∧ Keep [] w w' := by
  have HB := Lib.hid hb
  have HV := Lib.hid hv
  have HE : Hid (KnsV w a 0 c []) := Lib.hid ⟨rfl, Nat.zero_le _, hc, fun h => absurd h (by decide), fun x hx => by cases hx⟩
  have HNO : Hid (∀ x ∈ ([] : List Kn), x.ref ∉ xs) := Lib.hid (fun x hx => by cases hx)
  clear hb hv
  go_enter Try.func30, Try.ntmps30
  go_wp2_with (first | (with_reducible refine Txt.wp_region_text mixed quiet (by decide +kernel) ?_) | (with_reducible refine Txt.text_done (by kernel_rfl) ?_) | (go_at_call 34; (with_reducible refine (index34_none HB.out HV.out HE.out (by decide) HNO.out).mono ?_); rintro e1 w1 ⟨rfl, hk1⟩))
  go_ret
  exact ⟨rfl, hk1⟩
theorem delete30_v {w : World} {g0 n0 c0 g n c m : Nat} {a0 : Option Addr} {xs : List Int} {l ks' : List Kn} (hb : w.heap[g0]? = some (.cells #[.slice a0 n0 c0] 22 (0, 0))) (hv : IntsV w a0 n0 c0 xs) (hav : ∀ ad, a0 = some ad → ad.block ≠ g) (hr : RowK w g n c l) (hk : ∀ x ∈ l, KnOk w x) (hn : n ≤ 1000) (hf : l.filter (fun x => !decide (x.ref ∈ xs)) = ks') (hm : ks'.length = m) :
    Calls Try.prog 30 #[.slice (some ⟨g, 0, none⟩) n c, .func (.func 32) #[] #[.pointer (some ⟨g0, 0, none⟩)]] w fun e w' => e = .returned (.slice (some ⟨g, 0, none⟩) m c) ∧ KnsV w' (some ⟨g, 0, none⟩) m c ks' ∧ Keep [g] w w' := by
  have hr0 := hr
  obtain ⟨cur, hcur, _⟩ := hr0
  refine (delete30_clean hb hv hav hr hk hn).mono ?_
  rintro e w' ⟨m6, rfl, hr6, hk6⟩
  rw [hf] at hr6
  have hm6 : m6 = m := by obtain ⟨_, _, _, _, _, h9, _⟩ := hr6; omega
  subst hm6
  exact ⟨rfl, hr6.vals (fun x hx => rows_keep hk hcur hk6 x (by rw [← hf] at hx; exact (List.mem_filter.1 hx).1)), hk6⟩
set_option maxRecDepth 100000 in
set_option maxHeartbeats 4000000 in
theorem cycleClean_walk (ap : Option Addr) (len cap : Nat) (zs : List Int) (w : World) (hz : IntsV w ap len cap zs) :
    Calls Try.prog 7 #[.slice ap len cap] w fun e w' => e = .returned (.bool true) ∧ Keep [] w w' := by
  have HZ := Lib.hid hz
  clear hz
  have tok1 : True := trivial
  go_enter Try.func7, Try.ntmps7
  go_wp2_with (first | (with_reducible refine Txt.wp_region_text mixed quiet (by decide +kernel) ?_) | (with_reducible refine Txt.text_done (by kernel_rfl) ?_) | (go_at_call 19; (with_reducible refine begun19_any.mono ?_); rintro e w1 ⟨rfl, hk1⟩; have HK1 := Lib.hid hk1; clear hk1) | (go_at_call 20; (with_reducible refine (knows20_any (HZ.out.keep HK1.out (by simp))).mono ?_); rintro e w2 ⟨v, ks, rfl, ho2, hi2, hl2, hk2⟩; obtain ⟨a2, c2, rfl, hv2, hb2⟩ := KnsV.ofOwn ho2 (fun x hx => (hi2 x hx).1); have HV2 := Lib.hid hv2; have HL2 := Lib.hid hl2; have HK2 := Lib.hid (HK1.out.trans hk2); have hc2 := hv2.room; have hm2 := hv2.most; unfold maxLen at hm2; have hf2 := hl2.few; have HBB := Lib.hid (fun x hx => (hb2 x hx).2); clear ho2 hi2 hl2 hk2 hv2 hb2) | (go_at_call 21; have _t := tok1; (with_reducible refine (garbage21_any HV2.out (by omega) (fun k hk => Nat.le_trans (HL2.out.small k hk) (by decide)) HL2.out.nodup).mono ?_); rintro e w3 ⟨out, v3, rfl, h1, h2, h3, h4, h5, h6⟩; obtain ⟨a3, c3, rfl, hv3, -⟩ := IntsV.ofOwn h1 h5; have HV3 := Lib.hid hv3; have HG3 : Hid (IsGarb ks out) := Lib.hid h6; have HK3 := Lib.hid (HK2.out.trans h2); have HK23 := Lib.hid h2; have HO3 := Lib.hid h1; have HN3 := Lib.hid h3; clear h1 h2 h3 h4 h5 h6 hv3 tok1 _t))
  have HBX : Hid ((w3.alloc (.cells #[.slice a3 out.length c3] 22)).heap[w3.heap.size]? = some (.cells #[.slice a3 out.length c3] 22 (0, 0))) := Lib.hid (blk_new w3 _)
  obtain ⟨W4, hW4⟩ : ∃ W4, w3.alloc (.cells #[.slice a3 out.length c3] 22) = W4 := ⟨_, rfl⟩
  have hk34 : Keep [] w3 W4 := by rw [← hW4]; exact (Keep.refl [] w3).alloc _
  obtain ⟨bx, hbx⟩ : ∃ bx, w3.heap.size = bx := ⟨_, rfl⟩
  have HV24 := Lib.hid (HV2.out.keep0 (HK23.out.trans hk34))
  have HV34 := Lib.hid (HV3.out.keep hk34 (by simp))
  have HO34 := Lib.hid (own_keep HO3.out hk34 (by simp))
  have HK34 := Lib.hid (HK3.out.trans hk34)
  rw [hbx, hW4] at HBX
  rw [hbx, hW4]
  clear hW4 hk34 hbx
  have HCT := Lib.hid (HG3.out.count HL2.out.nodup HN3.out)
  have hcount := HCT.out
  by_cases h0 : ks.length = 0
  · have hks : ks = [] := List.eq_nil_of_length_eq_zero h0
    subst hks
    have hout := (show IsGarb [] out from HG3.out).empty
    subst hout
    have HG5 : Hid (∀ out5, IsGarb [] out5 → out5 = []) := Lib.hid (fun o h => h.empty)
    have HSN : Hid (∀ k ∈ ([] : List Kn), k.refs.length ≤ 100) := Lib.hid (fun k hk => by cases hk)
    have HND : Hid (([] : List Kn).map Kn.ref).Nodup := Lib.hid List.nodup_nil
    clear hcount HCT h0
    simp only [List.length_nil] at HBX HV34 ⊢
    go_wp2_with (first | (with_reducible refine Txt.wp_region_text mixed quiet (by decide +kernel) ?_) | (with_reducible refine Txt.text_done (by kernel_rfl) ?_) | (go_at_call 31; (with_reducible refine (clone31_nil HBB.out).mono ?_); rintro e5 w5 ⟨a5, c5, rfl, hk5, hc5⟩; have HK5 := Lib.hid hk5; have HB5 := Lib.hid (hk5.at HBX.out (by simp)); have HV5 := Lib.hid (HV34.out.keep hk5 (by simp)); have HC5 := Lib.hid hc5; clear hk5 hc5) | (go_at_call 30; (with_reducible refine (delete30_nil HB5.out HV5.out HC5.out).mono ?_); rintro e6 w6 ⟨rfl, hk6⟩; have HK6 := Lib.hid hk6; have HE6 : Hid (KnsV w6 a5 0 c5 []) := Lib.hid ⟨rfl, Nat.zero_le _, HC5.out, fun h => absurd h (by decide), fun x hx => (by cases hx)⟩; have hb6 := hk6.at HB5.out (by simp); have HB6 := Lib.hid hb6; clear hk6 hb6) | (go_at_call 21; (with_reducible refine (garbage21_any HE6.out (by decide) HSN.out HND.out).mono ?_); rintro e7 w7 ⟨out7, v7, rfl, h1, h2, h3, h4, h5, h6⟩; have h8 := HG5.out _ h6; subst h8; obtain ⟨a7, c7, rfl, -, -⟩ := IntsV.ofOwn h1 h5; simp only [List.length_nil]; have HK7 := Lib.hid h2; obtain ⟨r0, -⟩ := row1 (h2.at HB6.out (by simp)); clear h1 h2 h3 h4 h5 h6))
    go_ret
    exact ⟨rfl, ((HK34.out.trans HK5.out).trans HK6.out).trans HK7.out⟩
  · obtain ⟨n, hn⟩ : ∃ n, ks.length = n := ⟨_, rfl⟩
    rw [hn] at HV24 hc2 hf2 h0 hcount ⊢
    have hpos : 0 < n := by omega
    obtain ⟨ks', hks'⟩ : ∃ ks', ks.filter (fun x => !decide (x.ref ∈ out)) = ks' := ⟨_, rfl⟩
    have HKS := Lib.hid hks'
    rw [hks'] at hcount
    obtain ⟨m, hm⟩ : ∃ m, ks'.length = m := ⟨_, rfl⟩
    have HM := Lib.hid hm
    rw [hm] at hcount
    have hsum : (m : Int) + (out.length : Int) = (n : Int) := by omega
    have HG5 : Hid (∀ o, IsGarb ks' o → o = []) := Lib.hid (fun o h => by rw [← hks'] at h; exact HG3.out.clean HL2.out.nodup h)
    have HND : Hid (ks'.map Kn.ref).Nodup := Lib.hid (by rw [← hks']; exact (List.Sublist.map Kn.ref List.filter_sublist).nodup HL2.out.nodup)
    have HSN : Hid (∀ k ∈ ks', k.refs.length ≤ 100) := Lib.hid (fun k hk => by rw [← hks'] at hk; exact Nat.le_trans (HL2.out.small k (List.mem_filter.1 hk).1) (by decide))
    have HAV : Hid (∀ g, W4.heap.size ≤ g → ∀ ad, a3 = some ad → ad.block ≠ g) := Lib.hid (fun g hg ad ha => by
      obtain ⟨a', c', he, _, _, hx'⟩ := ownSlice HO34.out
      injection he with h1 _ _
      obtain ⟨h2, _⟩ := hx' ad (h1 ▸ ha)
      have := (ownLt HO34.out _ h2).2.1
      omega)
    have HWS : Hid (w.heap.size ≤ W4.heap.size) := Lib.hid HK34.out.size
    have HNB : Hid (∀ g, W4.heap.size ≤ g → bx ∉ [g]) := Lib.hid (fun g hg hm => by have := lt_of_blk HBX.out; have := List.mem_singleton.1 hm; omega)
    clear hn hks' hm HCT h0
    go_wp2_with (first | (with_reducible refine Txt.wp_region_text mixed quiet (by decide +kernel) ?_) | (with_reducible refine Txt.text_done (by kernel_rfl) ?_) | (go_at_call 31; (with_reducible refine (clone31_any HV24.out (by omega) hpos).mono ?_); rintro e5 w5 ⟨g5, c5, rfl, hk5, hg5, hr5⟩; have HK5 := Lib.hid hk5; have HB5 := Lib.hid (hk5.at HBX.out (by simp)); have HV5 := Lib.hid (HV34.out.keep hk5 (by simp)); have HR5 := Lib.hid hr5; have HG5' := Lib.hid hg5; have HRK5 : Hid (∀ x ∈ ks, KnOk w5 x) := Lib.hid (HV24.out.keep0 hk5).rows; have HA5 := Lib.hid (HAV.out g5 hg5); clear hk5 hr5 hg5) | (go_at_call 30; (with_reducible refine (delete30_v HB5.out HV5.out HA5.out HR5.out HRK5.out (by omega) HKS.out HM.out).mono ?_); rintro e6 w6 ⟨rfl, hv6, hk6⟩; have HK6 := Lib.hid hk6; have HE6 := Lib.hid hv6; have HB6 := Lib.hid (hk6.at HB5.out (HNB.out g5 HG5'.out)); clear hk6 hv6) | (go_at_call 21; (with_reducible refine (garbage21_any HE6.out (by omega) HSN.out HND.out).mono ?_); rintro e7 w7 ⟨out7, v7, rfl, h1, h2, h3, h4, h5, h6⟩; have h8 := HG5.out _ h6; subst h8; obtain ⟨a7, c7, rfl, -, -⟩ := IntsV.ofOwn h1 h5; simp only [List.length_nil]; have HK7 := Lib.hid h2; obtain ⟨r0, -⟩ := row1 (h2.at HB6.out (by simp)); clear h1 h2 h3 h4 h5 h6))
    go_ret
    refine ⟨rfl, ?_⟩
    exact ((HK34.out.trans HK5.out).call HK6.out (fun g hg => .inr (by rw [List.mem_singleton.1 hg]; exact Nat.le_trans HWS.out HG5'.out))).trans HK7.out
end Go.Proofs.Ytmedldloilbmeaa
