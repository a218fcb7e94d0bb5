/- Texts laid together: YS4 SA2 SA3 SA4 SA5. -/
import Derived.Test.YtmedldloilbmeaaMg6
import Derived.Ground.Names2Prog
import Derived.Shelf.Slices.CompactI
/- The contract of slices.Compact at this program. -/
namespace Go.Proofs
open Go.Shelf
def Try.laysNm220_ren : Go.Shelf.Ren := ⟨fun | 20 => 17 | n => n, fun | 22 => 22 | 3 => 3 | 4 => 4 | 0 => 0 | n => n, fun | n => n⟩
theorem Try.laysNm220 : Go.Proofs.Lays2.n20 Try.prog Try.laysNm220_ren := {
  mixed := by kernel_rfl
  f20 := Try.func17.trans (congrArg some (by kernel_rfl))
  t0 := Try.underlying0
  a0 := Try.isAgg0
  z0 := Try.sizeOf0
  v0 := Try.zeroValue0
  t3 := Try.underlying3
  a3 := Try.isAgg3
  z3 := Try.sizeOf3
  v3 := Try.zeroValue3
  t4 := Try.underlying4
  a4 := Try.isAgg4
  z4 := Try.sizeOf4
  v4 := Try.zeroValue4
  t22 := Try.underlying22
  a22 := Try.isAgg22
  z22 := Try.sizeOf22
  v22 := Try.zeroValue22
  i3 := by kernel_rfl }
open Go.RowKit Go.Lib Go.Sort in
theorem Try.slices_Compact_int (blk off cap : Nat) (zs : List Int) (w : World) (hH : Holds (Value.int .i64) w blk off zs.toArray) (hsz : zs.length ≤ 9223372036854775807) (hcap : zs.length ≤ cap) :
    Calls Try.prog 17 #[.slice (some ⟨blk, off, none⟩) zs.length cap] w fun e w' => e = .returned (.slice (some ⟨blk, off, none⟩) (Lib.compact zs).length cap) ∧ ∃ q, w' = putRow (Value.int .i64) (Sort.ahead w q) blk off (Lib.compact zs ++ List.replicate (zs.length - (Lib.compact zs).length) 0).toArray := Any.slices_Compact_int Try.laysNm220 blk off cap zs w hH hsz hcap
open Go.RowKit Go.Lib Go.Sort in
theorem Try.slices_Compact_int_empty (a : Option Addr) (cap : Nat) (w : World) :
    Calls Try.prog 17 #[.slice a 0 cap] w fun e w' => e = .returned (.slice a 0 cap) ∧ w' = w := Any.slices_Compact_int_empty Try.laysNm220 a cap w
end Go.Proofs
/- ShrinkAgain: its closures. -/
namespace Go
/-- All that are needed are there. -/
def hasAll (need xs : List Int) : Bool := decide (∀ y ∈ need, y ∈ xs)
end Go
namespace Go.Proofs.Ytmedldloilbmeaa
open Go.RowKit
theorem again13 {w : World} {g n c : Nat} {a : Option Addr} {xs : List Int} {y : Int} (hb : w.heap[g]? = some (.cells #[.slice a n c] 22 (0, 0))) (hx : IntsV w a n c xs) :
    Calls Try.prog 13 #[.int .i64 y, .pointer (some ⟨g, 0, none⟩)] w fun e w' => e = .returned (.bool (!decide (y ∈ xs))) ∧ Keep [] w w' := by
  obtain ⟨c0, -⟩ := row1 hb
  have HX := Lib.hid hx
  clear hb hx
  go_enter Try.func13, Try.ntmps13
  go_wp2_with (first | (with_reducible refine Txt.wp_region_text mixed quiet (by decide +kernel) ?_) | (with_reducible refine Txt.text_done (by kernel_rfl) ?_) | (go_at_call 14; (with_reducible refine (contains14_any HX.out).mono ?_); rintro e w5 ⟨rfl, rfl⟩))
  go_ret
  exact ⟨rfl, Keep.refl _ _⟩
set_option maxRecDepth 100000 in
set_option maxHeartbeats 1000000 in
theorem index39_13 {w : World} {g n2 c2 : Nat} {a2 : Option Addr} {p : Int → Bool} {l : List Int} (hcl : ∀ x ∈ l, ∀ w', Keep [] w w' → Calls Try.prog 13 #[.int .i64 x, .pointer (some ⟨g, 0, none⟩)] w' fun e w2 => e = .returned (.bool (p x)) ∧ Keep [] w' w2) (hh : IntsV w a2 n2 c2 l) :
    Calls Try.prog 39 #[.slice a2 n2 c2, .func (.func 13) #[] #[.pointer (some ⟨g, 0, none⟩)]] w fun e w' => Keep [] w w' ∧ ((e = .returned (.int .i64 (-1)) ∧ l.any p = false) ∨ ∃ i : Nat, e = .returned (.int .i64 (i : Nat)) ∧ l.any p = true) := by
  have HC := Lib.hid hcl
  have HH := Lib.hid hh
  have hcc := hh.room
  have hcm := hh.most
  unfold maxLen at hcm
  clear hcl hh
  go_enter Try.func39, Try.ntmps39
  go_wp2_with (first | (with_reducible refine Txt.wp_region_text mixed quiet (by decide +kernel) ?_) | (with_reducible refine Txt.text_done (by kernel_rfl) ?_))
  go_loopw [8] (fun j wr => ∃ i : Nat, i ≤ n2 ∧ j = .int .i64 i ∧ Hid (Keep [] w wr) ∧ Hid (∀ x ∈ l.take i, p x = false)) (fun j _ => n2 - (intOf j).toNat)
  case atStart => exact ⟨0, by omega, rfl, Lib.hid (Keep.refl _ _), Lib.hid (fun x hx => by simp at hx)⟩
  case round =>
    obtain ⟨i, hi, rfl, HK, HNO⟩ := hrel
    by_cases hlt : i < n2
    · obtain ⟨x, hxi⟩ : ∃ x, l[i]? = some x := ⟨_, List.getElem?_eq_getElem (by have := HH.out.len; omega)⟩
      obtain ⟨b1, off, hab, hcs⟩ := (HH.out.keep HK.out (by simp)).cells (by omega)
      have c0 := hcs i hlt
      have hgx : l.getD i 0 = x := by rw [List.getD_eq_getElem?_getD, hxi]; rfl
      rw [hgx] at c0
      have HXI := Lib.hid hxi
      have HXM := Lib.hid (List.mem_of_getElem? hxi)
      subst hab
      clear hxi hcs hgx
      by_cases hx : p x = true
      · have HX := Lib.hid hx
        clear hx
        go_wp2_with (first | (with_reducible refine Txt.wp_region_text mixed quiet (by decide +kernel) ?_) | (with_reducible refine Txt.text_done (by kernel_rfl) ?_) | (go_at_call 13; (with_reducible refine (HC.out x HXM.out _ HK.out).mono ?_); rintro e w5 ⟨rfl, hk5⟩; rw [HX.out]))
        go_ret
        exact ⟨HK.out.trans hk5, .inr ⟨i, rfl, List.any_eq_true.2 ⟨x, HXM.out, HX.out⟩⟩⟩
      · have HX : Hid (p x = false) := Lib.hid (by simpa using hx)
        clear hx
        go_wp2_with (first | (with_reducible refine Txt.wp_region_text mixed quiet (by decide +kernel) ?_) | (with_reducible refine Txt.text_done (by kernel_rfl) ?_) | (go_at_call 13; (with_reducible refine (HC.out x HXM.out _ HK.out).mono ?_); rintro e w5 ⟨rfl, hk5⟩; rw [HX.out]; have HK5 := Lib.hid (HK.out.trans hk5)))
        refine ⟨⟨i + 1, hlt, by go_num, HK5, Lib.hid (fun y hy => ?_)⟩, by simp [intOf]; omega⟩
        rw [take_snoc l i x HXI.out] at hy
        rcases List.mem_append.1 hy with hy | hy
        · exact HNO.out y hy
        · rw [List.mem_singleton.1 hy]; exact HX.out
    · obtain rfl : i = n2 := by omega
      go_wp2_with (first | (with_reducible refine Txt.wp_region_text mixed quiet (by decide +kernel) ?_) | (with_reducible refine Txt.text_done (by kernel_rfl) ?_))
      go_ret
      refine ⟨HK.out, .inl ⟨rfl, List.any_eq_false.2 fun x hx => ?_⟩⟩
      rw [HNO.out x (by rw [List.take_of_length_le (by rw [HH.out.len]; exact Nat.le_refl _)]; exact hx)]
      decide
theorem contains12_13 {w : World} {g n2 c2 : Nat} {a2 : Option Addr} {p : Int → Bool} {l : List Int} (hcl : ∀ x ∈ l, ∀ w', Keep [] w w' → Calls Try.prog 13 #[.int .i64 x, .pointer (some ⟨g, 0, none⟩)] w' fun e w2 => e = .returned (.bool (p x)) ∧ Keep [] w' w2) (hh : IntsV w a2 n2 c2 l) :
    Calls Try.prog 12 #[.slice a2 n2 c2, .func (.func 13) #[] #[.pointer (some ⟨g, 0, none⟩)]] w fun e w' => e = .returned (.bool (l.any p)) ∧ Keep [] w w' := by
  have H0 := index39_13 hcl hh
  cases hb : l.any p with
  | true =>
    have HC : Hid (Calls Try.prog 39 #[.slice a2 n2 c2, .func (.func 13) #[] #[.pointer (some ⟨g, 0, none⟩)]] w fun e w' => ∃ i : Nat, e = .returned (.int .i64 i) ∧ Keep [] w w') := Lib.hid (H0.mono (by
      rintro e w' ⟨hk, ⟨rfl, h⟩ | ⟨i, rfl, h⟩⟩
      · rw [hb] at h; cases h
      · exact ⟨i, rfl, hk⟩))
    clear H0 hb hcl hh
    go_enter Try.func12, Try.ntmps12
    go_wp2_with (first | (with_reducible refine Txt.wp_region_text mixed quiet (by decide +kernel) ?_) | (with_reducible refine Txt.text_done (by kernel_rfl) ?_) | (go_at_call 39; (with_reducible refine HC.out.mono ?_); rintro e w5 ⟨i, rfl, hk5⟩))
    go_ret
    exact ⟨by first | rfl | (simp; done), hk5⟩
  | false =>
    have HC : Hid (Calls Try.prog 39 #[.slice a2 n2 c2, .func (.func 13) #[] #[.pointer (some ⟨g, 0, none⟩)]] w fun e w' => e = .returned (.int .i64 (-1)) ∧ Keep [] w w') := Lib.hid (H0.mono (by
      rintro e w' ⟨hk, ⟨rfl, h⟩ | ⟨i, rfl, h⟩⟩
      · exact ⟨rfl, hk⟩
      · rw [hb] at h; cases h))
    clear H0 hb hcl hh
    go_enter Try.func12, Try.ntmps12
    go_wp2_with (first | (with_reducible refine Txt.wp_region_text mixed quiet (by decide +kernel) ?_) | (with_reducible refine Txt.text_done (by kernel_rfl) ?_) | (go_at_call 39; (with_reducible refine HC.out.mono ?_); rintro e w5 ⟨rfl, hk5⟩))
    go_ret
    exact ⟨by first | rfl | (simp; done), hk5⟩
theorem fails11 {w : World} {g n2 c2 n c : Nat} {a2 a : Option Addr} {need xs : List Int} (hb : w.heap[g]? = some (.cells #[.slice a2 n2 c2] 22 (0, 0))) (hn : IntsV w a2 n2 c2 need) (hx : IntsV w a n c xs) :
    Calls Try.prog 11 #[.slice a n c, .pointer (some ⟨g, 0, none⟩)] w fun e w' => e = .returned (.bool (hasAll need xs)) ∧ Keep [] w w' := by
  have hk1 := (Keep.refl [] w).alloc (.cells #[.slice a n c] 22)
  obtain ⟨c0, -⟩ := row1 (hk1.at hb (by simp))
  have hne : g ≠ w.heap.size := by have := lt_of_blk hb; omega
  have H12 := Lib.hid (contains12_13 (w := w.alloc (.cells #[.slice a n c] 22)) (g := w.heap.size) (p := fun y => !decide (y ∈ xs)) (fun y _ w' hk => again13 (hk.at (blk_new w _) (by simp)) (hx.keep (hk1.trans hk) (by simp))) (hn.keep hk1 (by simp)))
  have HK1 := Lib.hid hk1
  clear hb hn hx hk1
  go_enter Try.func11, Try.ntmps11
  go_wp2_with (first | (with_reducible refine Txt.wp_region_text mixed quiet (by decide +kernel) ?_) | (with_reducible refine Txt.text_done (by kernel_rfl) ?_) | (go_at_call 12; (with_reducible refine H12.out.mono ?_); rintro e w5 ⟨rfl, hk5⟩))
  go_ret
  refine ⟨ret_bool ?_, HK1.out.trans hk5⟩
  unfold hasAll
  rw [Bool.eq_iff_iff]
  simp
end Go.Proofs.Ytmedldloilbmeaa
/- shrink.List. -/
namespace Go
open Go.RowKit
def sliceN : Value → Nat
  | .slice _ n _ => n
  | _ => 0
def boolN : Value → Nat
  | .bool true => 1
  | _ => 0
def cutL (ys : List Int) (i : Nat) : List Int := ys.take i ++ ys.drop (i + 1)
def Mini (F : List Int → Bool) (xs : List Int) : Prop := ∀ j, j < xs.length → F (cutL xs j) = false
theorem cutL_map (ys : List Int) (i : Nat) : (ys.map (Value.int .i64)).take i ++ (ys.map (Value.int .i64)).drop (i + 1) = (cutL ys i).map (Value.int .i64) := by
  unfold cutL
  rw [List.map_append, List.map_take, List.map_drop]
theorem cutL_len {ys : List Int} {i M : Nat} (h : ys.length = M) (hi : i + 1 ≤ M) : (cutL ys i).length = M - 1 := by
  unfold cutL
  rw [List.length_append, List.length_take, List.length_drop]
  omega
theorem cutL_mem {ys : List Int} {i : Nat} {x : Int} (h : x ∈ cutL ys i) : x ∈ ys := by
  unfold cutL at h
  rcases List.mem_append.1 h with h | h
  · exact List.mem_of_mem_take h
  · exact List.mem_of_mem_drop h
end Go
namespace Go.Proofs.Ytmedldloilbmeaa
open Go.RowKit
theorem pair_rows {w w2 : World} {Q g i M c o : Nat} {ys : List Value} (hv : VSl w (some ⟨g, 0, none⟩) M ys) (hi : i + 1 ≤ M) (hk : Keep [] w w2)
    (h0 : w2.cell? ⟨Q, 0, none⟩ = some (.slice (some ⟨g, 0, none⟩) i c)) (h1 : w2.cell? ⟨Q, 1, none⟩ = some (.slice (some ⟨g, o, none⟩) (M - (i + 1)) (c - (i + 1)))) (ho : o = i + 1 ∨ (o = 0 ∧ M = i + 1)) :
    VRows w2 Q 2 (fun _ => g) (fun k => if k = 0 then 0 else o) (fun k => if k = 0 then i else M - (i + 1)) (fun k => if k = 0 then c else c - (i + 1)) (fun k => if k = 0 then ys.take i else ys.drop (i + 1)) := by
  intro k hk2
  rcases (show k = 0 ∨ k = 1 by omega) with rfl | rfl
  · refine ⟨h0, ⟨by simp [hv.len]; omega, fun u hu => hv.one u (List.mem_of_mem_take hu), fun h => (by cases h), fun ad ha j u hu => ?_⟩⟩
    cases ha
    simp only [if_pos] at hu ⊢
    refine hk.cell (hv.cells _ rfl j u ?_) (by simp)
    rw [List.getElem?_take] at hu
    split at hu
    · exact hu
    · cases hu
  · refine ⟨h1, ⟨by simp [hv.len], fun u hu => hv.one u (List.mem_of_mem_drop hu), fun h => (by cases h), fun ad ha j u hu => ?_⟩⟩
    cases ha
    simp only [Nat.one_ne_zero, if_false] at hu ⊢
    rw [List.getElem?_drop] at hu
    refine hk.cell ?_ (by simp)
    rcases ho with rfl | ⟨rfl, rfl⟩
    · have := hv.cells _ rfl (i + 1 + j) u hu
      rw [Go.WideShapes.add_plain] at this ⊢
      rw [show i + 1 + j = 0 + (i + 1 + j) by omega]
      exact this
    · have h3 := (List.getElem?_eq_some_iff.1 hu).1
      rw [hv.len] at h3
      omega
theorem cut38 {wr : World} {g i M c o : Nat} {ys : List Value} (hv : VSl wr (some ⟨g, 0, none⟩) M ys) (hi : i + 1 ≤ M) (hM : M ≤ 1000) (ho : o = i + 1 ∨ (o = 0 ∧ M = i + 1)) :
    Calls Try.prog 38 #[.slice (some ⟨wr.heap.size, 0, none⟩) 2 2] (wr.alloc (.cells #[.slice (some ⟨g, 0, none⟩) i c, .slice (some ⟨g, o, none⟩) (M - (i + 1)) (c - (i + 1))] 22)).drew
      fun e w' => ∃ v, e = .returned v ∧ Keep [] wr w' ∧ w'.ownsRow wr.heap.size 3 1 v (M - 1) (ys.take i ++ ys.drop (i + 1)) := by
  have hk : Keep [] wr (wr.alloc (.cells #[.slice (some ⟨g, 0, none⟩) i c, .slice (some ⟨g, o, none⟩) (M - (i + 1)) (c - (i + 1))] 22)).drew := ((Keep.refl [] wr).alloc _).drew
  obtain ⟨h0, h1, _⟩ := row2 (blk_new wr (.cells #[.slice (some ⟨g, 0, none⟩) i c, .slice (some ⟨g, o, none⟩) (M - (i + 1)) (c - (i + 1))] 22))
  have hR := pair_rows (w2 := (wr.alloc (.cells #[.slice (some ⟨g, 0, none⟩) i c, .slice (some ⟨g, o, none⟩) (M - (i + 1)) (c - (i + 1))] 22)).drew) hv hi hk h0 h1 ho
  have hS : sumN (fun k => if k = 0 then i else M - (i + 1)) 2 = M - 1 := by simp [sumN]; omega
  refine (concat38_any hR (by omega) (Nat.le_refl _) (by unfold maxLen; omega) (by rw [hS]; omega)).mono ?_
  rintro e w' ⟨v, rfl, hk', ho'⟩
  rw [hS] at ho'
  simp only [catV, List.nil_append] at ho'
  exact ⟨v, rfl, hk.trans hk', own_baseS ho' hk.size⟩

set_option maxRecDepth 100000 in
set_option maxHeartbeats 8000000 in
theorem list9_11 {a : Option Addr} {len cap bn : Nat} {zs : List Int} {F : List Int → Bool} {w : World} (hz : IntsV w a len cap zs) (hl : len ≤ 200) (hcl : ∀ (w' : World) (a : Option Addr) (n c : Nat) (xs : List Int), Keep [] w w' → IntsV w' a n c xs → Calls Try.prog 11 #[.slice a n c, .pointer (some ⟨bn, 0, none⟩)] w' fun e w'' => e = .returned (.bool (F xs)) ∧ Keep [] w' w'') (hF : F zs = true) :
    Calls Try.prog 9 #[.slice a len cap, .func (.func 11) #[] #[.pointer (some ⟨bn, 0, none⟩)]] w fun e w' => ∃ a' n' c' xs, e = .returned (.tuple #[.slice a' n' c', .int .i64 0]) ∧ IntsV w' a' n' c' xs ∧ n' ≤ 200 ∧ F xs = true ∧ Mini F xs ∧ (Mini F zs → xs = zs) ∧ Keep [] w w' := by
  have HV := Lib.hid hz
  have HC := Lib.hid hcl
  have HF := Lib.hid hF
  have HW := Lib.hid hz.wf
  have HZL := Lib.hid hz.len
  clear hz hcl hF
  have tok1 : True := trivial
  go_enter Try.func9, Try.ntmps9
  go_wp2_with (first | (with_reducible refine Txt.wp_region_text mixed quiet (by decide +kernel) ?_) | (with_reducible refine Txt.text_done (by kernel_rfl) ?_) | (go_at_call 15; have _t := tok1; (with_reducible refine (clone15_any HV.out (by omega)).mono ?_); rintro e w1 ⟨v1, rfl, hk1, ho1⟩; obtain ⟨a1, c1, rfl, hv1, -⟩ := IntsV.ofOwn ho1 HW.out; have HI1 := Lib.hid hv1; have HV1 := Lib.hid (HV.out.keep hk1 (by simp)); have HK1 := Lib.hid hk1; clear tok1 _t ho1 hv1 hk1; have tok2 : True := trivial) | (go_at_call 15; have _t := tok2; (with_reducible refine (clone15_any (HV1.out.keep HK3.out (by simp)) (by omega)).mono ?_); rintro e w2 ⟨v2, rfl, hk2, ho2⟩; obtain ⟨a2, c2, rfl, -, -⟩ := IntsV.ofOwn ho2 HW.out; have HO2 := Lib.hid (own_baseS ho2 (Nat.le_trans HK1.out.size HK3.out.size)); have HKK := Lib.hid ((HK1.out.trans HK3.out).trans hk2); clear tok2 _t ho2 hk2) | (go_at_call 11; (with_reducible refine (HC.out _ _ _ _ _ HK1.out HI1.out).mono ?_); rintro e w3 ⟨rfl, hk3⟩; rw [HF.out]; have HK3 := Lib.hid hk3; clear hk3))
  go_loopw [6, 7, 8, 9] (fun v b _ _ wr => ∃ (L : Nat) (ag : Bool) (a3 : Option Addr) (c3 : Nat) (xs : List Int), v = .slice a3 L c3 ∧ b = .bool ag ∧ L ≤ 200 ∧ Hid (xs.length = L) ∧ Hid (F xs = true) ∧ Hid (ag = false → Mini F xs) ∧ Hid (Mini F zs → xs = zs) ∧ Hid (Keep [] w wr) ∧ Hid (wr.ownsRow w.heap.size 3 1 (.slice a3 L c3) L (xs.map (Value.int .i64))) ∧ Hid (∀ u ∈ xs, (Lit.int .i64 u).wf = true)) (fun v b _ _ _ => 2 * sliceN v + boolN b)
  case atStart => exact ⟨len, true, _, _, zs, rfl, rfl, hl, HZL, HF, Lib.hid (fun h => (by cases h)), Lib.hid (fun _ => rfl), HKK, HO2, HW⟩
  case round =>
    obtain ⟨L, ag, a3, c3, xs, rfl, rfl, hL, HXL, HFX, HAG, HMZ, HKW, HO, HWX⟩ := hrel
    cases ag with
    | false =>
      go_wp2_with (first | (with_reducible refine Txt.wp_region_text mixed quiet (by decide +kernel) ?_) | (with_reducible refine Txt.text_done (by kernel_rfl) ?_))
      go_ret2
      obtain ⟨a', c', he, hv, -⟩ := IntsV.ofOwn HO.out HWX.out
      injection he with e1 _ e3
      subst e1 e3
      exact ⟨_, _, _, rfl, xs, hv, hL, HFX.out, HAG.out (by first | rfl | trivial), HMZ.out, HKW.out⟩
    | true =>
      clear HAG
      go_wp2_with (first | (with_reducible refine Txt.wp_region_text mixed quiet (by decide +kernel) ?_) | (with_reducible refine Txt.text_done (by kernel_rfl) ?_))
      go_loopw [6, 7, 8, 9] (fun v b i _ wr' => ∃ (M : Nat) (ag : Bool) (k : Nat) (a4 : Option Addr) (c4 : Nat) (ys : List Int), v = .slice a4 M c4 ∧ b = .bool ag ∧ i = .int .i64 ((k : Int) - 1) ∧ k ≤ M ∧ M ≤ L ∧ Hid (ys.length = M) ∧ Hid (F ys = true) ∧ Hid (ag = true → M < L) ∧ Hid (ag = false → M = L ∧ ∀ j, k ≤ j → j < M → F (cutL ys j) = false) ∧ Hid (Mini F zs → ys = zs) ∧ Hid (Keep [] w wr') ∧ Hid (wr'.ownsRow w.heap.size 3 1 (.slice a4 M c4) M (ys.map (Value.int .i64))) ∧ Hid (∀ u ∈ ys, (Lit.int .i64 u).wf = true)) (fun _ _ i _ _ => (intOf i + 1).toNat)
      case atStart => exact ⟨L, false, L, a3, c3, xs, rfl, rfl, rfl, by omega, by omega, HXL, HFX, Lib.hid (fun h => (by cases h)), Lib.hid (fun _ => ⟨rfl, fun j h1 h2 => by omega⟩), HMZ, HKW, HO, HWX⟩
      case round =>
        obtain ⟨M, ag, k, a4, c4, ys, rfl, rfl, rfl, hkM, hML, HYL, HFY, HAT, HAF, HMY, HKW2, HO4, HWY⟩ := hrel
        clear HXL HFX HMZ HKW HO HWX
        cases k with
        | zero =>
          have hdec : decide ((0 : Int) ≤ ((0 : Nat) : Int) - 1) = false := by decide
          go_wp2_with (first | (with_reducible refine Txt.wp_region_text mixed quiet (by decide +kernel) ?_) | (with_reducible refine Txt.text_done (by kernel_rfl) ?_))
          go_roundw
          case measure =>
            cases ag with
            | true => have := HAT.out rfl; simp [sliceN, boolN]; omega
            | false => have := (HAF.out rfl).1; simp [sliceN, boolN]; omega
          case rel => exact ⟨M, ag, a4, c4, ys, rfl, rfl, by omega, HYL, HFY, Lib.hid (fun h j hj => (HAF.out h).2 j (by omega) (by have := HYL.out; omega)), HMY, HKW2, HO4, HWY⟩
        | succ i =>
          obtain ⟨a5, c5, he, hsl, hMc, hcm, hg⟩ := own_sl HO4.out (fun u hu => by obtain ⟨x, _, rfl⟩ := List.mem_map.1 hu; rfl)
          injection he with e1 _ e3
          subst e1 e3
          obtain ⟨g, rfl⟩ := hg (by omega)
          unfold maxLen at hcm
          have HSL := Lib.hid hsl
          have hidx : (((i + 1 : Nat) : Int) - 1) = (i : Int) := by omega
          rw [hidx]
          clear hsl hidx
          obtain ⟨o, HOP, ho⟩ : ∃ o : Nat, Hid ((if c4 = i + 1 then some (⟨g, 0, none⟩ : Addr) else some ⟨g, i + 1, none⟩) = some ⟨g, o, none⟩) ∧ (o = i + 1 ∨ (o = 0 ∧ M = i + 1)) := by
            by_cases hc : c4 = i + 1
            · exact ⟨0, Lib.hid (by rw [if_pos hc]), .inr ⟨rfl, by omega⟩⟩
            · exact ⟨i + 1, Lib.hid (by rw [if_neg hc]), .inl rfl⟩
          have HHO := Lib.hid ho
          have hi1 : i + 1 ≤ M := hkM
          clear ho
          obtain ⟨A, hA⟩ : ∃ A, F (cutL ys i) = A := ⟨_, rfl⟩
          have HAA := Lib.hid hA
          clear hA
          have HWC : Hid (∀ u ∈ cutL ys i, (Lit.int .i64 u).wf = true) := Lib.hid (fun u hu => HWY.out u (cutL_mem hu))
          go_wp2_with (first | (with_reducible refine Txt.wp_region_text mixed quiet (by decide +kernel) ?_) | (with_reducible refine Txt.text_done (by kernel_rfl) ?_) | (go_at_call 38; rw [HOP.out]; (with_reducible refine (cut38 HSL.out hi1 (by omega) HHO.out).mono ?_); rintro e w5 ⟨v5, rfl, hk5, ho5⟩; rw [cutL_map] at ho5; obtain ⟨a6, c6, rfl, hv6, -⟩ := IntsV.ofOwn ho5 HWC.out; have HO6 := Lib.hid (own_baseS ho5 HKW2.out.size); have HV6 := Lib.hid hv6; have HKW5 := Lib.hid (HKW2.out.trans hk5); have HK5 := Lib.hid hk5; clear ho5 hv6 hk5) | (go_at_call 15; (with_reducible refine (clone15_any HV6.out (by omega)).mono ?_); rintro e w7 ⟨v7, rfl, hk7, ho7⟩; obtain ⟨a7, c7, rfl, hv7, -⟩ := IntsV.ofOwn ho7 HWC.out; have HKW7 := Lib.hid (HKW5.out.trans hk7); have HK7 := Lib.hid (HK5.out.trans hk7); have HV7 := Lib.hid hv7; have HO7 := Lib.hid (own_keep HO6.out hk7 (by simp)); clear ho7 hk7 hv7) | (go_at_call 11; (with_reducible refine (HC.out _ _ _ _ _ HKW7.out HV7.out).mono ?_); rintro e w8 ⟨rfl, hk8⟩; rw [HAA.out]; have HKW8 := Lib.hid (HKW7.out.trans hk8); have HK8 := Lib.hid (HK7.out.trans hk8); have HO8 := Lib.hid (own_keep HO7.out hk8 (by simp)); clear hk8))
          all_goals go_roundw
          all_goals first | (case measure => (first | (simp [intOf]; done) | (simp [intOf]; omega))) | (case rel => (refine ⟨M - 1, true, i, a6, c6, cutL ys i, rfl, rfl, rfl, by omega, by omega, Lib.hid (cutL_len HYL.out hi1), Lib.hid (HAA.out.trans (by assumption)), Lib.hid (fun _ => by omega), Lib.hid (fun h => (by cases h)), Lib.hid (fun hm => ?_), HKW8, HO8, HWC⟩; (have e9 : ys = zs := HMY.out hm); (subst e9; have e8 := hm i (by have := HYL.out; omega); rw [HAA.out.trans (by assumption)] at e8; cases e8))) | (case rel => (exact ⟨M, ag, i, _, c4, ys, rfl, rfl, rfl, by omega, hML, HYL, HFY, HAT, Lib.hid (fun h => ⟨(HAF.out h).1, fun j h1 h2 => by by_cases hji : j = i; (subst hji; exact HAA.out.trans (by assumption)); (exact (HAF.out h).2 j (by omega) h2)⟩), HMY, HKW8, Lib.hid (own_keep HO4.out HK8.out (by simp)), HWY⟩))
theorem list9_11_none {a : Option Addr} {len cap bn : Nat} {zs : List Int} {F : List Int → Bool} {w : World} (hz : IntsV w a len cap zs) (hl : len ≤ 200) (hcl : ∀ (w' : World) (a : Option Addr) (n c : Nat) (xs : List Int), Keep [] w w' → IntsV w' a n c xs → Calls Try.prog 11 #[.slice a n c, .pointer (some ⟨bn, 0, none⟩)] w' fun e w'' => e = .returned (.bool (F xs)) ∧ Keep [] w' w'') (hF : F zs = false) :
    Calls Try.prog 9 #[.slice a len cap, .func (.func 11) #[] #[.pointer (some ⟨bn, 0, none⟩)]] w fun e w' => e = .returned (.tuple #[.slice none 0 0, .int .i64 4]) ∧ Keep [] w w' := by
  have HV := Lib.hid hz
  have HC := Lib.hid hcl
  have HF := Lib.hid hF
  have HW := Lib.hid hz.wf
  clear hz hcl hF
  go_enter Try.func9, Try.ntmps9
  go_wp2_with (first | (with_reducible refine Txt.wp_region_text mixed quiet (by decide +kernel) ?_) | (with_reducible refine Txt.text_done (by kernel_rfl) ?_) | (go_at_call 15; (with_reducible refine (clone15_any HV.out (by omega)).mono ?_); rintro e w1 ⟨v1, rfl, hk1, ho1⟩; obtain ⟨a1, c1, rfl, hv1, -⟩ := IntsV.ofOwn ho1 HW.out; have HI1 := Lib.hid hv1; have HK1 := Lib.hid hk1; clear ho1 hv1 hk1) | (go_at_call 11; (with_reducible refine (HC.out _ _ _ _ _ HK1.out HI1.out).mono ?_); rintro e w3 ⟨rfl, hk3⟩; rw [HF.out]; have HK3 := Lib.hid (HK1.out.trans hk3); clear hk3))
  go_ret2
  exact ⟨rfl, HK3.out⟩
set_option maxRecDepth 100000 in
set_option maxHeartbeats 8000000 in
theorem list9_10 {a : Option Addr} {len cap : Nat} {zs : List Int} {F : List Int → Bool} {w : World} (hz : IntsV w a len cap zs) (hl : len ≤ 200) (hcl : ∀ (w' : World) (a : Option Addr) (n c : Nat) (xs : List Int), Keep [] w w' → IntsV w' a n c xs → Calls Try.prog 10 #[.slice a n c] w' fun e w'' => e = .returned (.bool (F xs)) ∧ Keep [] w' w'') (hF : F zs = true) :
    Calls Try.prog 9 #[.slice a len cap, .func (.func 10) #[] #[]] w fun e w' => ∃ a' n' c' xs, e = .returned (.tuple #[.slice a' n' c', .int .i64 0]) ∧ IntsV w' a' n' c' xs ∧ n' ≤ 200 ∧ F xs = true ∧ Mini F xs ∧ (Mini F zs → xs = zs) ∧ Keep [] w w' := by
  have HV := Lib.hid hz
  have HC := Lib.hid hcl
  have HF := Lib.hid hF
  have HW := Lib.hid hz.wf
  have HZL := Lib.hid hz.len
  clear hz hcl hF
  have tok1 : True := trivial
  go_enter Try.func9, Try.ntmps9
  go_wp2_with (first | (with_reducible refine Txt.wp_region_text mixed quiet (by decide +kernel) ?_) | (with_reducible refine Txt.text_done (by kernel_rfl) ?_) | (go_at_call 15; have _t := tok1; (with_reducible refine (clone15_any HV.out (by omega)).mono ?_); rintro e w1 ⟨v1, rfl, hk1, ho1⟩; obtain ⟨a1, c1, rfl, hv1, -⟩ := IntsV.ofOwn ho1 HW.out; have HI1 := Lib.hid hv1; have HV1 := Lib.hid (HV.out.keep hk1 (by simp)); have HK1 := Lib.hid hk1; clear tok1 _t ho1 hv1 hk1; have tok2 : True := trivial) | (go_at_call 15; have _t := tok2; (with_reducible refine (clone15_any (HV1.out.keep HK3.out (by simp)) (by omega)).mono ?_); rintro e w2 ⟨v2, rfl, hk2, ho2⟩; obtain ⟨a2, c2, rfl, -, -⟩ := IntsV.ofOwn ho2 HW.out; have HO2 := Lib.hid (own_baseS ho2 (Nat.le_trans HK1.out.size HK3.out.size)); have HKK := Lib.hid ((HK1.out.trans HK3.out).trans hk2); clear tok2 _t ho2 hk2) | (go_at_call 10; (with_reducible refine (HC.out _ _ _ _ _ HK1.out HI1.out).mono ?_); rintro e w3 ⟨rfl, hk3⟩; rw [HF.out]; have HK3 := Lib.hid hk3; clear hk3))
  go_loopw [6, 7, 8, 9] (fun v b _ _ wr => ∃ (L : Nat) (ag : Bool) (a3 : Option Addr) (c3 : Nat) (xs : List Int), v = .slice a3 L c3 ∧ b = .bool ag ∧ L ≤ 200 ∧ Hid (xs.length = L) ∧ Hid (F xs = true) ∧ Hid (ag = false → Mini F xs) ∧ Hid (Mini F zs → xs = zs) ∧ Hid (Keep [] w wr) ∧ Hid (wr.ownsRow w.heap.size 3 1 (.slice a3 L c3) L (xs.map (Value.int .i64))) ∧ Hid (∀ u ∈ xs, (Lit.int .i64 u).wf = true)) (fun v b _ _ _ => 2 * sliceN v + boolN b)
  case atStart => exact ⟨len, true, _, _, zs, rfl, rfl, hl, HZL, HF, Lib.hid (fun h => (by cases h)), Lib.hid (fun _ => rfl), HKK, HO2, HW⟩
  case round =>
    obtain ⟨L, ag, a3, c3, xs, rfl, rfl, hL, HXL, HFX, HAG, HMZ, HKW, HO, HWX⟩ := hrel
    cases ag with
    | false =>
      go_wp2_with (first | (with_reducible refine Txt.wp_region_text mixed quiet (by decide +kernel) ?_) | (with_reducible refine Txt.text_done (by kernel_rfl) ?_))
      go_ret2
      obtain ⟨a', c', he, hv, -⟩ := IntsV.ofOwn HO.out HWX.out
      injection he with e1 _ e3
      subst e1 e3
      exact ⟨_, _, _, rfl, xs, hv, hL, HFX.out, HAG.out (by first | rfl | trivial), HMZ.out, HKW.out⟩
    | true =>
      clear HAG
      go_wp2_with (first | (with_reducible refine Txt.wp_region_text mixed quiet (by decide +kernel) ?_) | (with_reducible refine Txt.text_done (by kernel_rfl) ?_))
      go_loopw [6, 7, 8, 9] (fun v b i _ wr' => ∃ (M : Nat) (ag : Bool) (k : Nat) (a4 : Option Addr) (c4 : Nat) (ys : List Int), v = .slice a4 M c4 ∧ b = .bool ag ∧ i = .int .i64 ((k : Int) - 1) ∧ k ≤ M ∧ M ≤ L ∧ Hid (ys.length = M) ∧ Hid (F ys = true) ∧ Hid (ag = true → M < L) ∧ Hid (ag = false → M = L ∧ ∀ j, k ≤ j → j < M → F (cutL ys j) = false) ∧ Hid (Mini F zs → ys = zs) ∧ Hid (Keep [] w wr') ∧ Hid (wr'.ownsRow w.heap.size 3 1 (.slice a4 M c4) M (ys.map (Value.int .i64))) ∧ Hid (∀ u ∈ ys, (Lit.int .i64 u).wf = true)) (fun _ _ i _ _ => (intOf i + 1).toNat)
      case atStart => exact ⟨L, false, L, a3, c3, xs, rfl, rfl, rfl, by omega, by omega, HXL, HFX, Lib.hid (fun h => (by cases h)), Lib.hid (fun _ => ⟨rfl, fun j h1 h2 => by omega⟩), HMZ, HKW, HO, HWX⟩
      case round =>
        obtain ⟨M, ag, k, a4, c4, ys, rfl, rfl, rfl, hkM, hML, HYL, HFY, HAT, HAF, HMY, HKW2, HO4, HWY⟩ := hrel
        clear HXL HFX HMZ HKW HO HWX
        cases k with
        | zero =>
          have hdec : decide ((0 : Int) ≤ ((0 : Nat) : Int) - 1) = false := by decide
          go_wp2_with (first | (with_reducible refine Txt.wp_region_text mixed quiet (by decide +kernel) ?_) | (with_reducible refine Txt.text_done (by kernel_rfl) ?_))
          go_roundw
          case measure =>
            cases ag with
            | true => have := HAT.out rfl; simp [sliceN, boolN]; omega
            | false => have := (HAF.out rfl).1; simp [sliceN, boolN]; omega
          case rel => exact ⟨M, ag, a4, c4, ys, rfl, rfl, by omega, HYL, HFY, Lib.hid (fun h j hj => (HAF.out h).2 j (by omega) (by have := HYL.out; omega)), HMY, HKW2, HO4, HWY⟩
        | succ i =>
          obtain ⟨a5, c5, he, hsl, hMc, hcm, hg⟩ := own_sl HO4.out (fun u hu => by obtain ⟨x, _, rfl⟩ := List.mem_map.1 hu; rfl)
          injection he with e1 _ e3
          subst e1 e3
          obtain ⟨g, rfl⟩ := hg (by omega)
          unfold maxLen at hcm
          have HSL := Lib.hid hsl
          have hidx : (((i + 1 : Nat) : Int) - 1) = (i : Int) := by omega
          rw [hidx]
          clear hsl hidx
          obtain ⟨o, HOP, ho⟩ : ∃ o : Nat, Hid ((if c4 = i + 1 then some (⟨g, 0, none⟩ : Addr) else some ⟨g, i + 1, none⟩) = some ⟨g, o, none⟩) ∧ (o = i + 1 ∨ (o = 0 ∧ M = i + 1)) := by
            by_cases hc : c4 = i + 1
            · exact ⟨0, Lib.hid (by rw [if_pos hc]), .inr ⟨rfl, by omega⟩⟩
            · exact ⟨i + 1, Lib.hid (by rw [if_neg hc]), .inl rfl⟩
          have HHO := Lib.hid ho
          have hi1 : i + 1 ≤ M := hkM
          clear ho
          obtain ⟨A, hA⟩ : ∃ A, F (cutL ys i) = A := ⟨_, rfl⟩
          have HAA := Lib.hid hA
          clear hA
          have HWC : Hid (∀ u ∈ cutL ys i, (Lit.int .i64 u).wf = true) := Lib.hid (fun u hu => HWY.out u (cutL_mem hu))
          go_wp2_with (first | (with_reducible refine Txt.wp_region_text mixed quiet (by decide +kernel) ?_) | (with_reducible refine Txt.text_done (by kernel_rfl) ?_) | (go_at_call 38; rw [HOP.out]; (with_reducible refine (cut38 HSL.out hi1 (by omega) HHO.out).mono ?_); rintro e w5 ⟨v5, rfl, hk5, ho5⟩; rw [cutL_map] at ho5; obtain ⟨a6, c6, rfl, hv6, -⟩ := IntsV.ofOwn ho5 HWC.out; have HO6 := Lib.hid (own_baseS ho5 HKW2.out.size); have HV6 := Lib.hid hv6; have HKW5 := Lib.hid (HKW2.out.trans hk5); have HK5 := Lib.hid hk5; clear ho5 hv6 hk5) | (go_at_call 15; (with_reducible refine (clone15_any HV6.out (by omega)).mono ?_); rintro e w7 ⟨v7, rfl, hk7, ho7⟩; obtain ⟨a7, c7, rfl, hv7, -⟩ := IntsV.ofOwn ho7 HWC.out; have HKW7 := Lib.hid (HKW5.out.trans hk7); have HK7 := Lib.hid (HK5.out.trans hk7); have HV7 := Lib.hid hv7; have HO7 := Lib.hid (own_keep HO6.out hk7 (by simp)); clear ho7 hk7 hv7) | (go_at_call 10; (with_reducible refine (HC.out _ _ _ _ _ HKW7.out HV7.out).mono ?_); rintro e w8 ⟨rfl, hk8⟩; rw [HAA.out]; have HKW8 := Lib.hid (HKW7.out.trans hk8); have HK8 := Lib.hid (HK7.out.trans hk8); have HO8 := Lib.hid (own_keep HO7.out hk8 (by simp)); clear hk8))
          all_goals go_roundw
          all_goals first | (case measure => (first | (simp [intOf]; done) | (simp [intOf]; omega))) | (case rel => (refine ⟨M - 1, true, i, a6, c6, cutL ys i, rfl, rfl, rfl, by omega, by omega, Lib.hid (cutL_len HYL.out hi1), Lib.hid (HAA.out.trans (by assumption)), Lib.hid (fun _ => by omega), Lib.hid (fun h => (by cases h)), Lib.hid (fun hm => ?_), HKW8, HO8, HWC⟩; (have e9 : ys = zs := HMY.out hm); (subst e9; have e8 := hm i (by have := HYL.out; omega); rw [HAA.out.trans (by assumption)] at e8; cases e8))) | (case rel => (exact ⟨M, ag, i, _, c4, ys, rfl, rfl, rfl, by omega, hML, HYL, HFY, HAT, Lib.hid (fun h => ⟨(HAF.out h).1, fun j h1 h2 => by by_cases hji : j = i; (subst hji; exact HAA.out.trans (by assumption)); (exact (HAF.out h).2 j (by omega) h2)⟩), HMY, HKW8, Lib.hid (own_keep HO4.out HK8.out (by simp)), HWY⟩))
end Go.Proofs.Ytmedldloilbmeaa
/- ShrinkAgain: slices.Compact, the plain law, the walk. -/
namespace Go
open Go.Sort
theorem mem_compactS {zs : List Int} {x : Int} : x ∈ Lib.compact zs ↔ x ∈ zs := by
  unfold Lib.compact Lib.compactUpTo
  constructor
  · intro h
    obtain ⟨i, hi, rfl⟩ := List.mem_map.1 h
    have hi' : i < zs.length := List.mem_range.1 (List.mem_filter.1 hi).1
    simp [getElem!_pos, hi']
  · intro h
    obtain ⟨i, hi, rfl⟩ := List.getElem_of_mem h
    clear h
    induction i with
    | zero =>
      refine List.mem_map.2 ⟨0, List.mem_filter.2 ⟨List.mem_range.2 hi, by simp [Lib.keeps]⟩, ?_⟩
      simp [getElem!_pos, hi]
    | succ i ih =>
      by_cases hk : Lib.keeps zs.toArray (i + 1) = true
      · refine List.mem_map.2 ⟨i + 1, List.mem_filter.2 ⟨List.mem_range.2 hi, hk⟩, ?_⟩
        simp [getElem!_pos, hi]
      · have he : zs[i + 1] = zs[i] := by
          have hi0 : i < zs.length := by omega
          simp [Lib.keeps, getElem!_pos, hi, hi0] at hk
          exact hk
        rw [he]
        exact ih (by omega)
theorem compact_lt {zs : List Int} (h : zs.Pairwise (· ≤ ·)) : (Lib.compact zs).Pairwise (· < ·) := by
  unfold Lib.compact Lib.compactUpTo
  rw [List.pairwise_map]
  have h1 : ((List.range zs.length).filter (Lib.keeps zs.toArray)).Pairwise (· < ·) := List.Pairwise.filter _ List.pairwise_lt_range
  refine List.Pairwise.imp_of_mem ?_ h1
  intro i j hi hj hlt
  obtain ⟨hi1, _⟩ := List.mem_filter.1 hi
  obtain ⟨hj1, hj2⟩ := List.mem_filter.1 hj
  have hi1 := List.mem_range.1 hi1
  have hj1 := List.mem_range.1 hj1
  have hjm : j - 1 < zs.length := by omega
  have hj0 : j ≠ 0 := by omega
  simp [Lib.keeps, getElem!_pos, hj1, hjm, hj0] at hj2
  simp [getElem!_pos, hi1, hj1]
  have h2 : zs[i] ≤ zs[j - 1] := by
    by_cases e : i = j - 1
    · subst e; exact Int.le_refl _
    · exact List.pairwise_iff_getElem.1 h i (j - 1) hi1 hjm (by omega)
  have h3 : zs[j - 1] ≤ zs[j] := List.pairwise_iff_getElem.1 h (j - 1) j hjm hj1 (by omega)
  omega
theorem compact_len (zs : List Int) : (Lib.compact zs).length ≤ zs.length := by
  unfold Lib.compact Lib.compactUpTo
  rw [List.length_map]
  exact Nat.le_trans (List.length_filter_le _ _) (by simp)
theorem mem_cutL {xs : List Int} {i j : Nat} {x : Int} (hi : xs[i]? = some x) (hne : i ≠ j) : x ∈ cutL xs j := by
  unfold cutL
  rw [List.mem_append]
  rcases Nat.lt_or_ge i j with h | h
  · left
    exact List.mem_of_getElem? (i := i) (by rw [List.getElem?_take, if_pos h, hi])
  · right
    exact List.mem_of_getElem? (i := i - (j + 1)) (by rw [List.getElem?_drop, show j + 1 + (i - (j + 1)) = i by omega, hi])
theorem mini_nodup {need xs : List Int} (h1 : hasAll need xs = true) (h2 : Mini (hasAll need) xs) : xs.Nodup := by
  show xs.Pairwise (· ≠ ·)
  rw [List.pairwise_iff_getElem]
  intro i j hi hj hij he0
  obtain ⟨x, hx⟩ : ∃ x, xs[j]? = some x := ⟨_, List.getElem?_eq_getElem hj⟩
  have h3 := h2 j hj
  have he : xs[i]? = some x := by
    rw [← hx, List.getElem?_eq_getElem hi, List.getElem?_eq_getElem hj, he0]
  have h4 : hasAll need (cutL xs j) = true := by
    refine decide_eq_true fun y hy => ?_
    obtain ⟨k, hk, rfl⟩ := List.getElem_of_mem (of_decide_eq_true h1 y hy)
    by_cases hkj : k = j
    · subst hkj
      have : xs[k] = x := by rw [List.getElem?_eq_getElem hk] at hx; exact Option.some.inj hx
      rw [this]
      exact mem_cutL he (by omega)
    · exact mem_cutL (List.getElem?_eq_getElem hk) hkj
  rw [h4] at h3
  cases h3
theorem mini_mem {need xs : List Int} (h1 : hasAll need xs = true) (h2 : Mini (hasAll need) xs) {x : Int} : x ∈ xs ↔ x ∈ need := by
  constructor
  · intro hx
    obtain ⟨j, hj, rfl⟩ := List.getElem_of_mem hx
    by_cases hn : xs[j] ∈ need
    · exact hn
    · have h3 := h2 j hj
      have h4 : hasAll need (cutL xs j) = true := by
        refine decide_eq_true fun y hy => ?_
        obtain ⟨k, hk, rfl⟩ := List.getElem_of_mem (of_decide_eq_true h1 y hy)
        refine mem_cutL (List.getElem?_eq_getElem hk) (fun e => ?_)
        subst e
        exact hn hy
      rw [h4] at h3
      cases h3
  · exact fun h => of_decide_eq_true h1 x h
end Go
namespace Go.Proofs.Ytmedldloilbmeaa
open Go.RowKit Go.Sort
/-- What is least holds each that is needed once. -/
theorem mini_sorted {need xs : List Int} (h1 : hasAll need xs = true) (h2 : Mini (hasAll need) xs) : sortI xs = Lib.compact (sortI need) := by
  have h3 := compact_lt (sortI_sorted need)
  refine sorted_ext ((sortI_perm xs).nodup_iff.2 (mini_nodup h1 h2)) (h3.imp (fun h => by omega)) (sortI_sorted xs) (h3.imp (fun h => by omega)) (fun x => ?_)
  rw [(sortI_perm xs).mem_iff, mem_compactS, (sortI_perm need).mem_iff]
  exact mini_mem h1 h2
theorem compact17_own {w : World} {B n : Nat} {v : Value} {zs : List Int} (ho : w.ownsRow B 3 1 v n (zs.map (Value.int .i64))) (hn : n ≤ 9223372036854775807) :
    Calls Try.prog 17 #[v] w fun e w' => ∃ v', e = .returned v' ∧ w'.ownsRow B 3 1 v' (Lib.compact zs).length ((Lib.compact zs).map (Value.int .i64)) ∧ Keep v.ownBlock.toList w w' := by
  have hl : zs.length = n := by simpa using ho.1
  rcases ho.2 with ⟨rfl, h0⟩ | ⟨g, cap, cur, rfl, hb, hg, hnc, hcm, hcs, ht⟩
  · subst h0
    have hx : zs = [] := List.eq_nil_of_length_eq_zero hl
    subst hx
    refine (Go.Proofs.Try.slices_Compact_int_empty none 0 w).mono ?_
    rintro e w' ⟨rfl, rfl⟩
    exact ⟨_, rfl, by have h := compact_len []; rw [List.eq_nil_of_length_eq_zero (Nat.le_zero.1 h)]; exact ho, Keep.refl _ _⟩
  · subst hl
    refine (Go.Proofs.Try.slices_Compact_int g 0 cap zs w (holds_of_blockI hg (by simpa using ht)) hn hnc).mono ?_
    rintro e w' ⟨rfl, q, rfl⟩
    have hc := compact_len zs
    have hlen : (Lib.compact zs ++ List.replicate (zs.length - (Lib.compact zs).length) 0).length = zs.length := by rw [List.length_append, List.length_replicate]; omega
    have he : ∀ w2 : World, grow w2 #[] = w2 := fun w2 => by unfold grow; rw [Array.append_empty]
    have h1 := ownsRow_sortedI (n := q) (os := #[]) hlen hb hg hnc hcm hcs
    have h2 := grownBy_sortedI (w := w) (g := g) (n := q) (os := #[]) (Lib.compact zs ++ List.replicate (zs.length - (Lib.compact zs).length) 0).toArray
    rw [he] at h1 h2
    refine ⟨_, rfl, ⟨by simp, .inr ?_⟩, Keep.ofGrown h2 (by simp [Value.ownBlock])⟩
    rcases h1.2 with ⟨h3, _⟩ | ⟨g', cap', cur', h3, h4, h5, h6, h7, h8, h9⟩
    · cases h3
    · cases h3
      refine ⟨g, cap, cur', rfl, h4, h5, by omega, h7, h8, ?_⟩
      rw [Nat.mul_one] at h9 ⊢
      have h10 := congrArg (List.take (Lib.compact zs).length) h9
      rw [List.take_take, Nat.min_eq_left hc, List.map_append, List.take_append_of_le_length (by simp)] at h10
      rw [h10]
      exact List.take_of_length_le (by simp)
theorem cloneBig {w : World} {a : Option Addr} {n c : Nat} {xs : List Int} (hv : IntsV w a n c xs) (hn : n * 8 ≤ 140737488355328) :
    Calls Try.prog 15 #[.slice a n c] w fun e w' => ∃ v, e = .returned v ∧ Keep [] w w' ∧ w'.ownsRow w.heap.size 3 1 v n (xs.map (Value.int .i64)) := by
  by_cases h0 : 0 < n
  · obtain ⟨b, off, rfl, hc⟩ := hv.cells h0
    obtain ⟨i3, hi3, hy0, hy1, hy2⟩ := infoY info3
    refine (Go.Proofs.Try.slices_Clone i3 _ 1 8 hi3 hy0 hy1 hy2 rfl (by decide) (fun w => by kernel_rfl) b off n c (xs.map (Value.int .i64)) w (by rw [List.length_map, hv.len]; omega) (by unfold maxLen; omega) (by omega) (fun j u hu => ?_) (fun u hu => ?_)).mono ?_
    · have hj : j < n := by have := (List.getElem?_eq_some_iff.1 hu).1; have := hv.len; simp at *; omega
      rw [hc j hj, ← hu, List.getElem?_map]
      simp [List.getD_eq_getElem?_getD, hv.len ▸ hj]
    · obtain ⟨z, _, rfl⟩ := List.mem_map.1 hu
      rfl
    · rintro e w' ⟨v, rfl, ho, _, hb⟩
      exact ⟨v, rfl, ⟨hb.os, hb.tape, hb.output, hb.size, fun i hi _ => hb.block i hi⟩, ho⟩
  · exact clone15_any hv (by omega)
theorem sortBig {w : World} {B n : Nat} {v : Value} {xs : List Int} (ho : w.ownsRow B 3 1 v n (xs.map (Value.int .i64))) (hn : n * 8 ≤ 140737488355328) :
    Calls Try.prog 16 #[v] w fun e w' => e = .returned (.tuple #[]) ∧ w'.ownsRow B 3 1 v n ((sortI xs).map (Value.int .i64)) ∧ Keep v.ownBlock.toList w w' := by
  have hl : xs.length = n := by simpa using ho.1
  rcases ho.2 with ⟨rfl, h0⟩ | ⟨g, cap, cur, rfl, hb, hg, hnc, hcm, hcs, ht⟩
  · subst h0
    exact sort16_any ho (by decide)
  · subst hl
    refine (Go.Proofs.Try.slices_Sort_int g 0 cap xs w (holds_of_blockI hg (by simpa using ht)) (Array.getElem?_eq_some_iff.1 hg).1 (by omega)).mono ?_
    rintro e w' ⟨rfl, n, os, rfl⟩
    exact ⟨rfl, ownsRow_sortedI (sortI_len xs) hb hg hnc hcm hcs, Keep.ofGrown (grownBy_sortedI _) (by simp [Value.ownBlock])⟩
theorem few10 {w : World} {a : Option Addr} {n c : Nat} {xs : List Int} (h : IntsV w a n c xs) :
    Calls Try.prog 10 #[.slice a n c] w fun e w' => e = .returned (.bool (decide (0 < xs.length))) ∧ Keep [] w w' := by
  rw [h.len]
  clear h
  by_cases h1 : 0 < n
  · have h2 : Hid (decide (0 < n) = true) := Lib.hid (decide_eq_true h1)
    rw [h2.out]
    go_enter Try.func10, Try.ntmps10
    go_wp2_with (first | (with_reducible refine Txt.wp_region_text mixed quiet (by decide +kernel) ?_) | (with_reducible refine Txt.text_done (by kernel_rfl) ?_))
    go_ret
    exact ⟨by first | rfl | (simp; done) | (simp; omega), Keep.refl _ _⟩
  · obtain rfl : n = 0 := by omega
    go_enter Try.func10, Try.ntmps10
    go_wp2_with (first | (with_reducible refine Txt.wp_region_text mixed quiet (by decide +kernel) ?_) | (with_reducible refine Txt.text_done (by kernel_rfl) ?_))
    go_ret
    exact ⟨by first | rfl | (simp; done) | (simp; omega), Keep.refl _ _⟩
theorem list10_one {w : World} {a : Option Addr} {len cap : Nat} {zs : List Int} (hz : IntsV w a len cap zs) (h0 : 0 < len) (hl : len ≤ 200) :
    Calls Try.prog 9 #[.slice a len cap, .func (.func 10) #[] #[]] w fun e w' => ∃ a' c', e = .returned (.tuple #[.slice a' 1 c', .int .i64 0]) ∧ Keep [] w w' := by
  refine (list9_10 (F := fun xs => decide (0 < xs.length)) hz hl (fun w' a n c xs _ h => few10 h) (decide_eq_true (by rw [hz.len]; exact h0))).mono ?_
  rintro e w' ⟨a', n', c', xs, rfl, hv, hn, hF, hM, -, hk⟩
  have h1 : 0 < xs.length := of_decide_eq_true hF
  have h2 := hM 0 h1
  have h3 : ¬ 0 < (cutL xs 0).length := of_decide_eq_false h2
  rw [cutL_len (M := xs.length) rfl h1] at h3
  have h4 := hv.len
  obtain rfl : n' = 1 := by omega
  exact ⟨_, _, rfl, hk⟩
end Go.Proofs.Ytmedldloilbmeaa
/- ShrinkAgain: the walk. -/
namespace Go
open Go.RowKit
theorem take_intsV {w : World} {a : Option Addr} {n c : Nat} {z : List Int} (h : IntsV w a n c z) {m : Nat} (hm : m ≤ n) : IntsV w a m c (z.take m) := by
  refine ⟨by rw [List.length_take, h.len]; omega, Nat.le_trans hm h.room, h.most, fun x hx => h.wf x (List.mem_of_mem_take hx), fun h0 => ?_⟩
  obtain ⟨b, off, h1, h2⟩ := h.cells (by omega)
  refine ⟨b, off, h1, fun i hi => ?_⟩
  rw [h2 i (by omega), List.getD_eq_getElem?_getD, List.getD_eq_getElem?_getD, List.getElem?_take, if_pos hi]
theorem pair_ints {w : World} {b : Nat} (h : w.heap[b]? = some (.cells #[.int .i64 1, .int .i64 2] 3 (0, 0))) : IntsV w (some ⟨b, 0, none⟩) 2 2 [1, 2] := by
  obtain ⟨h0, h1, _⟩ := row2 h
  refine ⟨rfl, Nat.le_refl _, by decide, by decide, fun _ => ⟨b, 0, rfl, fun i hi => ?_⟩⟩
  match i, hi with
  | 0, _ => exact h0
  | 1, _ => exact h1
end Go
namespace Go.Proofs.Ytmedldloilbmeaa
open Go.RowKit
set_option maxRecDepth 100000 in
set_option maxHeartbeats 8000000 in
theorem shrinkAgain_walk (a : Option Addr) (len cap : Nat) (z : List Int) (a2 : Option Addr) (n2 c2 : Nat) (need : List Int) (w : World) (f : IntsV w a len cap z) (f2 : IntsV w a2 n2 c2 need) (hsz : n2 * 8 ≤ 140737488355328) :
    Calls Try.prog 3 #[.slice a len cap, .slice a2 n2 c2] w fun e w' => e = .returned (.bool true) ∧ Keep [] w w' := by
  obtain ⟨N, hN⟩ : ∃ N : Nat, (if (200 : Int) < len then 200 else (len : Int)) = N := by
    by_cases h : (200 : Int) < len
    · exact ⟨200, by rw [if_pos h]; rfl⟩
    · exact ⟨len, by rw [if_neg h]⟩
  have hN2 : N ≤ 200 ∧ N ≤ len := by split at hN <;> omega
  have hfm := f.most
  have hfr := f.room
  unfold maxLen at hfm
  have HV : Hid (IntsV w a N cap (z.take N)) := Lib.hid (take_intsV f hN2.2)
  have HNE : Hid (IntsV w a2 n2 c2 need) := Lib.hid f2
  have HMN : Hid ((min (len : Int) 200).toNat = N) := Lib.hid (by split at hN <;> omega)
  clear f f2 hN
  obtain ⟨hN3, hN4⟩ := hN2
  obtain ⟨zs, hzs⟩ : ∃ zs, z.take N = zs := ⟨_, rfl⟩
  rw [hzs] at HV
  clear hzs
  have HK0 : Hid (Keep [] w ((w.alloc (.cells #[.slice a2 n2 c2] 22)).alloc (.cells #[.int .i64 1, .int .i64 2] 3))) := Lib.hid (((Keep.refl [] w).alloc _).alloc _)
  have HB0 : Hid (((w.alloc (.cells #[.slice a2 n2 c2] 22)).alloc (.cells #[.int .i64 1, .int .i64 2] 3)).heap[w.heap.size]? = some (.cells #[.slice a2 n2 c2] 22 (0, 0))) := Lib.hid (((Keep.refl [] (w.alloc (.cells #[.slice a2 n2 c2] 22))).alloc _).at (blk_new w _) (by simp))
  have HP0 : Hid (IntsV ((w.alloc (.cells #[.slice a2 n2 c2] 22)).alloc (.cells #[.int .i64 1, .int .i64 2] 3)) (some ⟨w.heap.size + 1, 0, none⟩) 2 2 [1, 2]) := Lib.hid (pair_ints (by have h := blk_new (w.alloc (.cells #[.slice a2 n2 c2] 22)) (.cells #[.int .i64 1, .int .i64 2] 3); rw [show (w.alloc (.cells #[.slice a2 n2 c2] 22)).heap.size = w.heap.size + 1 by simp] at h; exact h))
  have tok1 : True := trivial
  cases hA : hasAll need zs with
  | false =>
    have HA := Lib.hid hA
    clear hA
    go_enter Try.func3, Try.ntmps3
    go_wp2_with (first | (with_reducible refine Txt.wp_region_text mixed quiet (by decide +kernel) ?_) | (with_reducible refine Txt.text_done (by kernel_rfl) ?_) | (go_at_call 9; have _t := tok1; (with_reducible refine (list10_one HP0.out (by decide) (by decide)).mono ?_); rintro e w1 ⟨a1, c1, rfl, hk1⟩; have HK1 := Lib.hid (HK0.out.trans hk1); have HB1 := Lib.hid (hk1.at HB0.out (by simp)); have HV1 := Lib.hid (HV.out.keep HK1.out (by simp)); have HN1 := Lib.hid (HNE.out.keep HK1.out (by simp)); clear tok1 _t hk1) | (go_at_call 9; rw [HMN.out]; (refine (list9_11_none HV1.out hN3 (fun w' a n c xs hk h => fails11 (hk.at HB1.out (by simp)) (HN1.out.keep hk (by simp)) h) HA.out).mono ?_); rintro e w2 ⟨rfl, hk2⟩; have HK2 := Lib.hid (HK1.out.trans hk2); have HB2 := Lib.hid (hk2.at HB1.out (by simp)); have HV2 := Lib.hid (HV1.out.keep hk2 (by simp)); have HN2 := Lib.hid (HN1.out.keep hk2 (by simp)); clear hk2) | (go_at_call 11; (with_reducible refine (fails11 HB2.out HN2.out HV2.out).mono ?_); rintro e w3 ⟨rfl, hk3⟩; rw [HA.out]; have HK3 := Lib.hid (HK2.out.trans hk3); clear hk3))
    go_ret
    exact ⟨by first | rfl | (simp; done), HK3.out⟩
  | true =>
    have HA := Lib.hid hA
    clear hA
    have tok2 : True := trivial
    have tok4 : True := trivial
    have tok6 : True := trivial
    go_enter Try.func3, Try.ntmps3
    go_wp2_with (first | (with_reducible refine Txt.wp_region_text mixed quiet (by decide +kernel) ?_) | (with_reducible refine Txt.text_done (by kernel_rfl) ?_) | (go_at_call 9; have _t := tok1; (with_reducible refine (list10_one HP0.out (by decide) (by decide)).mono ?_); rintro e w1 ⟨a1, c1, rfl, hk1⟩; have HK1 := Lib.hid (HK0.out.trans hk1); have HB1 := Lib.hid (hk1.at HB0.out (by simp)); have HV1 := Lib.hid (HV.out.keep HK1.out (by simp)); have HN1 := Lib.hid (HNE.out.keep HK1.out (by simp)); clear tok1 _t hk1) | (go_at_call 9; have _t := tok2; rw [HMN.out]; (refine (list9_11 HV1.out hN3 (fun w' a n c xs hk h => fails11 (hk.at HB1.out (by simp)) (HN1.out.keep hk (by simp)) h) HA.out).mono ?_); rintro e w2 ⟨a3, n3, c3, xs, rfl, hv3, hn3, hf3, hm3, -, hk2⟩; have HK2 := Lib.hid (HK1.out.trans hk2); have HB2 := Lib.hid (hk2.at HB1.out (by simp)); have HV3 := Lib.hid hv3; have HF3 := Lib.hid hf3; have HM3 := Lib.hid hm3; have HN2 := Lib.hid (HN1.out.keep hk2 (by simp)); clear tok2 _t hv3 hf3 hm3 hk2) | (go_at_call 9; (refine (list9_11 HV3.out hn3 (fun w' a n c xs hk h => fails11 (hk.at HB2.out (by simp)) (HN2.out.keep hk (by simp)) h) HF3.out).mono ?_); rintro e w4 ⟨a4, n4, c4, ys, rfl, hv4, -, -, -, hq4, hk4⟩; obtain rfl : ys = xs := hq4 HM3.out; have HK4 := Lib.hid (HK2.out.trans hk4); have HK24 := Lib.hid hk4; have HV4 := Lib.hid hv4; obtain ⟨hb4, -⟩ := row1 (hk4.at HB2.out (by simp)); have HN4 := Lib.hid (HN2.out.keep hk4 (by simp)); clear hv4 hq4 hk4) | (go_at_call 15; have _t := tok4; (with_reducible refine (cloneBig HN4.out hsz).mono ?_); rintro e w5 ⟨v5, rfl, hk5, ho5⟩; have HK5 := Lib.hid hk5; have HO5 := Lib.hid ho5; clear tok4 _t hk5 ho5) | (go_at_call 16; have _t := tok6; (with_reducible refine (sortBig HO5.out hsz).mono ?_); rintro e w6 ⟨rfl, ho6, hk6⟩; have HO6 := Lib.hid ho6; have HK6 : Hid (Keep [] w4 w6) := Lib.hid (HK5.out.call hk6 (fun g hg => .inr (ownLt HO5.out g (by simpa using hg)).1)); clear tok6 _t ho6 hk6) | (go_at_call 17; (with_reducible refine (compact17_own HO6.out (by omega)).mono ?_); rintro e w7 ⟨v7, rfl, ho7, hk7⟩; have HK7 : Hid (Keep [] w4 w7) := Lib.hid (HK6.out.call hk7 (fun g hg => .inr (ownLt HO6.out g (by simpa using hg)).1)); obtain ⟨a7, c7, rfl, hv7, hlo7⟩ := IntsV.ofOwn ho7 (fun x hx => HNE.out.wf x ((sortI_perm need).mem_iff.1 (mem_compactS.1 hx))); have HV7 := Lib.hid hv7; have HV3b := Lib.hid (HV3.out.keep (HK24.out.trans HK7.out) (by simp)); clear ho7 hk7 hv7) | (go_at_call 15; (with_reducible refine (clone15_any HV3b.out (by omega)).mono ?_); rintro e w8 ⟨v8, rfl, hk8, ho8⟩; have HK8 := Lib.hid hk8; have HO8 := Lib.hid ho8; clear hk8 ho8) | (go_at_call 16; (with_reducible refine (sort16_any HO8.out (by omega)).mono ?_); rintro e w9 ⟨rfl, ho9, hk9⟩; have HK9 : Hid (Keep [] w7 w9) := Lib.hid (HK8.out.call hk9 (fun g hg => .inr (ownLt HO8.out g (by simpa using hg)).1)); obtain ⟨a9, c9, rfl, hv9, -⟩ := IntsV.ofOwn ho9 (fun x hx => HV3.out.wf x ((sortI_perm _).mem_iff.1 hx)); have HV9 := Lib.hid hv9; have tok9 : True := trivial; clear ho9 hk9 hv9) | (go_at_call 18; have _t := tok9; (refine (equal18_any (HV3.out.keep ((HK24.out.trans HK7.out).trans HK9.out) (by simp)) (HV4.out.keep (HK7.out.trans HK9.out) (by simp))).mono ?_); rintro e w10 ⟨rfl, hk10⟩; have HK10 := Lib.hid hk10; clear tok9 _t hk10; simp only [decide_true]) | (go_at_call 18; (refine (equal18_any (HV9.out.keep HK10.out (by simp)) (HV7.out.keep (HK9.out.trans HK10.out) (by simp))).mono ?_); rintro e w11 ⟨rfl, hk11⟩; rw [decide_eq_true (mini_sorted HF3.out HM3.out)]; have HK11 := Lib.hid hk11; clear hk11))
    go_ret
    exact ⟨by first | rfl | (simp; done), (((HK4.out.trans HK7.out).trans HK9.out).trans HK10.out).trans HK11.out⟩
theorem shrinkAgain_all (a : Option Addr) (len cap : Nat) (z : List Int) (a2 : Option Addr) (n2 c2 : Nat) (need : List Int) (w : World) (f : IntsV w a len cap z) (f2 : IntsV w a2 n2 c2 need) (hsz : n2 * 8 ≤ 140737488351232) :
    Calls Try.prog 3 #[.slice a len cap, .slice a2 n2 c2] w fun e w' => e = .returned (.bool true) ∧ Keep [] w w' :=
  shrinkAgain_walk a len cap z a2 n2 c2 need w f f2 (by omega)
end Go.Proofs.Ytmedldloilbmeaa
