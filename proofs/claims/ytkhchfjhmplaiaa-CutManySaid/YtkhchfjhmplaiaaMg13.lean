/- Texts laid together: H26 BP1 BP2. -/
import Derived.Test.YtkhchfjhmplaiaaMg12
namespace Go.Proofs.Ytkhchfjhmplaiaa
open Go.RowKit
/-- A cut as a cell block. -/
def cutC (x : List Int) : Obj := .cells (x.map (Value.int .i64)).toArray 76 (0, 0)
theorem cuts1 {w : World} {a : Option Addr} {c : Nat} {h : List Ln} {C : List Int} (hi : IntsV w a 8 c C) (hb : ∀ p, p < 8 → 0 ≤ C.getD p 0 ∧ C.getD p 0 ≤ rk (plQ h p) h.length) :
    CutsV (w.alloc (.cells #[.slice a 8 c] 22)) (some ⟨w.heap.size, 0, none⟩) 1 h (fun _ => C) := fun j hj => by
  obtain rfl : j = 0 := by omega
  refine ⟨w.heap.size, 0, a, c, rfl, ?_, hi.keep ((Keep.refl [] w).alloc _) (by simp), hb⟩
  rw [cellAt (blk_new w (.cells #[.slice a 8 c] 22))]; rfl
theorem own76 {w : World} {B : Nat} {v : Value} {x0 x1 x2 x3 x4 x5 x6 x7 : Int} (ho : w.ownsRow B 76 8 v 1 (flatC (fun _ => [x0, x1, x2, x3, x4, x5, x6, x7]) 1)) : ∃ g cap, v = .slice (some ⟨g, 0, none⟩) 1 cap ∧ ∀ i, i < 8 → w.cell? ⟨g, i, none⟩ = some (.int .i64 ([x0, x1, x2, x3, x4, x5, x6, x7].getD i 0)) := by
  rcases ho.2 with ⟨_, h0⟩ | ⟨g, cap, cur, rfl, hb, hg, hnc, hcm, hcs, ht⟩
  · cases h0
  · refine ⟨g, cap, rfl, fun i hi => ?_⟩
    rw [cell_of_row w g i cur 76 (0, 0) hg]
    have : (cur.toList.take (1 * 8))[i]? = (flatC (fun _ => [x0, x1, x2, x3, x4, x5, x6, x7]) 1)[i]? := by rw [ht]
    rw [List.getElem?_take, if_pos (by omega)] at this
    simp only [Array.getElem?_toList] at this
    rw [this]
    rcases (by omega : i = 0 ∨ i = 1 ∨ i = 2 ∨ i = 3 ∨ i = 4 ∨ i = 5 ∨ i = 6 ∨ i = 7) with h | h | h | h | h | h | h | h <;> (subst h; rfl)
theorem row8' {w : World} {g : Nat} {x0 x1 x2 x3 x4 x5 x6 x7 : Int} (hc : ∀ i, i < 8 → w.cell? ⟨g, i, none⟩ = some (.int .i64 ([x0, x1, x2, x3, x4, x5, x6, x7].getD i 0))) : w.cell? ⟨g, 0, none⟩ = some (.int .i64 x0) ∧ w.cell? ⟨g, 1, none⟩ = some (.int .i64 x1) ∧ w.cell? ⟨g, 2, none⟩ = some (.int .i64 x2) ∧ w.cell? ⟨g, 3, none⟩ = some (.int .i64 x3) ∧ w.cell? ⟨g, 4, none⟩ = some (.int .i64 x4) ∧ w.cell? ⟨g, 5, none⟩ = some (.int .i64 x5) ∧ w.cell? ⟨g, 6, none⟩ = some (.int .i64 x6) ∧ w.cell? ⟨g, 7, none⟩ = some (.int .i64 x7) :=
  ⟨hc 0 (by omega), hc 1 (by omega), hc 2 (by omega), hc 3 (by omega), hc 4 (by omega), hc 5 (by omega), hc 6 (by omega), hc 7 (by omega)⟩
set_option maxRecDepth 100000 in
set_option maxHeartbeats 2000000 in
theorem whole32_any {a ac : Option Addr} {n c cc : Nat} {h : List Ln} {C : List Int} {w : World} (hv : LnsV w a n c h) (hk : HOk h) (hi : IntsV w ac 8 cc C) (hb : ∀ p, p < 8 → 0 ≤ C.getD p 0 ∧ C.getD p 0 ≤ rk (plQ h p) h.length) :
    Calls Try.prog 32 #[.slice a n c, .slice ac 8 cc] w fun e w' => e = .returned (.tuple #[.bool (wholeB h C), .int .i64 0]) ∧ Keep [] w w' := by
  have HCV := Lib.hid (cuts1 hi hb)
  have HV := Lib.hid (hv.keep ((Keep.refl [] w).alloc (.cells #[.slice ac 8 cc] 22)) (by simp))
  have HK := Lib.hid hk
  have HN := Lib.hid hv.len
  have hl8 := hi.len
  obtain ⟨x0, x1, x2, x3, x4, x5, x6, x7, rfl⟩ := list8 hl8
  have hkA : Keep [] w (w.alloc (.cells #[.slice ac 8 cc] 22)) := (Keep.refl _ _).alloc _
  clear hv hk hi hb hl8
  go_enter Try.func32, Try.ntmps32
  go_wp2_with (first | (go_at_call 58; refine (begin_walk HV.out HK.out HCV.out (by omega) (by omega) (by unfold maxLen; omega)).mono ?_; rintro e w1 ⟨H, S, T, V, v, rfl, hk1, _, _, _, hst, ho⟩; obtain ⟨g, cap, rfl, hg8⟩ := own76 ho; have HST := Lib.hid hst; obtain ⟨b0, b1, b2, b3, b4, b5, b6, b7⟩ := row8' hg8; clear hst ho hg8) | (go_at_call 66; refine (whole66_any HST.out HN.out HK.out).mono ?_; rintro e w2 ⟨rfl, hk2⟩))
  go_ret2
  exact ⟨rfl, (hkA.trans hk1).trans hk2⟩
theorem cut_cell {w : World} {X : Nat} {x : List Int} (hb : w.heap[X]? = some (cutC x)) {p : Nat} (hp : p < x.length) : w.cell? ⟨X, p, none⟩ = some (.int .i64 (x.getD p 0)) := by
  rw [cellAt hb]
  simp [List.getD_eq_getElem?_getD, hp]
theorem cut_set {w : World} {X : Nat} {x : List Int} (hb : w.heap[X]? = some (cutC x)) (p : Nat) (v : Int) : (w.setCell ⟨X, p, none⟩ (.int .i64 v)).heap[X]? = some (cutC (x.set p v)) := by
  rw [blk_setCell, if_pos rfl, hb]
  unfold cutC
  simp only [Option.map_some, Obj.put_cells, List.setIfInBounds_toArray, List.map_set]
set_option maxRecDepth 100000 in
theorem least64_any {w : World} {X p1 m1 p2 m2 : Nat} {x : List Int} (hb : w.heap[X]? = some (cutC x)) (hl : x.length = 8) (hp : p2 < 8) (hm : m2 ≤ 1000) :
    Calls Try.prog 64 #[.pointer (some ⟨X, 0, none⟩), .agg #[.int .i64 p2, .int .i64 m2], .agg #[.int .i64 p1, .int .i64 m1]] w fun e w' => e = .returned (.tuple #[]) ∧ Keep [X] w w' ∧ w'.heap[X]? = some (cutC (x.set p2 (m2 + 1))) := by
  have hXl := lt_of_blk hb
  have hk2 : Keep [] w ((w.alloc (.cells #[.int .i64 p2, .int .i64 m2] 89)).alloc (.cells #[.int .i64 p1, .int .i64 m1] 89)) := ((Keep.refl _ _).alloc _).alloc _
  have hb2 := hk2.at hb (by simp)
  have hc := cut_cell hb2 (show p2 < x.length by omega)
  have hz := thaw hb2
  obtain ⟨y, hy⟩ : ∃ y, x.getD p2 0 = y := ⟨_, rfl⟩
  rw [hy] at hc
  have hs := blk_new w (.cells #[.int .i64 p2, .int .i64 m2] 89)
  have hs2 := ((Keep.refl [] (w.alloc (.cells #[.int .i64 p2, .int .i64 m2] 89))).alloc (.cells #[.int .i64 p1, .int .i64 m1] 89)).at hs (by simp)
  obtain ⟨r0, r1, _⟩ := row2 hs2
  have f1 : (p2 : Int) < 8 := by omega
  have HB := Lib.hid hb2
  have hne : ¬ X = w.heap.size := by omega
  have hne2 : ¬ X = w.heap.size + 1 := by omega
  clear hy hs hs2 hb hb2
  obtain ⟨w2, hw2⟩ : ∃ w2, (w.alloc (.cells #[.int .i64 p2, .int .i64 m2] 89)).alloc (.cells #[.int .i64 p1, .int .i64 m1] 89) = w2 := ⟨_, rfl⟩
  rw [hw2] at hk2 hc hz r0 r1 HB
  go_enter Try.func64, Try.ntmps64
  go_wp2_with fail
  go_region
  go_wp2_with fail
  go_end0
  exact ⟨rfl, ((Keep.mono0 hk2).setCell (.inl (by simp)) _).drew, cut_set HB.out p2 _⟩
set_option maxRecDepth 100000 in
theorem most65_any {w : World} {X p1 m1 p2 m2 : Nat} {x : List Int} (hb : w.heap[X]? = some (cutC x)) (hl : x.length = 8) (hp : p1 < 8) :
    Calls Try.prog 65 #[.pointer (some ⟨X, 0, none⟩), .agg #[.int .i64 p2, .int .i64 m2], .agg #[.int .i64 p1, .int .i64 m1]] w fun e w' => e = .returned (.tuple #[]) ∧ Keep [X] w w' ∧ w'.heap[X]? = some (cutC (x.set p1 m1)) := by
  have hXl := lt_of_blk hb
  have hk2 : Keep [] w ((w.alloc (.cells #[.int .i64 p2, .int .i64 m2] 89)).alloc (.cells #[.int .i64 p1, .int .i64 m1] 89)) := ((Keep.refl _ _).alloc _).alloc _
  have hb2 := hk2.at hb (by simp)
  have hc := cut_cell hb2 (show p1 < x.length by omega)
  have hz := thaw hb2
  obtain ⟨y, hy⟩ : ∃ y, x.getD p1 0 = y := ⟨_, rfl⟩
  rw [hy] at hc
  have hs2 := blk_new (w.alloc (.cells #[.int .i64 p2, .int .i64 m2] 89)) (.cells #[.int .i64 p1, .int .i64 m1] 89)
  rw [show (w.alloc (.cells #[.int .i64 p2, .int .i64 m2] 89)).heap.size = w.heap.size + 1 by simp] at hs2
  obtain ⟨r0, r1, _⟩ := row2 hs2
  have f1 : (p1 : Int) < 8 := by omega
  have HB := Lib.hid hb2
  have hne : ¬ X = w.heap.size := by omega
  have hne2 : ¬ X = w.heap.size + 1 := by omega
  clear hy hs2 hb hb2
  obtain ⟨w2, hw2⟩ : ∃ w2, (w.alloc (.cells #[.int .i64 p2, .int .i64 m2] 89)).alloc (.cells #[.int .i64 p1, .int .i64 m1] 89) = w2 := ⟨_, rfl⟩
  rw [hw2] at hk2 hc hz r0 r1 HB
  go_enter Try.func65, Try.ntmps65
  go_wp2_with fail
  go_region
  go_wp2_with fail
  go_end0
  exact ⟨rfl, ((Keep.mono0 hk2).setCell (.inl (by simp)) _).drew, cut_set HB.out p1 _⟩
end Go.Proofs.Ytkhchfjhmplaiaa

namespace Go
open Go.RowKit
/-- A measure of a cut that lies in a block. -/
def muW (μ : List Int → Nat) (w : World) (X : Nat) : Nat :=
  match w.heap[X]? with
  | some (.cells cs _ _) => μ (cs.toList.map intOf)
  | _ => 0
end Go
namespace Go.Proofs.Ytkhchfjhmplaiaa
open Go.RowKit
theorem muW_eq {μ : List Int → Nat} {w : World} {X : Nat} {x : List Int} (h : w.heap[X]? = some (cutC x)) : muW μ w X = μ x := by
  unfold muW
  rw [h]
  unfold cutC
  dsimp only
  congr 1
  simp only [List.map_map]
  exact (List.map_congr_left fun _ _ => rfl).trans (List.map_id _)
theorem clone46_any {b n c : Nat} {xs : List Int} {w : World} (hl : xs.length = n) (hn : n ≤ 200) (hc : ∀ j, j < n → w.cell? ⟨b, j, none⟩ = some (.int .i64 (xs.getD j 0))) :
    Calls Try.prog 46 #[.slice (some ⟨b, 0, none⟩) n c] w fun e w' => ∃ v, e = .returned v ∧ Keep [] w w' ∧ w'.ownsRow w.heap.size 3 1 v n (xs.map (Value.int .i64)) := by
  obtain ⟨i3, hi3, hy0, hy1, hy2⟩ := info_parts info3
  refine (Go.Proofs.Try.slices_Clone i3 _ 1 8 hi3 hy0 hy1 hy2 rfl (by decide) (fun w => by kernel_rfl) b 0 n c (xs.map (Value.int .i64)) w (by rw [List.length_map, hl]; omega) (by unfold maxLen; omega) (by omega) (fun j u hu => ?_) (fun u hu => ?_)).mono ?_
  · have hj : j < n := by have := (List.getElem?_eq_some_iff.1 hu).1; simp at this; omega
    rw [Nat.zero_add, hc j hj, ← hu, List.getElem?_map]
    simp [List.getD_eq_getElem?_getD, hl ▸ hj]
  · obtain ⟨z, _, rfl⟩ := List.mem_map.1 hu
    rfl
  · rintro e w' ⟨v, rfl, ho, _, hb⟩
    exact ⟨v, rfl, ⟨hb.os, hb.tape, hb.output, hb.size, fun i hi _ => hb.block i hi⟩, ho⟩
theorem ranges_keep2 {S : List Nat} {w w' : World} {P : Program} {kt : TypeId} {Rf : Value → Option (DataW Value × List MemPlace)} {b r n : Nat} {D : DataW Value} {left : Lit → Bool} {cnt : Nat} (h : w.ranges P kt Rf b r n D left cnt) (hk : Keep S w w') (hb : b ∉ S) (hr : r ∉ S) : w'.ranges P kt Rf b r n D left cnt := by
  obtain ⟨es, clock, since, seen, c0, h1, h2, h3, h4, h5, h6⟩ := h
  exact ⟨es, clock, since, seen, c0, hk.at h1 hb, h2, h3, h4, hk.at h5 hr, h6⟩
theorem entry_spots {h : List Ln} (hk : HOk h) {x : Int} {c : Value} (hfc : FG h 3 h.length x = some c) : ∃ k j p1 m1 p2 m2 : Nat, k < h.length ∧ (lat h k).g = 3 ∧ (lat h k).u = x ∧ sendOf h k = some j ∧ c = spotV h k ∧ spotV h k = .agg #[.int .i64 p1, .int .i64 m1] ∧ FG h 2 h.length x = some (spotV h j) ∧ spotV h j = .agg #[.int .i64 p2, .int .i64 m2] ∧ p1 < 8 ∧ p2 < 8 ∧ ∀ C : List Int, badB h C k = (decide ((m1 : Int) < C.getD p1 0) && !decide ((m2 : Int) < C.getD p2 0)) := by
  obtain ⟨k, hkl, hkg, hku, rfl⟩ := takeIx hk hfc
  obtain ⟨j, hsj, hjk, hjg, hju⟩ := sendOf_some hk hkl hkg
  have he1 := hk.ev k hkl
  have he2 := hk.ev j (by omega)
  obtain ⟨p1, hp1⟩ : ∃ p : Nat, (lat h k).q = p := ⟨(lat h k).q.toNat, by omega⟩
  obtain ⟨p2, hp2⟩ : ∃ p : Nat, (lat h j).q = p := ⟨(lat h j).q.toNat, by omega⟩
  refine ⟨k, j, p1, posN h k, p2, posN h j, hkl, hkg, hku, hsj, rfl, by unfold spotV; rw [hp1], by rw [← hku]; exact send_get hk hsj, by unfold spotV; rw [hp2], by omega, by omega, fun C => ?_⟩
  unfold badB inC
  rw [hsj, hp1]
  show (_ && !decide ((posN h j : Int) < C.getD (lat h j).q.toNat 0)) = _
  rw [hp2]; rfl
set_option maxRecDepth 100000 in
set_option maxHeartbeats 8000000 in
theorem settle64_any {a ac : Option Addr} {n c cc : Nat} {h : List Ln} {C : List Int} {w : World} (upd : List Int → Nat → List Int) (μ : List Int → Nat) (I : List Int → Prop)
    (hv : LnsV w a n c h) (hk : HOk h) (hi : IntsV w ac 8 cc C) (hb : ∀ p, p < 8 → 0 ≤ C.getD p 0 ∧ C.getD p 0 ≤ rk (plQ h p) h.length)
    (hF : ∀ (w : World) (X : Nat) (x : List Int) (k j : Nat), k < h.length → (lat h k).g = 3 → sendOf h k = some j → I x → badB h x k = true → w.heap[X]? = some (cutC x) → Calls Try.prog 64 #[.pointer (some ⟨X, 0, none⟩), spotV h j, spotV h k] w fun e w' => e = .returned (.tuple #[]) ∧ Keep [X] w w' ∧ w'.heap[X]? = some (cutC (upd x k)))
    (hI : ∀ (x : List Int) (k : Nat), I x → k < h.length → (lat h k).g = 3 → badB h x k = true → I (upd x k) ∧ μ (upd x k) < μ x)
    (h8 : ∀ x, I x → x.length = 8 ∧ ∀ z ∈ x, (Lit.int .i64 z).wf = true) (h0 : I C) :
    Calls Try.prog 63 #[.slice a n c, .slice ac 8 cc, .func (.func 64) #[] #[]] w fun e w' => ∃ v x, e = .returned (.tuple #[v, .int .i64 0]) ∧ Keep [] w w' ∧ w'.ownsRow w.heap.size 3 1 v 8 (x.map (Value.int .i64)) ∧ I x ∧ wholeB h x = true := by
  have HCV := Lib.hid (cuts1 hi hb)
  have HV := Lib.hid (hv.keep ((Keep.refl [] w).alloc (.cells #[.slice ac 8 cc] 22)) (by simp))
  have HK := Lib.hid hk
  have HN := Lib.hid hv.len
  have HF := Lib.hid hF
  have HI := Lib.hid hI
  have H8 := Lib.hid h8
  have H0 := Lib.hid h0
  have hl8 := hi.len
  have hkA : Keep [] w (w.alloc (.cells #[.slice ac 8 cc] 22)) := (Keep.refl _ _).alloc _
  obtain ⟨x0, x1, x2, x3, x4, x5, x6, x7, hC⟩ := list8 hl8
  rw [hC] at HCV H0
  clear hv hk hi hb hF hI h8 h0 hl8 hC
  go_enter Try.func63, Try.ntmps63
  go_wp2_with (first | (go_at_call 58; refine (begin_walk HV.out HK.out HCV.out (by omega) (by omega) (by unfold maxLen; omega)).mono ?_; rintro e w1 ⟨H, S, T, V, v, rfl, hk1, hS1, hST, hTH, hst, ho⟩; obtain ⟨g, cap, rfl, hg8⟩ := own76 ho; have HST := Lib.hid hst; obtain ⟨b0, b1, b2, b3, b4, b5, b6, b7⟩ := row8' hg8; clear hst ho hg8))
  have hx2 := blk_new w1 (.cells #[.int .i64 x0, .int .i64 x1, .int .i64 x2, .int .i64 x3, .int .i64 x4, .int .i64 x5, .int .i64 x6, .int .i64 x7] 76)
  obtain ⟨X, hX⟩ : ∃ X, w1.heap.size = X := ⟨_, rfl⟩
  have hkX : Keep [] w1 (w1.alloc (.cells #[.int .i64 x0, .int .i64 x1, .int .i64 x2, .int .i64 x3, .int .i64 x4, .int .i64 x5, .int .i64 x6, .int .i64 x7] 76)) := (Keep.refl _ _).alloc _
  rw [hX] at hx2 ⊢
  have HX0 : Hid ((w1.alloc (.cells #[.int .i64 x0, .int .i64 x1, .int .i64 x2, .int .i64 x3, .int .i64 x4, .int .i64 x5, .int .i64 x6, .int .i64 x7] 76)).heap[X]? = some (cutC [x0, x1, x2, x3, x4, x5, x6, x7])) := Lib.hid hx2
  obtain ⟨w2, hw2⟩ : ∃ w2, w1.alloc (.cells #[.int .i64 x0, .int .i64 x1, .int .i64 x2, .int .i64 x3, .int .i64 x4, .int .i64 x5, .int .i64 x6, .int .i64 x7] 76) = w2 := ⟨_, rfl⟩
  rw [hw2] at hkX HX0 ⊢
  have HW1 := Lib.hid hX
  have HHX : Hid (H < X ∧ w.heap.size ≤ X) := Lib.hid ⟨by rw [← hX]; exact lt_of_blk HST.out.blk, by rw [← hX]; have h1 := hkA.size; have h2 := hk1.size; omega⟩
  clear hx2 hw2 b0 b1 b2 b3 b4 b5 b6 b7 HCV hX
  go_loopw [12, 13, 14] (fun _ _ _ wr => ∃ x, Hid (I x) ∧ Keep [] w1 wr ∧ Hid (wr.heap[X]? = some (cutC x))) (fun _ _ _ wr => muW μ wr X)
  case atStart => exact ⟨_, H0, hkX, HX0⟩
  case round =>
    obtain ⟨x, HIx, hkr, HXr⟩ := hrel
    obtain ⟨y0, y1, y2, y3, y4, y5, y6, y7, rfl⟩ := list8 (H8.out x HIx.out).1
    have hb8 : wr.heap[X]? = some (.cells #[.int .i64 y0, .int .i64 y1, .int .i64 y2, .int .i64 y3, .int .i64 y4, .int .i64 y5, .int .i64 y6, .int .i64 y7] 76 (0, 0)) := HXr.out
    obtain ⟨b0, b1, b2, b3, b4, b5, b6, b7⟩ := row8 hb8
    have HSr := Lib.hid (HST.out.keep hkr)
    obtain ⟨W, hW⟩ : ∃ W, wholeB h [y0, y1, y2, y3, y4, y5, y6, y7] = W := ⟨_, rfl⟩
    have hwc := Lib.hid (show Calls Try.prog 66 #[.pointer (some ⟨H, 0, none⟩), .agg #[.int .i64 y0, .int .i64 y1, .int .i64 y2, .int .i64 y3, .int .i64 y4, .int .i64 y5, .int .i64 y6, .int .i64 y7]] wr fun e w' => e = .returned (.bool W) ∧ Keep [] wr w' by rw [← hW]; exact whole66_any HSr.out HN.out HK.out)
    have HWW := Lib.hid hW
    clear hb8 hW
    cases W
    · go_wp2_with (first | (go_at_call 66; refine hwc.out.mono ?_; rintro e w4 ⟨rfl, hk4⟩; obtain ⟨D, hD, hDm, hDk, hDh⟩ := (HSr.out.keep hk4).tak; have HD := Lib.hid hD; have HDM := Lib.hid hDm; have HDK := Lib.hid hDk; have HDH := Lib.hid hDh; have HS4 := Lib.hid (HSr.out.keep hk4); obtain ⟨s8, s9⟩ := HS4.out.cellS; clear hD hDm hDk hDh) | (at_range; refine wpList_range_own _ rfl _ 110 rfl 3 89 (Maps.int_keyed Try.underlying3) Try.underlying110 asIs T n D rfl HD.out ?_; intro w5 hrg5 hg5 hs5) | go_in)
      go_frame
      obtain ⟨R, hR⟩ : ∃ R, w4.heap.size = R := ⟨_, rfl⟩
      rw [hR] at hrg5 hs5 ⊢
      have HRG5 := Lib.hid hrg5
      have hk45 : Keep [] w4 w5 := Keep.ofGrown hg5 (fun x hx => by cases hx)
      have hkr5 := (hkr.trans hk4).trans hk45
      have HX5 := Lib.hid ((hk4.trans hk45).at HXr.out (by simp))
      have HR1 : Hid (w1.heap.size ≤ R ∧ X < R) := Lib.hid ⟨by rw [← hR]; have h1 := hkr.size; have h2 := hk4.size; omega, by rw [← hR]; exact lt_of_blk (hk4.at HXr.out (by simp))⟩
      clear hrg5 hg5 b0 b1 b2 b3 b4 b5 b6 b7 s8 s9 HD hk45 hR hwc hs5
      go_loopw [12, 13, 14] (fun _ _ _ wr' => ∃ left cnt x', Keep [] w1 wr' ∧ Hid (wr'.ranges Try.prog 3 asIs T R n D left cnt) ∧ Hid (I x') ∧ Hid (wr'.heap[X]? = some (cutC x')) ∧ Hid (μ x' < μ [y0, y1, y2, y3, y4, y5, y6, y7] ∨ (x' = [y0, y1, y2, y3, y4, y5, y6, y7] ∧ ∀ k, k < h.length → (lat h k).g = 3 → left (.int .i64 (lat h k).u) = false → badB h x' k = false))) (fun _ _ _ wr' => wr'.rangeLeft T R)
      case atStart => exact ⟨_, _, _, hkr5, HRG5, HIx, HX5, Lib.hid (.inr ⟨rfl, fun k hk hg hl => by rw [HDH.out, ← HN.out, take_has HK.out hk hg] at hl; cases hl⟩)⟩
      case round =>
        obtain ⟨left, cnt, xl, hkq, HRG, HIq, HXq, HVS⟩ := hrel
        go_wp2_with (first | (at_next; refine wpList_next_ranges _ rfl _ rfl 3 (Maps.int_keyed Try.underlying3) asIs (Value.int .i64) id (fun key kl hkey => by obtain ⟨x, rfl, _⟩ := Maps.keyOf_int_inv Try.underlying3 hkey; exact ⟨x, rfl⟩) (fun v y _ => ⟨v, rfl⟩) T R n D left cnt rfl HRG.out ?_ ?_))
        · intro hc0 hl0
          go_wp2_with fail
          go_roundw
          case measure =>
            rw [muW_eq HXq.out, muW_eq HXr.out]
            rcases HVS.out with h9 | ⟨h9, h10⟩
            · exact h9
            · exfalso
              have h11 := (wholeB_iff h [y0, y1, y2, y3, y4, y5, y6, y7]).2 fun k hk hg => by rw [← h9]; exact h10 k hk hg (hl0 _)
              rw [HWW.out] at h11
              cases h11
          case rel => exact ⟨xl, HIq, hkq, HXq⟩
        · intro x c kl y ys w6 cnt6 hkey hlk hRc hat hrg6 hlt6 hg6 hs6 hen
          obtain ⟨x', hxe, rfl, hxw⟩ := Maps.keyOf_int_inv Try.underlying3 hkey
          cases hxe
          have hfc : FG h 3 h.length x = some c := by
            rw [HN.out]
            have hy : y = .held c := by
              have : asIs c = some (y, ys) := hRc
              unfold asIs at this
              cases this; rfl
            rw [hy] at hat
            exact held_some (fun z => by rw [← HDK.out x z]; exact hat _)
          obtain ⟨k, j, p1, m1, p2, m2, hkl, hkg, hku, hsj, rfl, hv1, hsg, hv2, hp1, hp2, hbad⟩ := entry_spots HK.out hfc
          obtain ⟨z0, z1, z2, z3, z4, z5, z6, z7, rfl⟩ := list8 (H8.out xl HIq.out).1
          have hbd := hbad [z0, z1, z2, z3, z4, z5, z6, z7]
          have hk6 : Keep [R] wr w6 := Keep.ofGrown hg6 (fun z hz => by cases hz; simp)
          have hk16 : Keep [] w1 w6 := Keep.call hkq hk6 (fun z hz => .inr (by simp at hz; rw [hz]; exact HR1.out.1))
          have HS6 := Lib.hid (HST.out.keep hk16)
          have hX6 := hk6.at HXq.out (by simp; have := HR1.out.2; omega)
          rw [hv1] at hen ⊢
          rw [hv2, HN.out] at hsg
          obtain ⟨A1, hA1⟩ : ∃ A, decide ((m1 : Int) < [z0, z1, z2, z3, z4, z5, z6, z7].getD p1 0) = A := ⟨_, rfl⟩
          obtain ⟨A2, hA2⟩ : ∃ A, decide ((m2 : Int) < [z0, z1, z2, z3, z4, z5, z6, z7].getD p2 0) = A := ⟨_, rfl⟩
          rw [hA1, hA2] at hbd
          have HBD := Lib.hid hbd
          have HA1 := Lib.hid hA1
          have HA2 := Lib.hid hA2
          have HSG := Lib.hid (show (FG h 2 n x).getD (.agg #[.int .i64 0, .int .i64 0]) = .agg #[.int .i64 p2, .int .i64 m2] by rw [hsg]; rfl)
          have HXW := Lib.hid hxw
          have HRG6 := Lib.hid hrg6
          have HX6 := Lib.hid hX6
          have HTK := Lib.hid (show k < h.length ∧ (lat h k).g = 3 ∧ (lat h k).u = x ∧ sendOf h k = some j from ⟨hkl, hkg, hku, hsj⟩)
          have HVV := Lib.hid (show spotV h k = .agg #[.int .i64 p1, .int .i64 m1] ∧ spotV h j = .agg #[.int .i64 p2, .int .i64 m2] from ⟨hv1, hv2⟩)
          have HLT := Lib.hid hlt6
          have hkE1 : Keep [] w6 (w6.alloc (.cells #[.int .i64 p1, .int .i64 m1] 89)) := (Keep.refl _ _).alloc _
          have HSm := Lib.hid (HS6.out.snd.keep hkE1 (by simp))
          have s8 := (HS6.out.keep hkE1).cellS.1
          clear hbd hA1 hA2 hsg hxw hrg6 hX6 hkl hkg hku hsj hv1 hv2 hbad hkey hat hfc hRc hg6 hk6 hkr5 hkr hk4
          go_upto_region 10 with (first | (at_lookup; refine wpList_lookup_v _ rfl _ _ 110 rfl 3 89 Try.underlying110 Try.underlying3 (.agg #[.int .i64 0, .int .i64 0]) (zero89 _) S n (FG h 2 n) rfl HSm.out x rfl HXW.out _ HSG ?_))
          obtain ⟨E, hE⟩ : ∃ E, wr.heap.size = E := ⟨_, rfl⟩
          have hE6 : w6.heap.size = E := by rw [← hE]; exact hs6
          have e1 := blk_new w6 (.cells #[.int .i64 p1, .int .i64 m1] 89)
          have e2 := blk_new (w6.alloc (.cells #[.int .i64 p1, .int .i64 m1] 89)) (.cells #[.int .i64 p2, .int .i64 m2] 89)
          rw [show (w6.alloc (.cells #[.int .i64 p1, .int .i64 m1] 89)).heap.size = E + 1 by simp [hE6]] at e2
          rw [hE6] at e1
          have e3 := ((Keep.refl [] (w6.alloc (.cells #[.int .i64 p1, .int .i64 m1] 89))).alloc (.cells #[.int .i64 p2, .int .i64 m2] 89)).at e1 (by simp)
          have hk67 : Keep [] w6 ((w6.alloc (.cells #[.int .i64 p1, .int .i64 m1] 89)).alloc (.cells #[.int .i64 p2, .int .i64 m2] 89)) := hkE1.alloc _
          obtain ⟨w7, hw7⟩ : ∃ w7, ((w6.alloc (.cells #[.int .i64 p1, .int .i64 m1] 89)).alloc (.cells #[.int .i64 p2, .int .i64 m2] 89)) = w7 := ⟨_, rfl⟩
          rw [hw7] at e2 e3 hk67 ⊢
          rw [hE]
          have HE1 := Lib.hid e3
          have HE2 := Lib.hid e2
          have HX7 : Hid (w7.heap[X]? = some (.cells #[.int .i64 z0, .int .i64 z1, .int .i64 z2, .int .i64 z3, .int .i64 z4, .int .i64 z5, .int .i64 z6, .int .i64 z7] 76 (0, 0))) := Lib.hid (hk67.at HX6.out (by simp))
          obtain ⟨b0, b1, b2, b3, b4, b5, b6, b7⟩ := row8 HX7.out
          obtain ⟨r0, r1, _⟩ := row2 e3
          obtain ⟨n0, n1, _⟩ := row2 e2
          clear e1 e2 e3 hw7 s8 hE hE6
          cases A1
          · go_wp2_with (first | (go_at_call 81; (with_reducible refine (has81_at hp1 HA1).mono ?_); rintro e w8 ⟨rfl, hk8⟩; have hk78 := hk8; obtain ⟨d0, d1, d2, d3, d4, d5, d6, d7⟩ := row8 (hk8.at HX7.out (by simp)); obtain ⟨q0, q1, _⟩ := row2 (hk8.at HE2.out (by simp))))
            go_roundw
            case measure => rw [(ranges_keep HRG6.out (hk67.trans hk78)).left_eq, HRG.out.left_eq]; exact HLT.out
            case rel => exact ⟨fun z => left z && !z.sameKey (.int .i64 x), cnt6, [z0, z1, z2, z3, z4, z5, z6, z7], hk16.trans (hk67.trans hk78), Lib.hid (ranges_keep HRG6.out (hk67.trans hk78)), HIq, Lib.hid ((hk67.trans hk78).at HX6.out (by simp)), Lib.hid (by
                rcases HVS.out with e | ⟨e, h10⟩
                · exact .inl e
                · refine .inr ⟨e, fun k' hk' hg' hl' => ?_⟩
                  by_cases e2 : left (.int .i64 (lat h k').u) = false
                  · exact h10 k' hk' hg' e2
                  · have hux := strike_same (by simpa using e2) hl'
                    have : k' = k := take_same HK.out hk' HTK.out.1 hg' HTK.out.2.1 (hux.trans HTK.out.2.2.1.symm)
                    rw [this, HBD.out]
                    rfl)⟩
          · cases A2
            · have HCF : Hid (∀ w9, Keep [] w7 w9 → Calls Try.prog 64 #[.pointer (some ⟨X, 0, none⟩), .agg #[.int .i64 p2, .int .i64 m2], .agg #[.int .i64 p1, .int .i64 m1]] w9 fun e w' => e = .returned (.tuple #[]) ∧ Keep [X] w9 w' ∧ w'.heap[X]? = some (cutC (upd [z0, z1, z2, z3, z4, z5, z6, z7] k))) := Lib.hid (fun w9 hk9 => by
                rw [← HVV.out.1, ← HVV.out.2]
                exact HF.out w9 X [z0, z1, z2, z3, z4, z5, z6, z7] k j HTK.out.1 HTK.out.2.1 HTK.out.2.2.2 HIq.out (by rw [HBD.out]; rfl) (hk9.at HX7.out (by simp)))
              have HII := Lib.hid (HI.out [z0, z1, z2, z3, z4, z5, z6, z7] k HIq.out HTK.out.1 HTK.out.2.1 (by rw [HBD.out]; rfl))
              go_wp2_with (first | (go_at_call 81; (with_reducible refine (has81_at hp1 HA1).mono ?_); rintro e w8 ⟨rfl, hk8⟩; have hk78 := hk8; obtain ⟨d0, d1, d2, d3, d4, d5, d6, d7⟩ := row8 (hk8.at HX7.out (by simp)); obtain ⟨q0, q1, _⟩ := row2 (hk8.at HE2.out (by simp))) | (go_at_call 81; (with_reducible refine (has81_at hp2 HA2).mono ?_); rintro e w9 ⟨rfl, hk9⟩; have hk79 := hk78.trans hk9; obtain ⟨r0', r1', _⟩ := row2 (hk79.at HE1.out (by simp)); obtain ⟨q0', q1', _⟩ := row2 (hk79.at HE2.out (by simp))) | (go_at_call 64; refine (HCF.out _ hk79).mono ?_; rintro e w10 ⟨rfl, hka, hxa⟩; have HKA := Lib.hid hka; have HXA := Lib.hid hxa; clear hka hxa))

              have hka : Keep [X] w6 w10 := (Keep.mono0 (hk67.trans hk79)).trans HKA.out
              have hTX : T ∉ [X] := by have := HHX.out.1; simp; omega
              have hRX : R ∉ [X] := by have := HR1.out.2; simp; omega
              go_roundw
              case measure => rw [(ranges_keep2 HRG6.out hka hTX hRX).left_eq, HRG.out.left_eq]; exact HLT.out
              case rel => exact ⟨fun z => left z && !z.sameKey (.int .i64 x), cnt6, upd [z0, z1, z2, z3, z4, z5, z6, z7] k, Keep.call hk16 hka (fun z hz => .inr (by simp at hz; rw [hz, HW1.out]; exact Nat.le_refl _)), Lib.hid (ranges_keep2 HRG6.out hka hTX hRX), Lib.hid HII.out.1, HXA, Lib.hid (.inl (by
                  have h1 := HII.out.2
                  rcases HVS.out with e | ⟨e, _⟩
                  · omega
                  · rw [← e]; exact h1))⟩
            · go_wp2_with (first | (go_at_call 81; (with_reducible refine (has81_at hp1 HA1).mono ?_); rintro e w8 ⟨rfl, hk8⟩; have hk78 := hk8; obtain ⟨d0, d1, d2, d3, d4, d5, d6, d7⟩ := row8 (hk8.at HX7.out (by simp)); obtain ⟨q0, q1, _⟩ := row2 (hk8.at HE2.out (by simp))) | (go_at_call 81; (with_reducible refine (has81_at hp2 HA2).mono ?_); rintro e w9 ⟨rfl, hk9⟩; have hk79 := hk78.trans hk9; obtain ⟨r0', r1', _⟩ := row2 (hk79.at HE1.out (by simp)); obtain ⟨q0', q1', _⟩ := row2 (hk79.at HE2.out (by simp))))
              go_roundw
              case measure => rw [(ranges_keep HRG6.out (hk67.trans hk79)).left_eq, HRG.out.left_eq]; exact HLT.out
              case rel => exact ⟨fun z => left z && !z.sameKey (.int .i64 x), cnt6, [z0, z1, z2, z3, z4, z5, z6, z7], hk16.trans (hk67.trans hk79), Lib.hid (ranges_keep HRG6.out (hk67.trans hk79)), HIq, Lib.hid ((hk67.trans hk79).at HX6.out (by simp)), Lib.hid (by
                  rcases HVS.out with e | ⟨e, h10⟩
                  · exact .inl e
                  · refine .inr ⟨e, fun k' hk' hg' hl' => ?_⟩
                    by_cases e2 : left (.int .i64 (lat h k').u) = false
                    · exact h10 k' hk' hg' e2
                    · have hux := strike_same (by simpa using e2) hl'
                      have : k' = k := take_same HK.out hk' HTK.out.1 hg' HTK.out.2.1 (hux.trans HTK.out.2.2.1.symm)
                      rw [this, HBD.out]
                      rfl)⟩
    · have HCL := Lib.hid (fun w' (hk : Keep [] wr w') => clone46_any (w := w') (b := X) (c := 8) (n := 8) (xs := [y0, y1, y2, y3, y4, y5, y6, y7]) rfl (by omega) (fun j hj => cut_cell (hk.at HXr.out (by simp)) (show j < [y0, y1, y2, y3, y4, y5, y6, y7].length from hj)))
      go_wp2_with (first | (go_at_call 66; refine hwc.out.mono ?_; rintro e w4 ⟨rfl, hk4⟩) | (go_at_call 46; refine (HCL.out _ hk4).mono ?_; rintro e w5 ⟨v5, rfl, hk5, ho5⟩; have HO5 := Lib.hid ho5; clear ho5))
      go_ret2
      exact ⟨v5, [y0, y1, y2, y3, y4, y5, y6, y7], rfl, (((hkA.trans hk1).trans hkr).trans hk4).trans hk5, HO5.out.mono (by have h1 := hkA.size; have h2 := hk1.size; have h3 := hkr.size; have h4 := hk4.size; omega), HIx.out, HWW.out⟩
set_option maxRecDepth 100000 in
set_option maxHeartbeats 8000000 in
theorem settle65_any {a ac : Option Addr} {n c cc : Nat} {h : List Ln} {C : List Int} {w : World} (upd : List Int → Nat → List Int) (μ : List Int → Nat) (I : List Int → Prop)
    (hv : LnsV w a n c h) (hk : HOk h) (hi : IntsV w ac 8 cc C) (hb : ∀ p, p < 8 → 0 ≤ C.getD p 0 ∧ C.getD p 0 ≤ rk (plQ h p) h.length)
    (hF : ∀ (w : World) (X : Nat) (x : List Int) (k j : Nat), k < h.length → (lat h k).g = 3 → sendOf h k = some j → I x → badB h x k = true → w.heap[X]? = some (cutC x) → Calls Try.prog 65 #[.pointer (some ⟨X, 0, none⟩), spotV h j, spotV h k] w fun e w' => e = .returned (.tuple #[]) ∧ Keep [X] w w' ∧ w'.heap[X]? = some (cutC (upd x k)))
    (hI : ∀ (x : List Int) (k : Nat), I x → k < h.length → (lat h k).g = 3 → badB h x k = true → I (upd x k) ∧ μ (upd x k) < μ x)
    (h8 : ∀ x, I x → x.length = 8 ∧ ∀ z ∈ x, (Lit.int .i64 z).wf = true) (h0 : I C) :
    Calls Try.prog 63 #[.slice a n c, .slice ac 8 cc, .func (.func 65) #[] #[]] w fun e w' => ∃ v x, e = .returned (.tuple #[v, .int .i64 0]) ∧ Keep [] w w' ∧ w'.ownsRow w.heap.size 3 1 v 8 (x.map (Value.int .i64)) ∧ I x ∧ wholeB h x = true := by
  have HCV := Lib.hid (cuts1 hi hb)
  have HV := Lib.hid (hv.keep ((Keep.refl [] w).alloc (.cells #[.slice ac 8 cc] 22)) (by simp))
  have HK := Lib.hid hk
  have HN := Lib.hid hv.len
  have HF := Lib.hid hF
  have HI := Lib.hid hI
  have H8 := Lib.hid h8
  have H0 := Lib.hid h0
  have hl8 := hi.len
  have hkA : Keep [] w (w.alloc (.cells #[.slice ac 8 cc] 22)) := (Keep.refl _ _).alloc _
  obtain ⟨x0, x1, x2, x3, x4, x5, x6, x7, hC⟩ := list8 hl8
  rw [hC] at HCV H0
  clear hv hk hi hb hF hI h8 h0 hl8 hC
  go_enter Try.func63, Try.ntmps63
  go_wp2_with (first | (go_at_call 58; refine (begin_walk HV.out HK.out HCV.out (by omega) (by omega) (by unfold maxLen; omega)).mono ?_; rintro e w1 ⟨H, S, T, V, v, rfl, hk1, hS1, hST, hTH, hst, ho⟩; obtain ⟨g, cap, rfl, hg8⟩ := own76 ho; have HST := Lib.hid hst; obtain ⟨b0, b1, b2, b3, b4, b5, b6, b7⟩ := row8' hg8; clear hst ho hg8))
  have hx2 := blk_new w1 (.cells #[.int .i64 x0, .int .i64 x1, .int .i64 x2, .int .i64 x3, .int .i64 x4, .int .i64 x5, .int .i64 x6, .int .i64 x7] 76)
  obtain ⟨X, hX⟩ : ∃ X, w1.heap.size = X := ⟨_, rfl⟩
  have hkX : Keep [] w1 (w1.alloc (.cells #[.int .i64 x0, .int .i64 x1, .int .i64 x2, .int .i64 x3, .int .i64 x4, .int .i64 x5, .int .i64 x6, .int .i64 x7] 76)) := (Keep.refl _ _).alloc _
  rw [hX] at hx2 ⊢
  have HX0 : Hid ((w1.alloc (.cells #[.int .i64 x0, .int .i64 x1, .int .i64 x2, .int .i64 x3, .int .i64 x4, .int .i64 x5, .int .i64 x6, .int .i64 x7] 76)).heap[X]? = some (cutC [x0, x1, x2, x3, x4, x5, x6, x7])) := Lib.hid hx2
  obtain ⟨w2, hw2⟩ : ∃ w2, w1.alloc (.cells #[.int .i64 x0, .int .i64 x1, .int .i64 x2, .int .i64 x3, .int .i64 x4, .int .i64 x5, .int .i64 x6, .int .i64 x7] 76) = w2 := ⟨_, rfl⟩
  rw [hw2] at hkX HX0 ⊢
  have HW1 := Lib.hid hX
  have HHX : Hid (H < X ∧ w.heap.size ≤ X) := Lib.hid ⟨by rw [← hX]; exact lt_of_blk HST.out.blk, by rw [← hX]; have h1 := hkA.size; have h2 := hk1.size; omega⟩
  clear hx2 hw2 b0 b1 b2 b3 b4 b5 b6 b7 HCV hX
  go_loopw [12, 13, 14] (fun _ _ _ wr => ∃ x, Hid (I x) ∧ Keep [] w1 wr ∧ Hid (wr.heap[X]? = some (cutC x))) (fun _ _ _ wr => muW μ wr X)
  case atStart => exact ⟨_, H0, hkX, HX0⟩
  case round =>
    obtain ⟨x, HIx, hkr, HXr⟩ := hrel
    obtain ⟨y0, y1, y2, y3, y4, y5, y6, y7, rfl⟩ := list8 (H8.out x HIx.out).1
    have hb8 : wr.heap[X]? = some (.cells #[.int .i64 y0, .int .i64 y1, .int .i64 y2, .int .i64 y3, .int .i64 y4, .int .i64 y5, .int .i64 y6, .int .i64 y7] 76 (0, 0)) := HXr.out
    obtain ⟨b0, b1, b2, b3, b4, b5, b6, b7⟩ := row8 hb8
    have HSr := Lib.hid (HST.out.keep hkr)
    obtain ⟨W, hW⟩ : ∃ W, wholeB h [y0, y1, y2, y3, y4, y5, y6, y7] = W := ⟨_, rfl⟩
    have hwc := Lib.hid (show Calls Try.prog 66 #[.pointer (some ⟨H, 0, none⟩), .agg #[.int .i64 y0, .int .i64 y1, .int .i64 y2, .int .i64 y3, .int .i64 y4, .int .i64 y5, .int .i64 y6, .int .i64 y7]] wr fun e w' => e = .returned (.bool W) ∧ Keep [] wr w' by rw [← hW]; exact whole66_any HSr.out HN.out HK.out)
    have HWW := Lib.hid hW
    clear hb8 hW
    cases W
    · go_wp2_with (first | (go_at_call 66; refine hwc.out.mono ?_; rintro e w4 ⟨rfl, hk4⟩; obtain ⟨D, hD, hDm, hDk, hDh⟩ := (HSr.out.keep hk4).tak; have HD := Lib.hid hD; have HDM := Lib.hid hDm; have HDK := Lib.hid hDk; have HDH := Lib.hid hDh; have HS4 := Lib.hid (HSr.out.keep hk4); obtain ⟨s8, s9⟩ := HS4.out.cellS; clear hD hDm hDk hDh) | (at_range; refine wpList_range_own _ rfl _ 110 rfl 3 89 (Maps.int_keyed Try.underlying3) Try.underlying110 asIs T n D rfl HD.out ?_; intro w5 hrg5 hg5 hs5) | go_in)
      go_frame
      obtain ⟨R, hR⟩ : ∃ R, w4.heap.size = R := ⟨_, rfl⟩
      rw [hR] at hrg5 hs5 ⊢
      have HRG5 := Lib.hid hrg5
      have hk45 : Keep [] w4 w5 := Keep.ofGrown hg5 (fun x hx => by cases hx)
      have hkr5 := (hkr.trans hk4).trans hk45
      have HX5 := Lib.hid ((hk4.trans hk45).at HXr.out (by simp))
      have HR1 : Hid (w1.heap.size ≤ R ∧ X < R) := Lib.hid ⟨by rw [← hR]; have h1 := hkr.size; have h2 := hk4.size; omega, by rw [← hR]; exact lt_of_blk (hk4.at HXr.out (by simp))⟩
      clear hrg5 hg5 b0 b1 b2 b3 b4 b5 b6 b7 s8 s9 HD hk45 hR hwc hs5
      go_loopw [12, 13, 14] (fun _ _ _ wr' => ∃ left cnt x', Keep [] w1 wr' ∧ Hid (wr'.ranges Try.prog 3 asIs T R n D left cnt) ∧ Hid (I x') ∧ Hid (wr'.heap[X]? = some (cutC x')) ∧ Hid (μ x' < μ [y0, y1, y2, y3, y4, y5, y6, y7] ∨ (x' = [y0, y1, y2, y3, y4, y5, y6, y7] ∧ ∀ k, k < h.length → (lat h k).g = 3 → left (.int .i64 (lat h k).u) = false → badB h x' k = false))) (fun _ _ _ wr' => wr'.rangeLeft T R)
      case atStart => exact ⟨_, _, _, hkr5, HRG5, HIx, HX5, Lib.hid (.inr ⟨rfl, fun k hk hg hl => by rw [HDH.out, ← HN.out, take_has HK.out hk hg] at hl; cases hl⟩)⟩
      case round =>
        obtain ⟨left, cnt, xl, hkq, HRG, HIq, HXq, HVS⟩ := hrel
        go_wp2_with (first | (at_next; refine wpList_next_ranges _ rfl _ rfl 3 (Maps.int_keyed Try.underlying3) asIs (Value.int .i64) id (fun key kl hkey => by obtain ⟨x, rfl, _⟩ := Maps.keyOf_int_inv Try.underlying3 hkey; exact ⟨x, rfl⟩) (fun v y _ => ⟨v, rfl⟩) T R n D left cnt rfl HRG.out ?_ ?_))
        · intro hc0 hl0
          go_wp2_with fail
          go_roundw
          case measure =>
            rw [muW_eq HXq.out, muW_eq HXr.out]
            rcases HVS.out with h9 | ⟨h9, h10⟩
            · exact h9
            · exfalso
              have h11 := (wholeB_iff h [y0, y1, y2, y3, y4, y5, y6, y7]).2 fun k hk hg => by rw [← h9]; exact h10 k hk hg (hl0 _)
              rw [HWW.out] at h11
              cases h11
          case rel => exact ⟨xl, HIq, hkq, HXq⟩
        · intro x c kl y ys w6 cnt6 hkey hlk hRc hat hrg6 hlt6 hg6 hs6 hen
          obtain ⟨x', hxe, rfl, hxw⟩ := Maps.keyOf_int_inv Try.underlying3 hkey
          cases hxe
          have hfc : FG h 3 h.length x = some c := by
            rw [HN.out]
            have hy : y = .held c := by
              have : asIs c = some (y, ys) := hRc
              unfold asIs at this
              cases this; rfl
            rw [hy] at hat
            exact held_some (fun z => by rw [← HDK.out x z]; exact hat _)
          obtain ⟨k, j, p1, m1, p2, m2, hkl, hkg, hku, hsj, rfl, hv1, hsg, hv2, hp1, hp2, hbad⟩ := entry_spots HK.out hfc
          obtain ⟨z0, z1, z2, z3, z4, z5, z6, z7, rfl⟩ := list8 (H8.out xl HIq.out).1
          have hbd := hbad [z0, z1, z2, z3, z4, z5, z6, z7]
          have hk6 : Keep [R] wr w6 := Keep.ofGrown hg6 (fun z hz => by cases hz; simp)
          have hk16 : Keep [] w1 w6 := Keep.call hkq hk6 (fun z hz => .inr (by simp at hz; rw [hz]; exact HR1.out.1))
          have HS6 := Lib.hid (HST.out.keep hk16)
          have hX6 := hk6.at HXq.out (by simp; have := HR1.out.2; omega)
          rw [hv1] at hen ⊢
          rw [hv2, HN.out] at hsg
          obtain ⟨A1, hA1⟩ : ∃ A, decide ((m1 : Int) < [z0, z1, z2, z3, z4, z5, z6, z7].getD p1 0) = A := ⟨_, rfl⟩
          obtain ⟨A2, hA2⟩ : ∃ A, decide ((m2 : Int) < [z0, z1, z2, z3, z4, z5, z6, z7].getD p2 0) = A := ⟨_, rfl⟩
          rw [hA1, hA2] at hbd
          have HBD := Lib.hid hbd
          have HA1 := Lib.hid hA1
          have HA2 := Lib.hid hA2
          have HSG := Lib.hid (show (FG h 2 n x).getD (.agg #[.int .i64 0, .int .i64 0]) = .agg #[.int .i64 p2, .int .i64 m2] by rw [hsg]; rfl)
          have HXW := Lib.hid hxw
          have HRG6 := Lib.hid hrg6
          have HX6 := Lib.hid hX6
          have HTK := Lib.hid (show k < h.length ∧ (lat h k).g = 3 ∧ (lat h k).u = x ∧ sendOf h k = some j from ⟨hkl, hkg, hku, hsj⟩)
          have HVV := Lib.hid (show spotV h k = .agg #[.int .i64 p1, .int .i64 m1] ∧ spotV h j = .agg #[.int .i64 p2, .int .i64 m2] from ⟨hv1, hv2⟩)
          have HLT := Lib.hid hlt6
          have hkE1 : Keep [] w6 (w6.alloc (.cells #[.int .i64 p1, .int .i64 m1] 89)) := (Keep.refl _ _).alloc _
          have HSm := Lib.hid (HS6.out.snd.keep hkE1 (by simp))
          have s8 := (HS6.out.keep hkE1).cellS.1
          clear hbd hA1 hA2 hsg hxw hrg6 hX6 hkl hkg hku hsj hv1 hv2 hbad hkey hat hfc hRc hg6 hk6 hkr5 hkr hk4
          go_upto_region 10 with (first | (at_lookup; refine wpList_lookup_v _ rfl _ _ 110 rfl 3 89 Try.underlying110 Try.underlying3 (.agg #[.int .i64 0, .int .i64 0]) (zero89 _) S n (FG h 2 n) rfl HSm.out x rfl HXW.out _ HSG ?_))
          obtain ⟨E, hE⟩ : ∃ E, wr.heap.size = E := ⟨_, rfl⟩
          have hE6 : w6.heap.size = E := by rw [← hE]; exact hs6
          have e1 := blk_new w6 (.cells #[.int .i64 p1, .int .i64 m1] 89)
          have e2 := blk_new (w6.alloc (.cells #[.int .i64 p1, .int .i64 m1] 89)) (.cells #[.int .i64 p2, .int .i64 m2] 89)
          rw [show (w6.alloc (.cells #[.int .i64 p1, .int .i64 m1] 89)).heap.size = E + 1 by simp [hE6]] at e2
          rw [hE6] at e1
          have e3 := ((Keep.refl [] (w6.alloc (.cells #[.int .i64 p1, .int .i64 m1] 89))).alloc (.cells #[.int .i64 p2, .int .i64 m2] 89)).at e1 (by simp)
          have hk67 : Keep [] w6 ((w6.alloc (.cells #[.int .i64 p1, .int .i64 m1] 89)).alloc (.cells #[.int .i64 p2, .int .i64 m2] 89)) := hkE1.alloc _
          obtain ⟨w7, hw7⟩ : ∃ w7, ((w6.alloc (.cells #[.int .i64 p1, .int .i64 m1] 89)).alloc (.cells #[.int .i64 p2, .int .i64 m2] 89)) = w7 := ⟨_, rfl⟩
          rw [hw7] at e2 e3 hk67 ⊢
          rw [hE]
          have HE1 := Lib.hid e3
          have HE2 := Lib.hid e2
          have HX7 : Hid (w7.heap[X]? = some (.cells #[.int .i64 z0, .int .i64 z1, .int .i64 z2, .int .i64 z3, .int .i64 z4, .int .i64 z5, .int .i64 z6, .int .i64 z7] 76 (0, 0))) := Lib.hid (hk67.at HX6.out (by simp))
          obtain ⟨b0, b1, b2, b3, b4, b5, b6, b7⟩ := row8 HX7.out
          obtain ⟨r0, r1, _⟩ := row2 e3
          obtain ⟨n0, n1, _⟩ := row2 e2
          clear e1 e2 e3 hw7 s8 hE hE6
          cases A1
          · go_wp2_with (first | (go_at_call 81; (with_reducible refine (has81_at hp1 HA1).mono ?_); rintro e w8 ⟨rfl, hk8⟩; have hk78 := hk8; obtain ⟨d0, d1, d2, d3, d4, d5, d6, d7⟩ := row8 (hk8.at HX7.out (by simp)); obtain ⟨q0, q1, _⟩ := row2 (hk8.at HE2.out (by simp))))
            go_roundw
            case measure => rw [(ranges_keep HRG6.out (hk67.trans hk78)).left_eq, HRG.out.left_eq]; exact HLT.out
            case rel => exact ⟨fun z => left z && !z.sameKey (.int .i64 x), cnt6, [z0, z1, z2, z3, z4, z5, z6, z7], hk16.trans (hk67.trans hk78), Lib.hid (ranges_keep HRG6.out (hk67.trans hk78)), HIq, Lib.hid ((hk67.trans hk78).at HX6.out (by simp)), Lib.hid (by
                rcases HVS.out with e | ⟨e, h10⟩
                · exact .inl e
                · refine .inr ⟨e, fun k' hk' hg' hl' => ?_⟩
                  by_cases e2 : left (.int .i64 (lat h k').u) = false
                  · exact h10 k' hk' hg' e2
                  · have hux := strike_same (by simpa using e2) hl'
                    have : k' = k := take_same HK.out hk' HTK.out.1 hg' HTK.out.2.1 (hux.trans HTK.out.2.2.1.symm)
                    rw [this, HBD.out]
                    rfl)⟩
          · cases A2
            · have HCF : Hid (∀ w9, Keep [] w7 w9 → Calls Try.prog 65 #[.pointer (some ⟨X, 0, none⟩), .agg #[.int .i64 p2, .int .i64 m2], .agg #[.int .i64 p1, .int .i64 m1]] w9 fun e w' => e = .returned (.tuple #[]) ∧ Keep [X] w9 w' ∧ w'.heap[X]? = some (cutC (upd [z0, z1, z2, z3, z4, z5, z6, z7] k))) := Lib.hid (fun w9 hk9 => by
                rw [← HVV.out.1, ← HVV.out.2]
                exact HF.out w9 X [z0, z1, z2, z3, z4, z5, z6, z7] k j HTK.out.1 HTK.out.2.1 HTK.out.2.2.2 HIq.out (by rw [HBD.out]; rfl) (hk9.at HX7.out (by simp)))
              have HII := Lib.hid (HI.out [z0, z1, z2, z3, z4, z5, z6, z7] k HIq.out HTK.out.1 HTK.out.2.1 (by rw [HBD.out]; rfl))
              go_wp2_with (first | (go_at_call 81; (with_reducible refine (has81_at hp1 HA1).mono ?_); rintro e w8 ⟨rfl, hk8⟩; have hk78 := hk8; obtain ⟨d0, d1, d2, d3, d4, d5, d6, d7⟩ := row8 (hk8.at HX7.out (by simp)); obtain ⟨q0, q1, _⟩ := row2 (hk8.at HE2.out (by simp))) | (go_at_call 81; (with_reducible refine (has81_at hp2 HA2).mono ?_); rintro e w9 ⟨rfl, hk9⟩; have hk79 := hk78.trans hk9; obtain ⟨r0', r1', _⟩ := row2 (hk79.at HE1.out (by simp)); obtain ⟨q0', q1', _⟩ := row2 (hk79.at HE2.out (by simp))) | (go_at_call 65; refine (HCF.out _ hk79).mono ?_; rintro e w10 ⟨rfl, hka, hxa⟩; have HKA := Lib.hid hka; have HXA := Lib.hid hxa; clear hka hxa))

              have hka : Keep [X] w6 w10 := (Keep.mono0 (hk67.trans hk79)).trans HKA.out
              have hTX : T ∉ [X] := by have := HHX.out.1; simp; omega
              have hRX : R ∉ [X] := by have := HR1.out.2; simp; omega
              go_roundw
              case measure => rw [(ranges_keep2 HRG6.out hka hTX hRX).left_eq, HRG.out.left_eq]; exact HLT.out
              case rel => exact ⟨fun z => left z && !z.sameKey (.int .i64 x), cnt6, upd [z0, z1, z2, z3, z4, z5, z6, z7] k, Keep.call hk16 hka (fun z hz => .inr (by simp at hz; rw [hz, HW1.out]; exact Nat.le_refl _)), Lib.hid (ranges_keep2 HRG6.out hka hTX hRX), Lib.hid HII.out.1, HXA, Lib.hid (.inl (by
                  have h1 := HII.out.2
                  rcases HVS.out with e | ⟨e, _⟩
                  · omega
                  · rw [← e]; exact h1))⟩
            · go_wp2_with (first | (go_at_call 81; (with_reducible refine (has81_at hp1 HA1).mono ?_); rintro e w8 ⟨rfl, hk8⟩; have hk78 := hk8; obtain ⟨d0, d1, d2, d3, d4, d5, d6, d7⟩ := row8 (hk8.at HX7.out (by simp)); obtain ⟨q0, q1, _⟩ := row2 (hk8.at HE2.out (by simp))) | (go_at_call 81; (with_reducible refine (has81_at hp2 HA2).mono ?_); rintro e w9 ⟨rfl, hk9⟩; have hk79 := hk78.trans hk9; obtain ⟨r0', r1', _⟩ := row2 (hk79.at HE1.out (by simp)); obtain ⟨q0', q1', _⟩ := row2 (hk79.at HE2.out (by simp))))
              go_roundw
              case measure => rw [(ranges_keep HRG6.out (hk67.trans hk79)).left_eq, HRG.out.left_eq]; exact HLT.out
              case rel => exact ⟨fun z => left z && !z.sameKey (.int .i64 x), cnt6, [z0, z1, z2, z3, z4, z5, z6, z7], hk16.trans (hk67.trans hk79), Lib.hid (ranges_keep HRG6.out (hk67.trans hk79)), HIq, Lib.hid ((hk67.trans hk79).at HX6.out (by simp)), Lib.hid (by
                  rcases HVS.out with e | ⟨e, h10⟩
                  · exact .inl e
                  · refine .inr ⟨e, fun k' hk' hg' hl' => ?_⟩
                    by_cases e2 : left (.int .i64 (lat h k').u) = false
                    · exact h10 k' hk' hg' e2
                    · have hux := strike_same (by simpa using e2) hl'
                      have : k' = k := take_same HK.out hk' HTK.out.1 hg' HTK.out.2.1 (hux.trans HTK.out.2.2.1.symm)
                      rw [this, HBD.out]
                      rfl)⟩
    · have HCL := Lib.hid (fun w' (hk : Keep [] wr w') => clone46_any (w := w') (b := X) (c := 8) (n := 8) (xs := [y0, y1, y2, y3, y4, y5, y6, y7]) rfl (by omega) (fun j hj => cut_cell (hk.at HXr.out (by simp)) (show j < [y0, y1, y2, y3, y4, y5, y6, y7].length from hj)))
      go_wp2_with (first | (go_at_call 66; refine hwc.out.mono ?_; rintro e w4 ⟨rfl, hk4⟩) | (go_at_call 46; refine (HCL.out _ hk4).mono ?_; rintro e w5 ⟨v5, rfl, hk5, ho5⟩; have HO5 := Lib.hid ho5; clear ho5))
      go_ret2
      exact ⟨v5, [y0, y1, y2, y3, y4, y5, y6, y7], rfl, (((hkA.trans hk1).trans hkr).trans hk4).trans hk5, HO5.out.mono (by have h1 := hkA.size; have h2 := hk1.size; have h3 := hkr.size; have h4 := hk4.size; omega), HIx.out, HWW.out⟩
end Go.Proofs.Ytkhchfjhmplaiaa

namespace Go.Proofs.Ytkhchfjhmplaiaa
open Go.RowKit
theorem cut_wf {h : List Ln} {x : List Int} (c : CutOk h x) (hl : h.length ≤ 200) : x.length = 8 ∧ ∀ z ∈ x, (Lit.int .i64 z).wf = true :=
  ⟨c.len, fun z hz => by have := c.mem z hz; exact wf_small (by omega) (by omega)⟩
theorem spot_nat {h : List Ln} (hk : HOk h) {j : Nat} (hj : j < h.length) : ∃ p : Nat, (lat h j).q = p ∧ p < 8 ∧ spotV h j = .agg #[.int .i64 p, .int .i64 (posN h j)] := by
  have he := hk.ev j hj
  obtain ⟨p, hp⟩ : ∃ p : Nat, (lat h j).q = p := ⟨(lat h j).q.toNat, by omega⟩
  exact ⟨p, hp, by omega, by unfold spotV; rw [hp]⟩
theorem least30_any {a ac : Option Addr} {n c cc : Nat} {h : List Ln} {C : List Int} {w : World} (hv : LnsV w a n c h) (hk : HOk h) (hi : IntsV w ac 8 cc C) (hC : CutOk h C) :
    Calls Try.prog 30 #[.slice a n c, .slice ac 8 cc] w fun e w' => ∃ a' c' x, e = .returned (.tuple #[.slice a' 8 c', .int .i64 0]) ∧ Keep [] w w' ∧ IntsV w' a' 8 c' x ∧ LeastI h C x ∧ wholeB h x = true := by
  have H := Lib.hid (settle64_any (updL h) (muL h) (LeastI h C) hv hk hi hC.bd (fun w X x k j hkl hkg hsj hI hb hx => by
      obtain ⟨j', hsj', hjk, _, _⟩ := sendOf_some hk hkl hkg
      rw [hsj] at hsj'
      cases hsj'
      obtain ⟨p2, hq2, hp2, hs2⟩ := spot_nat hk (show j < h.length by omega)
      obtain ⟨p1, _, _, hs1⟩ := spot_nat hk hkl
      have hm := posN_lt (h := h) j (by omega)
      have hl := hk.len
      have hu : updL h x k = x.set p2 (posN h j + 1) := by unfold updL; rw [hsj]; show x.set (lat h j).q.toNat _ = _; rw [hq2]; rfl
      rw [hs1, hs2, hu]
      exact least64_any hx hI.ok.len hp2 (by omega))
    (fun x k hI hkl hkg hb => least_step hk hI hkl hkg hb) (fun x hI => cut_wf hI.ok hk.len) ⟨hC, fun _ _ => Int.le_refl _, fun _ _ h => h⟩)
  have hlen := hk.len
  have HLN := Lib.hid hlen
  clear hv hk hi hC hlen
  go_enter Try.func30, Try.ntmps30
  go_wp2_with (first | (go_at_call 63; refine H.out.mono ?_; rintro e w1 ⟨v, x, rfl, hk1, ho1, hI, hw⟩; obtain ⟨a', c', rfl, hint, _⟩ := IntsV.ofOwn ho1 (cut_wf hI.ok HLN.out).2; have HI := Lib.hid hint; have HQ := Lib.hid hI; have HW := Lib.hid hw; clear ho1 hI hw hint))
  go_ret2
  exact ⟨a', c', x, rfl, hk1, HI.out, HQ.out, HW.out⟩
theorem most31_any {a ac : Option Addr} {n c cc : Nat} {h : List Ln} {C : List Int} {w : World} (hv : LnsV w a n c h) (hk : HOk h) (hi : IntsV w ac 8 cc C) (hC : CutOk h C) :
    Calls Try.prog 31 #[.slice a n c, .slice ac 8 cc] w fun e w' => ∃ a' c' x, e = .returned (.tuple #[.slice a' 8 c', .int .i64 0]) ∧ Keep [] w w' ∧ IntsV w' a' 8 c' x ∧ MostI h C x ∧ wholeB h x = true := by
  have H := Lib.hid (settle65_any (updM h) muM (MostI h C) hv hk hi hC.bd (fun w X x k j hkl hkg hsj hI hb hx => by
      obtain ⟨j', hsj', hjk, _, _⟩ := sendOf_some hk hkl hkg
      rw [hsj] at hsj'
      cases hsj'
      obtain ⟨p2, _, _, hs2⟩ := spot_nat hk (show j < h.length by omega)
      obtain ⟨p1, hq1, hp1, hs1⟩ := spot_nat hk hkl
      have hu : updM h x k = x.set p1 (posN h k) := by unfold updM; rw [hq1]; rfl
      rw [hs1, hs2, hu]
      exact most65_any hx hI.ok.len hp1)
    (fun x k hI hkl hkg hb => most_step hk hI hkl hkg hb) (fun x hI => cut_wf hI.ok hk.len) ⟨hC, fun _ _ => Int.le_refl _, fun _ _ h => h⟩)
  have hlen := hk.len
  have HLN := Lib.hid hlen
  clear hv hk hi hC hlen
  go_enter Try.func31, Try.ntmps31
  go_wp2_with (first | (go_at_call 63; refine H.out.mono ?_; rintro e w1 ⟨v, x, rfl, hk1, ho1, hI, hw⟩; obtain ⟨a', c', rfl, hint, _⟩ := IntsV.ofOwn ho1 (cut_wf hI.ok HLN.out).2; have HI := Lib.hid hint; have HQ := Lib.hid hI; have HW := Lib.hid hw; clear ho1 hI hw hint))
  go_ret2
  exact ⟨a', c', x, rfl, hk1, HI.out, HQ.out, HW.out⟩
def two1 : List Ln := [⟨0, 2, 5⟩, ⟨1, 3, 5⟩]
theorem two1_ok : HOk two1 := by
  have hc : ∀ i, i < two1.length → i = 0 ∨ i = 1 := fun i hi => by simp [two1] at hi; omega
  refine ⟨by decide, fun i hi => ?_, fun i j h1 h2 e1 e2 => ?_, fun i j h1 h2 e1 e2 => ?_, fun i hi hg => ?_⟩
  · rcases hc i hi with e | e <;> (subst e; decide)
  · have : i = 0 ∧ j = 1 := by have := hc j h2; omega
    obtain ⟨rfl, rfl⟩ := this
    exact absurd e2 (by decide)
  · have : i = 0 ∧ j = 1 := by have := hc j h2; omega
    obtain ⟨rfl, rfl⟩ := this
    exact absurd e1 (by decide)
  · rcases hc i hi with e | e
    · subst e; exact absurd hg (by decide)
    · subst e; exact ⟨0, by decide, by decide, by decide⟩
theorem two1_cut : CutOk two1 [0, 1, 0, 0, 0, 0, 0, 0] := ⟨rfl, fun p hp => by rcases (by omega : p = 0 ∨ p = 1 ∨ p = 2 ∨ p = 3 ∨ p = 4 ∨ p = 5 ∨ p = 6 ∨ p = 7) with h | h | h | h | h | h | h | h <;> (subst h; decide)⟩
theorem two1_least : LeastI two1 [0, 1, 0, 0, 0, 0, 0, 0] [1, 1, 0, 0, 0, 0, 0, 0] ∧ wholeB two1 [1, 1, 0, 0, 0, 0, 0, 0] = true := by
  refine ⟨⟨⟨rfl, fun p hp => ?_⟩, fun p hp => ?_, fun y hw hc p hp => ?_⟩, by decide⟩
  · rcases (by omega : p = 0 ∨ p = 1 ∨ p = 2 ∨ p = 3 ∨ p = 4 ∨ p = 5 ∨ p = 6 ∨ p = 7) with h | h | h | h | h | h | h | h <;> (subst h; decide)
  · rcases (by omega : p = 0 ∨ p = 1 ∨ p = 2 ∨ p = 3 ∨ p = 4 ∨ p = 5 ∨ p = 6 ∨ p = 7) with h | h | h | h | h | h | h | h <;> (subst h; decide)
  · have h1 := hc 1 (by omega)
    have h5 : posN two1 1 = 0 := by decide
    have h6 : ((posN two1 1 : Nat) : Int) < y.getD 1 0 := by rw [h5]; exact Int.lt_of_lt_of_le (by decide) h1
    have h2 := whole_use two1_ok hw (k := 1) (j := 0) (p1 := 1) (p2 := 0) (by decide) (by decide) (by decide) (by decide) (by decide) h6
    have h3 : posN two1 0 = 0 := by decide
    rw [h3] at h2
    rcases (by omega : p = 0 ∨ p = 1 ∨ 2 ≤ p) with e | e | e
    · subst e; show (1 : Int) ≤ _; exact h2
    · subst e; exact h1
    · have h4 := hc p hp
      rcases (by omega : p = 2 ∨ p = 3 ∨ p = 4 ∨ p = 5 ∨ p = 6 ∨ p = 7) with h | h | h | h | h | h <;> (subst h; exact h4)
theorem ones_at (w : World) : IntsV (w.alloc (.cells #[.int .i64 1, .int .i64 1, .int .i64 0, .int .i64 0, .int .i64 0, .int .i64 0, .int .i64 0, .int .i64 0] 3)) (some ⟨w.heap.size, 0, none⟩) 8 8 [1, 1, 0, 0, 0, 0, 0, 0] := by
  refine ⟨rfl, Nat.le_refl _, by unfold maxLen; omega, (cut_wf two1_least.1.ok (by decide)).2, fun _ => ⟨w.heap.size, 0, rfl, fun i hi => ?_⟩⟩
  rw [Nat.zero_add, cell_of_row _ _ _ _ _ _ (blk_new w _)]
  rcases (by omega : i = 0 ∨ i = 1 ∨ i = 2 ∨ i = 3 ∨ i = 4 ∨ i = 5 ∨ i = 6 ∨ i = 7) with h | h | h | h | h | h | h | h <;> (subst h; rfl)
set_option maxRecDepth 100000 in
set_option maxHeartbeats 2000000 in
theorem cbegun28_any (w : World) : Calls Try.prog 28 #[] w fun e w' => e = .returned (.bool true) ∧ Keep [] w w' := by
  have hkA : Keep [] w ((w.alloc (.cells #[.int .i64 0, .int .i64 2, .int .i64 5, .int .i64 1, .int .i64 3, .int .i64 5] 27)).alloc (.cells #[.int .i64 0, .int .i64 1, .int .i64 0, .int .i64 0, .int .i64 0, .int .i64 0, .int .i64 0, .int .i64 0] 3)) := ((Keep.refl _ _).alloc _).alloc _
  have e1 := ((Keep.refl [] (w.alloc (.cells #[.int .i64 0, .int .i64 2, .int .i64 5, .int .i64 1, .int .i64 3, .int .i64 5] 27))).alloc (.cells #[.int .i64 0, .int .i64 1, .int .i64 0, .int .i64 0, .int .i64 0, .int .i64 0, .int .i64 0, .int .i64 0] 3)).at (blk_new w (.cells #[.int .i64 0, .int .i64 2, .int .i64 5, .int .i64 1, .int .i64 3, .int .i64 5] 27)) (by simp)
  have e2 := blk_new (w.alloc (.cells #[.int .i64 0, .int .i64 2, .int .i64 5, .int .i64 1, .int .i64 3, .int .i64 5] 27)) (.cells #[.int .i64 0, .int .i64 1, .int .i64 0, .int .i64 0, .int .i64 0, .int .i64 0, .int .i64 0, .int .i64 0] 3)
  rw [show (w.alloc (.cells #[.int .i64 0, .int .i64 2, .int .i64 5, .int .i64 1, .int .i64 3, .int .i64 5] 27)).heap.size = w.heap.size + 1 by simp] at e2
  have HV : LnsV ((w.alloc (.cells #[.int .i64 0, .int .i64 2, .int .i64 5, .int .i64 1, .int .i64 3, .int .i64 5] 27)).alloc (.cells #[.int .i64 0, .int .i64 1, .int .i64 0, .int .i64 0, .int .i64 0, .int .i64 0, .int .i64 0, .int .i64 0] 3)) (some ⟨w.heap.size, 0, none⟩) 2 2 two1 := by
    refine ⟨rfl, Nat.le_refl _, by unfold maxLen; omega, fun _ => ⟨w.heap.size, 0, rfl, fun j hj => ?_⟩⟩
    rw [Nat.zero_add, cell_of_row _ _ _ _ _ _ e1]
    simp [lanesC, two1, Ln.cells]
  have HI : IntsV ((w.alloc (.cells #[.int .i64 0, .int .i64 2, .int .i64 5, .int .i64 1, .int .i64 3, .int .i64 5] 27)).alloc (.cells #[.int .i64 0, .int .i64 1, .int .i64 0, .int .i64 0, .int .i64 0, .int .i64 0, .int .i64 0, .int .i64 0] 3)) (some ⟨w.heap.size + 1, 0, none⟩) 8 8 [0, 1, 0, 0, 0, 0, 0, 0] := by
    refine ⟨rfl, Nat.le_refl _, by unfold maxLen; omega, (cut_wf two1_cut (by decide)).2, fun _ => ⟨w.heap.size + 1, 0, rfl, fun i hi => ?_⟩⟩
    rw [Nat.zero_add, cell_of_row _ _ _ _ _ _ e2]
    rcases (by omega : i = 0 ∨ i = 1 ∨ i = 2 ∨ i = 3 ∨ i = 4 ∨ i = 5 ∨ i = 6 ∨ i = 7) with h | h | h | h | h | h | h | h <;> (subst h; rfl)
  have H := Lib.hid (least30_any HV two1_ok HI two1_cut)
  clear HV HI e1 e2
  go_enter Try.func28, Try.ntmps28
  go_wp2_with (first | (go_at_call 30; refine H.out.mono ?_; rintro e w1 ⟨a1, c1, x, rfl, hk1, hx1, hl1, hw1⟩; have hxe := least_one hl1 hw1 two1_least.1 two1_least.2; subst hxe; have HX := Lib.hid (hx1.keep ((Keep.refl [] w1).alloc (.cells #[.int .i64 1, .int .i64 1, .int .i64 0, .int .i64 0, .int .i64 0, .int .i64 0, .int .i64 0, .int .i64 0] 3)) (by simp)); have HY := Lib.hid (ones_at w1); clear hx1 hl1 hw1) | (go_at_call 34; refine (equal_same HX.out HY.out rfl).mono ?_; rintro e w2 ⟨rfl, hk2⟩))
  go_ret
  exact ⟨rfl, ((hkA.trans hk1).alloc _).trans hk2⟩
end Go.Proofs.Ytkhchfjhmplaiaa
/- Breadth first: the states in the order in which they are come to; the queue is what is left of that list. -/
namespace Go.Bf
variable {α : Type}
/-- What can be come to. -/
inductive Rc (m : Nat) (nx : Nat → α → Option α) (s0 : α) : α → Prop
  | start : Rc m nx s0 s0
  | step {c s : α} {j : Nat} : Rc m nx s0 c → j < m → nx j c = some s → Rc m nx s0 s
structure BF (m : Nat) (nx : Nat → α → Option α) (s0 : α) (L : List α) (d i : Nat) : Prop where
  nodup : L.Nodup
  first : s0 ∈ L
  reach : ∀ x ∈ L, Rc m nx s0 x
  done : ∀ c ∈ L.take d, ∀ j, j < m → ∀ s, nx j c = some s → s ∈ L
  now : ∀ c, L[d]? = some c → ∀ j, j < i → j < m → ∀ s, nx j c = some s → s ∈ L
section
variable {m : Nat} {nx : Nat → α → Option α} {s0 : α} {L : List α} {d i : Nat}
theorem BF.start (m : Nat) (nx : Nat → α → Option α) (s0 : α) : BF m nx s0 [s0] 0 0 :=
  ⟨by simp, by simp, fun x hx => by rw [List.mem_singleton.1 hx]; exact .start, fun c hc => by simp at hc, fun _ _ j hj => absurd hj (Nat.not_lt_zero _)⟩
theorem BF.skip (h : BF m nx s0 L d i) {c : α} (hc : L[d]? = some c) (hs : ∀ s, nx i c = some s → s ∈ L) : BF m nx s0 L d (i + 1) :=
  ⟨h.nodup, h.first, h.reach, h.done, fun c' hc' j hj hjm s hns => by
    rw [hc] at hc'
    injection hc' with hc'
    subst hc'
    by_cases e : j = i
    · subst e; exact hs s hns
    · exact h.now c hc j (by omega) hjm s hns⟩
theorem BF.add (h : BF m nx s0 L d i) {c s : α} (hc : L[d]? = some c) (him : i < m) (hn : nx i c = some s) (hs : s ∉ L) : BF m nx s0 (L ++ [s]) d (i + 1) := by
  have hd := (List.getElem?_eq_some_iff.1 hc).1
  refine ⟨?_, List.mem_append_left _ h.first, fun x hx => ?_, fun c' hc' j hj s' hs' => ?_, fun c' hc' j hj hjm s' hs' => ?_⟩
  · rw [List.nodup_append]
    refine ⟨h.nodup, by simp, fun a ha b hb e => ?_⟩
    rw [List.mem_singleton.1 hb] at e
    exact hs (e ▸ ha)
  · rcases List.mem_append.1 hx with hx | hx
    · exact h.reach x hx
    · rw [List.mem_singleton.1 hx]
      exact .step (h.reach c (List.mem_of_getElem? hc)) him hn
  · rw [List.take_append_of_le_length (by omega)] at hc'
    exact List.mem_append_left _ (h.done c' hc' j hj s' hs')
  · rw [List.getElem?_append_left hd, hc] at hc'
    injection hc' with hc'
    subst hc'
    by_cases e : j = i
    · subst e
      rw [hn] at hs'
      injection hs' with hs'
      subst hs'
      exact List.mem_append_right _ (List.mem_singleton.2 rfl)
    · exact List.mem_append_left _ (h.now c hc j (by omega) hjm s' hs')
theorem BF.next (h : BF m nx s0 L d i) {c : α} (hc : L[d]? = some c) (him : m ≤ i) : BF m nx s0 L (d + 1) 0 :=
  ⟨h.nodup, h.first, h.reach, fun c' hc' j hj s hs => by
    rw [List.take_add_one, hc] at hc'
    rcases List.mem_append.1 hc' with hc' | hc'
    · exact h.done c' hc' j hj s hs
    · have e : c' = c := by simpa using hc'
      subst e
      exact h.now c' hc j (by omega) hj s hs, fun _ _ j hj => absurd hj (Nat.not_lt_zero _)⟩
theorem BF.all (h : BF m nx s0 L d i) (hd : L.length ≤ d) : ∀ x, Rc m nx s0 x ↔ x ∈ L := fun x => by
  refine ⟨fun hx => ?_, h.reach x⟩
  induction hx with
  | start => exact h.first
  | step _ hj hn ih => exact h.done _ (by rw [List.take_of_length_le hd]; exact ih) _ hj _ hn
/-- No more than there are at all. -/
theorem nodup_le [DecidableEq α] : ∀ {L U : List α}, L.Nodup → (∀ x ∈ L, x ∈ U) → L.length ≤ U.length
  | [], _, _, _ => Nat.zero_le _
  | a :: L, U, hn, hs => by
    rw [List.nodup_cons] at hn
    have h1 := hs a (List.mem_cons_self ..)
    have h2 : L.length ≤ (U.erase a).length := nodup_le hn.2 (fun x hx => (List.mem_erase_of_ne (fun e => by subst e; exact hn.1 hx)).2 (hs x (List.mem_cons_of_mem _ hx)))
    rw [List.length_erase_of_mem h1] at h2
    have h3 := List.length_pos_of_mem h1
    rw [List.length_cons]
    omega
theorem BF.le [DecidableEq α] (h : BF m nx s0 L d i) {U : List α} (hU : ∀ x, Rc m nx s0 x → x ∈ U) : L.length ≤ U.length :=
  nodup_le h.nodup (fun x hx => hU x (h.reach x hx))
/-- As many as there are at all, where all are come to. -/
theorem BF.eq [DecidableEq α] (h : BF m nx s0 L d i) (hd : L.length ≤ d) {U : List α} (hn : U.Nodup) (hU : ∀ x, Rc m nx s0 x ↔ x ∈ U) : L.length = U.length :=
  Nat.le_antisymm (h.le (fun x hx => (hU x).1 hx)) (nodup_le hn (fun x hx => (h.all hd x).1 ((hU x).2 hx)))
end
end Go.Bf
/- Boxes of cuts: how many there are. -/
namespace Go.Bf
/-- All lists with numbers from 0 to those of N. -/
def boxL : List Nat → List (List Int)
  | [] => [[]]
  | n :: N => (List.range (n + 1)).flatMap fun (v : Nat) => (boxL N).map fun c => (v : Int) :: c
def prodL : List Nat → Nat
  | [] => 1
  | n :: N => (n + 1) * prodL N
def sumL : List Nat → Nat
  | [] => 0
  | n :: N => n + sumL N
theorem boxL_len : ∀ N : List Nat, (boxL N).length = prodL N
  | [] => rfl
  | n :: N => by
    have h : ∀ k : Nat, ((List.range k).flatMap fun (v : Nat) => (boxL N).map fun c => (v : Int) :: c).length = k * prodL N := fun k => by
      induction k with
      | zero => simp
      | succ k ih => rw [List.range_succ, List.flatMap_append, List.length_append, ih]; simp [boxL_len N, Nat.add_mul]
    exact h (n + 1)
theorem mem_boxL : ∀ {N : List Nat} {c : List Int}, c ∈ boxL N ↔ c.length = N.length ∧ ∀ p, p < N.length → 0 ≤ c.getD p 0 ∧ c.getD p 0 ≤ N.getD p 0
  | [], c => by
    show c ∈ [[]] ↔ _
    rw [List.mem_singleton]
    constructor
    · rintro rfl
      exact ⟨rfl, fun p hp => absurd hp (Nat.not_lt_zero _)⟩
    · rintro ⟨h, _⟩
      exact List.eq_nil_of_length_eq_zero h
  | n :: N, c => by
    show c ∈ (List.range (n + 1)).flatMap (fun (v : Nat) => (boxL N).map fun c => (v : Int) :: c) ↔ _
    rw [List.mem_flatMap]
    constructor
    · rintro ⟨v, hv, hc⟩
      rw [List.mem_range] at hv
      obtain ⟨c', hc', rfl⟩ := List.mem_map.1 hc
      obtain ⟨h1, h2⟩ := mem_boxL.1 hc'
      refine ⟨by simp [h1], fun p hp => ?_⟩
      cases p with
      | zero => simp; omega
      | succ p => simpa using h2 p (by simpa using hp)
    · rintro ⟨h1, h2⟩
      match c, h1 with
      | x :: c', h1 =>
        have h0 := h2 0 (by simp)
        simp at h0
        refine ⟨x.toNat, List.mem_range.2 (by omega), List.mem_map.2 ⟨c', mem_boxL.2 ⟨by simpa using h1, fun p hp => ?_⟩, by simp; omega⟩⟩
        simpa using h2 (p + 1) (by simpa using hp)
theorem nodup_boxL : ∀ N : List Nat, (boxL N).Nodup
  | [] => by simp [boxL]
  | n :: N => by
    have h : ∀ k : Nat, ((List.range k).flatMap fun (v : Nat) => (boxL N).map fun c => (v : Int) :: c).Nodup := fun k => by
      induction k with
      | zero => simp
      | succ k ih =>
        rw [List.range_succ, List.flatMap_append, List.nodup_append]
        refine ⟨ih, ?_, fun a ha b hb e => ?_⟩
        · simp only [List.flatMap_cons, List.flatMap_nil, List.append_nil]
          exact List.Pairwise.map _ (fun a b hab e => hab (by injection e)) (nodup_boxL N)
        · obtain ⟨v, hv, ha⟩ := List.mem_flatMap.1 ha
          obtain ⟨u, hu, hb⟩ := List.mem_flatMap.1 hb
          rw [List.mem_range] at hv
          rw [List.mem_singleton] at hu
          obtain ⟨a', _, rfl⟩ := List.mem_map.1 ha
          obtain ⟨b', _, rfl⟩ := List.mem_map.1 hb
          injection e with e _
          omega
    exact h (n + 1)
theorem prodL_le : ∀ N : List Nat, prodL N ≤ 2 ^ sumL N
  | [] => Nat.le_refl _
  | n :: N => by
    show (n + 1) * prodL N ≤ 2 ^ (n + sumL N)
    rw [Nat.pow_add]
    exact Nat.mul_le_mul Nat.lt_two_pow_self (prodL_le N)
end Go.Bf
