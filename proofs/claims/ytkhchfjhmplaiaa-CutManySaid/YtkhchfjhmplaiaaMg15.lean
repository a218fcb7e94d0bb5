/- Texts laid together: H42 R7 R9 R12 R14. -/
import Derived.Test.YtkhchfjhmplaiaaMg14
import Derived.Deep.CutBlock
import Derived.Shelf.Bytes.SlEqualAll
import Derived.Below
import Derived.WalkKit
import Derived.Deep.AppendLies
import Derived.Laws.AppendOwnNone
import Derived.Deep.WholeRow
/- CutMany: grown. -/
namespace Go
open Go.RowKit
end Go
namespace Go.Proofs.Ytkhchfjhmplaiaa
open Go.RowKit
theorem size76 : (Try.prog.info? 76).map (·.size) = some 8 := by kernel_rfl
set_option maxRecDepth 100000 in
set_option maxHeartbeats 8000000 in
theorem grown59_any {x0 x1 x2 x3 x4 x5 x6 x7 : Int} {B H S T n : Nat} {h : List Ln} {V : Nat → Value} {w : World} (hs : HstE w B H S T n h V) (hn : h.length = n) (hk : HOk h) (hc : CutOk h [x0, x1, x2, x3, x4, x5, x6, x7]) {i : Nat} (hi : i < 8) :
    Calls Try.prog 59 #[.pointer (some ⟨H, 0, none⟩), .agg #[.int .i64 x0, .int .i64 x1, .int .i64 x2, .int .i64 x3, .int .i64 x4, .int .i64 x5, .int .i64 x6, .int .i64 x7], .int .i64 i] w fun e w' => Keep [] w w' ∧ ((nxC h i [x0, x1, x2, x3, x4, x5, x6, x7] = none ∧ e = .returned (.tuple #[aggI [x0, x1, x2, x3, x4, x5, x6, x7], .bool false])) ∨ ∃ C', nxC h i [x0, x1, x2, x3, x4, x5, x6, x7] = some C' ∧ e = .returned (.tuple #[aggI C', .bool true])) := by
  obtain ⟨xs, hrow, hxe⟩ := hs.row i hi
  rw [hxe] at hrow
  unfold evC at hrow
  obtain ⟨ap, cp, hV, hlv, -⟩ := LnsV.ofOwn hrow
  have hkA : Keep [] w ((w.alloc (.cells #[.int .i64 x0, .int .i64 x1, .int .i64 x2, .int .i64 x3, .int .i64 x4, .int .i64 x5, .int .i64 x6, .int .i64 x7] 76)).alloc (.cells #[.int .i64 0, .int .i64 0, .int .i64 0, .int .i64 0, .int .i64 0, .int .i64 0, .int .i64 0, .int .i64 0] 76)) := ((Keep.refl [] w).alloc _).alloc _
  have hA := ((Keep.refl [] (w.alloc (.cells #[.int .i64 x0, .int .i64 x1, .int .i64 x2, .int .i64 x3, .int .i64 x4, .int .i64 x5, .int .i64 x6, .int .i64 x7] 76))).alloc (.cells #[.int .i64 0, .int .i64 0, .int .i64 0, .int .i64 0, .int .i64 0, .int .i64 0, .int .i64 0, .int .i64 0] 76)).at (blk_new w (.cells #[.int .i64 x0, .int .i64 x1, .int .i64 x2, .int .i64 x3, .int .i64 x4, .int .i64 x5, .int .i64 x6, .int .i64 x7] 76)) (by simp)
  have hci := box8 hA hi
  obtain ⟨y0, hy0⟩ : ∃ y, [x0, x1, x2, x3, x4, x5, x6, x7].getD i 0 = y := ⟨_, rfl⟩
  have hb := hc.bd i hi
  rw [hy0] at hb hci
  obtain ⟨y, rfl⟩ : ∃ y : Nat, y0 = y := ⟨y0.toNat, by omega⟩
  obtain ⟨m, hm⟩ : ∃ m, rk (plQ h i) n = m := ⟨_, rfl⟩
  rw [hn] at hb
  rw [hm] at hlv hV hb
  have hcH := hkA.cell (hs.cell hi) (by simp)
  rw [hV] at hcH
  have HY := Lib.hid hy0
  have HM := Lib.hid hm
  have HS := Lib.hid hs
  have HK := Lib.hid hk
  have HN := Lib.hid hn
  have HLV := Lib.hid hlv
  have HKA := Lib.hid hkA
  have hi8 : i = 0 ∨ i = 1 ∨ i = 2 ∨ i = 3 ∨ i = 4 ∨ i = 5 ∨ i = 6 ∨ i = 7 := by omega
  have hmc := hlv.room
  have hmc2 := hlv.most
  rw [show maxLen = 9223372036854775807 from rfl] at hmc2
  clear hV hrow hxe hy0 hm hs hk hc hlv hkA
  obtain ⟨r0, r1, r2, r3, r4, r5, r6, r7⟩ := row8 hA
  by_cases hfull : y = m
  · have HNX : Hid (nxC h i [x0, x1, x2, x3, x4, x5, x6, x7] = none) := Lib.hid (by
      unfold nxC
      rw [HY.out, evIx_none (by rw [HN.out, HM.out]; omega)])
    have hbe : ((y : Int) == (m : Int)) = true := by simp [hfull]
    clear hfull hA
    go_enter Try.func59, Try.ntmps59
    go_wp2_with (first | (with_reducible refine Txt.wp_region_text mixed quiet (by decide +kernel) ?_) | (with_reducible refine Txt.text_done (by kernel_rfl) ?_))
    refine bodyPost_ret (results_cell2 Try.results59 rfl (run_loadVar_at _ ⟨w.heap.size + 1, 0, none⟩ 76 [.int .i64 x0, .int .i64 x1, .int .i64 x2, .int .i64 x3, .int .i64 x4, .int .i64 x5, .int .i64 x6, .int .i64 x7] _ (cells_new2 w _ [.int .i64 x0, .int .i64 x1, .int .i64 x2, .int .i64 x3, .int .i64 x4, .int .i64 x5, .int .i64 x6, .int .i64 x7] 76) Try.underlying76 rfl (by kernel_rfl))) rfl ⟨by repeat (first | exact Keep.refl _ _ | apply Keep.drew | apply Keep.alloc), .inl ⟨HNX.out, rfl⟩⟩
  · have hym : y < m := by omega
    have hbe : ((y : Int) == (m : Int)) = false := by rw [beq_eq_false_iff_ne]; omega
    have hym2 : (y : Int) < (m : Int) := by omega
    obtain ⟨k, hkl, hkp, hkr, hke⟩ := pick_at (P := plQ h i) (f := lat h) (m := n) (n := y) (by rw [HM.out]; exact hym)
    obtain ⟨eb, eo, rfl, e0, e1, e2⟩ := (HLV.out.keep HKA.out (by simp)).at_ hym
    have hlat : lat (pick (plQ h i) (lat h) n) y = lat h k := by
      rw [lat, List.getD_eq_getElem?_getD, hke]; rfl
    rw [hlat] at e0 e1 e2
    have hev := HK.out.ev k (by rw [HN.out]; exact hkl)
    have HIX : Hid (nxC h i [x0, x1, x2, x3, x4, x5, x6, x7] = if (decide ((lat h k).g = 3) && !(sendOf h k).elim false (inC h [x0, x1, x2, x3, x4, x5, x6, x7])) = true then none else some ([x0, x1, x2, x3, x4, x5, x6, x7].set i ((y : Int) + 1))) := Lib.hid (by
      unfold nxC
      rw [HY.out, show (y : Int).toNat = rk (plQ h i) k by rw [hkr]; omega, evIx_some (by rw [HN.out]; exact hkl) hkp])
    clear hlat hke hfull
    by_cases hg : (lat h k).g = 3
    · obtain ⟨j, hsj, hjk, hgj, huj⟩ := sendOf_some HK.out (by rw [HN.out]; exact hkl) hg
      obtain ⟨p2, hp2, hp28, hsp⟩ := spot_nat HK.out (j := j) (by rw [HN.out]; omega)
      have hsg := send_get HK.out hsj
      rw [HN.out, hsp] at hsg
      obtain ⟨A, hA1⟩ : ∃ A, decide ((posN h j : Int) < [x0, x1, x2, x3, x4, x5, x6, x7].getD p2 0) = A := ⟨_, rfl⟩
      have HA1 := Lib.hid hA1
      have hin : inC h [x0, x1, x2, x3, x4, x5, x6, x7] j = A := by rw [← hA1]; unfold inC; rw [hp2]; rfl
      rw [hsj] at HIX
      have HIX2 : Hid (nxC h i [x0, x1, x2, x3, x4, x5, x6, x7] = if (!A) = true then none else some ([x0, x1, x2, x3, x4, x5, x6, x7].set i ((y : Int) + 1))) := Lib.hid (by rw [HIX.out, decide_eq_true hg, Bool.true_and]; show (if (!(inC h [x0, x1, x2, x3, x4, x5, x6, x7] j)) = true then _ else _) = _; rw [hin])
      obtain ⟨⟨eq, eg, eu⟩, hE⟩ : ∃ E, lat h k = E := ⟨_, rfl⟩
      rw [hE] at e0 e1 e2 hg hev hsg
      simp only at e0 e1 e2 hg hev hsg
      subst hg
      have hkB : Keep [] w ((((w.alloc (.cells #[.int .i64 x0, .int .i64 x1, .int .i64 x2, .int .i64 x3, .int .i64 x4, .int .i64 x5, .int .i64 x6, .int .i64 x7] 76)).alloc (.cells #[.int .i64 0, .int .i64 0, .int .i64 0, .int .i64 0, .int .i64 0, .int .i64 0, .int .i64 0, .int .i64 0] 76)).alloc (.cells #[.int .i64 eq, .int .i64 3, .int .i64 eu] 27)).drew) := (HKA.out.alloc _).drew
      have hlk := lookup_run Try.underlying110 Try.underlying3 (zero89 _) (HS.out.snd.keep hkB (by simp)) (wf_msg hev.2.2.2.2.1 hev.2.2.2.2.2) hsg
      have hcS := hkB.cell HS.out.cellS.1 (by simp)
      have hboxB := (((Keep.refl [] ((w.alloc (.cells #[.int .i64 x0, .int .i64 x1, .int .i64 x2, .int .i64 x3, .int .i64 x4, .int .i64 x5, .int .i64 x6, .int .i64 x7] 76)).alloc (.cells #[.int .i64 0, .int .i64 0, .int .i64 0, .int .i64 0, .int .i64 0, .int .i64 0, .int .i64 0, .int .i64 0] 76))).alloc (.cells #[.int .i64 eq, .int .i64 3, .int .i64 eu] 27)).drew).at hA (by simp)
      have houtB := (((Keep.refl [] ((w.alloc (.cells #[.int .i64 x0, .int .i64 x1, .int .i64 x2, .int .i64 x3, .int .i64 x4, .int .i64 x5, .int .i64 x6, .int .i64 x7] 76)).alloc (.cells #[.int .i64 0, .int .i64 0, .int .i64 0, .int .i64 0, .int .i64 0, .int .i64 0, .int .i64 0, .int .i64 0] 76))).alloc (.cells #[.int .i64 eq, .int .i64 3, .int .i64 eu] 27)).drew).at (o := .cells #[.int .i64 0, .int .i64 0, .int .i64 0, .int .i64 0, .int .i64 0, .int .i64 0, .int .i64 0, .int .i64 0] 76) (k := w.heap.size + 1) (by have h9 := blk_new (w.alloc (.cells #[.int .i64 x0, .int .i64 x1, .int .i64 x2, .int .i64 x3, .int .i64 x4, .int .i64 x5, .int .i64 x6, .int .i64 x7] 76)) (.cells #[.int .i64 0, .int .i64 0, .int .i64 0, .int .i64 0, .int .i64 0, .int .i64 0, .int .i64 0, .int .i64 0] 76); rw [show (w.alloc (.cells #[.int .i64 x0, .int .i64 x1, .int .i64 x2, .int .i64 x3, .int .i64 x4, .int .i64 x5, .int .i64 x6, .int .i64 x7] 76)).heap.size = w.heap.size + 1 by simp] at h9; exact h9) (by simp)
      have HBB := Lib.hid hboxB
      have HOB := Lib.hid houtB
      have HKB := Lib.hid hkB
      have hsz : w.heap.size ≤ w.heap.size + 1 := by omega
      clear hE hkp hkr hev hsj hjk hgj huj hp2 hsp hsg hA1 hin HIX hkB hboxB houtB
      clear hA
      cases A with
      | false =>
        have HNX : Hid (nxC h i [x0, x1, x2, x3, x4, x5, x6, x7] = none) := Lib.hid (by rw [HIX2.out]; rfl)
        go_enter Try.func59, Try.ntmps59
        go_upto_region 6 with (first | (with_reducible refine Txt.wp_region_text mixed quiet (by decide +kernel) ?_) | (with_reducible refine Txt.text_done (by kernel_rfl) ?_) | (go_at_call 81; (with_reducible refine (has81_at hp28 HA1).mono ?_); rintro e w4 ⟨rfl, hk4⟩; have HK4 := Lib.hid hk4; clear hk4))
        have HL := Lib.hid (show w4.heap[w.heap.size]? = some (.cells ([x0, x1, x2, x3, x4, x5, x6, x7].map (Value.int .i64)).toArray 76 (0, 0)) from HK4.out.at HBB.out (by simp))
        have HLR := Lib.hid (show w4.heap[w.heap.size + 1]? = some (.cells ([0, 0, 0, 0, 0, 0, 0, 0].map (Value.int .i64)).toArray 76 (0, 0)) from HK4.out.at HOB.out (by simp))
        have HKE := Lib.hid (HKB.out.trans HK4.out)
        clear hsz
        obtain ⟨t, ht, ht2⟩ : ∃ t : List Int, [x0, x1, x2, x3, x4, x5, x6, x7] = t ∧ t = [x0, x1, x2, x3, x4, x5, x6, x7] := ⟨_, rfl, rfl⟩
        have htl : t.length = 8 := by rw [ht2]; rfl
        have HL2 := Lib.hid (show w4.heap[w.heap.size]? = some (.cells (t.map (Value.int .i64)).toArray 76 (0, 0)) from ht2 ▸ HL.out)
        have HLR2 := HLR
        have HKE2 := HKE
        have HT := Lib.hid ht2
        clear HL HLR HKE ht ht2
        have HIT : Hid ((Try.prog.info? 76).map (·.size) = some (t.map (Value.int .i64)).toArray.size) := Lib.hid (by rw [size76]; simp [htl])
        have HZT : Hid ((([0, 0, 0, 0, 0, 0, 0, 0] : List Int).map (Value.int .i64)).toArray.size = (t.map (Value.int .i64)).toArray.size) := Lib.hid (by simp [htl])
        have HOT := Lib.hid (ints_one t)
        clear htl
        go_wp2_with (first | (with_reducible refine wpList_load_row rfl 76 _ rfl w.heap.size rfl 76 _ (0, 0) _ HL2.out Try.underlying76 rfl HIT.out ?_) | (with_reducible refine wpList_store_row rfl 76 _ _ rfl (w.heap.size + 1) _ rfl rfl 76 _ HLR2.out HIT.out HZT.out HOT.out ?_))
        refine bodyPost_ret (results_cell2 Try.results59 rfl (run_loadVar_row _ (w.heap.size + 1) 76 76 (t.map (Value.int .i64)).toArray (0, 0) _ (setRow_heap _ _ _ _ 76 _ HLR2.out) Try.underlying76 rfl HIT.out)) rfl ⟨HKE2.out.call (keep_setRow _ _ _) (by simp), .inl ⟨HNX.out, by rw [HT.out]; rfl⟩⟩
      | true =>
        have HNX : Hid (nxC h i [x0, x1, x2, x3, x4, x5, x6, x7] = some ([x0, x1, x2, x3, x4, x5, x6, x7].set i ((y : Int) + 1))) := Lib.hid (by rw [HIX2.out]; rfl)
        go_enter Try.func59, Try.ntmps59
        go_upto_region 7 with (first | (with_reducible refine Txt.wp_region_text mixed quiet (by decide +kernel) ?_) | (with_reducible refine Txt.text_done (by kernel_rfl) ?_) | (go_at_call 81; (with_reducible refine (has81_at hp28 HA1).mono ?_); rintro e w4 ⟨rfl, hk4⟩; have HK4 := Lib.hid hk4; clear hk4))
        have HL := Lib.hid (show w4.heap[w.heap.size]? = some (.cells ([x0, x1, x2, x3, x4, x5, x6, x7].map (Value.int .i64)).toArray 76 (0, 0)) from HK4.out.at HBB.out (by simp))
        have HLR := Lib.hid (show w4.heap[w.heap.size + 1]? = some (.cells ([0, 0, 0, 0, 0, 0, 0, 0].map (Value.int .i64)).toArray 76 (0, 0)) from HK4.out.at HOB.out (by simp))
        have HKE := Lib.hid (HKB.out.trans HK4.out)
        clear hsz
        have hcy := hci
        obtain ⟨t, ht⟩ : ∃ t : List Int, [x0, x1, x2, x3, x4, x5, x6, x7].set i ((y : Int) + 1) = t := ⟨_, rfl⟩
        have htl : t.length = 8 := by rw [← ht]; simp
        rw [ht] at HNX
        have HL2 := Lib.hid (show (w4.setCell ⟨w.heap.size, i, none⟩ (.int .i64 ((y : Int) + 1))).heap[w.heap.size]? = some (.cells (t.map (Value.int .i64)).toArray 76 (0, 0)) from ht ▸ ArrAt.put (show ArrAt 76 w4 w.heap.size [x0, x1, x2, x3, x4, x5, x6, x7] from HL.out) i ((y : Int) + 1))
        have HLR2 := Lib.hid (show (w4.setCell ⟨w.heap.size, i, none⟩ (.int .i64 ((y : Int) + 1))).heap[w.heap.size + 1]? = some (.cells ([0, 0, 0, 0, 0, 0, 0, 0].map (Value.int .i64)).toArray 76 (0, 0)) from ArrAt.other (show ArrAt 76 w4 (w.heap.size + 1) [0, 0, 0, 0, 0, 0, 0, 0] from HLR.out) (by omega) _)
        have HKE2 := Lib.hid (show Keep [] w (w4.setCell ⟨w.heap.size, i, none⟩ (.int .i64 ((y : Int) + 1))) from HKE.out.setCell (.inr (Nat.le_refl _)) _)
        have hc4 := ArrAt.cell (show ArrAt 76 w4 w.heap.size [x0, x1, x2, x3, x4, x5, x6, x7] from HL.out) (i := i) (by simpa using hi)
        rw [HY.out] at hc4
        have hz4 := thaw HL.out
        clear HL HLR HKE ht
        have HIT : Hid ((Try.prog.info? 76).map (·.size) = some (t.map (Value.int .i64)).toArray.size) := Lib.hid (by rw [size76]; simp [htl])
        have HZT : Hid ((([0, 0, 0, 0, 0, 0, 0, 0] : List Int).map (Value.int .i64)).toArray.size = (t.map (Value.int .i64)).toArray.size) := Lib.hid (by simp [htl])
        have HOT := Lib.hid (ints_one t)
        clear htl
        go_wp2_with (first | (with_reducible refine wpList_load_row rfl 76 _ rfl w.heap.size rfl 76 _ (0, 0) _ HL2.out Try.underlying76 rfl HIT.out ?_) | (with_reducible refine wpList_store_row rfl 76 _ _ rfl (w.heap.size + 1) _ rfl rfl 76 _ HLR2.out HIT.out HZT.out HOT.out ?_))
        refine bodyPost_ret (results_cell2 Try.results59 rfl (run_loadVar_row _ (w.heap.size + 1) 76 76 (t.map (Value.int .i64)).toArray (0, 0) _ (setRow_heap _ _ _ _ 76 _ HLR2.out) Try.underlying76 rfl HIT.out)) rfl ⟨HKE2.out.call (keep_setRow _ _ _) (by simp), .inr ⟨_, HNX.out, rfl⟩⟩
    · obtain ⟨⟨eq, eg, eu⟩, hE⟩ : ∃ E, lat h k = E := ⟨_, rfl⟩
      rw [hE] at e0 e1 e2 HIX hg hev
      simp only at e0 e1 e2 HIX hg hev
      have HNX : Hid (nxC h i [x0, x1, x2, x3, x4, x5, x6, x7] = some ([x0, x1, x2, x3, x4, x5, x6, x7].set i ((y : Int) + 1))) := Lib.hid (by rw [HIX.out, if_neg]; rw [decide_eq_false hg]; simp)
      have hge : (eg == 3) = false := by rw [beq_eq_false_iff_ne]; exact hg
      clear hE hkp hkr hev hg
      go_enter Try.func59, Try.ntmps59
      go_upto_region 7 with (first | (with_reducible refine Txt.wp_region_text mixed quiet (by decide +kernel) ?_) | (with_reducible refine Txt.text_done (by kernel_rfl) ?_))
      have HKF := Lib.hid (Keep.refl [] w)
      obtain rfl | rfl | rfl | rfl | rfl | rfl | rfl | rfl := hi8
      · obtain rfl : x0 = (y : Int) := HY.out
        go_wp2_with (first | (with_reducible refine Txt.wp_region_text mixed quiet (by decide +kernel) ?_) | (with_reducible refine Txt.text_done (by kernel_rfl) ?_))
        refine bodyPost_ret (results_cell2 Try.results59 rfl (run_loadVar_at _ ⟨w.heap.size + 1, 0, none⟩ 76 [(.int .i64 ((y : Int) + 1)), (.int .i64 x1), (.int .i64 x2), (.int .i64 x3), (.int .i64 x4), (.int .i64 x5), (.int .i64 x6), (.int .i64 x7)] _ (fun j u hj => (((Keep.refl [] _).alloc _).drew).cell (cells_new2 w _ [(.int .i64 ((y : Int) + 1)), (.int .i64 x1), (.int .i64 x2), (.int .i64 x3), (.int .i64 x4), (.int .i64 x5), (.int .i64 x6), (.int .i64 x7)] 76 j u hj) (by simp)) Try.underlying76 rfl (by kernel_rfl))) rfl ⟨by repeat (first | exact Keep.refl _ _ | apply Keep.drew | apply Keep.alloc), .inr ⟨_, HNX.out, rfl⟩⟩
      · obtain rfl : x1 = (y : Int) := HY.out
        go_wp2_with (first | (with_reducible refine Txt.wp_region_text mixed quiet (by decide +kernel) ?_) | (with_reducible refine Txt.text_done (by kernel_rfl) ?_))
        refine bodyPost_ret (results_cell2 Try.results59 rfl (run_loadVar_at _ ⟨w.heap.size + 1, 0, none⟩ 76 [(.int .i64 x0), (.int .i64 ((y : Int) + 1)), (.int .i64 x2), (.int .i64 x3), (.int .i64 x4), (.int .i64 x5), (.int .i64 x6), (.int .i64 x7)] _ (fun j u hj => (((Keep.refl [] _).alloc _).drew).cell (cells_new2 w _ [(.int .i64 x0), (.int .i64 ((y : Int) + 1)), (.int .i64 x2), (.int .i64 x3), (.int .i64 x4), (.int .i64 x5), (.int .i64 x6), (.int .i64 x7)] 76 j u hj) (by simp)) Try.underlying76 rfl (by kernel_rfl))) rfl ⟨by repeat (first | exact Keep.refl _ _ | apply Keep.drew | apply Keep.alloc), .inr ⟨_, HNX.out, rfl⟩⟩
      · obtain rfl : x2 = (y : Int) := HY.out
        go_wp2_with (first | (with_reducible refine Txt.wp_region_text mixed quiet (by decide +kernel) ?_) | (with_reducible refine Txt.text_done (by kernel_rfl) ?_))
        refine bodyPost_ret (results_cell2 Try.results59 rfl (run_loadVar_at _ ⟨w.heap.size + 1, 0, none⟩ 76 [(.int .i64 x0), (.int .i64 x1), (.int .i64 ((y : Int) + 1)), (.int .i64 x3), (.int .i64 x4), (.int .i64 x5), (.int .i64 x6), (.int .i64 x7)] _ (fun j u hj => (((Keep.refl [] _).alloc _).drew).cell (cells_new2 w _ [(.int .i64 x0), (.int .i64 x1), (.int .i64 ((y : Int) + 1)), (.int .i64 x3), (.int .i64 x4), (.int .i64 x5), (.int .i64 x6), (.int .i64 x7)] 76 j u hj) (by simp)) Try.underlying76 rfl (by kernel_rfl))) rfl ⟨by repeat (first | exact Keep.refl _ _ | apply Keep.drew | apply Keep.alloc), .inr ⟨_, HNX.out, rfl⟩⟩
      · obtain rfl : x3 = (y : Int) := HY.out
        go_wp2_with (first | (with_reducible refine Txt.wp_region_text mixed quiet (by decide +kernel) ?_) | (with_reducible refine Txt.text_done (by kernel_rfl) ?_))
        refine bodyPost_ret (results_cell2 Try.results59 rfl (run_loadVar_at _ ⟨w.heap.size + 1, 0, none⟩ 76 [(.int .i64 x0), (.int .i64 x1), (.int .i64 x2), (.int .i64 ((y : Int) + 1)), (.int .i64 x4), (.int .i64 x5), (.int .i64 x6), (.int .i64 x7)] _ (fun j u hj => (((Keep.refl [] _).alloc _).drew).cell (cells_new2 w _ [(.int .i64 x0), (.int .i64 x1), (.int .i64 x2), (.int .i64 ((y : Int) + 1)), (.int .i64 x4), (.int .i64 x5), (.int .i64 x6), (.int .i64 x7)] 76 j u hj) (by simp)) Try.underlying76 rfl (by kernel_rfl))) rfl ⟨by repeat (first | exact Keep.refl _ _ | apply Keep.drew | apply Keep.alloc), .inr ⟨_, HNX.out, rfl⟩⟩
      · obtain rfl : x4 = (y : Int) := HY.out
        go_wp2_with (first | (with_reducible refine Txt.wp_region_text mixed quiet (by decide +kernel) ?_) | (with_reducible refine Txt.text_done (by kernel_rfl) ?_))
        refine bodyPost_ret (results_cell2 Try.results59 rfl (run_loadVar_at _ ⟨w.heap.size + 1, 0, none⟩ 76 [(.int .i64 x0), (.int .i64 x1), (.int .i64 x2), (.int .i64 x3), (.int .i64 ((y : Int) + 1)), (.int .i64 x5), (.int .i64 x6), (.int .i64 x7)] _ (fun j u hj => (((Keep.refl [] _).alloc _).drew).cell (cells_new2 w _ [(.int .i64 x0), (.int .i64 x1), (.int .i64 x2), (.int .i64 x3), (.int .i64 ((y : Int) + 1)), (.int .i64 x5), (.int .i64 x6), (.int .i64 x7)] 76 j u hj) (by simp)) Try.underlying76 rfl (by kernel_rfl))) rfl ⟨by repeat (first | exact Keep.refl _ _ | apply Keep.drew | apply Keep.alloc), .inr ⟨_, HNX.out, rfl⟩⟩
      · obtain rfl : x5 = (y : Int) := HY.out
        go_wp2_with (first | (with_reducible refine Txt.wp_region_text mixed quiet (by decide +kernel) ?_) | (with_reducible refine Txt.text_done (by kernel_rfl) ?_))
        refine bodyPost_ret (results_cell2 Try.results59 rfl (run_loadVar_at _ ⟨w.heap.size + 1, 0, none⟩ 76 [(.int .i64 x0), (.int .i64 x1), (.int .i64 x2), (.int .i64 x3), (.int .i64 x4), (.int .i64 ((y : Int) + 1)), (.int .i64 x6), (.int .i64 x7)] _ (fun j u hj => (((Keep.refl [] _).alloc _).drew).cell (cells_new2 w _ [(.int .i64 x0), (.int .i64 x1), (.int .i64 x2), (.int .i64 x3), (.int .i64 x4), (.int .i64 ((y : Int) + 1)), (.int .i64 x6), (.int .i64 x7)] 76 j u hj) (by simp)) Try.underlying76 rfl (by kernel_rfl))) rfl ⟨by repeat (first | exact Keep.refl _ _ | apply Keep.drew | apply Keep.alloc), .inr ⟨_, HNX.out, rfl⟩⟩
      · obtain rfl : x6 = (y : Int) := HY.out
        go_wp2_with (first | (with_reducible refine Txt.wp_region_text mixed quiet (by decide +kernel) ?_) | (with_reducible refine Txt.text_done (by kernel_rfl) ?_))
        refine bodyPost_ret (results_cell2 Try.results59 rfl (run_loadVar_at _ ⟨w.heap.size + 1, 0, none⟩ 76 [(.int .i64 x0), (.int .i64 x1), (.int .i64 x2), (.int .i64 x3), (.int .i64 x4), (.int .i64 x5), (.int .i64 ((y : Int) + 1)), (.int .i64 x7)] _ (fun j u hj => (((Keep.refl [] _).alloc _).drew).cell (cells_new2 w _ [(.int .i64 x0), (.int .i64 x1), (.int .i64 x2), (.int .i64 x3), (.int .i64 x4), (.int .i64 x5), (.int .i64 ((y : Int) + 1)), (.int .i64 x7)] 76 j u hj) (by simp)) Try.underlying76 rfl (by kernel_rfl))) rfl ⟨by repeat (first | exact Keep.refl _ _ | apply Keep.drew | apply Keep.alloc), .inr ⟨_, HNX.out, rfl⟩⟩
      · obtain rfl : x7 = (y : Int) := HY.out
        go_wp2_with (first | (with_reducible refine Txt.wp_region_text mixed quiet (by decide +kernel) ?_) | (with_reducible refine Txt.text_done (by kernel_rfl) ?_))
        refine bodyPost_ret (results_cell2 Try.results59 rfl (run_loadVar_at _ ⟨w.heap.size + 1, 0, none⟩ 76 [(.int .i64 x0), (.int .i64 x1), (.int .i64 x2), (.int .i64 x3), (.int .i64 x4), (.int .i64 x5), (.int .i64 x6), (.int .i64 ((y : Int) + 1))] _ (fun j u hj => (((Keep.refl [] _).alloc _).drew).cell (cells_new2 w _ [(.int .i64 x0), (.int .i64 x1), (.int .i64 x2), (.int .i64 x3), (.int .i64 x4), (.int .i64 x5), (.int .i64 x6), (.int .i64 ((y : Int) + 1))] 76 j u hj) (by simp)) Try.underlying76 rfl (by kernel_rfl))) rfl ⟨by repeat (first | exact Keep.refl _ _ | apply Keep.drew | apply Keep.alloc), .inr ⟨_, HNX.out, rfl⟩⟩
end Go.Proofs.Ytkhchfjhmplaiaa
namespace Go
open Go.ChangeShapes Go.WideShapes Go.ChangeAt Go.RowKit Go.Deep
/-- A slice of bytes in memory. -/
structure BytesV (w : World) (a : Option Addr) (n c : Nat) (bs : List Int) : Prop where
  len : bs.length = n
  room : n ≤ c
  most : c ≤ maxLen
  wf : ∀ z ∈ bs, 0 ≤ z ∧ z < 256
  cells : Lib.BytesIn w a n bs
  onNil : a = none → c = 0
theorem byte_wf {z : Int} (h : (Lit.int .u8 z).wf = true) : 0 ≤ z ∧ z < 256 := by
  have h2 : IntKind.u8.min = 0 := by decide
  have h3 : IntKind.u8.max = 255 := by decide
  simp [Lit.wf, h2, h3] at h
  omega
theorem BytesV.keep {S : List Nat} {w w' : World} {a : Option Addr} {n c : Nat} {bs : List Int} (h : BytesV w a n c bs) (hk : Keep S w w') (hS : ∀ x, a = some x → x.block ∉ S) : BytesV w' a n c bs :=
  ⟨h.len, h.room, h.most, h.wf, fun hn =>
    let ⟨b, o, h1, h2⟩ := h.cells hn
    ⟨b, o, h1, fun i hi => hk.cell (h2 i hi) (hS ⟨b, o, none⟩ h1)⟩, h.onNil⟩
section
variable {H : Type} {enc : TypeId × Value → H} {P : Program} {W : World}
theorem BytesV.empty (W : World) : BytesV W none 0 0 [] := ⟨rfl, Nat.le_refl _, Nat.zero_le _, by simp, Lib.BytesIn.nil _ _ _, fun _ => rfl⟩
theorem BytesV.ofRow {x : Addr} {n c : Nat} {zs : List Int} (hl : n ≤ c) (hm : c ≤ maxLen) (hz : zs.length = c) (hc : ∀ i, i < zs.length → W.cell? (x.add i) = some (.int .u8 (zs.getD i 0))) (hw : ∀ z ∈ zs, (Lit.int .u8 z).wf = true) :
    BytesV W (some x) n c (zs.take n) := by
  refine ⟨by simp; omega, hl, hm, fun z hz => byte_wf (hw z (List.mem_of_mem_take hz)), fun hn => ?_, fun h => by cases h⟩
  obtain ⟨b, off, spot⟩ := x
  have hspot : spot = none := by simpa [Addr.add] using World.cell?_spot (hc 0 (by omega))
  subst hspot
  refine ⟨b, off, rfl, fun i hi => ?_⟩
  have := hc i (by omega)
  rw [add_plain] at this
  rw [this]
  congr 2
  simp [List.getD_eq_getElem?_getD, hi]
theorem bytes_of {t e : TypeId} {a : Option Addr} {n c : Nat} {d : DataW H} {ps : List MemPlace} (ht : P.underlying t = some (.slice e)) (he : P.underlying e = some (.int .u8)) (ce : P.cellsOf e = 1)
    (h : DataW.Trod enc P W 0 (fun _ => true) true t (.slice a n c) d ps) : ∃ bs, BytesV W a n c bs := by
  obtain ⟨fuel, hf⟩ := h
  rcases open_ints ht he ce hf with ⟨hcs, _⟩ | ⟨x, l, c', zs, hcs, _, hl, hm, hz, _, hcell, hwz⟩
  · simp [Value.cells] at hcs
    obtain ⟨rfl, rfl, rfl⟩ := hcs
    exact ⟨[], BytesV.empty W⟩
  · simp [Value.cells] at hcs
    obtain ⟨rfl, rfl, rfl⟩ := hcs
    exact ⟨_, BytesV.ofRow hl hm (by simpa using hz) hcell hwz⟩
theorem bytes_room {ts : List TypeId} {ds : List (DataW H)} {j : Nat} {t e : TypeId} {a : Option Addr} {n c : Nat} {d : DataW H} {ps : List MemPlace} (ht : P.underlying t = some (.slice e)) (he : P.underlying e = some (.int .u8)) (ce : P.cellsOf e = 1) (be : P.bytesOf e = 1)
    (hs : (DataW.weightsEach P ts ds).all (· ≤ reachBytes) = true) (htj : ts[j]? = some t) (hdj : ds[j]? = some d)
    (h : DataW.Trod enc P W 0 (fun _ => true) true t (.slice a n c) d ps) : n ≤ 140737488351232 := by
  obtain ⟨fuel, hf⟩ := h
  rcases open_ints ht he ce hf with ⟨hcs, _⟩ | ⟨x, l, c', zs, hcs, _, hl, hm, hz, hx, hcell, hwz⟩
  · simp [Value.cells] at hcs
    omega
  · simp [Value.cells] at hcs
    obtain ⟨rfl, rfl, rfl⟩ := hcs
    simp only [Prod.mk.injEq] at hx
    obtain ⟨rfl, _⟩ := hx
    have := sized_slice hs htj hdj ht
    rw [be] at this
    simp only [lits, List.length_map, List.length_take, List.length_drop, reachBytes] at this
    simp only [if_true] at hz
    omega
end
end Go
/- Rows of bytes, as an argument. -/
namespace Go
open Go.ChangeShapes Go.WideShapes Go.ChangeAt Go.RowKit Go.Deep
/-- A slice of slices of bytes. -/
structure BRowsV (w : World) (a : Option Addr) (n c : Nat) (A : Nat → Option Addr) (L C : Nat → Nat) (Z : Nat → List Int) : Prop where
  room : n ≤ c
  most : c ≤ maxLen
  onNil : a = none → c = 0
  cells : 0 < n → ∃ b off, a = some ⟨b, off, none⟩ ∧ ∀ i, i < n → w.cell? ⟨b, off + i, none⟩ = some (.slice (A i) (L i) (C i))
  rows : ∀ i, i < n → BytesV w (A i) (L i) (C i) (Z i)
section
variable {H : Type} {enc : TypeId × Value → H} {P : Program} {W : World}
theorem byterows_of {t e q : TypeId} {a : Option Addr} {n c : Nat} {d : DataW H} {ps : List MemPlace} (ht : P.underlying t = some (.slice e)) (he : P.underlying e = some (.slice q)) (hq : P.underlying q = some (.int .u8)) (ce : P.cellsOf e = 1) (cq : P.cellsOf q = 1)
    (h : DataW.Trod enc P W 0 (fun _ => true) true t (.slice a n c) d ps) : ∃ A L C Z, BRowsV W a n c A L C Z := by
  obtain ⟨fuel, hf⟩ := h
  rcases open_int_rows ht he hq ce cq hf with ⟨hcs, _⟩ | ⟨x, l, c', A, L, C, Z, hcs, _, hl, hm, _, hr⟩
  · simp [Value.cells] at hcs
    obtain ⟨rfl, rfl, rfl⟩ := hcs
    exact ⟨fun _ => none, fun _ => 0, fun _ => 0, fun _ => [], Nat.le_refl _, Nat.zero_le _, fun _ => rfl, fun h => absurd h (by decide), fun i hi => absurd hi (by omega)⟩
  · simp [Value.cells] at hcs
    obtain ⟨rfl, rfl, rfl⟩ := hcs
    refine ⟨A, L, C, fun i => (Z i).take (L i), hl, hm, fun h => (by cases h), fun hn => ?_, fun i hi => ?_⟩
    · obtain ⟨b, off, spot⟩ := x
      have hspot : spot = none := by simpa [Addr.add] using World.cell?_spot (hr 0 (by omega)).1
      subst hspot
      exact ⟨b, off, rfl, fun i hi => by rw [← add_plain]; exact (hr i (by omega)).1⟩
    · obtain ⟨_, h1, h2, h3, h4, h5, h6⟩ := hr i (by omega)
      cases hA : A i with
      | none =>
        have hc := h5 hA
        have hl0 : L i = 0 := by omega
        have hz0 : (Z i).take (L i) = [] := by rw [hl0]; rfl
        (try dsimp only)
        rw [hz0, hl0, hc]
        exact BytesV.empty W
      | some y => exact BytesV.ofRow h1 h2 h3 (fun j hj => (h6 y hA).2 j (by omega)) h4
end
end Go
/- A queue: q = q[1:]; q = append(q, x): a row of one's own of which the first things were taken off. -/
namespace Go
open Go.RowKit
def World.ownsTail (w : World) (base : Nat) (e : TypeId) (size : Nat) (v : Value) (n : Nat) (xs : List Value) : Prop :=
  xs.length = n * size ∧ ∃ (g o cap : Nat) (cur : Array Value), v = .slice (some ⟨g, o * size, none⟩) n cap ∧ base ≤ g ∧ w.heap[g]? = some (.cells cur e (0, 0)) ∧ n ≤ cap ∧ cap ≤ maxLen ∧ (o + cap) * size ≤ cur.size ∧ (cur.toList.drop (o * size)).take (n * size) = xs
section
variable {P : Program} {w w' : World} {base e size n : Nat} {v : Value} {xs : List Value}
theorem World.ownsTail.keep {S : List Nat} (h : w.ownsTail base e size v n xs) (hk : Keep S w w') (hs : ∀ a c, v = .slice (some a) n c → a.block ∉ S) : w'.ownsTail base e size v n xs := by
  obtain ⟨hl, g, o, cap, cur, rfl, hb, hg, rest⟩ := h
  exact ⟨hl, g, o, cap, cur, rfl, hb, hk.at hg (hs _ _ rfl), rest⟩
theorem tail_cells (h : w.ownsTail base e size v n xs) : ∃ a c, v = .slice (some a) n c ∧ base ≤ a.block ∧ n ≤ c ∧ c ≤ maxLen ∧ (∃ cs, w.heap[a.block]? = some (.cells cs e (0, 0))) ∧ ∀ j u, xs[j]? = some u → w.cell? (a.add j) = some u := by
  obtain ⟨hl, g, o, cap, cur, rfl, hb, hg, hnc, hcm, hcs, ht⟩ := h
  refine ⟨_, _, rfl, hb, hnc, hcm, ⟨cur, hg⟩, fun j u hu => ?_⟩
  have hj : j < n * size := by rw [← hl]; exact (List.getElem?_eq_some_iff.1 hu).1
  rw [Go.WideShapes.add_plain, cell_of_row w g _ cur e (0, 0) hg]
  rw [← ht, List.getElem?_take, if_pos hj, List.getElem?_drop] at hu
  simpa using hu
theorem run_append_tail (base : Nat) (t ty e : TypeId) (i : TypeInfo) (z : Value) (size bytes : Nat) (ht : P.underlying t = some (.slice e)) (hi : P.info? e = some i) (hz : i.zero = some z)
    (hsize : i.size = size) (hby : i.bytes = bytes) (hzs : z.cells.size = size)
    (v : Value) (n : Nat) (xs : List Value) (hown : w.ownsTail base e size v n xs)
    (a : Addr) (m c : Nat) (news : List Value) (hl : news.length = m * size) (hnews : ∀ j u, news[j]? = some u → w.cell? (a.add j) = some u) (h1 : ∀ u ∈ news, u.oneCell' = true)
    (h63 : n + m ≤ maxLen) (hbytes : (n + m) * bytes ≤ 140737488355328) (hbase : base ≤ w.heap.size) :
    ∃ v' w' g, (Builtin.append_ #[t, t] ty #[v, .slice (some a) m c]).run P w = .ok v' w' ∧ w'.ownsTail base e size v' (n + m) (xs ++ news) ∧ w.grownBy w' (some g) ∧ base ≤ g ∧ ∃ ad cc, v = .slice (some ad) n cc ∧ ad.block = g := by
  subst hsize
  subst hby
  have hsmall : n + m ≤ 9223372036854775807 := by simp only [maxLen] at h63; omega
  have hlen : (xs ++ news).length = (n + m) * i.size := by rw [List.length_append, hown.1, hl, Nat.add_mul]
  obtain ⟨_, _, he, _, _, _, _, hcell⟩ := tail_cells hown
  obtain ⟨hxl, g, o, cap, cur, rfl, hb, hg, hnc, hcm, hcs, htk⟩ := hown
  injection he with he _ _
  injection he with he
  subst he
  by_cases hroom : n + m ≤ cap
  · have hmul : (o + n + m) * i.size ≤ cur.size := Nat.le_trans (Nat.mul_le_mul_right _ (by omega)) hcs
    have hfit : o * i.size + n * i.size + news.length ≤ cur.size := by rw [hl, ← Nat.add_mul, ← Nat.add_mul]; exact hmul
    have hf := run_firstCells_some (P := P) w i.size m a m c news hl hnews
    have hst := run_storeCells_at P g (o * i.size + n * i.size) e news 0 cur w hg (by simpa using hfit) h1
    simp only [Nat.add_zero] at hst
    refine ⟨.slice (some ⟨g, o * i.size, none⟩) (n + m) cap, w.setRow g (cur.toList.take (o * i.size + n * i.size) ++ news ++ cur.toList.drop (o * i.size + n * i.size + news.length)).toArray, g, ?_, ⟨hlen, g, o, cap, _, rfl, hb, setRow_heap w g cur _ e _ hg, hroom, hcm, ?_, ?_⟩, ⟨rfl, rfl, rfl, by simp, fun k _ hk => setRow_other w g k _ (fun e => hk (by rw [e]))⟩, hb, _, _, rfl, rfl⟩
    · simp [Builtin.append_, run_underlying ht, sizeOf, typeInfo, hi, Builtin.lenOf, hroom, hf, Go.WideShapes.add_plain, hst]
    · simp only [List.size_toArray, List.length_append, List.length_take, List.length_drop, Array.length_toList]
      omega
    · have hA : (cur.toList.take (o * i.size + n * i.size)).length = o * i.size + n * i.size := by rw [List.length_take, Array.length_toList]; omega
      rw [List.append_assoc, List.drop_append_of_le_length (by rw [hA]; omega), List.drop_take, show o * i.size + n * i.size - o * i.size = n * i.size by omega, htk, ← List.append_assoc, ← hlen]
      exact List.take_left
  · have hr := run_append_grow (P := P) w t ty e i z ht hi hz ⟨g, o * i.size, none⟩ n cap xs hxl hcell a m c news hl hnews (by omega) (by omega) (growslice_fits (by omega) hbytes)
    have hge := grownCap_ge w (n + m) cap e
    have hcm2 : grownCap w (n + m) cap e ≤ maxLen := grownCap_le_maxLen w (n + m) cap e h63
    refine ⟨_, _, g, hr, ⟨hlen, w.heap.size, 0, _, _, by rw [Nat.zero_mul], hbase, blk_new w.drew _, hge, hcm2, ?_, ?_⟩, ⟨rfl, rfl, rfl, by simp, fun k hk _ => Below.heap_alloc w.drew _ _ hk⟩, hb, _, _, rfl, rfl⟩
    · simp only [Array.size_append, List.size_toArray, size_zeroCells, hzs, hxl, hl, ← Nat.add_mul]
      refine Nat.mul_le_mul_right _ ?_
      omega
    · rw [Nat.zero_mul, List.drop_zero]
      simp only [Array.toList_append, List.append_assoc]
      rw [← List.append_assoc, ← hlen]
      exact List.take_left
/-- q[1:]. -/
theorem tail_next {t : TypeId} {i : TypeInfo} (ht : P.underlying t = some (.slice e)) (hi : P.info? e = some i) (hsize : i.size = size) (h : w.ownsTail base e size v (n + 1) xs) :
    ∃ v', (∀ W, (Instr.slice t v (some (.int .i64 1)) none none).run P W = .ok v' W) ∧ w.ownsTail base e size v' n (xs.drop size) := by
  obtain ⟨hl, g, o, cap, cur, rfl, hb, hg, hnc, hcm, hcs, htk⟩ := h
  subst hsize
  have hdl : (xs.drop i.size).length = n * i.size := by rw [List.length_drop, hl, Nat.add_mul]; omega
  have hnc2 : (n : Int) + 1 ≤ (cap : Int) := by omega
  by_cases hc : cap = 1
  · subst hc
    obtain rfl : n = 0 := by omega
    refine ⟨.slice (some ⟨g, o * i.size, none⟩) 0 0, fun W => ?_, hdl, g, o, 0, cur, rfl, hb, hg, Nat.le_refl _, Nat.zero_le _, Nat.le_trans (Nat.mul_le_mul_right _ (by omega)) hcs, ?_⟩
    · simp [Instr.slice, run_underlying ht, sizeOf, typeInfo, hi, Instr.sliceBounds, Instr.sliceBound, asIntOf, Result.andThen]
    · have : xs.drop i.size = [] := List.eq_nil_of_length_eq_zero (by rw [hdl]; simp)
      rw [this]; simp
  · refine ⟨.slice (some ⟨g, (o + 1) * i.size, none⟩) n (cap - 1), fun W => ?_, hdl, g, o + 1, cap - 1, cur, rfl, hb, hg, by omega, by omega, ?_, ?_⟩
    · have h9 : (1 : Int) ≤ (n : Int) + 1 := by omega
      simp [Instr.slice, run_underlying ht, sizeOf, typeInfo, hi, Instr.sliceBounds, Instr.sliceBound, asIntOf, Result.andThen, h9, hc, Go.WideShapes.add_plain, Nat.add_mul]
    · rw [show o + 1 + (cap - 1) = o + cap by omega]; exact hcs
    · rw [← htk, List.drop_take, List.drop_drop, Nat.add_mul, Nat.add_mul]
      congr 1
      · omega
      · congr 1
        omega
end
end Go
/- Breadth first in memory: a queue, and a map of what was seen; steps for the walk. -/
namespace Go
open Go.RowKit
section
variable {P : Program} {w w' : World} {base e size n : Nat} {v : Value} {xs : List Value}
theorem tail_form (h : w.ownsTail base e size v n xs) : ∃ g off c, v = .slice (some ⟨g, off, none⟩) n c ∧ base ≤ g ∧ g < w.heap.size ∧ n ≤ c ∧ c ≤ maxLen ∧ (∃ cs, w.heap[g]? = some (.cells cs e (0, 0))) ∧ ∀ j u, xs[j]? = some u → w.cell? ⟨g, off + j, none⟩ = some u := by
  obtain ⟨hl, g, o, cap, cur, rfl, hb, hg, hnc, hcm, hcs, ht⟩ := h
  refine ⟨g, o * size, cap, rfl, hb, lt_of_blk hg, hnc, hcm, ⟨cur, hg⟩, fun j u hu => ?_⟩
  have hj : j < n * size := by rw [← hl]; exact (List.getElem?_eq_some_iff.1 hu).1
  rw [cell_of_row w g _ cur e (0, 0) hg]
  rw [← ht, List.getElem?_take_of_lt hj, List.getElem?_drop, Array.getElem?_toList] at hu
  exact hu
theorem tail_new (w : World) (e size : Nat) (xs : List Value) (n : Nat) (hl : xs.length = n * size) (hn : n ≤ maxLen) : (w.alloc (.cells xs.toArray e)).ownsTail w.heap.size e size (.slice (some ⟨w.heap.size, 0, none⟩) n n) n xs :=
  ⟨hl, w.heap.size, 0, n, xs.toArray, by rw [Nat.zero_mul], Nat.le_refl _, blk_new w _, Nat.le_refl _, hn, by simp [hl], by rw [Nat.zero_mul, List.drop_zero, ← hl, List.take_length]⟩
theorem tail_keep {S : List Nat} (h : w.ownsTail base e size v n xs) (hk : Keep S w w') (hs : ∀ g, g ∈ S → ∀ cs, w.heap[g]? ≠ some (.cells cs e (0, 0))) : w'.ownsTail base e size v n xs := by
  obtain ⟨_, _, _, rfl, _, _, _, _, ⟨cs, hg⟩, _⟩ := tail_form h
  refine h.keep hk (fun a c ha hm => ?_)
  injection ha with ha _ _
  injection ha with ha
  subst ha
  exact hs _ hm cs hg
theorem tail_base {b' : Nat} (h : w.ownsTail base e size v n xs) (hb : b' ≤ base) : w.ownsTail b' e size v n xs := by
  obtain ⟨hl, g, o, cap, cur, rfl, h1, h2⟩ := h
  exact ⟨hl, g, o, cap, cur, rfl, Nat.le_trans hb h1, h2⟩
theorem wpList_append_tail {ops : Array Oper} {rest : List Oper} {o : Oper} {a : Act} {Q : Exit → Act → World → Prop} (hgd : o.guard = none) (s x : Operand) (t : TypeId)
    (ho : o.op = .call { callee := .builtin .append, args := #[s, x], argTypes := #[t, t] })
    (base : Nat) (e : TypeId) (i : TypeInfo) (z : Value) (size bytes : Nat) (ht : P.underlying t = some (.slice e)) (hi : P.info? e = some i) (hz : i.zero = some z)
    (hsize : i.size = size) (hby : i.bytes = bytes) (hzs : z.cells.size = size)
    (v : Value) (n : Nat) (xs : List Value) (hs : a.eval s = v) (hown : w.ownsTail base e size v n xs)
    (ad : Addr) (m c : Nat) (news : List Value) (hx : a.eval x = .slice (some ad) m c) (hl : news.length = m * size) (hnews : ∀ j u, news[j]? = some u → w.cell? (ad.add j) = some u) (h1 : ∀ u ∈ news, u.oneCell' = true)
    (h63 : n + m ≤ maxLen) (hbytes : (n + m) * bytes ≤ 140737488355328) (hbase : base ≤ w.heap.size)
    (h : ∀ g' off' c' w', w'.ownsTail base e size (.slice (some ⟨g', off', none⟩) (n + m) c') (n + m) (xs ++ news) → (∀ S w0, Keep S w0 w → w0.heap.size ≤ base → Keep S w0 w') → (∀ b, b < base → w'.heap[b]? = w.heap[b]?) → wpList P ops Q rest (a.put o.dst (.slice (some ⟨g', off', none⟩) (n + m) c')) w') : wpList P ops Q (o :: rest) a w := by
  refine wpList_plain hgd fun K hK => ?_
  obtain ⟨v', w', g, hr, h2, h3, h4, ad2, cc, h5, h6⟩ := run_append_tail (P := P) (w := w) base t o.type e i z size bytes ht hi hz hsize hby hzs v n xs hown ad m c news hl hnews h1 h63 hbytes hbase
  obtain ⟨g', off', c', rfl, _⟩ := tail_form h2
  unfold Oper.wp execOp
  simp only [ho, resolve, invoke, builtin, Sem.run_bind, Sem.run_pure, Result.andThen_ok, List.map_toArray, List.map_cons, List.map_nil, hs, hx, hr]
  have hk : Keep [g] w w' := Keep.ofGrown h3 (fun k hk => by injection hk with hk; simp [hk])
  obtain ⟨gg, offg, cg, hvg, _, _, _, _, ⟨csg, hgg⟩, _⟩ := tail_form hown
  rw [hvg] at h5
  injection h5 with h5 _ _
  injection h5 with h5
  subst h5
  simp only at h6
  subst h6
  exact hK _ _ (h g' off' c' w' h2 (fun S w0 h0 hb => h0.call hk (fun b hb' => by rw [List.mem_singleton] at hb'; subst hb'; exact .inr (by omega)))
    (fun b hb => hk.block b (by omega) (fun hm => by rw [List.mem_singleton] at hm; omega)))
theorem wpList_slice_tail {ops : Array Oper} {rest : List Oper} {o : Oper} {a : Act} {Q : Exit → Act → World → Prop} (hgd : o.guard = none) (x : Operand) (t : TypeId)
    (ho : o.op = .slice t x (some (.const (.int .i64 1))) none none)
    (i : TypeInfo) (ht : P.underlying t = some (.slice e)) (hi : P.info? e = some i) (hsize : i.size = size)
    (hs : a.eval x = v) (hown : w.ownsTail base e size v (n + 1) xs)
    (h : ∀ g' off' c', w.ownsTail base e size (.slice (some ⟨g', off', none⟩) n c') n (xs.drop size) → wpList P ops Q rest (a.put o.dst (.slice (some ⟨g', off', none⟩) n c')) w) : wpList P ops Q (o :: rest) a w := by
  refine wpList_plain hgd fun K hK => ?_
  obtain ⟨v', hr, h2⟩ := tail_next (P := P) ht hi hsize hown
  obtain ⟨g', off', c', rfl, _⟩ := tail_form h2
  have he : a.eval (.const (.int .i64 1)) = .int .i64 1 := rfl
  unfold Oper.wp execOp
  simp only [ho, Sem.run_bind, Sem.run_pure, Result.andThen_ok, hs, Option.map_some, Option.map_none, he, Instr.sliceAt, run_underlying ht, hr]
  exact hK _ _ (h g' off' c' h2)
end
section
variable {P : Program}
theorem wpList_store_new {w : World} {ops : Array Oper} {rest : List Oper} {o : Oper} {a : Act} {Q : Exit → Act → World → Prop} (hgd : o.guard = none) (ty x y) (ho : o.op = .store ty x y)
    (t : TypeId) (c c' : Array Value) (hx : a.eval x = .pointer (some ⟨w.heap.size, 0, none⟩)) (hy : a.eval y = .agg c') (hi : (P.info? ty).map (·.size) = some c'.size) (hold : c.size = c'.size) (h1 : c'.all (·.oneCell') = true)
    (h : wpList P ops Q rest (a.put o.dst undef) (w.alloc (.cells c' t))) : wpList P ops Q (o :: rest) a (w.alloc (.cells c t)) := by
  refine wpList_store_row hgd ty x y ho w.heap.size c' hx hy t c (heap_alloc_last w _) hi hold h1 ?_
  rw [World.setRow_alloc_new]
  exact h
theorem wpList_load_new {w : World} {ops : Array Oper} {rest : List Oper} {o : Oper} {a : Act} {Q : Exit → Act → World → Prop} (hgd : o.guard = none) (ty x) (ho : o.op = .load ty x)
    (t : TypeId) (c : Array Value) (hx : a.eval x = .pointer (some ⟨w.heap.size, 0, none⟩)) (d : TypeDesc) (hu : P.underlying ty = some d) (hd : (match d with | .struct _ | .array _ _ => true | _ => false) = true) (hi : (P.info? ty).map (·.size) = some c.size)
    (h : wpList P ops Q rest (a.put o.dst (.agg c)) (w.alloc (.cells c t))) : wpList P ops Q (o :: rest) a (w.alloc (.cells c t)) :=
  wpList_load_row hgd ty x ho w.heap.size hx t c (0, 0) d (heap_alloc_last w _) hu hd hi h
end
/-- The step of a map: something new is seen. -/
theorem wpList_seen_add {P : Program} {k : TypeId} {α : Type} [DecidableEq α] (C : KeyT P k α) (w : World) {ops : Array Oper} {rest : List Oper} {o : Oper} {a : Act} {Q : Exit → Act → World → Prop}
    (hg : o.guard = none) (m x v : Operand) (t : TypeId) (hop : o.op = Op.mapUpdate t m x v ∨ o.op = Op.insert t m x v)
    (e : TypeId) (ht : P.underlying t = some (.map k e)) (b : Nat) (L : List α)
    (hm : a.eval m = .map (some b)) (hown : Seen C w b L) (hn : L.length < maxLen) (key : α) (V : Value) (hV : V = C.val key) (hx : a.eval x = V) (hv : a.eval v = .bool true) (hok : C.ok key) (hnew : key ∉ L)
    (hK : ∀ w', Seen C w' b (L ++ [key]) → Keep [b] w w' → wpList P ops Q rest (a.put o.dst undef) w') : wpList P ops Q (o :: rest) a w := by
  refine wpList_plain hg fun K' hK' => ?_
  obtain ⟨w', hrun, h5, h6⟩ := Seen.add ht hown hn hok hnew
  rw [← hV] at hrun
  unfold Oper.wp
  rcases hop with hop | hop
  all_goals
    simp [execOp, hop, hm, hx, hv, hrun, Result.andThen]
    exact hK' _ _ (hK w' h5 h6)
theorem wpList_seen_look {P : Program} {k : TypeId} {α : Type} [DecidableEq α] (C : KeyT P k α) (w : World) {ops : Array Oper} {rest : List Oper} {o : Oper} {a : Act} {Q : Exit → Act → World → Prop}
    (hg : o.guard = none) (m x : Operand) (t : TypeId) (hop : o.op = Op.lookup t m x false)
    (e : TypeId) (ht : P.underlying t = some (.map k e)) (hz : (zeroValue e).run P w = .ok (.bool false) w) (b : Nat) (L : List α)
    (hm : a.eval m = .map (some b)) (hown : Seen C w b L) (key : α) (V : Value) (hV : V = C.val key) (hx : a.eval x = V) (hok : C.ok key) (A : Bool) (hA : decide (key ∈ L) = A)
    (hK : wpList P ops Q rest (a.put o.dst (.bool A)) w) : wpList P ops Q (o :: rest) a w := by
  refine wpList_plain hg fun K' hK' => ?_
  have hrun := Seen.look ht hz hown hok
  rw [hA, ← hV] at hrun
  unfold Oper.wp
  simp [execOp, hop, hm, hx, hrun, Result.andThen]
  exact hK' _ _ hK
theorem wpList_seen_len {P : Program} {k : TypeId} {α : Type} [DecidableEq α] (C : KeyT P k α) (w : World) {ops : Array Oper} {rest : List Oper} {o : Oper} {a : Act} {Q : Exit → Act → World → Prop}
    (hg : o.guard = none) (m : Operand) (t : TypeId) (ho : o.op = .call { callee := .builtin .len, args := #[m], argTypes := #[t] })
    (e : TypeId) (ht : P.underlying t = some (.map k e)) (b : Nat) (L : List α) (N : Nat) (hN : L.length = N)
    (hm : a.eval m = .map (some b)) (hown : Seen C w b L)
    (hK : wpList P ops Q rest (a.put o.dst (.int .i64 N)) w) : wpList P ops Q (o :: rest) a w := by
  refine wpList_plain hg fun K' hK' => ?_
  have hrun := Seen.len ht hown o.type
  subst hN
  unfold Oper.wp execOp
  simp only [ho, resolve, invoke, builtin, Sem.run_bind, Sem.run_pure, Result.andThen_ok, List.map_toArray, List.map_cons, List.map_nil, hm, hrun]
  exact hK' _ _ hK
/-- The queue and the map. -/
structure BfAt {P : Program} {k : TypeId} {α : Type} [DecidableEq α] (C : KeyT P k α) (enc : α → List Value) (e size base mb : Nat) (w : World) (L : List α) (d : Nat) (q : Value) : Prop where
  seen : Seen C w mb L
  queue : w.ownsTail base e size q (L.length - d) ((L.drop d).flatMap enc)
  low : mb < base
section
variable {P : Program} {k : TypeId} {α : Type} [DecidableEq α] {C : KeyT P k α} {enc : α → List Value} {e size base mb d : Nat} {w w' : World} {L : List α} {q : Value}
theorem BfAt.keep (h : BfAt C enc e size base mb w L d q) (hk : Keep [] w w') : BfAt C enc e size base mb w' L d q :=
  ⟨h.seen.keep hk (by simp), tail_keep h.queue hk (fun g hg => by cases hg), h.low⟩
theorem BfAt.row (h : BfAt C enc e size base mb w L d q) (hk : Keep [mb] w w') : w'.ownsTail base e size q (L.length - d) ((L.drop d).flatMap enc) :=
  tail_keep h.queue hk (fun g hg cs hc => by rw [List.mem_singleton] at hg; subst hg; exact h.seen.notCells hc rfl)
theorem BfAt.push {w9 : World} {q9 : Value} {y : α} {r : Nat} (hd : d ≤ L.length) (hr : L.length - d = r) (hlow : mb < base) (hs : Seen C w mb (L ++ [y])) (ho : w9.ownsTail base e size q9 (r + 1) ((L.drop d).flatMap enc ++ enc y)) (hb : ∀ b, b < base → w9.heap[b]? = w.heap[b]?) : BfAt C enc e size base mb w9 (L ++ [y]) d q9 :=
  ⟨hs.block (hb mb hlow), by
    rw [List.drop_append_of_le_length hd, List.flatMap_append, List.length_append]
    have : L.length + [y].length - d = r + 1 := by simp; omega
    rw [this]
    simpa using ho, hlow⟩
theorem BfAt.next {q9 : Value} {x : α} {r : Nat} (h : BfAt C enc e size base mb w L d q) (hx : L[d]? = some x) (hl : (enc x).length = size) (hr : L.length - (d + 1) = r) (ho : w.ownsTail base e size q9 r (((L.drop d).flatMap enc).drop size)) : BfAt C enc e size base mb w L (d + 1) q9 :=
  ⟨h.seen, by
    obtain ⟨hd, hd2⟩ := List.getElem?_eq_some_iff.1 hx
    rw [List.drop_eq_getElem_cons hd, hd2, List.flatMap_cons, ← hl, List.drop_left] at ho
    rw [hr, hl] at *
    exact ho, h.low⟩
end
end Go
