/- Texts laid together: DE1 DE2. -/
import Derived.Test.YtfcellgjbbfobaaDoorMg5
import Derived.Deep.CutBlock
/- Explore: next. -/
namespace Go.Proofs.YtfcellgjbbfobaaDoor
open Go.RowKit Go.Ex
theorem info62 : (Tryd.prog.info? 41).map (·.size) = some 12 := by kernel_rfl
set_option maxRecDepth 100000 in
set_option maxHeartbeats 4000000 in
theorem next40_any {w : World} {a : Option Addr} {n c who : Nat} {ps : List (List Ln)} {s : List Int} (hv : RowsL w a n c ps) (hp : PsOk ps) (hs : SOk ps s) (hw : who < n) :
    Calls Tryd.prog 20 #[.slice a n c, aggI s, .int .i64 who] w fun e w' => Keep [] w w' ∧ ((nx ps who s = none ∧ e = .returned (.tuple #[aggI s, .bool false])) ∨ ∃ t, nx ps who s = some t ∧ e = .returned (.tuple #[aggI t, .bool true])) := by
  have hwl : who < ps.length := by rw [hv.len]; exact hw
  have hw4 : who < 4 := by have := hp.few; omega
  have hkA : Keep [] w ((w.alloc (.cells (s.map (Value.int .i64)).toArray 41)).alloc (.cells #[.int .i64 0, .int .i64 0, .int .i64 0, .int .i64 0, .int .i64 0, .int .i64 0, .int .i64 0, .int .i64 0, .int .i64 0, .int .i64 0, .int .i64 0, .int .i64 0] 41)) := ((Keep.refl [] w).alloc _).alloc _
  have hA : ArrAt 41 ((w.alloc (.cells (s.map (Value.int .i64)).toArray 41)).alloc (.cells #[.int .i64 0, .int .i64 0, .int .i64 0, .int .i64 0, .int .i64 0, .int .i64 0, .int .i64 0, .int .i64 0, .int .i64 0, .int .i64 0, .int .i64 0, .int .i64 0] 41)) w.heap.size s := (ArrAt.new 41 w s).keep ((Keep.refl [] _).alloc _) (by simp)
  have hR : ArrAt 41 ((w.alloc (.cells (s.map (Value.int .i64)).toArray 41)).alloc (.cells #[.int .i64 0, .int .i64 0, .int .i64 0, .int .i64 0, .int .i64 0, .int .i64 0, .int .i64 0, .int .i64 0, .int .i64 0, .int .i64 0, .int .i64 0, .int .i64 0] 41)) (w.heap.size + 1) s0 := by
    have h9 := ArrAt.new 41 (w.alloc (.cells (s.map (Value.int .i64)).toArray 41)) s0
    rw [show (w.alloc (.cells (s.map (Value.int .i64)).toArray 41)).heap.size = w.heap.size + 1 by simp] at h9
    exact h9
  obtain ⟨l, hl⟩ : ∃ l, ps[who]? = some l := ⟨_, List.getElem?_eq_getElem hwl⟩
  obtain ⟨b, off, ar, cr, rfl, hc, hlv⟩ := (hv.keep hkA).at_ who l hl
  have hgd : ps.getD who [] = l := by rw [List.getD_eq_getElem?_getD, hl]; rfl
  have hat := hs.at_ who hw4
  have hop : opAt ps who s = l[(s.getD (8 + who) 0).toNat]? := by unfold opAt; rw [hgd]
  rw [hgd] at hat
  have hsl := hs.len
  have hc8 := hA.cell (i := 8 + who) (by omega)
  obtain ⟨y0, hy0⟩ : ∃ y, s.getD (8 + who) 0 = y := ⟨_, rfl⟩
  rw [hy0] at hat hop hc8
  obtain ⟨y, rfl⟩ : ∃ y : Nat, y0 = y := ⟨y0.toNat, by omega⟩
  obtain ⟨m, hm⟩ : ∃ m, l.length = m := ⟨_, rfl⟩
  rw [hm] at hat hlv hc
  have hroom := hv.room
  have hmost := hv.most
  have hcr := hlv.room
  have hcm := hlv.most
  rw [show maxLen = 9223372036854775807 from rfl] at hcm
  have hthA := thaw hA
  have hthR := thaw hR
  have HA := Lib.hid hA
  have HR := Lib.hid hR
  have HK := Lib.hid hkA
  have HS := Lib.hid hs
  have HP := Lib.hid hp
  have hsz := Lib.hid (show w.heap.size + 2 = ((w.alloc (.cells (s.map (Value.int .i64)).toArray 41)).alloc (.cells #[.int .i64 0, .int .i64 0, .int .i64 0, .int .i64 0, .int .i64 0, .int .i64 0, .int .i64 0, .int .i64 0, .int .i64 0, .int .i64 0, .int .i64 0, .int .i64 0] 41)).heap.size by simp)
  obtain ⟨w2, hw2⟩ : ∃ w2, (w.alloc (.cells (s.map (Value.int .i64)).toArray 41)).alloc (.cells #[.int .i64 0, .int .i64 0, .int .i64 0, .int .i64 0, .int .i64 0, .int .i64 0, .int .i64 0, .int .i64 0, .int .i64 0, .int .i64 0, .int .i64 0, .int .i64 0] 41) = w2 := ⟨_, rfl⟩
  rw [hw2] at hc hlv hc8 hthA hthR HA HR HK hsz
  have HAd := Lib.hid (show w2.drew.heap[w.heap.size]? = some (.cells (s.map (Value.int .i64)).toArray 41 (0, 0)) from HA.out)
  have HRd := Lib.hid (show w2.drew.heap[w.heap.size + 1]? = some (.cells (s0.map (Value.int .i64)).toArray 41 (0, 0)) from HR.out)
  have hi12 : (Tryd.prog.info? 41).map (·.size) = some (s.map (Value.int .i64)).toArray.size := by rw [info62]; simp [hsl]
  have hsz0 : (s0.map (Value.int .i64)).toArray.size = (s.map (Value.int .i64)).toArray.size := by simp [hsl, s0]
  have hone := ints_one s
  have HI := Lib.hid hi12
  have HZ := Lib.hid hsz0
  have HO := Lib.hid hone
  clear hkA hA hR hv hgd hi12 hsz0 hone
  by_cases hfull : y = m
  · have HNX : Hid (nx ps who s = none) := Lib.hid (by
      unfold nx
      rw [hop, List.getElem?_eq_none (by omega)])
    have hbe : ((y : Int) == (m : Int)) = true := by simp [hfull]
    clear hfull
    unfold aggI
    go_enter Tryd.func20, Tryd.ntmps20
    go_wp2_with (first | (with_reducible refine Txt.wp_region_text mixed quiet (by decide +kernel) ?_) | (with_reducible refine Txt.text_done (by kernel_rfl) ?_) | (with_reducible refine wpList_load_row rfl 41 _ rfl w.heap.size rfl 41 _ (0, 0) _ HAd.out Tryd.underlying41 rfl HI.out ?_) | (with_reducible refine wpList_store_row rfl 41 _ _ rfl (w.heap.size + 1) _ rfl rfl 41 _ HRd.out HI.out HZ.out HO.out ?_))
    refine bodyPost_ret (results_cell2 Tryd.results20 rfl (run_loadVar_row _ (w.heap.size + 1) 41 41 (s.map (Value.int .i64)).toArray (0, 0) _ (setRow_heap _ _ _ _ 41 _ HRd.out) Tryd.underlying41 rfl HI.out)) rfl ⟨HK.out.drew.call (keep_setRow _ _ _) (by simp), .inl ⟨HNX.out, rfl⟩⟩
  · have hym : y < m := by omega
    have hbe : ((y : Int) == (m : Int)) = false := by rw [beq_eq_false_iff_ne]; omega
    obtain ⟨⟨q, g0, u⟩, hd⟩ : ∃ d, l[y]? = some d := ⟨_, List.getElem?_eq_getElem (by omega)⟩
    obtain ⟨ba, oa, rfl, e0, e1, e2⟩ := hlv.at_ hym
    have hlat : lat l y = ⟨q, g0, u⟩ := by rw [lat, List.getD_eq_getElem?_getD, hd]; rfl
    rw [hlat] at e0 e1 e2
    have hmem : (⟨q, g0, u⟩ : Ln) ∈ l := List.mem_of_getElem? hd
    obtain ⟨⟨hq1, hq2⟩, ⟨hg1, hg2⟩, hu1, hu2⟩ := HP.out.all l (List.mem_of_getElem? hl) _ hmem
    simp only at hq1 hq2 hg1 hg2 hu1 hu2 e0 e1 e2
    obtain ⟨g, rfl⟩ : ∃ g : Nat, g0 = g := ⟨g0.toNat, by omega⟩
    have hst := steps_le HP.out HS.out
    have htot := HP.out.tot
    have hbg := HS.out.bd g (by omega)
    have hbh := HS.out.bd (4 + who) (by omega)
    have hcg := HA.out.cell (i := g) (by omega)
    have hch := HA.out.cell (i := 4 + who) (by omega)
    have HNX : Hid (nx ps who s = if q = 4 ∧ s.getD g 0 ≠ u then none else some ((eff ⟨q, g, u⟩ who s).set (8 + who) ((y : Int) + 1))) := Lib.hid (by
      unfold nx
      rw [hop, Int.toNat_natCast, hd, hy0]; rfl)
    obtain ⟨x, hx⟩ : ∃ x, s.getD g 0 = x := ⟨_, rfl⟩
    obtain ⟨h, hh⟩ : ∃ h, s.getD (4 + who) 0 = h := ⟨_, rfl⟩
    have HX := Lib.hid hx
    have HH := Lib.hid hh
    rw [hx] at hbg hcg
    rw [hh] at hbh hch
    have hx1 : -12000 ≤ x := by omega
    have hx2 : x ≤ 12000 := by omega
    have hh1 : -12000 ≤ h := by omega
    have hh2 : h ≤ 12000 := by omega
    have hgo : ¬ g = 8 + who := by omega
    have hog : ¬ 8 + who = g := by omega
    have hn1 : w.heap.size < w2.heap.size := by have := hsz.out; omega
    have hn2 : w.heap.size + 1 < w2.heap.size := by have := hsz.out; omega
    have hq : q = 1 ∨ q = 2 ∨ q = 3 ∨ q = 4 := by omega
    have hn3 : b < w2.heap.size := block_lt_of_cell hc
    have hn4 : ba < w2.heap.size := block_lt_of_cell e0
    have HY := Lib.hid hat
    clear hst htot hbg hbh hx hh hop hy0 hlv hmem hd hlat hl hq1 hq2 hs hp hat
    unfold aggI
    obtain rfl | rfl | rfl | rfl := hq
    · have HN : Hid (nx ps who s = some ((s.set (4 + who) x).set (8 + who) ((y : Int) + 1))) := Lib.hid (by rw [HNX.out, if_neg (by simp)]; simp [eff, ← HX.out])
      go_enter Tryd.func20, Tryd.ntmps20
      go_upto_region 3 with (first | (with_reducible refine Txt.wp_region_text mixed quiet (by decide +kernel) ?_) | (with_reducible refine Txt.text_done (by kernel_rfl) ?_))
      go_region
      go_upto_region 15 with (first | (with_reducible refine Txt.wp_region_text mixed quiet (by decide +kernel) ?_) | (with_reducible refine Txt.text_done (by kernel_rfl) ?_))
      obtain ⟨t, ht⟩ : ∃ t, (s.set (4 + who) x).set (8 + who) ((y : Int) + 1) = t := ⟨_, rfl⟩
      have htl : t.length = 12 := by rw [← ht]; simp [hsl]
      try rw [ht] at HN
      have HL := Lib.hid (show (((w2.setCell ⟨w.heap.size, 4 + who, none⟩ (.int .i64 x)).setCell ⟨w.heap.size, 8 + who, none⟩ (.int .i64 ((y : Int) + 1))).alloc (.cells #[.int .i64 1, .int .i64 g, .int .i64 u] 29)).drew.drew.heap[w.heap.size]? = some (.cells ((t).map (Value.int .i64)).toArray 41 (0, 0)) from ht ▸ ((((HA.out.put _ _).put _ _)).keep (S := []) ((Keep.refl [] _).alloc _) (by simp)).drew.drew)
      have HLR := Lib.hid (show (((w2.setCell ⟨w.heap.size, 4 + who, none⟩ (.int .i64 x)).setCell ⟨w.heap.size, 8 + who, none⟩ (.int .i64 ((y : Int) + 1))).alloc (.cells #[.int .i64 1, .int .i64 g, .int .i64 u] 29)).drew.drew.heap[w.heap.size + 1]? = some (.cells (s0.map (Value.int .i64)).toArray 41 (0, 0)) from ((((HR.out.other (by omega) _).other (by omega) _)).keep (S := []) ((Keep.refl [] _).alloc _) (by simp)).drew.drew)
      have HIT : Hid ((Tryd.prog.info? 41).map (·.size) = some ((t).map (Value.int .i64)).toArray.size) := Lib.hid (by rw [info62]; simp [htl])
      have HZT : Hid ((s0.map (Value.int .i64)).toArray.size = ((t).map (Value.int .i64)).toArray.size) := Lib.hid (by simp [htl, s0])
      have HOT := Lib.hid (ints_one (t))
      have HKE := Lib.hid (show Keep [] w (((w2.setCell ⟨w.heap.size, 4 + who, none⟩ (.int .i64 x)).setCell ⟨w.heap.size, 8 + who, none⟩ (.int .i64 ((y : Int) + 1))).alloc (.cells #[.int .i64 1, .int .i64 g, .int .i64 u] 29)).drew.drew from (((HK.out.setCell (.inr (Nat.le_refl _)) _).setCell (.inr (Nat.le_refl _)) _).alloc _).drew.drew)
      clear ht htl
      go_wp2_with (first | (with_reducible refine wpList_load_row rfl 41 _ rfl w.heap.size rfl 41 _ (0, 0) _ HL.out Tryd.underlying41 rfl HIT.out ?_) | (with_reducible refine wpList_store_row rfl 41 _ _ rfl (w.heap.size + 1) _ rfl rfl 41 _ HLR.out HIT.out HZT.out HOT.out ?_))
      refine bodyPost_ret (results_cell2 Tryd.results20 rfl (run_loadVar_row _ (w.heap.size + 1) 41 41 ((t).map (Value.int .i64)).toArray (0, 0) _ (setRow_heap _ _ _ _ 41 _ HLR.out) Tryd.underlying41 rfl HIT.out)) rfl ⟨HKE.out.call (keep_setRow _ _ _) (by simp), .inr ⟨_, HN.out, rfl⟩⟩
    · have HN : Hid (nx ps who s = some ((s.set g (h + u)).set (8 + who) ((y : Int) + 1))) := Lib.hid (by rw [HNX.out, if_neg (by simp)]; simp [eff, ← HH.out])
      go_enter Tryd.func20, Tryd.ntmps20
      go_upto_region 3 with (first | (with_reducible refine Txt.wp_region_text mixed quiet (by decide +kernel) ?_) | (with_reducible refine Txt.text_done (by kernel_rfl) ?_))
      go_region
      go_upto_region 8 with (first | (with_reducible refine Txt.wp_region_text mixed quiet (by decide +kernel) ?_) | (with_reducible refine Txt.text_done (by kernel_rfl) ?_))
      go_region
      go_upto_region 15 with (first | (with_reducible refine Txt.wp_region_text mixed quiet (by decide +kernel) ?_) | (with_reducible refine Txt.text_done (by kernel_rfl) ?_))
      obtain ⟨t, ht⟩ : ∃ t, (s.set g (h + u)).set (8 + who) ((y : Int) + 1) = t := ⟨_, rfl⟩
      have htl : t.length = 12 := by rw [← ht]; simp [hsl]
      try rw [ht] at HN
      have HL := Lib.hid (show (((w2.setCell ⟨w.heap.size, g, none⟩ (.int .i64 (h + u))).setCell ⟨w.heap.size, 8 + who, none⟩ (.int .i64 ((y : Int) + 1))).alloc (.cells #[.int .i64 2, .int .i64 g, .int .i64 u] 29)).drew.drew.drew.heap[w.heap.size]? = some (.cells ((t).map (Value.int .i64)).toArray 41 (0, 0)) from ht ▸ ((((HA.out.put _ _).put _ _)).keep (S := []) ((Keep.refl [] _).alloc _) (by simp)).drew.drew.drew)
      have HLR := Lib.hid (show (((w2.setCell ⟨w.heap.size, g, none⟩ (.int .i64 (h + u))).setCell ⟨w.heap.size, 8 + who, none⟩ (.int .i64 ((y : Int) + 1))).alloc (.cells #[.int .i64 2, .int .i64 g, .int .i64 u] 29)).drew.drew.drew.heap[w.heap.size + 1]? = some (.cells (s0.map (Value.int .i64)).toArray 41 (0, 0)) from ((((HR.out.other (by omega) _).other (by omega) _)).keep (S := []) ((Keep.refl [] _).alloc _) (by simp)).drew.drew.drew)
      have HIT : Hid ((Tryd.prog.info? 41).map (·.size) = some ((t).map (Value.int .i64)).toArray.size) := Lib.hid (by rw [info62]; simp [htl])
      have HZT : Hid ((s0.map (Value.int .i64)).toArray.size = ((t).map (Value.int .i64)).toArray.size) := Lib.hid (by simp [htl, s0])
      have HOT := Lib.hid (ints_one (t))
      have HKE := Lib.hid (show Keep [] w (((w2.setCell ⟨w.heap.size, g, none⟩ (.int .i64 (h + u))).setCell ⟨w.heap.size, 8 + who, none⟩ (.int .i64 ((y : Int) + 1))).alloc (.cells #[.int .i64 2, .int .i64 g, .int .i64 u] 29)).drew.drew.drew from (((HK.out.setCell (.inr (Nat.le_refl _)) _).setCell (.inr (Nat.le_refl _)) _).alloc _).drew.drew.drew)
      clear ht htl
      go_wp2_with (first | (with_reducible refine wpList_load_row rfl 41 _ rfl w.heap.size rfl 41 _ (0, 0) _ HL.out Tryd.underlying41 rfl HIT.out ?_) | (with_reducible refine wpList_store_row rfl 41 _ _ rfl (w.heap.size + 1) _ rfl rfl 41 _ HLR.out HIT.out HZT.out HOT.out ?_))
      refine bodyPost_ret (results_cell2 Tryd.results20 rfl (run_loadVar_row _ (w.heap.size + 1) 41 41 ((t).map (Value.int .i64)).toArray (0, 0) _ (setRow_heap _ _ _ _ 41 _ HLR.out) Tryd.underlying41 rfl HIT.out)) rfl ⟨HKE.out.call (keep_setRow _ _ _) (by simp), .inr ⟨_, HN.out, rfl⟩⟩
    · have HN : Hid (nx ps who s = some ((s.set g (x + u)).set (8 + who) ((y : Int) + 1))) := Lib.hid (by rw [HNX.out, if_neg (by simp)]; simp [eff, ← HX.out])
      go_enter Tryd.func20, Tryd.ntmps20
      go_upto_region 3 with (first | (with_reducible refine Txt.wp_region_text mixed quiet (by decide +kernel) ?_) | (with_reducible refine Txt.text_done (by kernel_rfl) ?_))
      go_region
      go_upto_region 10 with (first | (with_reducible refine Txt.wp_region_text mixed quiet (by decide +kernel) ?_) | (with_reducible refine Txt.text_done (by kernel_rfl) ?_))
      go_region
      go_upto_region 15 with (first | (with_reducible refine Txt.wp_region_text mixed quiet (by decide +kernel) ?_) | (with_reducible refine Txt.text_done (by kernel_rfl) ?_))
      obtain ⟨t, ht⟩ : ∃ t, (s.set g (x + u)).set (8 + who) ((y : Int) + 1) = t := ⟨_, rfl⟩
      have htl : t.length = 12 := by rw [← ht]; simp [hsl]
      try rw [ht] at HN
      have HL := Lib.hid (show (((w2.setCell ⟨w.heap.size, g, none⟩ (.int .i64 (x + u))).setCell ⟨w.heap.size, 8 + who, none⟩ (.int .i64 ((y : Int) + 1))).alloc (.cells #[.int .i64 3, .int .i64 g, .int .i64 u] 29)).drew.drew.drew.heap[w.heap.size]? = some (.cells ((t).map (Value.int .i64)).toArray 41 (0, 0)) from ht ▸ ((((HA.out.put _ _).put _ _)).keep (S := []) ((Keep.refl [] _).alloc _) (by simp)).drew.drew.drew)
      have HLR := Lib.hid (show (((w2.setCell ⟨w.heap.size, g, none⟩ (.int .i64 (x + u))).setCell ⟨w.heap.size, 8 + who, none⟩ (.int .i64 ((y : Int) + 1))).alloc (.cells #[.int .i64 3, .int .i64 g, .int .i64 u] 29)).drew.drew.drew.heap[w.heap.size + 1]? = some (.cells (s0.map (Value.int .i64)).toArray 41 (0, 0)) from ((((HR.out.other (by omega) _).other (by omega) _)).keep (S := []) ((Keep.refl [] _).alloc _) (by simp)).drew.drew.drew)
      have HIT : Hid ((Tryd.prog.info? 41).map (·.size) = some ((t).map (Value.int .i64)).toArray.size) := Lib.hid (by rw [info62]; simp [htl])
      have HZT : Hid ((s0.map (Value.int .i64)).toArray.size = ((t).map (Value.int .i64)).toArray.size) := Lib.hid (by simp [htl, s0])
      have HOT := Lib.hid (ints_one (t))
      have HKE := Lib.hid (show Keep [] w (((w2.setCell ⟨w.heap.size, g, none⟩ (.int .i64 (x + u))).setCell ⟨w.heap.size, 8 + who, none⟩ (.int .i64 ((y : Int) + 1))).alloc (.cells #[.int .i64 3, .int .i64 g, .int .i64 u] 29)).drew.drew.drew from (((HK.out.setCell (.inr (Nat.le_refl _)) _).setCell (.inr (Nat.le_refl _)) _).alloc _).drew.drew.drew)
      clear ht htl
      go_wp2_with (first | (with_reducible refine wpList_load_row rfl 41 _ rfl w.heap.size rfl 41 _ (0, 0) _ HL.out Tryd.underlying41 rfl HIT.out ?_) | (with_reducible refine wpList_store_row rfl 41 _ _ rfl (w.heap.size + 1) _ rfl rfl 41 _ HLR.out HIT.out HZT.out HOT.out ?_))
      refine bodyPost_ret (results_cell2 Tryd.results20 rfl (run_loadVar_row _ (w.heap.size + 1) 41 41 ((t).map (Value.int .i64)).toArray (0, 0) _ (setRow_heap _ _ _ _ 41 _ HLR.out) Tryd.underlying41 rfl HIT.out)) rfl ⟨HKE.out.call (keep_setRow _ _ _) (by simp), .inr ⟨_, HN.out, rfl⟩⟩
    · by_cases hxu : x = u
      · have HN : Hid (nx ps who s = some (s.set (8 + who) ((y : Int) + 1))) := Lib.hid (by rw [HNX.out, if_neg (by rw [HX.out]; simp [hxu])]; simp [eff])
        have hxe : (x != u) = false := by simp [hxu]
        clear hxu
        go_enter Tryd.func20, Tryd.ntmps20
        go_upto_region 3 with (first | (with_reducible refine Txt.wp_region_text mixed quiet (by decide +kernel) ?_) | (with_reducible refine Txt.text_done (by kernel_rfl) ?_))
        go_region
        go_upto_region 15 with (first | (with_reducible refine Txt.wp_region_text mixed quiet (by decide +kernel) ?_) | (with_reducible refine Txt.text_done (by kernel_rfl) ?_))
        obtain ⟨t, ht⟩ : ∃ t, s.set (8 + who) ((y : Int) + 1) = t := ⟨_, rfl⟩
        have htl : t.length = 12 := by rw [← ht]; simp [hsl]
        try rw [ht] at HN
        have HL := Lib.hid (show ((w2.setCell ⟨w.heap.size, 8 + who, none⟩ (.int .i64 ((y : Int) + 1))).alloc (.cells #[.int .i64 4, .int .i64 g, .int .i64 u] 29)).drew.drew.drew.heap[w.heap.size]? = some (.cells ((t).map (Value.int .i64)).toArray 41 (0, 0)) from ht ▸ (((HA.out.put _ _)).keep (S := []) ((Keep.refl [] _).alloc _) (by simp)).drew.drew.drew)
        have HLR := Lib.hid (show ((w2.setCell ⟨w.heap.size, 8 + who, none⟩ (.int .i64 ((y : Int) + 1))).alloc (.cells #[.int .i64 4, .int .i64 g, .int .i64 u] 29)).drew.drew.drew.heap[w.heap.size + 1]? = some (.cells (s0.map (Value.int .i64)).toArray 41 (0, 0)) from (((HR.out.other (by omega) _)).keep (S := []) ((Keep.refl [] _).alloc _) (by simp)).drew.drew.drew)
        have HIT : Hid ((Tryd.prog.info? 41).map (·.size) = some ((t).map (Value.int .i64)).toArray.size) := Lib.hid (by rw [info62]; simp [htl])
        have HZT : Hid ((s0.map (Value.int .i64)).toArray.size = ((t).map (Value.int .i64)).toArray.size) := Lib.hid (by simp [htl, s0])
        have HOT := Lib.hid (ints_one (t))
        have HKE := Lib.hid (show Keep [] w ((w2.setCell ⟨w.heap.size, 8 + who, none⟩ (.int .i64 ((y : Int) + 1))).alloc (.cells #[.int .i64 4, .int .i64 g, .int .i64 u] 29)).drew.drew.drew from ((HK.out.setCell (.inr (Nat.le_refl _)) _).alloc _).drew.drew.drew)
        clear ht htl
        go_wp2_with (first | (with_reducible refine wpList_load_row rfl 41 _ rfl w.heap.size rfl 41 _ (0, 0) _ HL.out Tryd.underlying41 rfl HIT.out ?_) | (with_reducible refine wpList_store_row rfl 41 _ _ rfl (w.heap.size + 1) _ rfl rfl 41 _ HLR.out HIT.out HZT.out HOT.out ?_))
        refine bodyPost_ret (results_cell2 Tryd.results20 rfl (run_loadVar_row _ (w.heap.size + 1) 41 41 ((t).map (Value.int .i64)).toArray (0, 0) _ (setRow_heap _ _ _ _ 41 _ HLR.out) Tryd.underlying41 rfl HIT.out)) rfl ⟨HKE.out.call (keep_setRow _ _ _) (by simp), .inr ⟨_, HN.out, rfl⟩⟩
      · have HN : Hid (nx ps who s = none) := Lib.hid (by rw [HNX.out, if_pos (by rw [HX.out]; exact ⟨rfl, hxu⟩)])
        have hxe : (x != u) = true := by simp [hxu]
        clear hxu
        go_enter Tryd.func20, Tryd.ntmps20
        go_upto_region 3 with (first | (with_reducible refine Txt.wp_region_text mixed quiet (by decide +kernel) ?_) | (with_reducible refine Txt.text_done (by kernel_rfl) ?_))
        go_region
        go_upto_region 13 with (first | (with_reducible refine Txt.wp_region_text mixed quiet (by decide +kernel) ?_) | (with_reducible refine Txt.text_done (by kernel_rfl) ?_))
        obtain ⟨t, ht, hts⟩ : ∃ t, s = t ∧ t = s := ⟨_, rfl, rfl⟩
        have htl : t.length = 12 := by rw [← ht]; simp [hsl]
        skip
        have HL := Lib.hid (show (w2.alloc (.cells #[.int .i64 4, .int .i64 g, .int .i64 u] 29)).drew.drew.drew.heap[w.heap.size]? = some (.cells ((t).map (Value.int .i64)).toArray 41 (0, 0)) from ht ▸ ((HA.out).keep (S := []) ((Keep.refl [] _).alloc _) (by simp)).drew.drew.drew)
        have HLR := Lib.hid (show (w2.alloc (.cells #[.int .i64 4, .int .i64 g, .int .i64 u] 29)).drew.drew.drew.heap[w.heap.size + 1]? = some (.cells (s0.map (Value.int .i64)).toArray 41 (0, 0)) from ((HR.out).keep (S := []) ((Keep.refl [] _).alloc _) (by simp)).drew.drew.drew)
        have HIT : Hid ((Tryd.prog.info? 41).map (·.size) = some ((t).map (Value.int .i64)).toArray.size) := Lib.hid (by rw [info62]; simp [htl])
        have HZT : Hid ((s0.map (Value.int .i64)).toArray.size = ((t).map (Value.int .i64)).toArray.size) := Lib.hid (by simp [htl, s0])
        have HOT := Lib.hid (ints_one (t))
        have HKE := Lib.hid (show Keep [] w (w2.alloc (.cells #[.int .i64 4, .int .i64 g, .int .i64 u] 29)).drew.drew.drew from (HK.out.alloc _).drew.drew.drew)
        clear ht htl
        go_wp2_with (first | (with_reducible refine wpList_load_row rfl 41 _ rfl w.heap.size rfl 41 _ (0, 0) _ HL.out Tryd.underlying41 rfl HIT.out ?_) | (with_reducible refine wpList_store_row rfl 41 _ _ rfl (w.heap.size + 1) _ rfl rfl 41 _ HLR.out HIT.out HZT.out HOT.out ?_))
        subst hts
        refine bodyPost_ret (results_cell2 Tryd.results20 rfl (run_loadVar_row _ (w.heap.size + 1) 41 41 ((t).map (Value.int .i64)).toArray (0, 0) _ (setRow_heap _ _ _ _ 41 _ HLR.out) Tryd.underlying41 rfl HIT.out)) rfl ⟨HKE.out.call (keep_setRow _ _ _) (by simp), .inl ⟨HN.out, rfl⟩⟩
end Go.Proofs.YtfcellgjbbfobaaDoor
/- Explore: Check. -/
namespace Go.Proofs.YtfcellgjbbfobaaDoor
open Go.RowKit Go.Ex
def totTo (ps : List (List Ln)) (k : Nat) : Nat := (ps.take k).flatten.length
theorem totTo_next {ps : List (List Ln)} {k : Nat} {l : List Ln} (h : ps[k]? = some l) : totTo ps (k + 1) = totTo ps k + l.length := by
  unfold totTo
  rw [List.take_add_one, h]; simp
theorem totTo_le (ps : List (List Ln)) (k : Nat) : totTo ps k ≤ ps.flatten.length := by
  unfold totTo
  have h := congrArg (fun l => l.flatten.length) (List.take_append_drop k ps)
  simp only [List.flatten_append, List.length_append] at h
  omega
set_option maxRecDepth 100000 in
set_option maxHeartbeats 4000000 in
theorem check39_ok {w : World} {a : Option Addr} {n c : Nat} {ps : List (List Ln)} (hv : RowsL w a n c ps) (hp : PsOk ps) :
    Calls Tryd.prog 19 #[.slice a n c] w fun e w' => e = .returned (.int .i64 0) ∧ Keep [] w w' := by
  have HV := Lib.hid hv
  have HP := Lib.hid hp
  have HL := Lib.hid hv.len
  have hn4 : n ≤ 4 := by rw [← hv.len]; exact hp.few
  have htot := hp.tot
  have hrm := hv.room
  have hms := hv.most
  clear hv hp
  go_enter Tryd.func19, Tryd.ntmps19
  go_wp2_with (first | (with_reducible refine Txt.wp_region_text mixed quiet (by decide +kernel) ?_) | (with_reducible refine Txt.text_done (by kernel_rfl) ?_))
  go_loopw [12, 3] (fun j v wr => ∃ k : Nat, k ≤ n ∧ j = .int .i64 k ∧ v = .int .i64 (totTo ps k : Nat) ∧ Hid (Keep [] w wr)) (fun j _ _ => n - (intOf j).toNat)
  case atStart => exact ⟨0, by omega, rfl, rfl, Lib.hid (Keep.refl _ _)⟩
  case round =>
    obtain ⟨k, hk, rfl, rfl, HK⟩ := hrel
    obtain ⟨M, hM⟩ : ∃ M, totTo ps k = M := ⟨_, rfl⟩
    have hM12 : M ≤ 12 := by have := totTo_le ps k; omega
    have HM := Lib.hid hM
    rw [hM]
    clear hM
    by_cases hlt : k < n
    · obtain ⟨l, hl⟩ : ∃ l, ps[k]? = some l := ⟨_, List.getElem?_eq_getElem (by rw [HL.out]; exact hlt)⟩
      obtain ⟨b, off, ar, cr, rfl, hc, hlv⟩ := (HV.out.keep HK.out).at_ k l hl
      have HN := Lib.hid (totTo_next hl)
      obtain ⟨m, hm⟩ : ∃ m, l.length = m := ⟨_, rfl⟩
      have hm12 : m ≤ 12 := by have := totTo_le ps (k + 1); have := HN.out; omega
      rw [hm] at hc hlv HN
      have hdec : decide ((k : Int) < (n : Int)) = true := by simp; omega
      clear hl hm hlv
      go_wp2_with (first | (with_reducible refine Txt.wp_region_text mixed quiet (by decide +kernel) ?_) | (with_reducible refine Txt.text_done (by kernel_rfl) ?_))
      exact ⟨⟨k + 1, hlt, by go_num, by rw [HN.out, HM.out]; go_num, HK⟩, by simp [intOf]; omega⟩
    · obtain rfl : k = n := by omega
      have hdec : decide ((k : Int) < (k : Int)) = false := by simp
      have hd1 : decide ((k : Int) > 4) = false := by simp; omega
      have hd2 : decide ((M : Int) > 12) = false := by simp; omega
      go_wp2_with (first | (with_reducible refine Txt.wp_region_text mixed quiet (by decide +kernel) ?_) | (with_reducible refine Txt.text_done (by kernel_rfl) ?_))
      clear hdec hd1 hd2 HM hM12
      go_loopw [30] (fun j wr2 => ∃ i : Nat, i ≤ k ∧ j = .int .i64 i ∧ Hid (Keep [] w wr2)) (fun j _ => k - (intOf j).toNat)
      case atStart => exact ⟨0, by omega, rfl, HK⟩
      case round =>
        obtain ⟨i, hi, rfl, HK2⟩ := hrel
        by_cases hlt2 : i < k
        · obtain ⟨l, hl⟩ : ∃ l, ps[i]? = some l := ⟨_, List.getElem?_eq_getElem (by rw [HL.out]; exact hlt2)⟩
          obtain ⟨b, off, ar, cr, rfl, hc, hlv⟩ := (HV.out.keep HK2.out).at_ i l hl
          have HOK := Lib.hid (HP.out.all l (List.mem_of_getElem? hl))
          have HLL := Lib.hid (show l.length = l.length from rfl)
          have hcr := hlv.room
          have hcm := hlv.most
          rw [show maxLen = 9223372036854775807 from rfl] at hcm
          obtain ⟨m, hm⟩ : ∃ m, l.length = m := ⟨_, rfl⟩
          rw [hm] at hc hlv hcr
          have HM := Lib.hid hm
          have HLV := Lib.hid hlv
          have hdec : decide ((i : Int) < (k : Int)) = true := by simp; omega
          clear hl hm hlv
          go_wp2_with (first | (with_reducible refine Txt.wp_region_text mixed quiet (by decide +kernel) ?_) | (with_reducible refine Txt.text_done (by kernel_rfl) ?_))
          go_loopw [36] (fun j wr3 => ∃ t : Nat, t ≤ m ∧ j = .int .i64 t ∧ Hid (Keep [] wr wr3)) (fun j _ => m - (intOf j).toNat)
          case atStart => exact ⟨0, by omega, rfl, Lib.hid (Keep.refl _ _)⟩
          case round =>
            obtain ⟨t, ht, rfl, HK3⟩ := hrel
            by_cases hlt3 : t < m
            · obtain ⟨x, hx⟩ : ∃ x, l[t]? = some x := ⟨_, List.getElem?_eq_getElem (by rw [HM.out]; exact hlt3)⟩
              obtain ⟨⟨h1, h2⟩, ⟨h3, h4⟩, h5, h6⟩ := HOK.out x (List.mem_of_getElem? hx)
              obtain ⟨b', off', hab, c0, c1, c2⟩ := (HLV.out.keep HK3.out (by simp)).at_ hlt3
              have hlat : lat l t = x := by rw [lat, List.getD_eq_getElem?_getD, hx]; rfl
              rw [hlat] at c0 c1 c2
              obtain ⟨q, g, u⟩ := x
              simp only at h1 h2 h3 h4 h5 h6 c0 c1 c2
              subst hab
              have d1 : decide (q < 1) = false := by simp; omega
              have d2 : decide (q > 4) = false := by simp; omega
              have d3 : decide (g < 0) = false := by simp; omega
              have d4 : decide (g ≥ 4) = false := by simp; omega
              have d5 : decide (u < -1000) = false := by simp; omega
              have d6 : decide (u > 1000) = false := by simp; omega
              have hdec2 : decide ((t : Int) < (m : Int)) = true := by simp; omega
              clear hx hlat
              go_wp2_with (first | (with_reducible refine Txt.wp_region_text mixed quiet (by decide +kernel) ?_) | (with_reducible refine Txt.text_done (by kernel_rfl) ?_))
              exact ⟨⟨t + 1, hlt3, by go_num, Lib.hid (HK3.out.alloc _)⟩, by simp [intOf]; omega⟩
            · have htm : t = m := by omega
              subst htm
              go_wp2_with (first | (with_reducible refine Txt.wp_region_text mixed quiet (by decide +kernel) ?_) | (with_reducible refine Txt.text_done (by kernel_rfl) ?_))
              exact ⟨⟨i + 1, hlt2, by go_num, Lib.hid (HK2.out.trans HK3.out)⟩, by simp [intOf]; omega⟩
        · have hik : i = k := by omega
          subst hik
          go_wp2_with (first | (with_reducible refine Txt.wp_region_text mixed quiet (by decide +kernel) ?_) | (with_reducible refine Txt.text_done (by kernel_rfl) ?_))
          go_ret
          exact ⟨rfl, HK2.out⟩
end Go.Proofs.YtfcellgjbbfobaaDoor
