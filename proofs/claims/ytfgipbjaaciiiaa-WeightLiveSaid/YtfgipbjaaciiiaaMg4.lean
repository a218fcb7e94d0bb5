/- Texts laid together: W6 W7 W8. -/
import Derived.Test.YtfgipbjaaciiiaaMg3
import Derived.Deep.Cut
import Derived.Deep.RegionHeldLaw
import Derived.Deep.AppendLies
namespace Go.Proofs.Ytfgipbjaaciiiaa
open Go.RowKit
theorem hasW_ok {s : WS} {node t : Int} {q : Int} (h : hasW s node t = (q, 0)) : isN s node = true ∧ ∃ t' : Nat, t = t' ∧ t' < s.th.length ∧ (tgAt s t').refs node = q ∧ q ≠ 0 := by
  unfold hasW at h
  by_cases hc : isN s node = true ∧ 0 ≤ t ∧ t < s.th.length
  · rw [if_pos hc] at h
    refine ⟨hc.1, t.toNat, by omega, by omega, ?_⟩
    by_cases hz : (tgAt s t.toNat).refs node = 0
    · rw [if_pos hz] at h; cases h
    · rw [if_neg hz] at h
      obtain ⟨rfl, _⟩ := Prod.mk.inj h
      exact ⟨rfl, hz⟩
  · rw [if_neg hc] at h; cases h
theorem hasW_err {s : WS} {node t q c : Int} (h : hasW s node t = (q, c)) : 0 ≤ c ∧ c ≤ 4 := by
  unfold hasW at h
  split at h
  · split at h <;> (obtain ⟨_, rfl⟩ := Prod.mk.inj h; omega)
  · obtain ⟨_, rfl⟩ := Prod.mk.inj h; omega
set_option maxRecDepth 100000 in
set_option maxHeartbeats 4000000 in
theorem send30_any {w0 w : World} {Wb n : Nat} {s s' : WS} {node t to c : Int} (h : WC w0 Wb n s w) (hbd : WBd s) (hn : n ≤ 1000000) (hr : sendW s node t to = (s', c)) :
    Calls Try.prog 30 #[.pointer (some ⟨Wb, 0, none⟩), .int .i64 node, .int .i64 t, .int .i64 to] w fun e w' => e = .returned (.int .i64 c) ∧ WC w0 Wb (n + 1) s' w' ∧ Out w w' := by
  obtain ⟨q, c1, hh⟩ : ∃ q c, hasW s node t = (q, c) := ⟨_, _, rfl⟩
  have HW0 := Lib.hid h
  have HH := Lib.hid (has29_any h hbd hh)
  unfold sendW at hr
  rw [hh] at hr
  dsimp only at hr
  by_cases hc1 : c1 = 0
  · subst hc1
    rw [if_neg (by simp)] at hr
    obtain ⟨hnode, t', rfl, ht, hq, hq0⟩ := hasW_ok hh
    obtain ⟨hk0, v1, v2, T, M, hm⟩ := h
    have hn' : 0 ≤ node ∧ node < s.nodes := by simpa [isN] using hnode
    have hnd := hbd.nodes
    have HB := Lib.hid hm.blk
    obtain ⟨b0, b1, b2, _⟩ := row3 hm.blk
    obtain ⟨a1, p1, hv1, hp1, hp2, hp3⟩ := own_any hm.own1
    obtain ⟨a2, p2, hv2, hp4, hp5, _⟩ := own_any hm.own2
    unfold maxLen at hp2 hp5
    have hway := hbd.way
    obtain ⟨A, hA⟩ : ∃ A, isN s to = A := ⟨_, rfl⟩
    have HNN := Lib.hid (show (decide (0 ≤ to) && decide (to < s.nodes)) = A from hA)
    rw [hA] at hr
    by_cases hbad : A = false ∨ to = node
    · rw [if_pos hbad] at hr
      obtain ⟨rfl, rfl⟩ := Prod.mk.inj hr
      clear hm hbd hnode hh hA hp1 hp3 hk0 hr hq
      cases A with
      | false =>
        go_enter Try.func30, Try.ntmps30
        go_wp2_with (first | (with_reducible refine Txt.wp_region_text mixed quiet (by decide +kernel) ?_) | (with_reducible refine Txt.text_done (by kernel_rfl) ?_) | (go_at_call 29; (with_reducible refine HH.out.mono ?_); rintro e w1 ⟨rfl, rfl⟩) | (go_at_call 42; (with_reducible refine (node42 HB.out HNN.out).mono ?_); rintro e w2 ⟨rfl, rfl⟩))
        go_ret
        exact ⟨rfl, HW0.out.mono (by omega), Out.keep (Keep.refl _ _)⟩
      | true =>
        have hton : (to == node) = true := by
          rcases hbad with h | h
          · cases h
          · rw [h]; exact beq_self_eq_true _
        go_enter Try.func30, Try.ntmps30
        go_wp2_with (first | (with_reducible refine Txt.wp_region_text mixed quiet (by decide +kernel) ?_) | (with_reducible refine Txt.text_done (by kernel_rfl) ?_) | (go_at_call 29; (with_reducible refine HH.out.mono ?_); rintro e w1 ⟨rfl, rfl⟩) | (go_at_call 42; (with_reducible refine (node42 HB.out HNN.out).mono ?_); rintro e w2 ⟨rfl, rfl⟩))
        go_ret
        exact ⟨rfl, HW0.out.mono (by omega), Out.keep (Keep.refl _ _)⟩
    · rw [if_neg hbad] at hr
      obtain ⟨W, hW⟩ : ∃ W, s.ways.length = W := ⟨_, rfl⟩
      rw [hW] at hr hway hp4
      rw [hv2, hW] at b2
      have HATX : Hid (A = true ∧ (to == node) = false) := Lib.hid ⟨by cases A with | true => rfl | false => exact absurd (Or.inl rfl) hbad, beq_eq_false_iff_ne.2 (fun h => hbad (.inr h))⟩
      by_cases h60 : W = 60
      · rw [if_pos h60] at hr
        obtain ⟨rfl, rfl⟩ := Prod.mk.inj hr
        subst h60
        have hton := HATX.out.2
        rw [HATX.out.1] at HNN
        clear hm hbd hnode hh hA hp1 hp3 hk0 hr hq hW hv2 hbad
        go_enter Try.func30, Try.ntmps30
        go_wp2_with (first | (with_reducible refine Txt.wp_region_text mixed quiet (by decide +kernel) ?_) | (with_reducible refine Txt.text_done (by kernel_rfl) ?_) | (go_at_call 29; (with_reducible refine HH.out.mono ?_); rintro e w1 ⟨rfl, rfl⟩) | (go_at_call 42; (with_reducible refine (node42 HB.out HNN.out).mono ?_); rintro e w2 ⟨rfl, rfl⟩))
        go_ret
        exact ⟨rfl, HW0.out.mono (by omega), Out.keep (Keep.refl _ _)⟩
      · rw [if_neg h60] at hr
        by_cases hone : q = 1
        · rw [if_pos hone] at hr
          obtain ⟨rfl, rfl⟩ := Prod.mk.inj hr
          subst hone
          have hton := HATX.out.2
          have h60b : ((W : Int) == 60) = false := beq_eq_false_iff_ne.2 (by omega)
          rw [HATX.out.1] at HNN
          clear hm hbd hnode hh hA hp1 hp3 hk0 hr hq hW hv2 hbad
          go_enter Try.func30, Try.ntmps30
          go_wp2_with (first | (with_reducible refine Txt.wp_region_text mixed quiet (by decide +kernel) ?_) | (with_reducible refine Txt.text_done (by kernel_rfl) ?_) | (go_at_call 29; (with_reducible refine HH.out.mono ?_); rintro e w1 ⟨rfl, rfl⟩) | (go_at_call 42; (with_reducible refine (node42 HB.out HNN.out).mono ?_); rintro e w2 ⟨rfl, rfl⟩))
          go_ret
          exact ⟨rfl, HW0.out.mono (by omega), Out.keep (Keep.refl _ _)⟩
        · rw [if_neg hone] at hr
          obtain ⟨rfl, rfl⟩ := Prod.mk.inj hr
          obtain ⟨iw, hiw, hi0, hi1, hi2⟩ := info_parts' info94
          have hq1 := (hbd.tg t' ht).2.2.2 node
          rw [hq] at hq1
          obtain ⟨g, rfl, _, hgl, hgc, _⟩ := hp3 (by omega)
          have hpc := hgc t' (by omega)
          rw [ptrs_at ht] at hpc
          obtain ⟨_, hMB, hT, hM⟩ := hm.tb t' ht
          obtain ⟨d0, d1, d2, _⟩ := row3 hT
          have HMM := Lib.hid hM
          have HW := Lib.hid (wf_node hn'.1 (show node ≤ 1000000 by omega))
          have HM := Lib.hid hm
          have HK0 := Lib.hid hk0
          have hsz := hk0.size
          have HO2 : Hid (w.ownsRow w0.heap.size 94 4 (.slice a2 W p2) W (waysC s.ways)) := Lib.hid (by have h9 := hm.own2; rw [hv2, hW] at h9; exact h9)
          have HMO : Hid (M t' ∉ (Value.slice a2 W p2).ownBlock.toList) := Lib.hid (fun hm2 => by
            obtain ⟨c1, h1⟩ := own_cellsT HO2.out (by simpa using hm2)
            exact hM.notCells h1 rfl)
          obtain ⟨L, hL⟩ : ∃ L, s.th.length = L := ⟨_, rfl⟩
          rw [hv1, hL] at b1
          have htL : t' < L := by omega
          have hLl : L ≤ 20 := by have := hbd.len; omega
          have hAt : Hid (A = true) := Lib.hid (by cases A with | true => rfl | false => exact absurd (Or.inl rfl) hbad)
          have hton : (to == node) = false := beq_eq_false_iff_ne.2 (fun h => hbad (.inr h))
          have h60b : ((W : Int) == 60) = false := beq_eq_false_iff_ne.2 (by omega)
          have honeb : (q == 1) = false := beq_eq_false_iff_ne.2 hone
          rw [hAt.out] at HNN
          have HQ := Lib.hid hq
          have HWL := Lib.hid hW
          have HV1 := Lib.hid hv1
          have HV2 := Lib.hid hv2
          clear hv1 hv2 hm hbd hnode hr hh hA hgc hT hM hp1 hp3 hk0 hW hL hq hbad
          go_enter Try.func30, Try.ntmps30
          go_wp2_with (first | (with_reducible refine Txt.wp_region_text mixed quiet (by decide +kernel) ?_) | (with_reducible refine Txt.text_done (by kernel_rfl) ?_) | (go_at_call 29; (with_reducible refine HH.out.mono ?_); rintro e w1 ⟨rfl, rfl⟩) | (go_at_call 42; (with_reducible refine (node42 HB.out HNN.out).mono ?_); rintro e w2 ⟨rfl, rfl⟩) | (at_mapUpdate; refine wpList_update_i _ rfl _ _ _ 90 (.inl rfl) 3 3 Try.underlying90 Try.underlying3 (M t') n _ rfl HMM.out (by unfold maxLen; omega) node _ rfl rfl HW.out ?_; intro w3 hm3 hk3; have HM3 := Lib.hid hm3; have HO3 := Lib.hid (own_keep HO2.out hk3 (fun g hg hx => HMO.out (by simp at hx; rw [← hx]; simp [hg]))); have hb3 := hk3.at HB.out (fun hx => HMM.out.notCells HB.out (by simp at hx; exact hx.symm)); obtain ⟨e0, e1, -, -⟩ := row3 hb3; have e2 := hk3.cell b2 (fun hx => HMM.out.notCells HB.out (by simp at hx; exact hx.symm)); clear hm3) | (at_builtin; refine wpList_append_own _ rfl _ _ 69 rfl w0.heap.size 94 iw (.agg #[.int .i64 0, .int .i64 0, .int .i64 0, .bool false]) 4 32 Try.underlying69 hiw hi0 hi1 hi2 rfl (by decide) (.slice a2 W p2) W (waysC s.ways) rfl (HO3.out.alloc _) ⟨w3.heap.size, 0, none⟩ 1 1 (Wy.cells ⟨to, t', q / 2, false⟩) rfl rfl (cells_new _ _ _ _) (by intro u hu; simp [Wy.cells] at hu; rcases hu with hu | hu | hu | hu <;> (subst hu; rfl)) (by unfold maxLen; omega) (by omega) (by have := hk3.size; simp; omega) ?_; intro v6 w6 hown6 hgr6 _; have HO6 := Lib.hid hown6; have HGR6 := Lib.hid hgr6; have hk36 : Keep (Value.slice a2 W p2).ownBlock.toList w3 w6 := ((Keep.refl _ w3).alloc _).grown hgr6 (fun x hx => .inl (by have h9 : (Value.slice a2 W p2).ownBlock = some x := hx; simp [h9])); have hb6 := hk36.at hb3 (fun hx => absurd (own_type HO3.out hx hb3) (by decide)); obtain ⟨f0, f1, -, -⟩ := row3 hb6; have f2 := hk36.cell e2 (fun hx => absurd (own_type HO3.out hx hb3) (by decide)); obtain ⟨a6, p6, rfl, _, _⟩ := own_any hown6; have z6 := thaw hb6; have hbl6 := lt_of_blk hb6; clear hown6 hgr6))
          have hvo : v2.ownBlock = (Value.slice a2 W p2).ownBlock := by rw [HV2.out]; cases a2 <;> rfl
          have hm3 := HM.out.setRefs ht hk3 (show n ≤ n + 1 by omega) HM3.out
          have hkv : Keep v2.ownBlock.toList w3 w6 := by rw [hvo]; exact hk36
          have hWl : s.ways.length = W := HWL.out
          have hfin := hm3.setWays hkv (v2' := .slice a6 (W + 1) p6) (ways' := s.ways ++ [⟨to, t', q / 2, false⟩]) (by rw [List.length_append, List.length_singleton, hWl, waysC_snoc]; exact HO6.out)
          have hkF : Keep (Wb :: v2.ownBlock.toList) w3 (w6.setCell ⟨Wb, 2, none⟩ (.slice a6 (W + 1) p6)) := (hkv.more (fun b hb => List.mem_cons_of_mem _ hb)).setCell (.inl (by simp)) _
          go_ret
          refine ⟨rfl, ⟨Keep.call (Keep.call HK0.out hk3 (fun z hz => .inr (by simp at hz; rw [hz]; exact hMB))) hkF (fun z hz => .inr ?_), _, _, _, _, hfin⟩, (Out.keepS hk3 (fun b hb cs ty f hc => ?_)).trans (Out.keepS hkF (fun b hb cs ty f hc => ?_))⟩
          · rcases List.mem_cons.1 hz with h | h
            · rw [h]; exact HM.out.hB
            · exact (hm3.own2.lt z (by simpa using h)).1
          · exact absurd (by simpa using hb) (HMM.out.notCells hc).symm
          · rcases List.mem_cons.1 hb with h | h
            · subst h
              have h9 := hm3.blk
              rw [h9] at hc
              injection hc with hc
              injection hc with _ hc _
              exact .inl hc.symm
            · exact .inr (.inr (.inr (own_type hm3.own2 h hc)))
  · rw [if_pos hc1] at hr
    obtain ⟨rfl, rfl⟩ := Prod.mk.inj hr
    have hcb : (c1 != 0) = true := by simpa using hc1
    clear hh h hbd
    go_enter Try.func30, Try.ntmps30
    go_wp2_with (first | (with_reducible refine Txt.wp_region_text mixed quiet (by decide +kernel) ?_) | (with_reducible refine Txt.text_done (by kernel_rfl) ?_) | (go_at_call 29; (with_reducible refine HH.out.mono ?_); rintro e w1 ⟨rfl, rfl⟩))
    go_ret
    exact ⟨rfl, HW0.out.mono (by omega), Out.keep (Keep.refl _ _)⟩
end Go.Proofs.Ytfgipbjaaciiiaa
namespace Go.Proofs.Ytfgipbjaaciiiaa
open Go.RowKit
set_option maxRecDepth 100000 in
set_option maxHeartbeats 4000000 in
theorem drop32_any {w0 w : World} {Wb n : Nat} {s s' : WS} {node t c : Int} (h : WC w0 Wb n s w) (hbd : WBd s) (_ : n ≤ 1000000) (hr : dropW s node t = (s', c)) :
    Calls Try.prog 32 #[.pointer (some ⟨Wb, 0, none⟩), .int .i64 node, .int .i64 t] w fun e w' => e = .returned (.int .i64 c) ∧ WC w0 Wb (n + 1) s' w' ∧ Out w w' := by
  obtain ⟨q, c1, hh⟩ : ∃ q c, hasW s node t = (q, c) := ⟨_, _, rfl⟩
  have HW0 := Lib.hid h
  have HH := Lib.hid (has29_any h hbd hh)
  unfold dropW at hr
  rw [hh] at hr
  dsimp only at hr
  by_cases hc1 : c1 = 0
  · subst hc1
    rw [if_neg (by simp)] at hr
    obtain ⟨hnode, t', rfl, ht, hq, hq0⟩ := hasW_ok hh
    obtain ⟨hk0, v1, v2, T, M, hm⟩ := h
    have hn' : 0 ≤ node ∧ node < s.nodes := by simpa [isN] using hnode
    have hnd := hbd.nodes
    have HB := Lib.hid hm.blk
    obtain ⟨b0, b1, b2, _⟩ := row3 hm.blk
    obtain ⟨a1, p1, hv1, hp1, hp2, hp3⟩ := own_any hm.own1
    obtain ⟨a2, p2, hv2, hp4, hp5, _⟩ := own_any hm.own2
    unfold maxLen at hp2 hp5
    have hway := hbd.way
    obtain ⟨W, hW⟩ : ∃ W, s.ways.length = W := ⟨_, rfl⟩
    rw [hW] at hr hway hp4
    rw [hv2, hW] at b2
    by_cases h60 : W = 60
    · rw [if_pos h60] at hr
      obtain ⟨rfl, rfl⟩ := Prod.mk.inj hr
      subst h60
      clear hm hbd hnode hh hp1 hp3 hk0 hr hq hW hv2
      go_enter Try.func32, Try.ntmps32
      go_wp2_with (first | (with_reducible refine Txt.wp_region_text mixed quiet (by decide +kernel) ?_) | (with_reducible refine Txt.text_done (by kernel_rfl) ?_) | (go_at_call 29; (with_reducible refine HH.out.mono ?_); rintro e w1 ⟨rfl, rfl⟩))
      go_ret
      exact ⟨rfl, HW0.out.mono (by omega), Out.keep (Keep.refl _ _)⟩
    · rw [if_neg h60] at hr
      obtain ⟨rfl, rfl⟩ := Prod.mk.inj hr
      obtain ⟨iw, hiw, hi0, hi1, hi2⟩ := info_parts' info94
      have hq1 := (hbd.tg t' ht).2.2.2 node
      rw [hq] at hq1
      obtain ⟨g, rfl, hg0, hgl, hgc, _⟩ := hp3 (by omega)
      have hpc := hgc t' (by omega)
      rw [ptrs_at ht] at hpc
      obtain ⟨hTB, hMB, hT, hM⟩ := hm.tb t' ht
      obtain ⟨d0, d1, d2, _⟩ := row3 hT
      have HMM := Lib.hid hM
      have HTT := Lib.hid hT
      have HW := Lib.hid (wf_node hn'.1 (show node ≤ 1000000 by omega))
      have HM := Lib.hid hm
      have HK0 := Lib.hid hk0
      have hsz := hk0.size
      have HO2 : Hid (w.ownsRow w0.heap.size 94 4 (.slice a2 W p2) W (waysC s.ways)) := Lib.hid (by have h9 := hm.own2; rw [hv2, hW] at h9; exact h9)
      have HO1 : Hid (w.ownsRow w0.heap.size 89 1 v1 s.th.length (ptrs T s.th.length)) := Lib.hid hm.own1
      have HG1 : Hid (v1.ownBlock = some g) := Lib.hid (by rw [hv1]; rfl)
      have HMO : Hid (M t' ∉ (Value.slice a2 W p2).ownBlock.toList) := Lib.hid (fun hm2 => by
        obtain ⟨c1, h1⟩ := own_cellsT HO2.out (by simpa using hm2)
        exact hM.notCells h1 rfl)
      obtain ⟨L, hL⟩ : ∃ L, s.th.length = L := ⟨_, rfl⟩
      rw [hv1, hL] at b1
      have htL : t' < L := by omega
      have hLl : L ≤ 20 := by have := hbd.len; omega
      have h60b : ((W : Int) == 60) = false := beq_eq_false_iff_ne.2 (by omega)
      have HQ := Lib.hid hq
      have HWL := Lib.hid hW
      have HV1 := Lib.hid hv1
      have HV2 := Lib.hid hv2
      obtain ⟨Hm, hHm⟩ : ∃ x, (tgAt s t').home = x := ⟨_, rfl⟩
      rw [hHm] at d0
      have HHM := Lib.hid hHm
      clear hv1 hv2 hm hbd hnode hr hh hgc hT hM hp1 hp3 hk0 hW hL hq hHm
      go_enter Try.func32, Try.ntmps32
      go_upto_region 7 with (first | (with_reducible refine Txt.wp_region_text mixed quiet (by decide +kernel) ?_) | (with_reducible refine Txt.text_done (by kernel_rfl) ?_) | (go_at_call 29; (with_reducible refine HH.out.mono ?_); rintro e w1 ⟨rfl, rfl⟩) | (at_delete; refine wpList_delete_i _ rfl _ _ 90 3 rfl 3 Try.underlying90 Try.underlying3 (M t') n _ rfl HMM.out node rfl HW.out ?_; intro w3 hm3 hk3; have HM3 := Lib.hid hm3; have HO3 := Lib.hid (own_keep HO2.out hk3 (fun g hg hx => HMO.out (by simp at hx; rw [← hx]; simp [hg]))); have hMW : ∀ (b : Nat) (cs : Array Value) (ty : TypeId) (f : Nat × Nat), w1.heap[b]? = some (.cells cs ty f) → b ∉ [M t'] := (fun b cs ty f hb hx => HMM.out.notCells hb (by simp at hx; exact hx.symm)); have hb3 := hk3.at HB.out (hMW _ _ _ _ HB.out); clear hm3))
      obtain ⟨e0, e1, e2, _⟩ := row3 hb3
      have g1 := hk3.cell b1 (hMW _ _ _ _ HB.out)
      have g2 := hk3.cell b2 (hMW _ _ _ _ HB.out)
      obtain ⟨cg, hcg⟩ := own_cellsT HO1.out HG1.out
      have g3 := hk3.cell hpc (hMW _ _ _ _ hcg)
      have hT3 := hk3.at HTT.out (hMW _ _ _ _ HTT.out)
      rw [HHM.out] at hT3
      obtain ⟨g4, _⟩ := row3 hT3
      have z3 := thaw hb3
      have hb3l := lt_of_blk hb3
      have HB3 := Lib.hid hb3
      have HT3 := Lib.hid hT3
      have hcg3 := hk3.at hcg (hMW _ _ _ _ hcg)
      have HCG := Lib.hid hcg3
      clear e0 e1 e2 b0 b1 b2 d0 d1 d2 hpc hcg hb3 hT3 hcg3
      have HXD : Hid (((w3.alloc (.cells #[.int .i64 Hm, .int .i64 t', .int .i64 q, .bool true] 94)).drew).ownsRow w0.heap.size 94 4 (.slice a2 W p2) W (waysC s.ways)) := Lib.hid (own_keep HO3.out (((Keep.refl [] w3).alloc _).drew) (by simp))
      have HNW : Hid (∀ j v, [Value.int .i64 Hm, .int .i64 t', .int .i64 q, .bool true][j]? = some v → ((w3.alloc (.cells #[.int .i64 Hm, .int .i64 t', .int .i64 q, .bool true] 94)).drew).cell? ((⟨w3.heap.size, 0, none⟩ : Addr).add j) = some v) := Lib.hid (cells_new w3 [.int .i64 Hm, .int .i64 t', .int .i64 q, .bool true] 94 (0, 0))
      have HOC : Hid (∀ v ∈ [Value.int .i64 Hm, .int .i64 t', .int .i64 q, .bool true], v.oneCell' = true) := Lib.hid (by intro v hv; simp at hv; rcases hv with hv | hv | hv | hv <;> (subst hv; rfl))
      have HB1 : Hid (W + 1 ≤ maxLen) := Lib.hid (by unfold maxLen; omega)
      have HB2 : Hid ((W + 1) * 32 ≤ 140737488355328) := Lib.hid (by omega)
      have HB4 : Hid (((w3.alloc (.cells #[.int .i64 Hm, .int .i64 t', .int .i64 q, .bool true] 94)).drew).heap.size = w3.heap.size + 1) := Lib.hid (by show (w3.alloc (.cells #[.int .i64 Hm, .int .i64 t', .int .i64 q, .bool true] 94)).heap.size = _; simp)
      have HB5 : Hid (w0.heap.size ≤ ((w3.alloc (.cells #[.int .i64 Hm, .int .i64 t', .int .i64 q, .bool true] 94)).drew).heap.size) := Lib.hid (by rw [HB4.out]; have := hk3.size; omega)
      have hkT : Keep [] w3 (w3.alloc (.cells #[.int .i64 Hm, .int .i64 t', .int .i64 q, .bool true] 94)) := (Keep.refl _ _).alloc _
      have n1 := hkT.cell g1 (by simp)
      have n2 := hkT.cell g2 (by simp)
      have n3 := hkT.cell g3 (by simp)
      have n4 := hkT.cell g4 (by simp)
      have HGW : Hid (g ≠ Wb ∧ T t' ≠ Wb) := Lib.hid ⟨ne_type HCG.out HB3.out (by decide), ne_type HT3.out HB3.out (by decide)⟩
      refine wp_region_held_drew (S := fun w' => w'.cell? ⟨Wb, 1, none⟩ = some (.slice (some ⟨g, 0, none⟩) L p1) ∧ w'.cell? ⟨g, t', none⟩ = some (.pointer (some ⟨T t', 0, none⟩)) ∧ w'.cell? ⟨T t', 0, none⟩ = some (.int .i64 Hm)) (by kernel_rfl) ?_ (fun hHeld1 => ?_)
      · (try dsimp only)
        first | exact ⟨g1, g3, g4⟩ | exact ⟨n1, n3, n4⟩ | exact ⟨m1, m3, m4⟩ | exact ⟨by rw [World.cell?_setCell_other _ _ _ _ (by simp)]; exact m1, by rw [World.cell?_setCell_other _ _ _ _ (fun e => HGW.out.1 (by injection e with e _; exact e.symm))]; exact m3, by rw [World.cell?_setCell_other _ _ _ _ (fun e => HGW.out.2 (by injection e with e _; exact e.symm))]; exact m4⟩ | go_keep
      refine wpAnyH_take (i := 0) (v := ?_) rfl (by kernel_rfl) (by kernel_rfl) (by kernel_rfl) (fun _ _ _ h => h) (Or.inl ⟨by rfl, ?_⟩) (by assumption) ?_
      rotate_left
      · (intro w hSw; (try dsimp only at hSw); go_simp; (try with_reducible rfl))
      try simp only [Act.put]
      try simp only [List.setIfInBounds_toArray]
      try simp only [List.set_cons_succ]
      try simp only [List.set_cons_zero]
      refine wpAnyH_take (i := 1) (v := ?_) rfl (by kernel_rfl) (by kernel_rfl) (by kernel_rfl) (fun _ _ _ h => h) (Or.inl ⟨by rfl, ?_⟩) (by assumption) ?_
      rotate_left
      · (intro w hSw; (try dsimp only at hSw); go_simp; (try with_reducible rfl))
      try simp only [Act.put]
      try simp only [List.setIfInBounds_toArray]
      try simp only [List.set_cons_succ]
      try simp only [List.set_cons_zero]
      refine wpAnyH_take (i := 2) (v := ?_) rfl (by kernel_rfl) (by kernel_rfl) (by kernel_rfl) (fun _ _ _ h => h) (Or.inl ⟨by rfl, ?_⟩) (by assumption) ?_
      rotate_left
      · (intro w hSw; (try dsimp only at hSw); go_simp; (try with_reducible rfl))
      try simp only [Act.put]
      try simp only [List.setIfInBounds_toArray]
      try simp only [List.set_cons_succ]
      try simp only [List.set_cons_zero]
      refine wpAnyH_take (i := 3) (v := ?_) rfl (by kernel_rfl) (by kernel_rfl) (by kernel_rfl) (fun _ _ _ h => h) (Or.inl ⟨by rfl, ?_⟩) (by assumption) ?_
      rotate_left
      · (intro w hSw; (try dsimp only at hSw); go_simp; (try with_reducible rfl))
      try simp only [Act.put]
      try simp only [List.setIfInBounds_toArray]
      try simp only [List.set_cons_succ]
      try simp only [List.set_cons_zero]
      refine wpAnyH_take (i := 5) (v := ?_) rfl (by kernel_rfl) (by kernel_rfl) (by kernel_rfl) (fun _ _ _ h => h) (Or.inl ⟨by rfl, ?_⟩) (by assumption) ?_
      rotate_left
      · (intro w hSw; (try dsimp only at hSw); go_simp; (try with_reducible rfl))
      try simp only [Act.put]
      try simp only [List.setIfInBounds_toArray]
      try simp only [List.set_cons_succ]
      try simp only [List.set_cons_zero]
      refine wpAnyH_take (i := 6) (v := ?_) rfl (by kernel_rfl) (by kernel_rfl) (by kernel_rfl) (fun _ _ _ h => h) (Or.inl ⟨by rfl, ?_⟩) (by assumption) ?_
      rotate_left
      · (intro w hSw; (try dsimp only at hSw); go_simp; (try with_reducible rfl))
      try simp only [Act.put]
      try simp only [List.setIfInBounds_toArray]
      try simp only [List.set_cons_succ]
      try simp only [List.set_cons_zero]
      refine wpAnyH_take (i := 7) (v := ?_) rfl (by kernel_rfl) (by kernel_rfl) (by kernel_rfl) (fun _ _ _ h => h) (Or.inl ⟨by rfl, ?_⟩) (by assumption) ?_
      rotate_left
      · (intro w hSw; (try dsimp only at hSw); go_simp; (try with_reducible rfl))
      try simp only [Act.put]
      try simp only [List.setIfInBounds_toArray]
      try simp only [List.set_cons_succ]
      try simp only [List.set_cons_zero]
      refine wpAnyH_take (i := 8) (v := ?_) rfl (by kernel_rfl) (by kernel_rfl) (by kernel_rfl) (fun _ _ _ h => h) (Or.inl ⟨by rfl, ?_⟩) (by assumption) ?_
      rotate_left
      · (intro w hSw; (try dsimp only at hSw); go_simp; (try with_reducible rfl))
      try simp only [Act.put]
      try simp only [List.setIfInBounds_toArray]
      try simp only [List.set_cons_succ]
      try simp only [List.set_cons_zero]
      refine wpAnyH_take (i := 9) (v := ?_) rfl (by kernel_rfl) (by kernel_rfl) (by kernel_rfl) (fun _ _ _ h => h) (Or.inl ⟨by rfl, ?_⟩) (by assumption) ?_
      rotate_left
      · (intro w hSw; (try dsimp only at hSw); go_simp; (try with_reducible rfl))
      try simp only [Act.put]
      try simp only [List.setIfInBounds_toArray]
      try simp only [List.set_cons_succ]
      try simp only [List.set_cons_zero]
      refine wpAnyH_take (i := 10) (v := ?_) rfl (by kernel_rfl) (by kernel_rfl) (by kernel_rfl) (fun _ _ _ h => h) (Or.inl ⟨by rfl, ?_⟩) (by assumption) ?_
      rotate_left
      · (intro w hSw; (try dsimp only at hSw); go_simp; (try with_reducible rfl))
      try simp only [Act.put]
      try simp only [List.setIfInBounds_toArray]
      try simp only [List.set_cons_succ]
      try simp only [List.set_cons_zero]
      refine wpAnyH_take (i := 11) (v := ?_) rfl (by kernel_rfl) (by kernel_rfl) (by kernel_rfl) (fun _ _ _ h => h) (Or.inl ⟨by rfl, ?_⟩) (by assumption) ?_
      rotate_left
      · (intro w hSw; (try dsimp only at hSw); go_simp; (try with_reducible rfl))
      try simp only [Act.put]
      try simp only [List.setIfInBounds_toArray]
      try simp only [List.set_cons_succ]
      try simp only [List.set_cons_zero]
      refine wpAnyH_take (i := 12) (v := ?_) rfl (by kernel_rfl) (by kernel_rfl) (by kernel_rfl) (fun _ _ _ h => h) (Or.inl ⟨by rfl, ?_⟩) (by assumption) ?_
      rotate_left
      · (intro w hSw; (try dsimp only at hSw); go_simp; (try with_reducible rfl))
      try simp only [Act.put]
      try simp only [List.setIfInBounds_toArray]
      try simp only [List.set_cons_succ]
      try simp only [List.set_cons_zero]
      refine wpAnyH_take (i := 13) (v := ?_) rfl (by kernel_rfl) (by kernel_rfl) (by kernel_rfl) (fun _ _ _ h => h) (Or.inl ⟨by rfl, ?_⟩) (by assumption) ?_
      rotate_left
      · (intro w hSw; (try dsimp only at hSw); go_simp; (try with_reducible rfl))
      try simp only [Act.put]
      try simp only [List.setIfInBounds_toArray]
      try simp only [List.set_cons_succ]
      try simp only [List.set_cons_zero]
      refine wpAnyH_take (i := 14) (v := ?_) rfl (by kernel_rfl) (by kernel_rfl) (by kernel_rfl) (fun _ _ _ h => h) (Or.inl ⟨by rfl, ?_⟩) (by assumption) ?_
      rotate_left
      · (intro w hSw; (try dsimp only at hSw); go_simp; (try with_reducible rfl))
      try simp only [Act.put]
      try simp only [List.setIfInBounds_toArray]
      try simp only [List.set_cons_succ]
      try simp only [List.set_cons_zero]
      refine wpAnyH_take (i := 15) (v := ?_) rfl (by kernel_rfl) (by kernel_rfl) (by kernel_rfl) (fun _ _ _ h => h) (Or.inl ⟨by rfl, ?_⟩) (by assumption) ?_
      rotate_left
      · (intro w hSw; (try dsimp only at hSw); go_simp; (try with_reducible rfl))
      try simp only [Act.put]
      try simp only [List.setIfInBounds_toArray]
      try simp only [List.set_cons_succ]
      try simp only [List.set_cons_zero]
      refine wpAnyH_take (i := 16) (v := ?_) rfl (by kernel_rfl) (by kernel_rfl) (by kernel_rfl) (fun _ _ _ h => h) (Or.inl ⟨by rfl, ?_⟩) (by assumption) ?_
      rotate_left
      · (intro w hSw; (try dsimp only at hSw); go_simp; (try with_reducible rfl))
      try simp only [Act.put]
      try simp only [List.setIfInBounds_toArray]
      try simp only [List.set_cons_succ]
      try simp only [List.set_cons_zero]
      refine wpAnyH_take (i := 17) (v := ?_) rfl (by kernel_rfl) (by kernel_rfl) (by kernel_rfl) (fun _ _ _ h => h) (Or.inl ⟨by rfl, ?_⟩) (by assumption) ?_
      rotate_left
      · (intro w hSw; (try dsimp only at hSw); go_simp; (try with_reducible rfl))
      try simp only [Act.put]
      try simp only [List.setIfInBounds_toArray]
      try simp only [List.set_cons_succ]
      try simp only [List.set_cons_zero]
      refine wpAnyH_ready (rs := [4, 18]) (by kernel_rfl) (by simp) ?_
      refine (AllReadyH.cons rfl (fun K hK => ?_) (AllReadyH.cons rfl (fun K hK => ?_) AllReadyH.nil))
      go_simp
      refine hK.out _ _ ?_ (fun hHeld2 => ?_)
      · (try dsimp only)
        first | exact ⟨g1, g3, g4⟩ | exact ⟨n1, n3, n4⟩ | exact ⟨m1, m3, m4⟩ | exact ⟨by rw [World.cell?_setCell_other _ _ _ _ (by simp)]; exact m1, by rw [World.cell?_setCell_other _ _ _ _ (fun e => HGW.out.1 (by injection e with e _; exact e.symm))]; exact m3, by rw [World.cell?_setCell_other _ _ _ _ (fun e => HGW.out.2 (by injection e with e _; exact e.symm))]; exact m4⟩ | go_keep
      clear hK K
      clear hHeld1
      refine wpAnyH_ready (rs := [18]) (by kernel_rfl) (by simp) ?_
      refine AllReadyH.cons rfl (fun K hK => ?_) AllReadyH.nil
      go_simp
      refine hK.out _ _ ?_ (fun hHeld3 => ?_)
      · (try dsimp only)
        first | exact ⟨g1, g3, g4⟩ | exact ⟨n1, n3, n4⟩ | exact ⟨m1, m3, m4⟩ | exact ⟨by rw [World.cell?_setCell_other _ _ _ _ (by simp)]; exact m1, by rw [World.cell?_setCell_other _ _ _ _ (fun e => HGW.out.1 (by injection e with e _; exact e.symm))]; exact m3, by rw [World.cell?_setCell_other _ _ _ _ (fun e => HGW.out.2 (by injection e with e _; exact e.symm))]; exact m4⟩ | go_keep
      clear hK K
      clear hHeld2
      refine wpAnyH_ready (rs := [19]) (by kernel_rfl) (by simp) ?_
      refine AllReadyH.cons rfl (fun K hK => ?_) AllReadyH.nil
      (first | (refine step_append_lies _ rfl (.tmp 42) (.tmp 56) 69 rfl w0.heap.size 94 iw (.agg #[.int .i64 0, .int .i64 0, .int .i64 0, .bool false]) 4 32 Try.underlying69 hiw hi0 hi1 hi2 rfl (by decide) (.slice a2 W p2) W (waysC s.ways) (by simp [Act.eval]) HXD.out ⟨w3.heap.size, 0, none⟩ 1 1 [.int .i64 Hm, .int .i64 t', .int .i64 q, .bool true] (by simp [Act.eval]) rfl HNW.out HOC.out (by decide) HB1.out HB2.out HB5.out (w3.heap.size + 1) HB4.out ?_; intro gz cz w6 hown6 hgr6 hat6 hlt6; have hkA : Keep (Value.slice a2 W p2).ownBlock.toList w3 w6 := (((Keep.refl _ w3).alloc _).drew).grown hgr6 (fun x hx => .inl (by have h9 : (Value.slice a2 W p2).ownBlock = some x := hx; simp [h9])); have hb6 := hkA.at HB3.out (fun hx => absurd (own_type HO3.out hx HB3.out) (by decide)); have m1 := hkA.cell g1 (fun hx => absurd (own_type HO3.out hx HB3.out) (by decide)); have m2 := hkA.cell g2 (fun hx => absurd (own_type HO3.out hx HB3.out) (by decide)); have m3 := hkA.cell g3 (fun hx => absurd (own_type HO3.out hx HCG.out) (by decide)); have m4 := hkA.cell g4 (fun hx => absurd (own_type HO3.out hx HT3.out) (by decide)); have z6 := thaw hb6; have HO6 := Lib.hid hown6; have HKA := Lib.hid hkA; have HB6 := Lib.hid hb6; clear hb6 hown6 hgr6 hat6 hkA))
      refine hK.out _ _ ?_ (fun hHeld4 => ?_)
      · (try dsimp only)
        first | exact ⟨g1, g3, g4⟩ | exact ⟨n1, n3, n4⟩ | exact ⟨m1, m3, m4⟩ | exact ⟨by rw [World.cell?_setCell_other _ _ _ _ (by simp)]; exact m1, by rw [World.cell?_setCell_other _ _ _ _ (fun e => HGW.out.1 (by injection e with e _; exact e.symm))]; exact m3, by rw [World.cell?_setCell_other _ _ _ _ (fun e => HGW.out.2 (by injection e with e _; exact e.symm))]; exact m4⟩ | go_keep
      clear hK K
      clear hHeld3
      refine wpAnyH_take (i := 20) (v := ?_) rfl (by kernel_rfl) (by kernel_rfl) (by kernel_rfl) (fun _ _ _ h => h) (Or.inl ⟨by rfl, ?_⟩) (by assumption) ?_
      rotate_left
      · (intro w hSw; (try dsimp only at hSw); go_simp; (try with_reducible rfl))
      try simp only [Act.put]
      try simp only [List.setIfInBounds_toArray]
      try simp only [List.set_cons_succ]
      try simp only [List.set_cons_zero]
      refine wpAnyH_take (i := 21) (v := ?_) rfl (by kernel_rfl) (by kernel_rfl) (by kernel_rfl) (fun _ _ _ h => h) (Or.inl ⟨by rfl, ?_⟩) (by assumption) ?_
      rotate_left
      · (intro w hSw; (try dsimp only at hSw); go_simp; (try with_reducible rfl))
      try simp only [Act.put]
      try simp only [List.setIfInBounds_toArray]
      try simp only [List.set_cons_succ]
      try simp only [List.set_cons_zero]
      refine wpAnyH_ready (rs := [22]) (by kernel_rfl) (by simp) ?_
      refine AllReadyH.cons rfl (fun K hK => ?_) AllReadyH.nil
      go_simp
      refine hK.out _ _ ?_ (fun hHeld5 => ?_)
      · (try dsimp only)
        first | exact ⟨g1, g3, g4⟩ | exact ⟨n1, n3, n4⟩ | exact ⟨m1, m3, m4⟩ | exact ⟨by rw [World.cell?_setCell_other _ _ _ _ (by simp)]; exact m1, by rw [World.cell?_setCell_other _ _ _ _ (fun e => HGW.out.1 (by injection e with e _; exact e.symm))]; exact m3, by rw [World.cell?_setCell_other _ _ _ _ (fun e => HGW.out.2 (by injection e with e _; exact e.symm))]; exact m4⟩ | go_keep
      clear hK K
      clear hHeld4
      refine wpAnyH_done (by kernel_rfl) ?_ _
      rotate_left
      go_simp
      refine hK.out _ _ ?_ (fun hHeld6 => ?_)
      · (try dsimp only)
        first | exact ⟨g1, g3, g4⟩ | exact ⟨n1, n3, n4⟩ | exact ⟨m1, m3, m4⟩ | exact ⟨by rw [World.cell?_setCell_other _ _ _ _ (by simp)]; exact m1, by rw [World.cell?_setCell_other _ _ _ _ (fun e => HGW.out.1 (by injection e with e _; exact e.symm))]; exact m3, by rw [World.cell?_setCell_other _ _ _ _ (fun e => HGW.out.2 (by injection e with e _; exact e.symm))]; exact m4⟩ | go_keep
      clear hK K
      clear hHeld1
      refine wpAnyH_ready (rs := [4]) (by kernel_rfl) (by simp) ?_
      refine AllReadyH.cons rfl (fun K hK => ?_) AllReadyH.nil
      go_simp
      refine hK.out _ _ ?_ (fun hHeld7 => ?_)
      · (try dsimp only)
        first | exact ⟨g1, g3, g4⟩ | exact ⟨n1, n3, n4⟩ | exact ⟨m1, m3, m4⟩ | exact ⟨by rw [World.cell?_setCell_other _ _ _ _ (by simp)]; exact m1, by rw [World.cell?_setCell_other _ _ _ _ (fun e => HGW.out.1 (by injection e with e _; exact e.symm))]; exact m3, by rw [World.cell?_setCell_other _ _ _ _ (fun e => HGW.out.2 (by injection e with e _; exact e.symm))]; exact m4⟩ | go_keep
      clear hK K
      clear hHeld6
      refine wpAnyH_ready (rs := [19]) (by kernel_rfl) (by simp) ?_
      refine AllReadyH.cons rfl (fun K hK => ?_) AllReadyH.nil
      (first | (refine step_append_lies _ rfl (.tmp 42) (.tmp 56) 69 rfl w0.heap.size 94 iw (.agg #[.int .i64 0, .int .i64 0, .int .i64 0, .bool false]) 4 32 Try.underlying69 hiw hi0 hi1 hi2 rfl (by decide) (.slice a2 W p2) W (waysC s.ways) (by simp [Act.eval]) HXD.out ⟨w3.heap.size, 0, none⟩ 1 1 [.int .i64 Hm, .int .i64 t', .int .i64 q, .bool true] (by simp [Act.eval]) rfl HNW.out HOC.out (by decide) HB1.out HB2.out HB5.out (w3.heap.size + 1) HB4.out ?_; intro gz cz w6 hown6 hgr6 hat6 hlt6; have hkA : Keep (Value.slice a2 W p2).ownBlock.toList w3 w6 := (((Keep.refl _ w3).alloc _).drew).grown hgr6 (fun x hx => .inl (by have h9 : (Value.slice a2 W p2).ownBlock = some x := hx; simp [h9])); have hb6 := hkA.at HB3.out (fun hx => absurd (own_type HO3.out hx HB3.out) (by decide)); have m1 := hkA.cell g1 (fun hx => absurd (own_type HO3.out hx HB3.out) (by decide)); have m2 := hkA.cell g2 (fun hx => absurd (own_type HO3.out hx HB3.out) (by decide)); have m3 := hkA.cell g3 (fun hx => absurd (own_type HO3.out hx HCG.out) (by decide)); have m4 := hkA.cell g4 (fun hx => absurd (own_type HO3.out hx HT3.out) (by decide)); have z6 := thaw hb6; have HO6 := Lib.hid hown6; have HKA := Lib.hid hkA; have HB6 := Lib.hid hb6; clear hb6 hown6 hgr6 hat6 hkA))
      refine hK.out _ _ ?_ (fun hHeld8 => ?_)
      · (try dsimp only)
        first | exact ⟨g1, g3, g4⟩ | exact ⟨n1, n3, n4⟩ | exact ⟨m1, m3, m4⟩ | exact ⟨by rw [World.cell?_setCell_other _ _ _ _ (by simp)]; exact m1, by rw [World.cell?_setCell_other _ _ _ _ (fun e => HGW.out.1 (by injection e with e _; exact e.symm))]; exact m3, by rw [World.cell?_setCell_other _ _ _ _ (fun e => HGW.out.2 (by injection e with e _; exact e.symm))]; exact m4⟩ | go_keep
      clear hK K
      clear hHeld7
      refine wpAnyH_take (i := 20) (v := ?_) rfl (by kernel_rfl) (by kernel_rfl) (by kernel_rfl) (fun _ _ _ h => h) (Or.inl ⟨by rfl, ?_⟩) (by assumption) ?_
      rotate_left
      · (intro w hSw; (try dsimp only at hSw); go_simp; (try with_reducible rfl))
      try simp only [Act.put]
      try simp only [List.setIfInBounds_toArray]
      try simp only [List.set_cons_succ]
      try simp only [List.set_cons_zero]
      refine wpAnyH_take (i := 21) (v := ?_) rfl (by kernel_rfl) (by kernel_rfl) (by kernel_rfl) (fun _ _ _ h => h) (Or.inl ⟨by rfl, ?_⟩) (by assumption) ?_
      rotate_left
      · (intro w hSw; (try dsimp only at hSw); go_simp; (try with_reducible rfl))
      try simp only [Act.put]
      try simp only [List.setIfInBounds_toArray]
      try simp only [List.set_cons_succ]
      try simp only [List.set_cons_zero]
      refine wpAnyH_ready (rs := [22]) (by kernel_rfl) (by simp) ?_
      refine AllReadyH.cons rfl (fun K hK => ?_) AllReadyH.nil
      go_simp
      refine hK.out _ _ ?_ (fun hHeld9 => ?_)
      · (try dsimp only)
        first | exact ⟨g1, g3, g4⟩ | exact ⟨n1, n3, n4⟩ | exact ⟨m1, m3, m4⟩ | exact ⟨by rw [World.cell?_setCell_other _ _ _ _ (by simp)]; exact m1, by rw [World.cell?_setCell_other _ _ _ _ (fun e => HGW.out.1 (by injection e with e _; exact e.symm))]; exact m3, by rw [World.cell?_setCell_other _ _ _ _ (fun e => HGW.out.2 (by injection e with e _; exact e.symm))]; exact m4⟩ | go_keep
      clear hK K
      clear hHeld8
      refine wpAnyH_done (by kernel_rfl) ?_ _
      rotate_left
      all_goals
        have hvo : v2.ownBlock = (Value.slice a2 W p2).ownBlock := by rw [HV2.out]; cases a2 <;> rfl
        have hm3 := HM.out.setRefs ht hk3 (show n ≤ n + 1 by omega) (HM3.out.mono (show n ≤ n + 1 by omega))
        have hkv : Keep v2.ownBlock.toList w3 w6 := by rw [hvo]; exact HKA.out
        have hfin := hm3.setWays hkv (v2' := .slice (some ⟨gz, 0, none⟩) (W + 1) cz) (ways' := s.ways ++ [⟨Hm, t', q, true⟩]) (by rw [List.length_append, List.length_singleton, HWL.out, waysC_snoc]; exact HO6.out)
        have hkF : Keep (Wb :: v2.ownBlock.toList) w3 (w6.setCell ⟨Wb, 2, none⟩ (.slice (some ⟨gz, 0, none⟩) (W + 1) cz)) := (hkv.more (fun b hb => List.mem_cons_of_mem _ hb)).setCell (.inl (by simp)) _
        rw [← HHM.out] at hfin
        go_wp2_with fail
        go_ret
        refine ⟨rfl, ⟨Keep.call (Keep.call HK0.out hk3 (fun z hz => .inr (by simp at hz; rw [hz]; exact hMB))) hkF (fun z hz => .inr ?_), _, _, _, _, hfin⟩, (Out.keepS hk3 (fun b hb cs ty f hc => ?_)).trans (Out.keepS hkF (fun b hb cs ty f hc => ?_))⟩
        · rcases List.mem_cons.1 hz with h | h
          · rw [h]; exact HM.out.hB
          · exact (hm3.own2.lt z (by simpa using h)).1
        · exact absurd (by simpa using hb) (HMM.out.notCells hc).symm
        · rcases List.mem_cons.1 hb with h | h
          · subst h
            have h9 := hm3.blk
            rw [h9] at hc
            injection hc with hc
            injection hc with _ hc _
            exact .inl hc.symm
          · exact .inr (.inr (.inr (own_type hm3.own2 h hc)))
  · rw [if_pos hc1] at hr
    obtain ⟨rfl, rfl⟩ := Prod.mk.inj hr
    have hcb : (c1 != 0) = true := by simpa using hc1
    clear hh h hbd
    go_enter Try.func32, Try.ntmps32
    go_wp2_with (first | (with_reducible refine Txt.wp_region_text mixed quiet (by decide +kernel) ?_) | (with_reducible refine Txt.text_done (by kernel_rfl) ?_) | (go_at_call 29; (with_reducible refine HH.out.mono ?_); rintro e w1 ⟨rfl, rfl⟩))
    go_ret
    exact ⟨rfl, HW0.out.mono (by omega), Out.keep (Keep.refl _ _)⟩
end Go.Proofs.Ytfgipbjaaciiiaa
namespace Go
theorem waysC_at {l : List Wy} {i j : Nat} (hi : i < l.length) (hj : j < 4) : (waysC l)[i * 4 + j]? = (l.getD i noWy).cells[j]? := by
  have h1 : (waysC l)[i * 4 + j]? = ((waysC l).drop (i * 4))[j]? := by rw [List.getElem?_drop]
  rw [h1, waysC_drop, List.drop_eq_getElem_cons hi, show l.getD i noWy = l[i] by simp [List.getD_eq_getElem?_getD, hi]]
  show (l[i].cells ++ waysC (l.drop (i + 1)))[j]? = _
  rw [List.getElem?_append_left (by show j < 4; exact hj)]
end Go
namespace Go.Proofs.Ytfgipbjaaciiiaa
open Go.RowKit
set_option maxRecDepth 100000 in
set_option maxHeartbeats 4000000 in
theorem come31_any {w0 w : World} {Wb n : Nat} {s s' : WS} {i c : Int} (h : WC w0 Wb n s w) (hbd : WBd s) (hn : n ≤ 1000000) (hr : comeW s i = (s', c)) :
    Calls Try.prog 31 #[.pointer (some ⟨Wb, 0, none⟩), .int .i64 i] w fun e w' => e = .returned (.int .i64 c) ∧ WC w0 Wb (n + 1) s' w' ∧ Out w w' := by
  have HW0 := Lib.hid h
  obtain ⟨hk0, v1, v2, T, M, hm⟩ := h
  have HB := Lib.hid hm.blk
  obtain ⟨b0, b1, b2, _⟩ := row3 hm.blk
  obtain ⟨a1, p1, hv1, hp1, hp2, hp3⟩ := own_any hm.own1
  obtain ⟨a2, p2, hv2, hp4, hp5, hp6⟩ := own_any hm.own2
  unfold maxLen at hp2 hp5
  have hway := hbd.way
  obtain ⟨W, hW⟩ : ∃ W, s.ways.length = W := ⟨_, rfl⟩
  have HWL := Lib.hid hW
  rw [hv2, hW] at b2
  unfold comeW at hr
  by_cases hc : 0 ≤ i ∧ i < s.ways.length
  · obtain ⟨i', rfl⟩ : ∃ i' : Nat, i = i' := ⟨i.toNat, by omega⟩
    have hi : i' < s.ways.length := by omega
    rw [if_pos hc] at hr
    have hxw := hbd.wy _ (show wyAt s i' ∈ s.ways by unfold wyAt; rw [List.getD_eq_getElem?_getD, List.getElem?_eq_getElem hi]; exact List.getElem_mem hi)
    obtain ⟨g2, rfl, _, hgl2, hgc2, _⟩ := hp6 (by omega)
    have hx0 := hgc2 (i' * 4) (by omega)
    have hx1 := hgc2 (i' * 4 + 1) (by omega)
    have hx2 := hgc2 (i' * 4 + 2) (by omega)
    have hx3 := hgc2 (i' * 4 + 3) (by omega)
    rw [show i' * 4 = i' * 4 + 0 by omega, waysC_at hi (by omega)] at hx0
    rw [waysC_at hi (by omega)] at hx1 hx2 hx3
    rw [Nat.add_zero] at hx0
    change _ = some (Value.int .i64 (wyAt s i').to) at hx0
    change _ = some (Value.int .i64 ((wyAt s i').th : Nat)) at hx1
    change _ = some (Value.int .i64 (wyAt s i').wt) at hx2
    change _ = some (Value.bool (wyAt s i').back) at hx3
    rw [show ((i' : Nat) : Int).toNat = i' from rfl] at hr
    obtain ⟨⟨xto, t', xwt, xback⟩, hX⟩ : ∃ x, wyAt s i' = x := ⟨_, rfl⟩
    rw [hX] at hx0 hx1 hx2 hx3 hxw hr
    dsimp only at hx0 hx1 hx2 hx3 hxw hr
    have ht := hxw.1
    obtain ⟨g, rfl, hg0, hgl, hgc, _⟩ := hp3 (by omega)
    have hpc := hgc t' (by omega)
    rw [ptrs_at ht] at hpc
    obtain ⟨hTB, hMB, hT, hM⟩ := hm.tb t' ht
    obtain ⟨d0, d1, d2, _⟩ := row3 hT
    have HMM := Lib.hid hM
    have HTT := Lib.hid hT
    have HM := Lib.hid hm
    have HK0 := Lib.hid hk0
    have hsz := hk0.size
    have HV1 := Lib.hid hv1
    have HV2 := Lib.hid hv2
    have HO1 : Hid (w.ownsRow w0.heap.size 89 1 v1 s.th.length (ptrs T s.th.length)) := Lib.hid hm.own1
    have HO2 : Hid (w.ownsRow w0.heap.size 94 4 (.slice (some ⟨g2, 0, none⟩) s.ways.length p2) s.ways.length (waysC s.ways)) := Lib.hid (by have h9 := hm.own2; rw [hv2] at h9; exact h9)
    have HDL := Lib.hid (delete43_any (HO2.out.alloc (.cells #[.int .i64 xto, .int .i64 t', .int .i64 xwt, .bool xback] 94)) hi (by omega))
    rw [hW] at HDL
    obtain ⟨cg, hcg⟩ := own_cellsT HO1.out (show v1.ownBlock = some g by rw [hv1]; rfl)
    have HCG := Lib.hid hcg
    obtain ⟨L, hL⟩ : ∃ L, s.th.length = L := ⟨_, rfl⟩
    have HTL := Lib.hid hL
    rw [hv1, hL] at b1
    have htL : t' < L := by omega
    have hLl : L ≤ 20 := by have := hbd.len; omega
    have hiW : i' < W := by omega
    have hnd := hbd.nodes
    have htg := hbd.tg t' ht
    have htr := htg.2.2.2 xto
    have hE := blk_new w (.cells #[.int .i64 xto, .int .i64 t', .int .i64 xwt, .bool xback] 94)
    have HE := Lib.hid hE
    have hkE : Keep [] w (w.alloc (.cells #[.int .i64 xto, .int .i64 t', .int .i64 xwt, .bool xback] 94)) := (Keep.refl _ _).alloc _
    have hbE := hkE.at HB.out (by simp)
    have b2E := hkE.cell b2 (by simp)
    have hEs : (w.alloc (.cells #[.int .i64 xto, .int .i64 t', .int .i64 xwt, .bool xback] 94)).heap.size = w.heap.size + 1 := by simp
    have HLT := Lib.hid (lt_of_blk HB.out)
    have hWf := Lib.hid (wf_node hxw.2.1.1 (show xto ≤ 1000000 by omega))
    have HBE := Lib.hid hbE
    have HO2E := Lib.hid (HO2.out.alloc (.cells #[.int .i64 xto, .int .i64 t', .int .i64 xwt, .bool xback] 94))
    clear hv1 hv2 hm hbd hgc hgc2 hT hM hp1 hp3 hp4 hp6 hk0 hcg hL hc hi hE hbE
    go_enter Try.func31, Try.ntmps31
    go_upto_region 5 with (first | (with_reducible refine Txt.wp_region_text mixed quiet (by decide +kernel) ?_) | (with_reducible refine Txt.text_done (by kernel_rfl) ?_) | (go_at_call 43; (with_reducible refine HDL.out.mono ?_); rintro e w2 ⟨v2', rfl, hob, hk2, ho2⟩; obtain ⟨a3, p3, rfl, _, _⟩ := own_any ho2; have HO3 := Lib.hid ho2; have HKD := Lib.hid hk2; have hb2 := hk2.at HBE.out (fun hx => absurd (own_type HO2E.out hx HBE.out) (by decide)); have f2 := hk2.cell b2E (fun hx => absurd (own_type HO2E.out hx HBE.out) (by decide)); have z2 := thaw hb2; have hb2l := lt_of_blk hb2; have HB2 := Lib.hid hb2; have HOB := Lib.hid hob; clear ho2 hob hb2))
    have hvo : v2.ownBlock = (Value.slice (some ⟨g2, 0, none⟩) s.ways.length p2).ownBlock := by rw [HV2.out]
    have hkv : Keep v2.ownBlock.toList w w2 := by
      rw [hvo]
      exact (Keep.more hkE (by simp)).trans HKD.out
    have hWlen : (s.ways.eraseIdx i').length = W - 1 := by rw [List.length_eraseIdx, HWL.out, if_pos hiW]
    have hm2 := HM.out.setWays hkv (v2' := .slice a3 (W - 1) p3) (ways' := s.ways.eraseIdx i') (by rw [hWlen]; exact HO3.out)
    obtain ⟨w3, hw3⟩ : ∃ w3, w2.setCell ⟨Wb, 2, none⟩ (.slice a3 (W - 1) p3) = w3 := ⟨_, rfl⟩
    have hkS : Keep [Wb] w2 w3 := by rw [← hw3]; exact (Keep.refl _ _).setCell (.inl (by simp)) _
    rw [hw3] at hm2 ⊢
    have hE2 := HKD.out.at HE.out (fun hx => by
      have h9 : w.heap.size = g2 := by simpa [Value.ownBlock] using hx
      omega)
    have hE3 := hkS.at hE2 (fun hx => by
      have h9 : w.heap.size = Wb := by simpa using hx
      have := HLT.out
      omega)
    obtain ⟨x0, x1, x2, x3, _⟩ := row4 hE3
    have HM2 := Lib.hid hm2
    obtain ⟨h1, h2, hT3, hM3⟩ := hm2.tb t' (show t' < s.th.length by exact ht)
    obtain ⟨y0, y1, y2, _⟩ := row3 hT3
    have zT := thaw hT3
    have hTl := lt_of_blk hT3
    obtain ⟨c0, c1, c2, _⟩ := row3 hm2.blk
    have hgn : g ∉ v2.ownBlock.toList := fun hx => absurd (own_type HM.out.own2 hx HCG.out) (by decide)
    have hgc3 := hkS.cell (hkv.cell hpc hgn) (fun hx => ne_type HCG.out HB.out (by decide) (by simpa using hx))
    rw [HV1.out, HTL.out] at c1
    have HM3 := Lib.hid hM3
    change w3.cell? _ = some (.int .i64 (tgAt s t').back) at y1
    obtain ⟨Bk, hBk⟩ : ∃ x, (tgAt s t').back = x := ⟨_, rfl⟩
    obtain ⟨Rf, hRf⟩ : ∃ x, (tgAt s t').refs xto = x := ⟨_, rfl⟩
    rw [hBk] at y1 htg
    rw [hRf] at htr
    have HBK := Lib.hid hBk
    have HRF : Hid ((tgAt { s with ways := s.ways.eraseIdx i' } t').refs xto = Rf) := Lib.hid hRf
    have hwt := hxw.2.2
    have hbkb := htg.2
    have hOut : Hid (Keep [] w0 w3 ∧ Out w w3) := Lib.hid (by
      have hk1 : Keep (Wb :: v2.ownBlock.toList) w w3 := (hkv.more (fun b hb => List.mem_cons_of_mem _ hb)).trans (hkS.more (by simp))
      refine ⟨Keep.call HK0.out hk1 (fun z hz => .inr ?_), Out.keepS hk1 (fun b hb cs ty f hc => ?_)⟩
      · rcases List.mem_cons.1 hz with h | h
        · rw [h]; exact HM.out.hB
        · exact (HM.out.own2.lt z (by simpa using h)).1
      · rcases List.mem_cons.1 hb with h | h
        · subst h
          have h9 := HM.out.blk
          rw [h9] at hc
          injection hc with hc
          injection hc with _ hc _
          exact .inl hc.symm
        · exact .inr (.inr (.inr (own_type HM.out.own2 h hc))))
    have HT3 := Lib.hid hT3
    clear hgn hm2 hT3 hM3 hBk hRf hkv hvo hw3 hE2 hE3 hWlen b2E c0 c2 htg
    cases xback with
    | true =>
      rw [if_pos rfl] at hr
      obtain ⟨rfl, rfl⟩ := Prod.mk.inj hr
      go_wp2_with (first | (with_reducible refine Txt.wp_region_text mixed quiet (by decide +kernel) ?_) | (with_reducible refine Txt.text_done (by kernel_rfl) ?_))
      go_ret
      have hfin := WMem.setBack HM2.out (show t' < ({ s with ways := s.ways.eraseIdx i' } : WS).th.length from ht) (Bk + xwt)
      have hk3 : Keep [] (w3.setCell ⟨T t', 1, none⟩ (.int .i64 (Bk + xwt))) (w3.setCell ⟨T t', 1, none⟩ (.int .i64 (Bk + xwt))).drew.drew := ((Keep.refl [] _).drew).drew
      have hkT : Keep [T t'] w3 (w3.setCell ⟨T t', 1, none⟩ (.int .i64 (Bk + xwt))) := (Keep.refl _ _).setCell (.inl (by simp)) _
      rw [HBK.out]
      refine ⟨rfl, ⟨((hOut.out.1.setCell (.inr h1) _).drew).drew, _, _, _, _, (hfin.keep hk3).mono (by omega)⟩, (hOut.out.2.trans (Out.keepS hkT (fun b hb cs ty f hc => ?_))).trans (Out.keep hk3)⟩
      have h9 := HT3.out
      rw [show b = T t' by simpa using hb, h9] at hc
      injection hc with hc
      injection hc with _ hc _
      exact .inr (.inr (.inl hc.symm))
    | false =>
      rw [if_neg (by decide)] at hr
      obtain ⟨rfl, rfl⟩ := Prod.mk.inj hr
      go_wp2_with (first | (with_reducible refine Txt.wp_region_text mixed quiet (by decide +kernel) ?_) | (with_reducible refine Txt.text_done (by kernel_rfl) ?_) | (at_lookup; refine wpList_lookup_i _ rfl _ _ 90 rfl 3 3 Try.underlying90 Try.underlying3 (zero3 _) (M t') n _ rfl HM3.out xto rfl hWf.out ?_) | (at_mapUpdate; refine wpList_update_i _ rfl _ _ _ 90 (.inl rfl) 3 3 Try.underlying90 Try.underlying3 (M t') n _ rfl HM3.out (by unfold maxLen; omega) xto _ rfl rfl hWf.out ?_; intro w5 hm5 hk5; have HM5 := Lib.hid hm5; clear hm5))
      go_ret
      have hfin := WMem.setRefs (n' := n + 1) (HM2.out.keep (by first | exact Keep.refl _ _ | exact (Keep.refl _ _).drew | exact ((Keep.refl _ _).drew).drew)) (show t' < ({ s with ways := s.ways.eraseIdx i' } : WS).th.length from ht) hk5 (by omega) HM5.out
      have hwr : wrap64 ((tgAt { s with ways := s.ways.eraseIdx i' } t').refs xto + xwt) = (tgAt s t').refs xto + xwt := by
        rw [HRF.out]
        have h9 : (tgAt s t').refs xto = Rf := HRF.out
        rw [h9]
        unfold wrap64
        omega
      rw [hwr] at hfin
      have hk35 : Keep [M t'] w3 w5 := by
        first
        | exact hk5
        | exact Keep.trans ((Keep.refl _ _).drew) hk5
        | exact Keep.trans (((Keep.refl _ _).drew).drew) hk5
      refine ⟨rfl, ⟨Keep.call hOut.out.1 hk35 (fun z hz => .inr (by rw [show z = M t' by simpa using hz]; exact h2)), _, _, _, _, hfin⟩, hOut.out.2.trans (Out.keepS hk35 (fun b hb cs ty f hc => ?_))⟩
      exact absurd (by simpa using hb) (HM3.out.notCells hc).symm
  · rw [if_neg hc] at hr
    obtain ⟨rfl, rfl⟩ := Prod.mk.inj hr
    subst hv2
    have hlen : W = s.ways.length := hW.symm
    have hc2 : i < 0 ∨ (W : Int) ≤ i := by omega
    clear hm hbd hp1 hp3 hp6 hW hc hr
    by_cases h0 : i < 0
    · go_enter Try.func31, Try.ntmps31
      go_wp2_with (first | (with_reducible refine Txt.wp_region_text mixed quiet (by decide +kernel) ?_) | (with_reducible refine Txt.text_done (by kernel_rfl) ?_))
      go_ret
      exact ⟨rfl, HW0.out.mono (by omega), Out.keep (Keep.refl _ _)⟩
    · have h1 : (W : Int) ≤ i := by omega
      go_enter Try.func31, Try.ntmps31
      go_wp2_with (first | (with_reducible refine Txt.wp_region_text mixed quiet (by decide +kernel) ?_) | (with_reducible refine Txt.text_done (by kernel_rfl) ?_))
      go_ret
      exact ⟨rfl, HW0.out.mono (by omega), Out.keep (Keep.refl _ _)⟩
end Go.Proofs.Ytfgipbjaaciiiaa
