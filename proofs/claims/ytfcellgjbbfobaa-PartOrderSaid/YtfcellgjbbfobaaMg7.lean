/- Texts laid together: Q19 Q20. -/
import Derived.Test.YtfcellgjbbfobaaMg6
import Derived.Deep.CutBlock
/- PartOrder: the closure 'own'. -/
namespace Go
open Go.RowKit
theorem order_law {a b : List Ln} (h : Tr.rnds dep Ln.q a = Tr.rnds dep Ln.q b) (who : Int) : Tr.cnt dep a.reverse = Tr.cnt dep b.reverse ∧ his who a = his who b := by
  have hp := (Tr.same_iff dep_q dep_symm a b).1 h
  refine ⟨Tr.cnt_perm dep_symm (((List.reverse_perm a).trans (Tr.lv_perm hp)).trans (List.reverse_perm b).symm), ?_⟩
  refine Tr.lv_own hp (C := fun y => !(y.q != who)) (fun x y hx hy => dep_q _ _ ?_)
  simp at hx hy
  rw [hx, hy]
theorem blk_box {w : World} {g : Nat} {u v : Value} {T : TypeId} (h : w.heap[g]? = some (.cells #[u] T (0, 0))) : (w.setCell ⟨g, 0, none⟩ v).heap[g]? = some (.cells #[v] T (0, 0)) := by
  rw [blk_setCell, if_pos rfl, h]
  rfl
end Go
namespace Go.Proofs.Ytfcellgjbbfobaa
open Go.RowKit
theorem own19_any {w : World} {gw n c : Nat} {who : Int} {a : Option Addr} {ls : List Ln} (hv : LnsV w a n c ls) (hn : n ≤ 40) (hw : w.heap[gw]? = some (.cells #[.int .i64 who] 3 (0, 0))) :
    Calls Try.prog 19 #[.slice a n c, .pointer (some ⟨gw, 0, none⟩)] w fun e w' => ∃ (a' : Option Addr) (m c' : Nat), e = .returned (.slice a' m c') ∧ Keep [] w w' ∧ LnsV w' a' m c' (his who ls) := by
  obtain rfl : ls.length = n := hv.len
  have HV := Lib.hid hv
  have HW := Lib.hid hw
  clear hv hw
  go_enter Try.func19, Try.ntmps19
  go_wp2_with (first | (with_reducible refine Txt.wp_region_text mixed quiet (by decide +kernel) ?_) | (with_reducible refine Txt.text_done (by kernel_rfl) ?_) | (go_at_call 12; (with_reducible refine (clone12_any HV.out (by omega)).mono ?_); rintro e w1 ⟨v1, rfl, hk1, ho1⟩; have HK1 := Lib.hid hk1; have HO1 := Lib.hid ho1; have HW1 := Lib.hid (hk1.at HW.out (by simp)); clear hk1 ho1) | (go_at_call 20; (with_reducible refine (delete20_any HO1.out (by omega) HW1.out).mono ?_); rintro e w2 ⟨v2, rfl, hk2, m, ho2⟩))
  go_ret
  obtain ⟨a9, c9, rfl, hv9, -⟩ := LnsV.ofOwn ho2
  exact ⟨a9, m, c9, rfl, HK1.out.call hk2 (fun b hb => .inr (ownLtQ HO1.out b (by simpa using hb)).1), hv9⟩
end Go.Proofs.Ytfcellgjbbfobaa
/- PartOrder: the walk. -/
namespace Go.Proofs.Ytfcellgjbbfobaa
open Go.RowKit
set_option maxRecDepth 100000 in
set_option maxHeartbeats 8000000 in
theorem partOrder_walk (ap : Option Addr) (len cap : Nat) (zs : List Int) (ap2 : Option Addr) (len2 cap2 : Nat) (zs2 : List Int) (who : Int) (w : World) (hz : IntsV w ap len cap zs) (hz2 : IntsV w ap2 len2 cap2 zs2) :
    Calls Try.prog 5 #[.slice ap len cap, .slice ap2 len2 cap2, .int .i64 who] w fun e w' => e = .returned (.bool true) ∧ Keep [] w w' := by
  have HZ := Lib.hid hz
  have HZ2 := Lib.hid hz2
  have h2r := hz2.room
  have h2m := hz2.most
  rw [show maxLen = 9223372036854775807 from rfl] at h2m
  obtain ⟨P, hP⟩ : ∃ P : Nat, min len2 60 = P := ⟨_, rfl⟩
  have hmn : (min (len2 : Int) 60).toNat = P := by omega
  have hPl : P ≤ len2 := by omega
  clear hz hz2
  go_enter Try.func5, Try.ntmps5
  go_wp2_with (first | (with_reducible refine Txt.wp_region_text mixed quiet (by decide +kernel) ?_) | (with_reducible refine Txt.text_done (by kernel_rfl) ?_) | (go_at_call 9; (with_reducible refine begun9_any.mono ?_); rintro e w1 ⟨rfl, hk1⟩; have HK1 := Lib.hid (((Keep.refl [] w).alloc _).trans hk1); have HB1 := Lib.hid (hk1.at (blk_new w _) (by simp)); clear hk1) | (go_at_call 10; (with_reducible refine (steps10_any (HZ.out.keep HK1.out (by simp))).mono ?_); rintro e w2 ⟨ls, v, rfl, ho2, hok2, hl2, hk2⟩; obtain ⟨a2, c2, rfl, hv2, -⟩ := LnsV.ofOwn ho2; have HO2 := Lib.hid ho2; have HV2 := Lib.hid hv2; have HOK := Lib.hid hok2; have HK2 := Lib.hid (HK1.out.trans hk2); have HB2 := Lib.hid (hk2.at HB1.out (by simp)); have hr2 := hv2.room; have hm2 := hv2.most; rw [show maxLen = 9223372036854775807 from rfl] at hm2; clear ho2 hv2 hok2 hk2) | (go_at_call 12; (with_reducible refine (clone12_any HV2.out (by omega)).mono ?_); rintro e3 w3 ⟨v3, rfl, hk3, ho3⟩; obtain ⟨a3, c3, rfl, hc31, hc32, -⟩ := ownSliceQ ho3; have HK3 := Lib.hid hk3; have HO3 := Lib.hid ho3; clear hk3 ho3))
  obtain ⟨n, hn⟩ : ∃ n, ls.length = n := ⟨_, rfl⟩
  have HN := Lib.hid hn
  rw [hn] at HV2 HO2 HO3 hl2 hr2 hc31 ⊢
  clear hn
  have HLTB := Lib.hid (lt_of_blk HB1.out)
  go_loopw [31] (fun j wr => ∃ (k : Nat) (b : List Ln), k ≤ P ∧ j = .int .i64 k ∧ Hid (b.length = n) ∧ Hid (wr.ownsRow w2.heap.size 29 3 (.slice a3 n c3) n (lanesC b)) ∧ Hid (∀ x ∈ b, StOk x) ∧ Hid (Keep [] w2 wr)) (fun j _ => P - (intOf j).toNat)
  case atStart => exact ⟨0, ls, by omega, rfl, HN, HO3, HOK, HK3⟩
  case round =>
    obtain ⟨k, b, hk, rfl, HBN, HOB, HOKB, HK⟩ := hrel
    by_cases hlt : k < P
    · obtain ⟨b1, off1, hab1, hc1⟩ := (HZ2.out.keep (HK2.out.trans HK.out) (by simp)).cells (by omega)
      have hcx := hc1 k (by omega)
      obtain ⟨z, hz⟩ : ∃ z, zs2.getD k 0 = z := ⟨_, rfl⟩
      rw [hz] at hcx
      have hdec : decide ((k : Int) < (P : Int)) = true := by simp; omega
      subst hab1
      clear hc1 hz
      by_cases h2 : n < 2
      · have hdec2 : decide ((n : Int) ≥ 2) = false := by simp; omega
        go_wp2_with (first | (with_reducible refine Txt.wp_region_text mixed quiet (by decide +kernel) ?_) | (with_reducible refine Txt.text_done (by kernel_rfl) ?_))
        exact ⟨⟨k + 1, b, hlt, by go_num, HBN, HOB, HOKB, HK⟩, by simp [intOf]; omega⟩
      · have hdec2 : decide ((n : Int) ≥ 2) = true := by simp; omega
        obtain ⟨p, hp, hw1, hw2⟩ := pred_wrap (n := n) (by omega) hl2
        go_upto_region 10 with (first | (with_reducible refine Txt.wp_region_text mixed quiet (by decide +kernel) ?_) | (with_reducible refine Txt.text_done (by kernel_rfl) ?_) | (go_at_call 11; (with_reducible refine (rest_ex _ _ _ (by omega) (by omega)).mono ?_); rintro e9 w9 ⟨q, rfl, hq, rfl⟩; clear hw1 hw2))
        obtain ⟨g, cg, hve, hcg1, hcg2, hgB, hgl, hth, hcl⟩ := own3Q HOB.out (by omega)
        injection hve with hve _ hcc
        subst hve
        subst hcc
        obtain ⟨x, hx⟩ : ∃ x, b[q]? = some x := ⟨_, List.getElem?_eq_getElem (by rw [HBN.out]; omega)⟩
        obtain ⟨y, hy⟩ : ∃ y, b[q + 1]? = some y := ⟨_, List.getElem?_eq_getElem (by rw [HBN.out]; omega)⟩
        obtain ⟨p0, p1, p2⟩ := hcl q x hx
        obtain ⟨q0, q1, q2⟩ := hcl (q + 1) y hy
        have HXO := Lib.hid (HOKB.out x (List.mem_of_getElem? hx))
        have HYO := Lib.hid (HOKB.out y (List.mem_of_getElem? hy))
        have hq1n : q + 1 < b.length := by rw [HBN.out]; omega
        have HQN := Lib.hid hq1n
        have hsw : World.ownsRow ((((((wr.setCell ⟨g, q * 3, none⟩ (.int .i64 y.q)).setCell ⟨g, q * 3 + 1, none⟩ (.int .i64 y.g)).setCell ⟨g, q * 3 + 2, none⟩ (.int .i64 y.u)).setCell ⟨g, (q + 1) * 3, none⟩ (.int .i64 x.q)).setCell ⟨g, (q + 1) * 3 + 1, none⟩ (.int .i64 x.g)).setCell ⟨g, (q + 1) * 3 + 2, none⟩ (.int .i64 x.u)) w2.heap.size 29 3 (.slice (some ⟨g, 0, none⟩) n c3) n (lanesC ((b.set q ⟨y.q, y.g, y.u⟩).set (q + 1) ⟨x.q, x.g, x.u⟩)) := own_put3Q (own_put3Q HOB.out (i := q) (by omega) y.q y.g y.u) (i := q + 1) (by simpa using hq1n) x.q x.g x.u
        have hks : Keep [g] wr ((((((wr.setCell ⟨g, q * 3, none⟩ (.int .i64 y.q)).setCell ⟨g, q * 3 + 1, none⟩ (.int .i64 y.g)).setCell ⟨g, q * 3 + 2, none⟩ (.int .i64 y.u)).setCell ⟨g, (q + 1) * 3, none⟩ (.int .i64 x.q)).setCell ⟨g, (q + 1) * 3 + 1, none⟩ (.int .i64 x.g)).setCell ⟨g, (q + 1) * 3 + 2, none⟩ (.int .i64 x.u)).drew := by
          refine Keep.drew ?_
          iterate 6 refine Keep.setCell ?_ (.inl (by simp)) _
          exact Keep.refl _ _
        have hks2 := HK.out.call hks (fun z hz => .inr (by rw [List.mem_singleton.1 hz]; exact hgB))
        have HOKS : Hid (∀ z ∈ (b.set q ⟨y.q, y.g, y.u⟩).set (q + 1) ⟨x.q, x.g, x.u⟩, StOk z) := Lib.hid (fun z hz => by
          rcases List.mem_or_eq_of_mem_set hz with hz | rfl
          · rcases List.mem_or_eq_of_mem_set hz with hz | rfl
            · exact HOKB.out z hz
            · exact HYO.out
          · exact HXO.out)
        have HLS : Hid (((b.set q ⟨y.q, y.g, y.u⟩).set (q + 1) ⟨x.q, x.g, x.u⟩).length = n) := Lib.hid (by rw [List.length_set, List.length_set]; exact HBN.out)
        obtain ⟨x0, x1, x2⟩ := x
        obtain ⟨y0, y1, y2⟩ := y
        simp only at p0 p1 p2 q0 q1 q2 hsw hks2 HOKS HLS
        have HSW := Lib.hid hsw
        have HKS := Lib.hid hks2
        have hfz := hth (q * 3)
        have hqn2 : q < n := by omega
        have hqn3 : q + 1 < n := by omega
        have hqn4 : (q : Int) < (n : Int) := by omega
        have hqn5 : (q : Int) + 1 < (n : Int) := by omega
        have hq0 : (0 : Int) ≤ (q : Int) + 1 := by omega
        have hwt : ((q : Int) + 1).toNat = q + 1 := by omega
        have hwq := q_wrap (n := n) hqn3 hl2
        clear hx hy hcl hq1n hsw hks hks2
        go_region
        all_goals
          go_wp2_with fail
          clear hwq hwt hmn
          exact ⟨⟨k + 1, _, hlt, by go_num, HLS, Lib.hid HSW.out, HOKS, HKS⟩, by simp [intOf]; omega⟩
    · obtain rfl : k = P := by omega
      have hdec : decide ((k : Int) < (k : Int)) = false := by simp
      obtain ⟨bs, hbs⟩ : ∃ bs, decide (Tr.rnds dep Ln.q ls = Tr.rnds dep Ln.q b) = bs := ⟨_, rfl⟩
      have HBS := Lib.hid hbs
      have HLAW : Hid (bs = true → ∀ who, Tr.cnt dep ls.reverse = Tr.cnt dep b.reverse ∧ his who ls = his who b) := Lib.hid (fun h => order_law (of_decide_eq_true (hbs.trans h)))
      clear hbs
      have HVA := Lib.hid (HV2.out.keep HK.out (by simp))
      obtain ⟨a9, c9, he9, hsv, _⟩ := LnsV.ofOwn HOB.out
      cases he9
      have HVB := Lib.hid hsv
      clear hsv
      cases bs with
      | false =>
        go_wp2_with (first | (with_reducible refine Txt.wp_region_text mixed quiet (by decide +kernel) ?_) | (with_reducible refine Txt.text_done (by kernel_rfl) ?_) | (go_at_call 14; (with_reducible refine (same14_any HVA.out HVB.out hl2 hl2 HOK.out HOKB.out).mono ?_); rintro e7 w7 ⟨rfl, hk7⟩; rw [HBS.out]; have HK7 := Lib.hid hk7; clear hk7))
        go_ret
        exact ⟨rfl, (HK2.out.trans HK.out).trans HK7.out⟩
      | true =>
        have HL := Lib.hid (HLAW.out rfl)
        clear HLAW
        go_upto_region 17 with (first | (with_reducible refine Txt.wp_region_text mixed quiet (by decide +kernel) ?_) | (with_reducible refine Txt.text_done (by kernel_rfl) ?_) | (go_at_call 14; (with_reducible refine (same14_any HVA.out HVB.out hl2 hl2 HOK.out HOKB.out).mono ?_); rintro e7 w7 ⟨rfl, hk7⟩; rw [HBS.out]; have HK7 := Lib.hid hk7; clear hk7))
        have hb7 := (HK.out.trans HK7.out).at HB2.out (by simp)
        have c0 := cell_of_row w7 w.heap.size 0 _ 3 (0, 0) hb7
        have hfz := thaw hb7 0
        have HOA7 := own_keep HO2.out (HK.out.trans HK7.out) (by simp)
        have HOB7 := own_keep HOB.out HK7.out (by simp)
        have HKX : Hid (∀ v, Keep [w.heap.size] w7 (w7.setCell ⟨w.heap.size, 0, none⟩ v)) := Lib.hid (fun v => (Keep.refl _ _).setCell (.inl (by simp)) v)
        have HVA8 : Hid (∀ v, LnsV (w7.setCell ⟨w.heap.size, 0, none⟩ v) a2 n c2 ls) := Lib.hid (fun v => by
          obtain ⟨a9, c9, he9, hsv, _⟩ := LnsV.ofOwn (own_keep HOA7 (HKX.out v) (fun d hd he => by
            have h1 := (ownLtQ HOA7 d hd).1
            have h2 := HLTB.out
            simp at he
            omega))
          cases he9
          exact hsv)
        have HVB8 : Hid (∀ v, LnsV (w7.setCell ⟨w.heap.size, 0, none⟩ v) a3 n c3 b) := Lib.hid (fun v => by
          obtain ⟨a9, c9, he9, hsv, _⟩ := LnsV.ofOwn (own_keep HOB7 (HKX.out v) (fun d hd he => by
            have h1 := (ownLtQ HOB7 d hd).1
            have h2 := HLTB.out
            have h3 := HK2.out.size
            have h4 := lt_of_blk HB2.out
            simp at he
            omega))
          cases he9
          exact hsv)
        have HB8 : Hid (∀ v, (w7.setCell ⟨w.heap.size, 0, none⟩ v).heap[w.heap.size]? = some (.cells #[v] 3 (0, 0))) := Lib.hid (fun v => blk_box hb7)
        have HKW8 : Hid (∀ v, Keep [] w (w7.setCell ⟨w.heap.size, 0, none⟩ v)) := Lib.hid (fun v => ((HK2.out.trans HK.out).trans HK7.out).call (HKX.out v) (fun z hz => .inr (by rw [List.mem_singleton.1 hz]; exact Nat.le_refl _)))
        clear hb7 HOA7 HOB7
        have tok1 : True := trivial
        have tok2 : True := trivial
        go_wp2_with (first | (with_reducible refine Txt.wp_region_text mixed quiet (by decide +kernel) ?_) | (with_reducible refine Txt.text_done (by kernel_rfl) ?_) | (go_at_call 11; (with_reducible refine (rest_ex _ _ _ (by decide) (by decide)).mono ?_); rintro e9 w9 ⟨qw, rfl, hqw, rfl⟩; clear hqw) | (go_at_call 22; have _t := tok1; (with_reducible refine (swaps22_any (HVA8.out _) hl2 HOK.out).mono ?_); rintro e w10 ⟨rfl, hk10⟩; have HK10 := Lib.hid hk10; clear hk10 tok1 _t) | (go_at_call 22; (with_reducible refine (swaps22_any ((HVB8.out _).keep HK10.out (by simp)) hl2 HOKB.out).mono ?_); rintro e w11 ⟨rfl, hk11⟩; have HK11 := Lib.hid (HK10.out.trans hk11); have HVA11 := Lib.hid ((HVA8.out _).keep HK11.out (by simp)); have HVB11 := Lib.hid ((HVB8.out _).keep HK11.out (by simp)); have HB11 := Lib.hid (HK11.out.at (HB8.out _) (by simp)); clear hk11; rw [(HL.out 0).1]) | (go_at_call 19; have _t := tok2; (with_reducible refine (own19_any HVA11.out hl2 HB11.out).mono ?_); rintro e w12 ⟨a12, m12, c12, rfl, hk12, hv12⟩; have HK12 := Lib.hid hk12; have HV12 := Lib.hid hv12; clear hk12 hv12 tok2 _t) | (go_at_call 19; (with_reducible refine (own19_any (HVB11.out.keep HK12.out (by simp)) hl2 (HK12.out.at HB11.out (by simp))).mono ?_); rintro e w13 ⟨a13, m13, c13, rfl, hk13, hv13⟩; have HK13 := Lib.hid hk13; have HV13 := Lib.hid hv13; have HV12' := Lib.hid (HV12.out.keep hk13 (by simp)); clear hk13 hv13) | (go_at_call 23; (with_reducible refine (equal23_any HV12'.out HV13.out).mono ?_); rintro e w14 ⟨rfl, hk14⟩; rw [decide_eq_true (HL.out _).2]; have HK14 := Lib.hid hk14; clear hk14))
        go_ret
        exact ⟨rfl, ((((HKW8.out _).trans HK11.out).trans HK12.out).trans HK13.out).trans HK14.out⟩
end Go.Proofs.Ytfcellgjbbfobaa
