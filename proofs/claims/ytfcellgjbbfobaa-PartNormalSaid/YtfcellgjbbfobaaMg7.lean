/- Texts laid together: Q16. -/
import Derived.Test.YtfcellgjbbfobaaMg6
import Derived.Deep.CutBlock
/- PartNormal: the walk. -/
namespace Go
open Go.RowKit
/-- Two steps that lie one behind the other are swapped. -/
def swW (w : World) (g q : Nat) (x y : Ln) : World := ((((((w.setCell ⟨g, q * 3, none⟩ (.int .i64 y.q)).setCell ⟨g, q * 3 + 1, none⟩ (.int .i64 y.g)).setCell ⟨g, q * 3 + 2, none⟩ (.int .i64 y.u)).setCell ⟨g, (q + 1) * 3, none⟩ (.int .i64 x.q)).setCell ⟨g, (q + 1) * 3 + 1, none⟩ (.int .i64 x.g)).setCell ⟨g, (q + 1) * 3 + 2, none⟩ (.int .i64 x.u)).drew
theorem swW_own {w : World} {B n g c q : Nat} {b : List Ln} {x y : Ln} (ho : w.ownsRow B 29 3 (.slice (some ⟨g, 0, none⟩) n c) n (lanesC b)) (hq : q + 1 < b.length) : (swW w g q x y).ownsRow B 29 3 (.slice (some ⟨g, 0, none⟩) n c) n (lanesC ((b.set q y).set (q + 1) x)) := by
  unfold swW
  exact (own_put3Q (own_put3Q ho (i := q) (by omega) y.q y.g y.u) (i := q + 1) (by simpa using hq) x.q x.g x.u).drew
theorem swW_keep (w : World) (g q : Nat) (x y : Ln) : Keep [g] w (swW w g q x y) := by
  unfold swW
  refine Keep.drew ?_
  iterate 6 refine Keep.setCell ?_ (.inl (by simp)) _
  exact Keep.refl _ _
end Go
namespace Go.Proofs.Ytfcellgjbbfobaa
open Go.RowKit
set_option maxRecDepth 100000 in
set_option maxHeartbeats 8000000 in
theorem partNormal_walk (ap : Option Addr) (len cap : Nat) (zs : List Int) (ap2 : Option Addr) (len2 cap2 : Nat) (zs2 : List Int) (w : World) (hz : IntsV w ap len cap zs) (hz2 : IntsV w ap2 len2 cap2 zs2) :
    Calls Try.prog 6 #[.slice ap len cap, .slice ap2 len2 cap2] w fun e w' => e = .returned (.bool true) ∧ Keep [] w w' := by
  have HZ := Lib.hid hz
  have HZ2 := Lib.hid hz2
  have h2r := hz2.room
  have h2m := hz2.most
  rw [show maxLen = 9223372036854775807 from rfl] at h2m
  obtain ⟨P, hP⟩ : ∃ P : Nat, min len2 60 = P := ⟨_, rfl⟩
  have hmn : (min (len2 : Int) 60).toNat = P := by omega
  have hPl : P ≤ len2 := by omega
  clear hz hz2
  go_enter Try.func6, Try.ntmps6
  go_upto_block 0 with (first | (with_reducible refine Txt.wp_region_text mixed quiet (by decide +kernel) ?_) | (with_reducible refine Txt.text_done (by kernel_rfl) ?_) | (go_at_call 9; (with_reducible refine begun9_any.mono ?_); rintro e w1 ⟨rfl, hk1⟩; have HK1 := Lib.hid hk1; clear hk1) | (go_at_call 10; (with_reducible refine (steps10_any (HZ.out.keep HK1.out (by simp))).mono ?_); rintro e w2 ⟨ls, v, rfl, ho2, hok2, hl2, hk2⟩; obtain ⟨a2, c2, rfl, hv2, -⟩ := LnsV.ofOwn ho2; have HV2 := Lib.hid hv2; have HOK := Lib.hid hok2; have HK2 := Lib.hid (HK1.out.trans hk2); have hr2 := hv2.room; have hm2 := hv2.most; rw [show maxLen = 9223372036854775807 from rfl] at hm2; clear ho2 hv2 hok2 hk2) | (go_at_call 12; (with_reducible refine (clone12_any HV2.out (by omega)).mono ?_); rintro e3 w3 ⟨v3, rfl, hk3, ho3⟩; obtain ⟨a3, c3, rfl, hc31, hc32, -⟩ := ownSliceQ ho3; have HK3 := Lib.hid (HK2.out.trans hk3); have HO3 := Lib.hid ho3; have HV3 := Lib.hid (HV2.out.keep hk3 (by simp)); clear hk3 ho3))
  obtain ⟨n, hn⟩ : ∃ n, ls.length = n := ⟨_, rfl⟩
  have HN := Lib.hid hn
  rw [hn] at HV2 HV3 HO3 hl2 hr2 hc31 ⊢
  clear hn
  have HLT2 : Hid (∀ ad, a2 = some ad → 0 < n → ad.block < w2.heap.size) := Lib.hid (fun ad he h0 => by
    obtain ⟨x, hx⟩ : ∃ x, ls[0]? = some x := ⟨_, List.getElem?_eq_getElem (by rw [HN.out]; exact h0)⟩
    obtain ⟨b', off', hab', hb1, _⟩ := lnsAt HV2.out hx
    rw [he] at hab'
    injection hab' with hab'
    rw [hab']
    exact World.block_lt_of_cell? _ _ hb1)
  go_cut [6] (fun v wx => ∃ b : List Ln, v = .slice a3 n c3 ∧ Hid (b.length = n) ∧ Hid (wx.ownsRow w2.heap.size 29 3 (.slice a3 n c3) n (lanesC b)) ∧ Hid (∀ x ∈ b, StOk x) ∧ Hid (LnsV wx a2 n c2 ls) ∧ Hid (Keep [] w wx))
  case first =>
    go_wp2_with fail
    go_loopw [36] (fun j wr => ∃ (k : Nat) (b : List Ln), k ≤ P ∧ j = .int .i64 k ∧ Hid (b.length = n) ∧ Hid (wr.ownsRow w2.heap.size 29 3 (.slice a3 n c3) n (lanesC b)) ∧ Hid (∀ x ∈ b, StOk x) ∧ Hid (LnsV wr a2 n c2 ls) ∧ Hid (Keep [] w wr)) (fun j _ => P - (intOf j).toNat)
    case atStart => exact ⟨0, ls, by omega, rfl, HN, HO3, HOK, HV3, HK3⟩
    case round =>
      obtain ⟨k, b, hk, rfl, HBN, HOB, HOKB, HVA, HK⟩ := hrel
      by_cases hlt : k < P
      · obtain ⟨b1, off1, hab1, hc1⟩ := (HZ2.out.keep HK.out (by simp)).cells (by omega)
        have hcx := hc1 k (by omega)
        obtain ⟨z, hz⟩ : ∃ z, zs2.getD k 0 = z := ⟨_, rfl⟩
        rw [hz] at hcx
        have hdec : decide ((k : Int) < (P : Int)) = true := by simp; omega
        subst hab1
        clear hc1 hz
        by_cases h2 : n < 2
        · have hdec2 : decide ((n : Int) < 2) = true := by simp; omega
          go_wp2_with fail
          go_meet
          exact ⟨b, rfl, HBN, HOB, HOKB, HVA, HK⟩
        · have hdec2 : decide ((n : Int) < 2) = false := by simp; omega
          obtain ⟨p, hp, hw1, hw2⟩ := pred_wrap (n := n) (by omega) hl2
          go_upto_region 10 with (first | (with_reducible refine Txt.wp_region_text mixed quiet (by decide +kernel) ?_) | (with_reducible refine Txt.text_done (by kernel_rfl) ?_) | (go_at_call 11; (with_reducible refine (rest_ex _ _ _ (by omega) (by omega)).mono ?_); rintro e9 w9 ⟨q, rfl, hq, rfl⟩; clear hw1 hw2))
          obtain ⟨g, cg, hve, hcg1, hcg2, hgB, hgl, hth, hcl⟩ := own3Q HOB.out (by omega)
          injection hve with hve _ hcc
          subst hve
          subst hcc
          obtain ⟨x, hx⟩ : ∃ x, b[q]? = some x := ⟨_, List.getElem?_eq_getElem (by rw [HBN.out]; omega)⟩
          obtain ⟨y, hy⟩ : ∃ y, b[q + 1]? = some y := ⟨_, List.getElem?_eq_getElem (by rw [HBN.out]; omega)⟩
          obtain ⟨p0, p1, p2⟩ := hcl q x hx
          obtain ⟨q0, q1, q2⟩ := hcl (q + 1) y hy
          have hqn3 : q + 1 < n := by omega
          have HXO := Lib.hid (HOKB.out x (List.mem_of_getElem? hx))
          have HYO := Lib.hid (HOKB.out y (List.mem_of_getElem? hy))
          have HDP : Hid (∀ w, Calls Try.prog 13 #[lnV x, lnV y] w fun e w' => e = .returned (.tuple #[.bool (dep x y), .int .i64 0]) ∧ Keep [] w w') := Lib.hid (depend13_any x y HXO.out HYO.out)
          obtain ⟨bd, hbd⟩ : ∃ bd, dep x y = bd := ⟨_, rfl⟩
          rw [hbd] at HDP
          have HSW : Hid (∀ w', Keep [] wr w' → ((w'.cell? ⟨g, q * 3, none⟩ = some (.int .i64 x.q) ∧ w'.cell? ⟨g, q * 3 + 1, none⟩ = some (.int .i64 x.g) ∧ w'.cell? ⟨g, q * 3 + 2, none⟩ = some (.int .i64 x.u)) ∧ (w'.cell? ⟨g, (q + 1) * 3, none⟩ = some (.int .i64 y.q) ∧ w'.cell? ⟨g, (q + 1) * 3 + 1, none⟩ = some (.int .i64 y.g) ∧ w'.cell? ⟨g, (q + 1) * 3 + 2, none⟩ = some (.int .i64 y.u)) ∧ ∀ j, w'.frozen? ⟨g, j, none⟩ = false) ∧ (swW w' g q x y).ownsRow w2.heap.size 29 3 (.slice (some ⟨g, 0, none⟩) n c3) n (lanesC ((b.set q y).set (q + 1) x)) ∧ LnsV (swW w' g q x y) a2 n c2 ls ∧ Keep [] w (swW w' g q x y) ∧ w'.ownsRow w2.heap.size 29 3 (.slice (some ⟨g, 0, none⟩) n c3) n (lanesC b) ∧ LnsV w' a2 n c2 ls ∧ Keep [] w w') := Lib.hid (fun w' hk => by
            have ho' := own_keep HOB.out hk (by simp)
            have hv' := HVA.out.keep hk (by simp)
            have hw' := HK.out.trans hk
            have hkw := swW_keep w' g q x y
            refine ⟨⟨⟨hk.cell p0 (by simp), hk.cell p1 (by simp), hk.cell p2 (by simp)⟩, ⟨hk.cell q0 (by simp), hk.cell q1 (by simp), hk.cell q2 (by simp)⟩, ?_⟩, swW_own ho' (by rw [HBN.out]; exact hqn3), hv'.keep hkw (fun z hz => ?_), hw'.call hkw (fun z hz => .inr (by rw [List.mem_singleton.1 hz]; exact Nat.le_trans HK2.out.size hgB)), ho', hv', hw'⟩
            · obtain ⟨g', cg', hve', -, -, -, -, hth', -⟩ := own3Q ho' (by omega)
              obtain rfl : g = g' := by injection hve' with h; injection h with h; injection h
              exact hth'
            · have h1 := HLT2.out z hz (by omega)
              rw [List.mem_singleton]
              omega)
          have HOKS : Hid (∀ z ∈ (b.set q y).set (q + 1) x, StOk z) := Lib.hid (fun z hz => by
            rcases List.mem_or_eq_of_mem_set hz with hz | rfl
            · rcases List.mem_or_eq_of_mem_set hz with hz | rfl
              · exact HOKB.out z hz
              · exact HYO.out
            · exact HXO.out)
          have HLS : Hid (((b.set q y).set (q + 1) x).length = n) := Lib.hid (by rw [List.length_set, List.length_set]; exact HBN.out)
          obtain ⟨x0, x1, x2⟩ := x
          obtain ⟨y0, y1, y2⟩ := y
          unfold lnV at HDP
          unfold swW at HSW
          simp only at p0 p1 p2 q0 q1 q2 HDP HSW
          have hqn2 : q < n := by omega
          have hqn4 : (q : Int) < (n : Int) := by omega
          have hqn5 : (q : Int) + 1 < (n : Int) := by omega
          have hq0 : (0 : Int) ≤ (q : Int) + 1 := by omega
          have hwt : ((q : Int) + 1).toNat = q + 1 := by omega
          have hwq := q_wrap (n := n) hqn3 hl2
          clear hx hy hcl hbd hth
          have HMEAS : Hid (P - (intOf (.int .i64 ((k + 1 : Nat) : Int))).toNat < P - (intOf (.int .i64 (k : Int))).toNat) := Lib.hid (by simp [intOf]; omega)
          go_cut [10, 11] (fun v10 v11 wx => v10 = .bool bd ∧ v11 = .int .i64 0 ∧ Hid (Keep [] wr wx))
          case first =>
            go_region_law (first | (go_simp; go_at_call 13; (with_reducible refine (HDP.out _).mono ?_); rintro e6 w6 ⟨rfl, hk6⟩; have HK6 := Lib.hid hk6; clear hk6))
            all_goals
              go_wp2_with fail
              go_meet
              exact ⟨rfl, rfl, by first | exact Lib.hid HK6.out | exact Lib.hid (((Keep.refl [] wr).drew).trans HK6.out) | exact Lib.hid (((Keep.refl [] wr).drew.drew).trans HK6.out)⟩
          case rest =>
            obtain ⟨rfl, rfl, HK6⟩ := hcut
            obtain ⟨⟨⟨p0, p1, p2⟩, ⟨q0, q1, q2⟩, hth⟩, HS1⟩ := HSW.out _ HK6.out
            have hfz := hth (q * 3)
            have HS := Lib.hid HS1
            clear HS1
            cases bd
            · go_upto_if 70 with fail
              go_wp2_with fail
              go_region
              all_goals
                go_wp2_with fail
                clear hwq hwt hmn hq0
                exact ⟨⟨k + 1, _, hlt, by go_num, HLS, Lib.hid HS.out.1, HOKS, Lib.hid HS.out.2.1, Lib.hid HS.out.2.2.1⟩, by simp [intOf]; omega⟩
            · go_upto_if 70 with (go_at_call 11; (with_reducible refine (rest_ex _ _ _ (by decide) (by decide)).mono ?_); rintro e9 w9 ⟨qd, rfl, hqd, rfl⟩)
              by_cases hqz : qd = 0
              · have hbz : ((qd : Int) == 0) = true := by simp; omega
                clear hqd
                go_wp2_with fail
                go_region
                all_goals
                  go_wp2_with fail
                  clear hwq hwt hmn hq0 hqz hbz
                  exact ⟨⟨k + 1, _, hlt, by go_num, HLS, Lib.hid HS.out.1, HOKS, Lib.hid HS.out.2.1, Lib.hid HS.out.2.2.1⟩, by simp [intOf]; omega⟩
              · have hbz : ((qd : Int) == 0) = false := by simp; omega
                go_wp2_with fail
                clear hwq hwt hmn hq0 hqz hbz hqd
                exact ⟨⟨k + 1, b, hlt, by go_num, HBN, Lib.hid HS.out.2.2.2.1, HOKB, Lib.hid HS.out.2.2.2.2.1, Lib.hid HS.out.2.2.2.2.2⟩, by simp [intOf]; omega⟩
      · have hdec : decide ((k : Int) < (P : Int)) = false := by simp; omega
        go_wp2_with fail
        go_meet
        exact ⟨b, rfl, HBN, HOB, HOKB, HVA, HK⟩
  case rest =>
    obtain ⟨b, rfl, HBN, HOB, HOKB, HVA, HK⟩ := hcut
    obtain ⟨a9, c9, he9, hsv, _⟩ := LnsV.ofOwn HOB.out
    cases he9
    have HVB := Lib.hid hsv
    clear hsv h2r h2m hmn hPl hP HO3 HV3 HK3 HOB HLT2
    have HEQ : Hid (decide (Tr.rnds dep Ln.q ls = Tr.rnds dep Ln.q b) = decide (Tr.normal dep Ln.q ls = Tr.normal dep Ln.q b)) := Lib.hid (decide_eq_decide.2 ((Tr.same_iff dep_q dep_symm ls b).trans (Tr.normal_iff dep_q dep_refl dep_symm ls b)))
    have HOWN : Hid (decide (Tr.rnds dep Ln.q ls = Tr.rnds dep Ln.q (Tr.normal dep Ln.q ls)) = true) := Lib.hid (decide_eq_true ((Tr.same_iff dep_q dep_symm _ _).2 (Tr.normal_same dep_symm Ln.q ls)))
    have HAG : Hid (decide (Tr.normal dep Ln.q (Tr.normal dep Ln.q ls) = Tr.normal dep Ln.q ls) = true) := Lib.hid (decide_eq_true (Tr.normal_again dep_q dep_refl dep_symm ls))
    have HOKN : Hid (∀ x ∈ Tr.normal dep Ln.q ls, StOk x) := Lib.hid (fun x hx => HOK.out x ((Tr.lv_perm (Tr.normal_same dep_symm Ln.q ls)).mem_iff.2 hx))
    obtain ⟨bs, hbs⟩ : ∃ bs, decide (Tr.normal dep Ln.q ls = Tr.normal dep Ln.q b) = bs := ⟨_, rfl⟩
    have HEQ2 : Hid (decide (Tr.rnds dep Ln.q ls = Tr.rnds dep Ln.q b) = bs) := Lib.hid (HEQ.out.trans hbs)
    have HBS := Lib.hid hbs
    clear hbs
    have tok1 : True := trivial
    have tok2 : True := trivial
    have tok3 : True := trivial
    go_wp2_with (first | (with_reducible refine Txt.wp_region_text mixed quiet (by decide +kernel) ?_) | (with_reducible refine Txt.text_done (by kernel_rfl) ?_) | (go_at_call 24; have _t := tok1; (with_reducible refine (normal24_any HVA.out hl2 HOK.out).mono ?_); rintro e w11 ⟨v11, rfl, ho11, hk11⟩; obtain ⟨a11, c11, rfl, hv11, -⟩ := LnsV.ofOwn ho11; have HK11 := Lib.hid (HK.out.trans hk11); have HVA11 := Lib.hid (HVA.out.keep hk11 (by simp)); have HVB11 := Lib.hid (HVB.out.keep hk11 (by simp)); have HV11 := Lib.hid hv11; clear ho11 hv11 hk11 tok1 _t) | (go_at_call 24; have _t := tok2; (with_reducible refine (normal24_any HVB11.out hl2 HOKB.out).mono ?_); rintro e w12 ⟨v12, rfl, ho12, hk12⟩; obtain ⟨a12, c12, rfl, hv12, -⟩ := LnsV.ofOwn ho12; have HK12 := Lib.hid (HK11.out.trans hk12); have HVA12 := Lib.hid (HVA11.out.keep hk12 (by simp)); have HVB12 := Lib.hid (HVB11.out.keep hk12 (by simp)); have HN12 := Lib.hid (HV11.out.keep hk12 (by simp)); have HV12 := Lib.hid hv12; clear ho12 hv12 hk12 tok2 _t) | (go_at_call 14; have _t := tok3; (with_reducible refine (same14_any HVA12.out HVB12.out hl2 hl2 HOK.out HOKB.out).mono ?_); rintro e w13 ⟨rfl, hk13⟩; rw [HEQ2.out]; have HK13 := Lib.hid (HK12.out.trans hk13); have HVA13 := Lib.hid (HVA12.out.keep hk13 (by simp)); have HN13 := Lib.hid (HN12.out.keep hk13 (by simp)); have HM13 := Lib.hid (HV12.out.keep hk13 (by simp)); clear hk13 tok3 _t) | (go_at_call 14; (with_reducible refine (same14_any HVA13.out HN13.out hl2 hl2 HOK.out HOKN.out).mono ?_); rintro e w14 ⟨rfl, hk14⟩; rw [HOWN.out]; have HK14 := Lib.hid (HK13.out.trans hk14); have HN14 := Lib.hid (HN13.out.keep hk14 (by simp)); have HM14 := Lib.hid (HM13.out.keep hk14 (by simp)); clear hk14) | (go_at_call 24; (with_reducible refine (normal24_any HN14.out hl2 HOKN.out).mono ?_); rintro e w15 ⟨v15, rfl, ho15, hk15⟩; obtain ⟨a15, c15, rfl, hv15, -⟩ := LnsV.ofOwn ho15; have HK15 := Lib.hid (HK14.out.trans hk15); have HN15 := Lib.hid (HN14.out.keep hk15 (by simp)); have HM15 := Lib.hid (HM14.out.keep hk15 (by simp)); have HV15 := Lib.hid hv15; clear ho15 hv15 hk15))
    have HC5 : Hid (∀ wr, Keep [] (w15.alloc (.cells #[.int .i64 0, .int .i64 0, .int .i64 0, .int .i64 0, .int .i64 0] 30)) wr → ∀ k, k < 5 → wr.cell? ⟨w15.heap.size, k, none⟩ = some (.int .i64 0)) := Lib.hid (fun wr hk k h5 => by
      rw [cell_of_row wr w15.heap.size k _ 30 (0, 0) (hk.at (blk_new w15 _) (by simp))]
      rcases k with _ | _ | _ | _ | _ | k
      all_goals first | rfl | omega)
    go_loopw [122] (fun j wr => ∃ k : Nat, k ≤ 5 ∧ j = .int .i64 k ∧ Hid (Keep [] (w15.alloc (.cells #[.int .i64 0, .int .i64 0, .int .i64 0, .int .i64 0, .int .i64 0] 30)) wr)) (fun j _ => 5 - (intOf j).toNat)
    case atStart => exact ⟨0, by omega, rfl, Lib.hid (Keep.refl _ _)⟩
    case round =>
      obtain ⟨k, hk, rfl, HKR⟩ := hrel
      by_cases hlt : k < 5
      · have hcx := HC5.out wr HKR.out k hlt
        have hdec : decide ((k : Int) < (5 : Int)) = true := by simp; omega
        go_wp2_with (first | (with_reducible refine Txt.wp_region_text mixed quiet (by decide +kernel) ?_) | (with_reducible refine Txt.text_done (by kernel_rfl) ?_))
        exact ⟨⟨k + 1, by omega, by go_num, HKR⟩, by simp [intOf]; omega⟩
      · obtain rfl : k = 5 := by omega
        have hk0 := ((Keep.refl [] w15).alloc (.cells #[.int .i64 0, .int .i64 0, .int .i64 0, .int .i64 0, .int .i64 0] 30)).trans HKR.out
        have HVX := Lib.hid (HN15.out.keep hk0 (by simp))
        have HVY := Lib.hid (HM15.out.keep hk0 (by simp))
        have HVZ := Lib.hid (HV15.out.keep hk0 (by simp))
        have HKZ := Lib.hid (HK15.out.trans hk0)
        clear hk0
        have tok1 : True := trivial
        go_wp2_with (first | (with_reducible refine Txt.wp_region_text mixed quiet (by decide +kernel) ?_) | (with_reducible refine Txt.text_done (by kernel_rfl) ?_) | (go_at_call 23; have _t := tok1; (with_reducible refine (equal23_any HVX.out HVY.out).mono ?_); rintro e w16 ⟨rfl, hk16⟩; rw [HBS.out]; have HK16 := Lib.hid (HKZ.out.trans hk16); have HVX16 := Lib.hid (HVX.out.keep hk16 (by simp)); have HVZ16 := Lib.hid (HVZ.out.keep hk16 (by simp)); clear hk16 tok1 _t) | (go_at_call 23; (with_reducible refine (equal23_any HVZ16.out HVX16.out).mono ?_); rintro e w17 ⟨rfl, hk17⟩; rw [HAG.out]; have HK17 := Lib.hid (HK16.out.trans hk17); clear hk17))
        all_goals
          go_ret
          exact ⟨by first | rfl | (cases bs <;> rfl), HK17.out⟩
end Go.Proofs.Ytfcellgjbbfobaa
