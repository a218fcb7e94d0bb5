/- Texts laid together: H34. -/
import Derived.Test.YtkhchfjhmplaiaaMg13
namespace Go.Proofs.Ytkhchfjhmplaiaa
open Go.RowKit
theorem clone46_at {b off n c : Nat} {xs : List Int} {w : World} (hl : xs.length = n) (hn : n ≤ 200) (h0 : 0 < n) (hc : ∀ j, j < n → w.cell? ⟨b, off + j, none⟩ = some (.int .i64 (xs.getD j 0))) :
    Calls Try.prog 46 #[.slice (some ⟨b, off, none⟩) n c] w fun e w' => ∃ g cap, e = .returned (.slice (some ⟨g, 0, none⟩) n cap) ∧ Keep [] w w' ∧ w.heap.size ≤ g ∧ g < w'.heap.size ∧ n ≤ cap ∧ cap ≤ maxLen ∧ (∀ j, j < n → w'.cell? ⟨g, j, none⟩ = some (.int .i64 (xs.getD j 0))) ∧ ∀ i, w'.frozen? ⟨g, i, none⟩ = false := by
  obtain ⟨i3, hi3, hy0, hy1, hy2⟩ := info_parts info3
  refine (Go.Proofs.Try.slices_Clone i3 _ 1 8 hi3 hy0 hy1 hy2 rfl (by decide) (fun w => by kernel_rfl) b off n c (xs.map (Value.int .i64)) w (by rw [List.length_map, hl]; omega) (by unfold maxLen; omega) (by omega) (fun j u hu => ?_) (fun u hu => ?_)).mono ?_
  · have hj : j < n := by have := (List.getElem?_eq_some_iff.1 hu).1; simp at this; omega
    rw [hc j hj, ← hu, List.getElem?_map]
    simp [List.getD_eq_getElem?_getD, hl ▸ hj]
  · obtain ⟨z, _, rfl⟩ := List.mem_map.1 hu
    rfl
  · rintro e w' ⟨v, rfl, ho, _, hb⟩
    obtain ⟨g, cap, rfl, h1, h2, h3, h4, h5, h6⟩ := own_cells ho h0
    refine ⟨g, cap, rfl, ⟨hb.os, hb.tape, hb.output, hb.size, fun i hi _ => hb.block i hi⟩, h1, h2, h3, h4, fun j hj => ?_, h6⟩
    rw [h5 j hj, List.getElem?_map]
    simp [List.getD_eq_getElem?_getD, hl ▸ hj]
/-- A cut whose one place was raised, in memory. -/
theorem raised {w : World} {g cap p : Nat} {h : List Ln} {x : List Int} (hx : CutOk h (x.set p (x.getD p 0 + 1))) (hl : x.length = 8) (hh : h.length ≤ 200) (hp : p < 8) (hc : 8 ≤ cap) (hm : cap ≤ maxLen) (hcell : ∀ j, j < 8 → w.cell? ⟨g, j, none⟩ = some (.int .i64 (x.getD j 0))) :
    IntsV (w.setCell ⟨g, p, none⟩ (.int .i64 (x.getD p 0 + 1))) (some ⟨g, 0, none⟩) 8 cap (x.set p (x.getD p 0 + 1)) := by
  refine ⟨hx.len, hc, hm, (cut_wf hx hh).2, fun _ => ⟨g, 0, rfl, fun j hj => ?_⟩⟩
  rw [Nat.zero_add, getD_set8 hl hp]
  by_cases e : j = p
  · subst e
    rw [if_pos rfl]
    exact World.cell?_setCell_same _ _ _ (hcell j hj)
  · rw [if_neg e, World.cell?_setCell_other _ _ _ _ (fun h9 => e (by injection h9 with _ h9 _; exact h9.symm))]
    exact hcell j hj
set_option maxRecDepth 100000 in
set_option maxHeartbeats 8000000 in
theorem cutSteps_walk (a : Option Addr) (len cap : Nat) (zs : List Int) (b : Option Addr) (lenb capb : Nat) (bs : List Int) (d : Option Addr) (lend capd : Nat) (ds : List Int) (w : World) (hv : IntsV w a len cap zs) (hvb : IntsV w b lenb capb bs) (hvd : IntsV w d lend capd ds) :
    Calls Try.prog 12 #[.slice a len cap, .slice b lenb capb, .slice d lend capd] w fun e w' => e = .returned (.bool true) ∧ Keep [] w w' := by
  obtain ⟨N, hN⟩ : ∃ N, (hist zs).length = N := ⟨_, rfl⟩
  have hok : HOk (hist zs) := (hist_inv zs).ok
  have hN60 := hist_len zs
  rw [hN] at hN60
  have hNle : N ≤ 60 := by omega
  have HV := Lib.hid hv
  have HVB := Lib.hid hvb
  have HVD := Lib.hid hvd
  have HOK := Lib.hid hok
  have HN := Lib.hid hN
  clear hv hvb hvd hok hN hN60
  go_enter Try.func12, Try.ntmps12
  go_wp2_with (first | (go_at_call 28; refine (cbegun28_any _).mono ?_; rintro e w0 ⟨rfl, hk0⟩) | (go_at_call 20; refine (history_at (HV.out.keep hk0 (by simp)) HN).mono ?_; rintro e w2 ⟨a2, c2, rfl, hk2, hv2⟩; have HV2 := Lib.hid hv2; have hD2 := hk0.trans hk2; clear hv2) | (go_at_call 29; (with_reducible refine (cut29_any HV2.out HOK.out (HVB.out.keep hD2 (by simp))).mono ?_); rintro e w3 ⟨g, C, rfl, hk3, hi3, hC⟩; have HV3 := Lib.hid (HV2.out.keep hk3 (by simp)); have HC3 := Lib.hid hi3; have HCO := Lib.hid hC; have hD3 := hD2.trans hk3; clear hi3 hC) | (go_at_call 31; (with_reducible refine (most31_any HV3.out HOK.out HC3.out HCO.out).mono ?_); rintro e w4 ⟨ax, cx, X, rfl, hk4, hi4, hl4, hw4⟩; have HV4 := Lib.hid (HV3.out.keep hk4 (by simp)); have HX4 := Lib.hid hi4; have HXO := Lib.hid hl4.ok; have HWX := Lib.hid hw4; have hD4 := hD3.trans hk4; clear hi4 hl4 hw4) | (go_at_call 29; (with_reducible refine (cut29_any HV4.out HOK.out (HVD.out.keep hD4 (by simp))).mono ?_); rintro e w5 ⟨gd, D, rfl, hk5, hi5, hD⟩; have HV5 := Lib.hid (HV4.out.keep hk5 (by simp)); have HD5 := Lib.hid hi5; have HDO := Lib.hid hD; clear hi5 hD) | (go_at_call 30; (with_reducible refine (least30_any HV5.out HOK.out HD5.out HDO.out).mono ?_); rintro e w6 ⟨az, cz, Z, rfl, hk6, hi6, hl6, hw6⟩; have HV6 := Lib.hid (HV5.out.keep hk6 (by simp)); have HX6 := Lib.hid (HX4.out.keep (hk5.trans hk6) (by simp)); have HZ6 := Lib.hid hi6; have HZO := Lib.hid hl6.ok; have HWZ := Lib.hid hw6; have hD6 := (hD4.trans hk5).trans hk6; clear hi6 hl6 hw6) | (go_at_call 45; (with_reducible refine (join45_at HV6.out HOK.out HX6.out HZ6.out HXO.out HZO.out).mono ?_); rintro e w7 ⟨ay, cy, rfl, hk7, hi7⟩; have HV7 := Lib.hid (HV6.out.keep hk7 (by simp)); have HX7 := Lib.hid (HX6.out.keep hk7 (by simp)); have HY7 := Lib.hid hi7; have hD7 := hD6.trans hk7; clear hi7) | (go_at_call 33; (with_reducible refine (inside_at HX7.out HY7.out (insB_iff.2 (join_left X Z))).mono ?_); rintro e w8 ⟨rfl, hk8⟩; have hD8 := hD7.trans hk8))
  have HV8 := Lib.hid (HV7.out.keep hk8 (by simp))
  have HX8 := Lib.hid (HX7.out.keep hk8 (by simp))
  have HY8 := Lib.hid (HY7.out.keep hk8 (by simp))
  have HYO := Lib.hid (join_ok HXO.out HZO.out)
  have HWY := Lib.hid (join_whole HOK.out HWX.out HWZ.out)
  have HIN := Lib.hid (join_left X Z)
  have HLK := Lib.hid (lack_start HOK.out HXO.out HYO.out)
  obtain ⟨Y, hY⟩ : ∃ Y, bothL max X Z = Y := ⟨_, rfl⟩
  rw [hY] at HY8 HYO HWY HIN HLK
  rw [HN.out] at HLK
  clear HV2 HV3 HV4 HV5 HV6 HV7 HC3 HX4 HX6 HX7 HD5 HZ6 HY7 hk0 hk2 hk3 hk4 hk5 hk6 hk7 hk8 hD2 hD3 hD4 hD6 hD7 hY
  go_loopw [8, 14, 15, 16, 17, 18, 64] (fun v _ _ _ _ _ j wr => ∃ (r cx : Nat) (ax : Option Addr) (x : List Int), r ≤ N ∧ j = .int .i64 r ∧ v = .slice ax 8 cx ∧ Keep [] w8 wr ∧ Hid (IntsV wr ax 8 cx x) ∧ Hid (CutOk (hist zs) x) ∧ Hid (wholeB (hist zs) x = true) ∧ Hid (InC x Y) ∧ Hid (lackS x Y + r ≤ N)) (fun _ _ _ _ _ _ j _ => N - (intOf j).toNat)
  case atStart => exact ⟨0, _, _, _, by omega, rfl, rfl, Keep.refl _ _, HX8, HXO, HWX, HIN, HLK⟩
  case round =>
    obtain ⟨r, cx1, ax1, x, hr, rfl, rfl, hkw, HX, HO, HW, HI, HL⟩ := hrel
    obtain ⟨wr1, hwr1⟩ : ∃ wr1 : World, wr1 = wr := ⟨_, rfl⟩
    subst hwr1
    have HV1 := Lib.hid (HV8.out.keep hkw (by simp))
    have HY1 := Lib.hid (HY8.out.keep hkw (by simp))
    by_cases hlt : r < N
    · have hdec : decide ((r : Int) < N) = true := by simpa using hlt
      go_wp2_with fail
      obtain ⟨wo, hwo⟩ : ∃ wo : World, wo = wr1 := ⟨_, rfl⟩
      go_loopw [8, 14, 15, 16, 17, 18, 68] (fun v b _ _ _ _ j wr' => ∃ p : Nat, p ≤ 8 ∧ j = .int .i64 p ∧ v = .slice ax1 8 cx1 ∧ b = .bool false ∧ Keep [] wo wr' ∧ Hid (∀ q, q < p → x.getD q 0 < Y.getD q 0 → wholeB (hist zs) (x.set q (x.getD q 0 + 1)) = false)) (fun _ _ _ _ _ _ j _ => 8 - (intOf j).toNat)
      case atStart => exact ⟨0, by omega, rfl, rfl, rfl, by rw [hwo]; exact Keep.refl _ _, Lib.hid (fun q hq => absurd hq (by omega))⟩
      case round =>
        obtain ⟨p, hp, rfl, rfl, rfl, hkp, HP⟩ := hrel
        rw [hwo] at hkp
        obtain ⟨b5, o5, rfl, hcx⟩ := (HX.out.keep hkp (by simp)).cells (by omega)
        obtain ⟨b6, o6, rfl, hcy⟩ := (HY1.out.keep hkp (by simp)).cells (by omega)
        have HCX : Hid (∀ j, j < 8 → wr.drew.cell? ⟨b5, o5 + j, none⟩ = some (.int .i64 (x.getD j 0))) := Lib.hid hcx
        by_cases hp8 : p < 8
        · have d1 := hcx p hp8
          have d2 := hcy p hp8
          have hle := HI.out p hp8
          have hxb := HO.out.bd p hp8
          have hyb := HYO.out.bd p hp8
          have hrk := rk_le' (plQ (hist zs) p) (hist zs).length
          rw [HN.out] at hxb hyb hrk
          obtain ⟨xv, hxv⟩ : ∃ v, x.getD p 0 = v := ⟨_, rfl⟩
          obtain ⟨yv, hyv⟩ : ∃ v, Y.getD p 0 = v := ⟨_, rfl⟩
          rw [hxv] at d1 hle hxb
          rw [hyv] at d2 hle hyb
          have HXV := Lib.hid hxv
          have HYV := Lib.hid hyv
          clear hcx hcy hxv hyv
          by_cases heq : xv = yv
          · have hb : (xv == yv) = true := by rw [heq]; exact beq_self_eq_true _
            go_wp2_with (first | (with_reducible refine Txt.wp_region_text mixed quiet (by decide +kernel) ?_) | (with_reducible refine Txt.text_done (by kernel_rfl) ?_))
            go_roundw
            case measure => simp [intOf]; omega
            case rel => exact ⟨p + 1, by omega, by go_num, rfl, rfl, by rw [hwo]; exact hkp.drew, Lib.hid (fun q hq hlq => by
              by_cases e : q = p
              · subst e; rw [HXV.out, HYV.out] at hlq; omega
              · exact HP.out q (by omega) hlq)⟩
          · have hb : (xv == yv) = false := beq_eq_false_iff_ne.2 heq
            obtain ⟨hst, hsi, hsl⟩ := lack_step HO.out HYO.out HI.out hp8 (show x.getD p 0 < Y.getD p 0 by rw [HXV.out, HYV.out]; omega)
            have HST := Lib.hid hst
            have HSI := Lib.hid hsi
            have HSL := Lib.hid hsl
            obtain ⟨W, hW⟩ : ∃ W, wholeB (hist zs) (x.set p (x.getD p 0 + 1)) = W := ⟨_, rfl⟩
            have HWW := Lib.hid hW
            have HSX := HST
            have HWX5 := HWW
            rw [HXV.out] at HSX HWX5
            clear hst hsi hsl hW
            cases W
            · go_wp2_with (first | (with_reducible refine Txt.wp_region_text mixed quiet (by decide +kernel) ?_) | (with_reducible refine Txt.text_done (by kernel_rfl) ?_) | (go_at_call 46; refine (clone46_at HO.out.len (by omega) (by omega) HCX.out).mono ?_; rintro e w5 ⟨g5, c5, rfl, hk5, hg5, hgl5, hnc5, hcm5, hc5, hf5⟩; have HC5 := Lib.hid hc5; have hk5' := hkp.drew.trans hk5; have hs5 := hk5'.size; have hs6 : wr.heap.size ≤ g5 := hg5; have HR5 := Lib.hid (raised HST.out HO.out.len HOK.out.len hp8 hnc5 hcm5 hc5); have e1 := hc5 p hp8; rw [HXV.out] at e1 HR5; have e2 := hf5 p; have hk6 : Keep [] wr1 (w5.setCell ⟨g5, p, none⟩ (.int .i64 (xv + 1))) := Keep.setCell hk5' (.inr (by have := hkp.size; omega)) _; clear hc5 hf5) | (go_at_call 32; (with_reducible refine (whole32_at (HV1.out.keep hk6 (by simp)) HOK.out HR5.out HSX.out HWX5.out).mono ?_); rintro e w7 ⟨rfl, hk7⟩; have hk8 := hk6.trans hk7))
              exact ⟨⟨p + 1, by omega, by go_num, rfl, rfl, by rw [hwo]; exact hk8, Lib.hid (fun q hq hlq => by
                by_cases e : q = p
                · rw [e]; exact HWW.out
                · exact HP.out q (by omega) hlq)⟩, by simp [intOf]; omega⟩
            · go_wp2_with (first | (with_reducible refine Txt.wp_region_text mixed quiet (by decide +kernel) ?_) | (with_reducible refine Txt.text_done (by kernel_rfl) ?_) | (go_at_call 46; refine (clone46_at HO.out.len (by omega) (by omega) HCX.out).mono ?_; rintro e w5 ⟨g5, c5, rfl, hk5, hg5, hgl5, hnc5, hcm5, hc5, hf5⟩; have HC5 := Lib.hid hc5; have hk5' := hkp.drew.trans hk5; have hs5 := hk5'.size; have hs6 : wr.heap.size ≤ g5 := hg5; have HR5 := Lib.hid (raised HST.out HO.out.len HOK.out.len hp8 hnc5 hcm5 hc5); have e1 := hc5 p hp8; rw [HXV.out] at e1 HR5; have e2 := hf5 p; have hk6 : Keep [] wr1 (w5.setCell ⟨g5, p, none⟩ (.int .i64 (xv + 1))) := Keep.setCell hk5' (.inr (by have := hkp.size; omega)) _; clear hc5 hf5) | (go_at_call 32; (with_reducible refine (whole32_at (HV1.out.keep hk6 (by simp)) HOK.out HR5.out HSX.out HWX5.out).mono ?_); rintro e w7 ⟨rfl, hk7⟩; have hk8 := hk6.trans hk7))
              have h9 := HSI.out
              have h10 := HSL.out
              have h11 := HL.out
              rw [HXV.out] at h9 h10
              exact ⟨⟨r + 1, c5, some ⟨g5, 0, none⟩, x.set p (xv + 1), by omega, by go_num, rfl, hkw.trans hk8, Lib.hid (HR5.out.keep hk7 (by simp)), HSX, HWX5, Lib.hid h9, Lib.hid (by omega)⟩, by simp [intOf]; omega⟩
        · have HXY := Lib.hid (Classical.byContradiction fun hne => by
            obtain ⟨q, hq, hlq, hw⟩ := step_up HOK.out HO.out HYO.out HW.out HWY.out HI.out hne
            rw [HP.out q (by omega) hlq] at hw; exact absurd hw (by decide) : x = Y)
          have HXp := Lib.hid (HX.out.keep hkp (by simp))
          have HYp := Lib.hid (HY1.out.keep hkp (by simp))
          clear hcx hcy HCX
          go_wp2_with (first | (go_at_call 34; (with_reducible refine (equal_same HXp.out HYp.out HXY.out).mono ?_); rintro e wE ⟨rfl, hkE⟩))
          go_ret
          exact ⟨rfl, ((hD8.trans hkw).trans hkp).trans hkE⟩
    · have HXY := Lib.hid (lack_none HO.out HYO.out HI.out (by have := HL.out; omega))
      go_wp2_with (first | (go_at_call 34; (with_reducible refine (equal_same HX.out HY1.out HXY.out).mono ?_); rintro e wE ⟨rfl, hkE⟩))
      go_ret
      exact ⟨rfl, (hD8.trans hkw).trans hkE⟩
end Go.Proofs.Ytkhchfjhmplaiaa
