/- Texts laid together: E12. -/
import Derived.Test.YtfcellgjbbfobaaMg11
import Derived.BigQuiet
import Derived.BigRegion
import Derived.Deep.QuietTactic
/- ExploreAdds: the walk. -/
namespace Go.Proofs.Ytfcellgjbbfobaa
open Go.RowKit Go.Ex Go.Bf
theorem inc_rows (W : World) : RowsL ((W.alloc (.cells #[.int .i64 1, .int .i64 0, .int .i64 0, .int .i64 2, .int .i64 0, .int .i64 1] 57)).alloc (.cells #[.slice (some ⟨W.heap.size, 0, none⟩) 2 2, .slice (some ⟨W.heap.size, 0, none⟩) 2 2, .slice (some ⟨W.heap.size, 0, none⟩) 2 2] 54)) (some ⟨W.heap.size + 1, 0, none⟩) 3 3 inc3 := by
  have b0 := blk_new W (.cells #[.int .i64 1, .int .i64 0, .int .i64 0, .int .i64 2, .int .i64 0, .int .i64 1] 57)
  have b1 := blk_new (W.alloc (.cells #[.int .i64 1, .int .i64 0, .int .i64 0, .int .i64 2, .int .i64 0, .int .i64 1] 57)) (.cells #[.slice (some ⟨W.heap.size, 0, none⟩) 2 2, .slice (some ⟨W.heap.size, 0, none⟩) 2 2, .slice (some ⟨W.heap.size, 0, none⟩) 2 2] 54)
  rw [show (W.alloc (.cells #[.int .i64 1, .int .i64 0, .int .i64 0, .int .i64 2, .int .i64 0, .int .i64 1] 57)).heap.size = W.heap.size + 1 by simp] at b1
  have c0 := ((Keep.refl [] (W.alloc (.cells #[.int .i64 1, .int .i64 0, .int .i64 0, .int .i64 2, .int .i64 0, .int .i64 1] 57))).alloc (.cells #[.slice (some ⟨W.heap.size, 0, none⟩) 2 2, .slice (some ⟨W.heap.size, 0, none⟩) 2 2, .slice (some ⟨W.heap.size, 0, none⟩) 2 2] 54)).at b0 (by simp)
  refine ⟨rfl, Nat.le_refl _, by omega, fun r l hl => ?_⟩
  have hrl : r < 3 := (List.getElem?_eq_some_iff.1 hl).1
  have hl2 : l = [⟨1, 0, 0⟩, ⟨2, 0, 1⟩] := by
    obtain rfl | rfl | rfl : r = 0 ∨ r = 1 ∨ r = 2 := by omega
    all_goals (simp [inc3] at hl; exact hl.symm)
  subst hl2
  refine ⟨_, 0, some ⟨W.heap.size, 0, none⟩, 2, rfl, ?_, lnsBlock (l := [⟨1, 0, 0⟩, ⟨2, 0, 1⟩]) c0 (by simp)⟩
  rw [cellAt b1]
  obtain rfl | rfl | rfl : r = 0 ∨ r = 1 ∨ r = 2 := by omega
  all_goals rfl
theorem inc_pos {E : List (List Int)} (he : EndsOf inc3 E) : 0 < E.length := by
  obtain ⟨s, h1, h2, _⟩ := inc3_one
  exact List.length_pos_of_mem ((he.mem s).2 ⟨h1, h2⟩)
theorem keep_drewN (w : World) (n : Nat) : Keep [] w (w.drewN n) := ⟨rfl, rfl, rfl, Nat.le_refl _, fun _ _ _ => rfl⟩
theorem own_thawE {w : World} {B e m n g c : Nat} {xs : List Value} (h : w.ownsRow B e m (.slice (some ⟨g, 0, none⟩) n c) n xs) : ∀ j, w.frozen? ⟨g, j, none⟩ = false := by
  rcases h.2 with ⟨h0, _⟩ | ⟨g', cap, cur, hv, hb, hg, _⟩
  · cases h0
  · cases hv
    exact thaw hg
set_option maxRecDepth 100000 in
set_option maxHeartbeats 8000000 in
theorem exploreAdds_walk (ap : Option Addr) (len cap : Nat) (zs : List Int) (w : World) (hz : IntsV w ap len cap zs) :
    Calls Try.prog 7 #[.slice ap len cap] w fun e w' => e = .returned (.bool true) ∧ Keep [] w w' := by
  have HZ := Lib.hid hz
  clear hz
  go_enter Try.func7, Try.ntmps7
  go_upto_region 6 with (first | (go_at_call 25; (with_reducible refine (begun25_any _).mono ?_); rintro e0 w0 ⟨rfl, hk0⟩; have HK0 := Lib.hid hk0; clear hk0) | (go_at_call 26; (refine (progs26_any (most := 9) (HZ.out.keep HK0.out (by simp)) (by omega)).mono ?_); rintro e1 w1 ⟨g, vals, rs, rfl, hr1, hr3, hps, _, hk1⟩; have HR1 := Lib.hid hr1; have HPS := Lib.hid hps; have HK1 := Lib.hid (HK0.out.trans hk1); have HB0 := Lib.hid (HK0.out.size); have HKW := Lib.hid hk1; clear hr1 hps hk1))
  have HR2 := Lib.hid (HR1.out.keep0 ((Keep.refl [] w1).alloc (.cells #[.int .i64 0, .int .i64 0, .int .i64 0, .int .i64 0] 53)))
  have HW2 : Hid (ArrAt 53 (w1.alloc (.cells #[.int .i64 0, .int .i64 0, .int .i64 0, .int .i64 0] 53)) w1.heap.size (wantL rs [] 0 0)) := Lib.hid (ArrAt.new 53 w1 [0, 0, 0, 0])
  have HK2 := Lib.hid (HK1.out.alloc (.cells #[.int .i64 0, .int .i64 0, .int .i64 0, .int .i64 0] 53))
  obtain ⟨bw, hbw⟩ : ∃ bw, w1.heap.size = bw := ⟨_, rfl⟩
  have HBW : Hid (w.heap.size ≤ bw) := Lib.hid (by have := HK1.out.size; omega)
  have HB00 : Hid (w.heap.size ≤ w0.heap.size) := Lib.hid HB0.out
  obtain ⟨W2, hW2⟩ : ∃ W2, w1.alloc (.cells #[.int .i64 0, .int .i64 0, .int .i64 0, .int .i64 0] 53) = W2 := ⟨_, rfl⟩
  rw [hW2] at HR2 HW2 HK2 ⊢
  rw [hbw] at HW2 ⊢
  have hgl : g < w1.heap.size := lt_of_blk HR1.out.blk
  clear HR1 HK1 HKW hW2 hgl
  go_loopw [22] (fun j wr => ∃ i : Nat, i ≤ 3 ∧ j = .int .i64 i ∧ Hid (RowsO wr w0.heap.size 54 57 g vals (rsA i rs)) ∧ Hid (ArrAt 53 wr bw (wantL rs [] i 0)) ∧ Hid (Keep [] w wr)) (fun j _ => 3 - (intOf j).toNat)
  case atStart => exact ⟨0, by omega, rfl, Lib.hid (by rw [rsA_zero]; exact HR2.out), HW2, HK2⟩
  case round =>
    obtain ⟨i, hi, rfl, HR, HW, HK⟩ := hrel
    by_cases hlt : i < 3
    · obtain ⟨l, hl⟩ : ∃ l, rs[i]? = some l := ⟨_, List.getElem?_eq_getElem (by omega)⟩
      have hla := rsA_at hl
      obtain ⟨x, l', hx, hl', ho⟩ := HR.out.get (show i < (rsA i rs).length by rw [rsA_len]; omega)
      rw [hla] at hl'
      injection hl' with hl'
      subst hl'
      obtain ⟨a1, c1, hve⟩ := own_sliceE ho
      subst hve
      have hcx := HR.out.cell hx
      have hdec : decide ((i : Int) < 3) = true := by simp; omega
      have HX := Lib.hid hx
      have HL := Lib.hid hl
      have HLA := Lib.hid hla
      obtain ⟨m, hm⟩ : ∃ m, l.length = m := ⟨_, rfl⟩
      have HM := Lib.hid hm
      rw [hm] at hcx HX
      clear hl hla hx ho hm
      go_wp2_with fail
      go_loopw [30] (fun j wr2 => ∃ k : Nat, k ≤ m ∧ j = .int .i64 k ∧ Hid (RowsO wr2 w0.heap.size 54 57 g vals ((rsA i rs).set i (addTo k l))) ∧ Hid (ArrAt 53 wr2 bw (wantL rs l i k)) ∧ Hid (Keep [] w wr2)) (fun j _ => m - (intOf j).toNat)
      case atStart => exact ⟨0, by omega, rfl, Lib.hid (by rw [rsA_set0 HL.out]; exact HR.out), HW, HK⟩
      case round =>
        obtain ⟨k, hk, rfl, HR2', HW2', HK2'⟩ := hrel
        by_cases hlt2 : k < m
        · obtain ⟨d, hd⟩ : ∃ d, l[k]? = some d := ⟨_, List.getElem?_eq_getElem (by rw [HM.out]; exact hlt2)⟩
          have hin : i < (rsA i rs).length := by rw [rsA_len]; omega
          have hrow : ((rsA i rs).set i (addTo k l))[i]? = some (addTo k l) := List.getElem?_set_self hin
          have hown := HR2'.out.row i _ _ HX.out hrow
          rw [addTo_len, HM.out] at hown
          obtain ⟨b, cb, hve, hbc1, hbc2, hbB, hbl, hbat⟩ := own_at hown (by omega)
          injection hve with hv1 hv2 hv3
          subst hv1 hv3
          have hlv := LnsV.ofOwn hown
          obtain ⟨a9, c9, he9, hlv9, _⟩ := hlv
          injection he9 with e1 e2 e3
          subst e1 e3
          obtain ⟨b', o', hbe, c0, c1', c2⟩ := hlv9.at_ hlt2
          injection hbe with hbe
          injection hbe with hbe1 hbe2
          subst hbe1 hbe2
          have hlat : lat (addTo k l) k = d := by rw [lat, List.getD_eq_getElem?_getD, addTo_at hd]; rfl
          rw [hlat, Nat.zero_add] at c0 c1' c2
          have hdo := HPS.out.all l (List.mem_of_getElem? HL.out) d (List.mem_of_getElem? hd)
          have hrn := HR2'.out.putQ (by decide) (k := k) (b := b) (c := c1) (by rw [addTo_len, HM.out]; exact HX.out) hrow (addTo_at hd) 3
          rw [List.set_set, show (addTo k l).set k ⟨3, d.g, d.u⟩ = addTo (k + 1) l from (addTo_next hd).symm] at hrn
          have hcg := HR2'.out.cell HX.out
          obtain ⟨q, g0, u⟩ := d
          obtain ⟨_, ⟨hg1, hg2⟩, hu1, hu2⟩ := hdo
          simp only at hg1 hg2 hu1 hu2 c0 c1' c2 hrn
          obtain ⟨gg, rfl⟩ : ∃ gg : Nat, g0 = gg := ⟨g0.toNat, by omega⟩
          have hg4 : gg < 4 := by omega
          have hbb : b ≠ bw := fun e => by
            have hA := HW2'.out
            unfold ArrAt at hA
            exact own_ne hown hA (by decide) b rfl e
          have hbb1 : ¬ b = bw := hbb
          have hbb2 : ¬ bw = b := fun e => hbb e.symm
          have hcw := HW2'.out.cell (i := gg) (by simp [wantL]; omega)
          rw [wantL_at hg4] at hcw
          have hzw := thaw HW2'.out
          have hwb := wTo_bd (c := gg) (k := k) HPS.out HL.out
          have HWN := Lib.hid (wantL_next (rs := rs) (i := i) hd rfl hg4)
          obtain ⟨wv, hwv⟩ : ∃ wv, wTo rs l i k gg = wv := ⟨_, rfl⟩
          rw [hwv] at hcw hwb HWN
          simp only at HWN
          have hbg : b ≠ g := HR2'.out.blkNe (by decide) HX.out hrow b rfl
          have hzb : ∀ j, wr.frozen? ⟨b, j, none⟩ = false := own_thawE hown
          have hKb : Keep [b] wr (wr.setCell ⟨b, k * 3, none⟩ (.int .i64 3)) := (Keep.refl _ _).setCell (.inl (by simp)) _
          have hwl := HW2'.out.lt
          have hdec2 : decide ((k : Int) < (m : Int)) = true := by simp; omega
          have hcg2 := hKb.cell hcg (by simpa using fun e => hbg e.symm)
          have HRN := Lib.hid hrn
          have HBB0 : Hid (w.heap.size ≤ b) := Lib.hid (Nat.le_trans HB00.out hbB)
          have hrow2 : ((rsA i rs).set i (addTo (k + 1) l))[i]? = some (addTo (k + 1) l) := List.getElem?_set_self hin
          have hown2 := hrn.row i _ _ HX.out hrow2
          rw [addTo_len, HM.out] at hown2
          obtain ⟨a9, c9, he9, hlv9, _⟩ := LnsV.ofOwn hown2
          injection he9 with e1 e2 e3
          subst e1 e3
          obtain ⟨b', o', hbe, d0, d1, d2⟩ := hlv9.at_ hlt2
          injection hbe with hbe
          injection hbe with hbe1 hbe2
          subst hbe1 hbe2
          have hlat2 : lat (addTo (k + 1) l) k = ⟨3, (gg : Int), u⟩ := by
            rw [addTo_next hd, lat, List.getD_eq_getElem?_getD, List.getElem?_set_self (by rw [addTo_len]; exact (List.getElem?_eq_some_iff.1 hd).1)]
            rfl
          rw [hlat2, Nat.zero_add] at d0 d1 d2
          have hcw2 := hKb.cell hcw (by simpa using fun e => hbb e.symm)
          have hzw2 := thaw (hKb.at (show wr.heap[bw]? = _ from HW2'.out) (by simpa using fun e => hbb e.symm))
          have HWW := Lib.hid (hKb.at (show wr.heap[bw]? = _ from HW2'.out) (by simpa using fun e => hbb e.symm))
          have HKb := Lib.hid hKb
          clear hrow hown hlv9 hbat hlat hd hwv hin hrn hown2 hlat2 hrow2
          simp only at d0 d1 d2
          go_upto_region 13 with fail
          clear c0 c1' c2 hcw hzw hzb hcg
          obtain ⟨W, hW⟩ : ∃ W, wr.setCell ⟨b, k * 3, none⟩ (.int .i64 3) = W := ⟨_, rfl⟩
          rw [hW] at HRN d0 d1 d2 hcw2 hzw2 hcg2 HKb HWW ⊢
          clear hW hKb
          go_region
          go_wp2_with fail
          have hK9 : Keep [bw] W (W.setCell ⟨bw, gg, none⟩ (.int .i64 (wv + u))).drew := ((Keep.refl _ _).setCell (.inl (by simp)) _).drew
          have hA9 : ArrAt 53 (W.setCell ⟨bw, gg, none⟩ (.int .i64 (wv + u))).drew bw (wantL rs l i (k + 1)) := by
            rw [HWN.out]
            exact (ArrAt.put (show ArrAt 53 W bw (wantL rs l i k) from HWW.out) gg (wv + u)).drew
          exact ⟨⟨k + 1, hlt2, by go_num, Lib.hid (HRN.out.keepT hK9 HWW.out (by decide) (by decide)), Lib.hid hA9, Lib.hid ((HK2'.out.call HKb.out (fun c hc => by rw [List.mem_singleton] at hc; subst hc; exact .inr HBB0.out)).call hK9 (fun c hc => by rw [List.mem_singleton] at hc; subst hc; exact .inr HBW.out))⟩, by simp [intOf]; omega⟩
        · have hkm : k = m := by omega
          have hdec2 : decide ((k : Int) < (m : Int)) = false := by simp; omega
          have HRF : Hid (RowsO wr w0.heap.size 54 57 g vals (rsA (i + 1) rs)) := Lib.hid (by
            have h := HR2'.out
            rw [hkm, ← HM.out, rsA_next HL.out] at h
            exact h)
          have HWF : Hid (ArrAt 53 wr bw (wantL rs [] (i + 1) 0)) := Lib.hid (by
            have h := HW2'.out
            rw [hkm, ← HM.out] at h
            have e : wantL rs l i l.length = wantL rs [] (i + 1) 0 := by
              unfold wantL
              rw [wTo_row HL.out (m := []), wTo_row HL.out (m := []), wTo_row HL.out (m := []), wTo_row HL.out (m := [])]
            rw [e] at h
            exact h)
          subst hkm
          clear HR2' HW2'
          go_wp2_with fail
          exact ⟨⟨i + 1, hlt, by go_num, HRF, HWF, HK2'⟩, by simp [intOf]; omega⟩
    · have hi3 : i = 3 := by omega
      subst hi3
      have HPA := Lib.hid (add_ok HPS.out)
      have HRS : Hid (RowsL wr (some ⟨g, 0, none⟩) 3 3 (rs.map (fun l => l.map addD))) := Lib.hid (by
        have h := HR.out
        rw [rsA_all (by omega)] at h
        exact h.rows (by simpa using hr3) (by omega))
      have HWE : Hid (wantL rs [] 3 0 = [sumC 0 rs.flatten, sumC 1 rs.flatten, sumC 2 rs.flatten, sumC 3 rs.flatten]) := Lib.hid (by
        unfold wantL
        rw [wTo_end (by omega), wTo_end (by omega), wTo_end (by omega), wTo_end (by omega)])
      obtain ⟨s0', hs0⟩ : ∃ s, sumC 0 rs.flatten = s := ⟨_, rfl⟩
      obtain ⟨s1', hs1⟩ : ∃ s, sumC 1 rs.flatten = s := ⟨_, rfl⟩
      obtain ⟨s2', hs2⟩ : ∃ s, sumC 2 rs.flatten = s := ⟨_, rfl⟩
      obtain ⟨s3', hs3⟩ : ∃ s, sumC 3 rs.flatten = s := ⟨_, rfl⟩
      have hbd : ∀ c, -12000 ≤ sumC c rs.flatten ∧ sumC c rs.flatten ≤ 12000 := fun c => by
        have h1 := sumC_bd (c := c) (l := rs.flatten) (fun d hd => by
          obtain ⟨p, hp1, hp2⟩ := List.mem_flatten.1 hd
          exact HPS.out.all p hp1 d hp2)
        have h2 := HPS.out.tot
        omega
      have HSM : Hid (∀ w, (Op.equalIn 10000 53 (.agg #[.int .i64 s0', .int .i64 s1', .int .i64 s2', .int .i64 s3']) (.agg #[.int .i64 s0', .int .i64 s1', .int .i64 s2', .int .i64 s3'])).run Try.prog w = .ok true w) := Lib.hid (fun w => same53 (by
        intro z hz
        have b0 := hbd 0
        have b1 := hbd 1
        have b2 := hbd 2
        have b3 := hbd 3
        simp only [List.mem_cons, List.not_mem_nil, or_false] at hz
        exact wf_small (by omega) (by omega)) w)
      have HADD : Hid (∀ E, EndsOf (rs.map (fun l => l.map addD)) E → ∃ t4 t5 t6 t7 t8 t9 ta tb, E = [[s0', s1', s2', s3', t4, t5, t6, t7, t8, t9, ta, tb]]) := Lib.hid (fun E hE => by
        have h := adds_one HPA.out add_q hE
        unfold wantS at h
        rw [add_sum, add_sum, add_sum, add_sum, hs0, hs1, hs2, hs3] at h
        exact ⟨_, _, _, _, _, _, _, _, h⟩)
      rw [hs0, hs1, hs2, hs3] at HWE
      have HWB : Hid (wr.heap[bw]? = some (.cells #[.int .i64 s0', .int .i64 s1', .int .i64 s2', .int .i64 s3'] 53 (0, 0))) := Lib.hid (by
        have h := HW.out
        rw [HWE.out] at h
        exact h)
      clear hbd hs0 hs1 hs2 hs3
      go_upto_region 17 with (first | (go_at_call 27; (with_reducible refine (ends27_any HRS.out HPA.out).mono ?_); rintro e3 w3 ⟨v3, E3, rfl, hE3, hEl3, hk3, ho3⟩; have HK3 := Lib.hid hk3; have HO3 := Lib.hid ho3; have HE3 := Lib.hid hE3; clear hE3 hEl3 hk3 ho3))
      obtain ⟨t4, t5, t6, t7, t8, t9, ta, tb, rfl⟩ := HADD.out E3 HE3.out
      obtain ⟨gE, cE, rfl, hgc, hgm, hgb, hgl, hg⟩ := own_at (n := 1) HO3.out (by decide)
      have d0 := hg 0 _ rfl
      have d1 := hg 1 _ rfl
      have d2 := hg 2 _ rfl
      have d3 := hg 3 _ rfl
      obtain ⟨f0, f1, f2, f3, _⟩ := row4 (HK3.out.at HWB.out (by simp))
      have hsm := HSM.out
      clear hg
      go_quiet (fail)
      have HIN := Lib.hid (show RowsL (((w3.drewN nq).alloc (.cells #[.int .i64 1, .int .i64 0, .int .i64 0, .int .i64 2, .int .i64 0, .int .i64 1] 57)).alloc (.cells #[.slice (some ⟨w3.heap.size, 0, none⟩) 2 2, .slice (some ⟨w3.heap.size, 0, none⟩) 2 2, .slice (some ⟨w3.heap.size, 0, none⟩) 2 2] 54)) (some ⟨w3.heap.size + 1, 0, none⟩) 3 3 inc3 from inc_rows (w3.drewN nq))
      have HKN := Lib.hid (show Keep [] w3 (((w3.drewN nq).alloc (.cells #[.int .i64 1, .int .i64 0, .int .i64 0, .int .i64 2, .int .i64 0, .int .i64 1] 57)).alloc (.cells #[.slice (some ⟨w3.heap.size, 0, none⟩) 2 2, .slice (some ⟨w3.heap.size, 0, none⟩) 2 2, .slice (some ⟨w3.heap.size, 0, none⟩) 2 2] 54)) from ((keep_drewN w3 nq).alloc _).alloc _)
      go_upto_region 23 with (first | (go_at_call 27; (with_reducible refine (ends27_any HIN.out inc3_ok).mono ?_); rintro e4 w4 ⟨v4, E4, rfl, hE4, hEl4, hk4, ho4⟩; obtain ⟨hlow, hhigh⟩ := lost_law hE4; obtain ⟨N4, hN4⟩ : ∃ N, E4.length = N := ⟨_, rfl⟩; have hp4 := inc_pos hE4; rw [hN4] at ho4 hp4; obtain ⟨gF, cF, hv4, hF1, hF2, hF3, hF4, hF5⟩ := own_at ho4 hp4; subst hv4; have HF5 := Lib.hid hF5; have HE4 := Lib.hid hE4; have HEL4 := Lib.hid hEl4; have HK4 := Lib.hid hk4; have HLO := Lib.hid hlow; have HHI := Lib.hid hhigh; have HN4 := Lib.hid hN4; clear hE4 hk4 ho4 hlow hhigh hN4 hF5))
      have hN4b : N4 ≤ 218103808 := by rw [← HN4.out]; exact hEl4
      have HKW4 := Lib.hid ((HK.out.trans HK3.out).trans (HKN.out.trans HK4.out))
      clear hEl4 HIN HKN HK4 HO3 HK3 HWB HSM hsm d0 d1 d2 d3 f0 f1 f2 f3 HADD HRS HPA HWE
      go_loopw [89, 12, 13] (fun j lo hi wr => ∃ k : Nat, k ≤ N4 ∧ j = .int .i64 k ∧ lo = .int .i64 (lowF (E4.take k)) ∧ hi = .int .i64 (highF (E4.take k)) ∧ Hid (Keep [] w4 wr)) (fun j _ _ _ => N4 - (intOf j).toNat)
      case atStart => exact ⟨0, by omega, rfl, rfl, rfl, Lib.hid (Keep.refl _ _)⟩
      case round =>
        obtain ⟨k, hk, rfl, rfl, rfl, HKR⟩ := hrel
        obtain ⟨lo, hlo⟩ : ∃ lo, lowF (E4.take k) = lo := ⟨_, rfl⟩
        obtain ⟨hi, hhi⟩ : ∃ hi, highF (E4.take k) = hi := ⟨_, rfl⟩
        have HLO2 := Lib.hid hlo
        have HHI2 := Lib.hid hhi
        rw [hlo, hhi]
        by_cases hlt : k < N4
        · obtain ⟨y, hy⟩ : ∃ y, E4[k]? = some y := ⟨_, List.getElem?_eq_getElem (by rw [HN4.out]; exact hlt)⟩
          have h12 : ∀ x ∈ E4, x.length = 12 := fun x hx => (reach_ok inc3_ok ((HE4.out.mem x).1 hx).1).len
          have hyl := h12 y (List.mem_of_getElem? hy)
          have HFR : Hid (∀ j u, (y.map (Value.int .i64))[j]? = some u → wr.cell? ((⟨gF, k * 12, none⟩ : Addr).add j) = some u) := Lib.hid (fun j u hu => by
            rw [Addr.add_mid]
            exact HKR.out.cell (flat_cell h12 HF5.out hy j u hu) (by simp))
          have HSZ : Hid ((Try.prog.info? 62).map (·.size) = some (y.map (Value.int .i64)).length) := Lib.hid (by rw [info62]; simp [hyl])
          have HSZ2 : Hid ((Try.prog.info? 62).map (·.size) = some (y.map (Value.int .i64)).toArray.size) := Lib.hid (by rw [info62]; simp [hyl])
          have HZL : Hid ((#[.int .i64 0, .int .i64 0, .int .i64 0, .int .i64 0, .int .i64 0, .int .i64 0, .int .i64 0, .int .i64 0, .int .i64 0, .int .i64 0, .int .i64 0, .int .i64 0] : Array Value).size = (y.map (Value.int .i64)).toArray.size) := Lib.hid (by simp [hyl])
          have HON := Lib.hid (ints_one y)
          obtain ⟨y0, hy0⟩ : ∃ y0, y.getD 0 0 = y0 := ⟨_, rfl⟩
          have hcy : (wr.alloc (.cells (y.map (Value.int .i64)).toArray 62)).cell? ⟨wr.heap.size, 0, none⟩ = some (.int .i64 y0) := by
            rw [← hy0]
            exact (ArrAt.new 62 wr y).cell (by omega)
          have htk : E4.take (k + 1) = E4.take k ++ [y] := by rw [List.take_add_one, hy]; rfl
          have HL3 : Hid (lowF (E4.take (k + 1)) = min lo y0) := Lib.hid (by rw [htk, lowF_snoc, hlo, hy0])
          have HH3 : Hid (highF (E4.take (k + 1)) = max hi y0) := Lib.hid (by rw [htk, highF_snoc, hhi, hy0])
          have hdec : decide ((k : Int) < (N4 : Int)) = true := by simp; omega
          clear hy h12 hyl hy0 htk hlo hhi
          go_upto_region 25 with (first | (with_reducible refine wpList_load_at rfl 62 _ rfl ⟨gF, k * 12, none⟩ rfl (y.map (Value.int .i64)) _ HFR.out Try.underlying62 rfl HSZ.out ?_) | (with_reducible refine wpList_store_new rfl 62 _ _ rfl 62 #[.int .i64 0, .int .i64 0, .int .i64 0, .int .i64 0, .int .i64 0, .int .i64 0, .int .i64 0, .int .i64 0, .int .i64 0, .int .i64 0, .int .i64 0, .int .i64 0] (y.map (Value.int .i64)).toArray rfl rfl HSZ2.out HZL.out HON.out ?_))
          go_region
          all_goals
            go_wp2_with fail
            exact ⟨⟨k + 1, hlt, by go_num, by rw [HL3.out], by rw [HH3.out], Lib.hid ((HKR.out.alloc _).drew)⟩, by simp [intOf]; omega⟩
        · have hkn : k = N4 := by omega
          have hall : E4.take k = E4 := List.take_of_length_le (by rw [HN4.out]; omega)
          have hdec : decide ((k : Int) < (N4 : Int)) = false := by simp; omega
          rw [hall] at hlo hhi
          obtain rfl : lo = 1 := by rw [← hlo]; exact HLO.out
          obtain rfl : hi = 3 := by rw [← hhi]; exact HHI.out
          clear hlo hhi hall
          go_wp2_with fail
          go_ret
          exact ⟨rfl, HKW4.out.trans HKR.out⟩
end Go.Proofs.Ytfcellgjbbfobaa
