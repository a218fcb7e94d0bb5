/- Texts laid together: DB3. -/
import Derived.Test.YtfcellgjbbfobaaDoorMg21
import Derived.BigRegion
/- ExploreOrders: the walk. -/
namespace Go.Proofs.YtfcellgjbbfobaaDoor
open Go.RowKit Go.Ex Go.Bf
set_option maxRecDepth 100000 in
set_option maxHeartbeats 8000000 in
theorem exploreOrders_walk (ap : Option Addr) (len cap : Nat) (zs : List Int) (w : World) (hz : IntsV w ap len cap zs) :
    Calls Tryd.prog 4 #[.slice ap len cap] w fun e w' => e = .returned (.bool true) ∧ Keep [] w w' := by
  have HZ := Lib.hid hz
  have hi44 := info44
  obtain ⟨i44, hi44, hy0, hy1, hy2⟩ := infoE hi44
  have hi41 := info62f
  obtain ⟨i41, hi41, hz0, hz1, hz2⟩ := infoE hi41
  clear hz
  go_enter Tryd.func4, Tryd.ntmps4
  go_wp2_with (first | (go_at_call 6; (with_reducible refine (begun25_any _).mono ?_); rintro e0 w0 ⟨rfl, hk0⟩; have HK0 := Lib.hid hk0; clear hk0) | (go_at_call 7; (refine (progs26_any (most := 8) (HZ.out.keep HK0.out (by simp)) (by omega)).mono ?_); rintro e1 w1 ⟨g, vals, rs, rfl, hr1, hr3, hps, _, hk1⟩; have HR1 := Lib.hid (hr1.rows hr3 (by omega)); have HPS := Lib.hid hps; have HK1 := Lib.hid (HK0.out.trans hk1); have HN3 := Lib.hid hr3; clear hr1 hps hk1 hr3) | (go_at_call 8; (with_reducible refine (ends27_any HR1.out HPS.out).mono ?_); rintro e3 w3 ⟨v3, E, rfl, hE3, hEl3, hk3, ho3⟩; obtain ⟨gE, cE, hvE, hE1, hE2, hE5, hE6, hEC⟩ := own_at ho3 (Go.Ex.ends_pos HPS.out hE3); subst hvE; have HEC := Lib.hid hEC; have HK3 := Lib.hid (HK1.out.trans hk3); have HR3 := Lib.hid (HR1.out.keep hk3); have HE3 := Lib.hid hE3; clear hE3 hk3 ho3 hEC hE5 hE6) | (go_at_call 9; (with_reducible refine (orders9_any HR3.out HPS.out).mono ?_); rintro e4 w4 ⟨v4, os, rfl, hO4, hk4, ho4, hord4⟩; obtain ⟨aO, cO, hvO⟩ := own_sliceE ho4; subst hvO; have HO4 := Lib.hid hO4; have HK4 := Lib.hid (HK3.out.trans hk4); have HK34 := Lib.hid hk4; have HOS := Lib.hid ho4; have HORD := Lib.hid hord4; clear hO4 hk4 ho4 hord4))
  have HEK : Hid (∀ x ∈ E, KS.ok x) := Lib.hid (fun x hx => sok_key HPS.out (reach_ok HPS.out ((HE3.out.mem x).1 hx).1))
  have HR4 := Lib.hid (HR3.out.keep HK34.out)
  have hoc := own_roomE HOS.out
  obtain ⟨m, hm⟩ : ∃ m, os.length = m := ⟨_, rfl⟩
  have HM := Lib.hid hm
  have HFEW : Hid (m ≤ 218103808) := Lib.hid (by rw [← hm]; have := HO4.out.few; rwa [List.length_map] at this)
  have HOL : Hid ((os.map (·.2)).length = m) := Lib.hid (by rw [List.length_map, hm])
  have HOS2 : Hid (w4.ownsRow w3.heap.size 22 1 (.slice aO m cO) m (os.map (·.1))) := Lib.hid (by have h := HOS.out; rwa [hm] at h)
  rw [hm] at hoc ⊢
  clear hm HOS
  obtain ⟨out, hout⟩ : ∃ out, os.map (·.2) = out := ⟨_, rfl⟩
  rw [hout] at HO4 HOL
  have HOUT := Lib.hid hout
  clear hout
  go_loopw [41, 8, 9] (fun j cv sv wr => ∃ (i : Nat) (vals : List Value), i ≤ m ∧ j = .int .i64 i ∧ Hid (wr.ownsRow w4.heap.size 41 12 cv (comes (out.take i)).length ((comes (out.take i)).flatMap encS)) ∧ Hid (SnV wr w4.heap.size sv vals (nrms (out.take i))) ∧ Hid (Keep [] w4 wr)) (fun j _ _ _ => m - (intOf j).toNat)
  case atStart => exact ⟨0, [], by omega, rfl, Lib.hid (World.ownsRow_nil _ _ _ _), Lib.hid (SnV.start _ _), Lib.hid (Keep.refl _ _)⟩
  case round =>
    obtain ⟨i, vals, hi, rfl, HC, HS, HK⟩ := hrel
    by_cases hlt : i < m
    · obtain ⟨⟨ov, l, t⟩, hoi⟩ : ∃ e, os[i]? = some e := ⟨_, List.getElem?_eq_getElem (by rw [HM.out]; exact hlt)⟩
      have hpi : out[i]? = some (l, t) := by rw [← HOUT.out, List.getElem?_map, hoi]; rfl
      obtain ⟨hw, hf⟩ := HO4.out.way _ (List.mem_of_getElem? hpi)
      simp only at hw hf
      have HPI := Lib.hid hpi
      have HW := Lib.hid hw
      have hl12 := hw.len12 HPS.out
      have hl40 : l.length ≤ 12 := Nat.le_trans hl12 HPS.out.tot
      have hso := (hw.ok HPS.out (SOk.start rs)).1
      have HTE : Hid (t ∈ E) := Lib.hid (out_end HO4.out HE3.out (List.mem_of_getElem? hpi))
      have HKS2 := Lib.hid (sok_key HPS.out hso)
      have hord := HORD.out _ (List.mem_of_getElem? hoi)
      obtain ⟨ao, co, hov, hiv⟩ := ord_ints HPS.out hw hord
      simp only at hov
      subst hov
      obtain ⟨n, hn⟩ : ∃ n, l.length = n := ⟨_, rfl⟩
      have HN := Lib.hid hn
      rw [hn] at hl40 hiv
      have HIV := Lib.hid hiv
      have hrun := hw.run
      rw [hn] at hrun
      have HRUN : Hid (∀ w9, Keep [] w4 w9 → Calls Tryd.prog 10 #[.slice (some ⟨g, 0, none⟩) 3 3, .slice ao n co] w9 fun e w' => e = .returned (.tuple #[aggI t, .int .i64 n, .int .i64 0]) ∧ Keep [] w9 w') := Lib.hid (fun w9 h9 => by
        have h := run28_any (os := who l) (HR4.out.keep h9) HPS.out (HIV.out.keep h9 (by simp)) (fun j hj => by rw [← HN3.out]; exact HW.out.who_lt j hj)
        rw [hrun] at h
        exact h)
      have HSTP : Hid (∀ w9, Keep [] w4 w9 → Calls Tryd.prog 11 #[.slice (some ⟨g, 0, none⟩) 3 3, .slice ao n co] w9 fun e w' => ∃ v, e = .returned (.tuple #[v, .int .i64 0]) ∧ w'.ownsRow w9.heap.size 52 3 v n (lanesC l) ∧ Keep [] w9 w') := Lib.hid (fun w9 h9 => by
        have h := steps11_any (HR4.out.keep h9) HPS.out HW.out (HIV.out.keep h9 (by simp))
        rw [HN.out] at h
        exact h)
      have HST : Hid (∀ x ∈ l, StOk x) := Lib.hid (way_st HPS.out hw)
      have HCNE : Hid (∀ w9, Keep [] w4 w9 → Calls Tryd.prog 13 #[.slice (some ⟨gE, 0, none⟩) E.length cE, .agg (t.map (Value.int .i64)).toArray] w9 fun e w' => e = .returned (.bool true) ∧ Keep [] w9 w') := Lib.hid (fun w9 h9 => contains29_any (A := true) rfl HEK.out HKS2.out (fun j u hu => (HK34.out.trans h9).cell (HEC.out j u hu) (by simp)) (by omega) hE1 hE2 (decide_eq_true HTE.out))
      have HNL : Hid ((Tr.normal dep Ln.q l).length = n) := Lib.hid (by rw [normal_len, hn])
      have HNO := Lib.hid (nrms_no HO4.out hpi)
      have HNI : Hid ((nrms (out.take i)).length = i) := Lib.hid (nrms_len (by rw [HOL.out]; exact hi))
      have HCN := Lib.hid (comes_next hpi)
      have HNN := Lib.hid (nrms_next hpi)
      have hdec : decide ((i : Int) < (m : Int)) = true := by simp; omega
      obtain ⟨go, cgo, hgo, hgo1, hgo2, -, hgo4, hgoc⟩ := own_at HOS2.out (by omega)
      injection hgo with hgoa hgob hgoc'
      subst hgoa hgoc'
      have hcell := HK.out.cell (hgoc i (.slice ao n co) (by rw [List.getElem?_map, hoi, hn]; rfl)) (by simp)
      have hgl : go < wr.heap.size := Nat.lt_of_lt_of_le hgo4 HK.out.size
      have HOK13 : Hid (∀ y ∈ comes (out.take i), KS.ok y) := Lib.hid (comes_sok HPS.out HO4.out)
      have HCF : Hid ((comes (out.take i)).length ≤ 218103808) := Lib.hid (comes_few HO4.out)
      have htl := hso.len
      clear hoi hpi hw hf hl12 hso hord hiv hn hrun hgoc hgob
      obtain ⟨x0, x1, x2, x3, x4, x5, x6, x7, x8, x9, xa, xb, hxe⟩ := list12 htl
      subst hxe
      rw [show aggI [x0, x1, x2, x3, x4, x5, x6, x7, x8, x9, xa, xb] = (.agg #[.int .i64 x0, .int .i64 x1, .int .i64 x2, .int .i64 x3, .int .i64 x4, .int .i64 x5, .int .i64 x6, .int .i64 x7, .int .i64 x8, .int .i64 x9, .int .i64 xa, .int .i64 xb]) from rfl] at HRUN
      rw [show Value.agg ([x0, x1, x2, x3, x4, x5, x6, x7, x8, x9, xa, xb].map (Value.int .i64)).toArray = (.agg #[.int .i64 x0, .int .i64 x1, .int .i64 x2, .int .i64 x3, .int .i64 x4, .int .i64 x5, .int .i64 x6, .int .i64 x7, .int .i64 x8, .int .i64 x9, .int .i64 xa, .int .i64 xb]) from rfl] at HCNE
      clear htl
      obtain ⟨N, hN⟩ : ∃ N, Tr.normal dep Ln.q l = N := ⟨_, rfl⟩
      rw [hN] at HNL HNO HNN
      have HNE := Lib.hid hN
      clear hN
      go_upto_region 16 with (first | (go_at_call 10; refine (HRUN.out _ HK.out).mono ?_; rintro e5 w5 ⟨rfl, hk5⟩; have HK5 := Lib.hid (HK.out.trans hk5); have HKR5 := Lib.hid hk5; have HKA5 := Lib.hid ((HK.out.trans hk5).alloc (.cells #[.int .i64 x0, .int .i64 x1, .int .i64 x2, .int .i64 x3, .int .i64 x4, .int .i64 x5, .int .i64 x6, .int .i64 x7, .int .i64 x8, .int .i64 x9, .int .i64 xa, .int .i64 xb] 41)); clear hk5) | (go_at_call 11; refine (HSTP.out _ HKA5.out).mono ?_; rintro e6 w6 ⟨v6, rfl, ho6, hk6⟩; obtain ⟨a6, c6, hv6, hlv6, _⟩ := LnsV.ofOwn ho6; subst hv6; have HL6 := Lib.hid hlv6; have HK6 := Lib.hid (HKA5.out.trans hk6); have HKR6 := Lib.hid hk6; have HB6 := Lib.hid (hk6.at (blk_new w5 (.cells #[.int .i64 x0, .int .i64 x1, .int .i64 x2, .int .i64 x3, .int .i64 x4, .int .i64 x5, .int .i64 x6, .int .i64 x7, .int .i64 x8, .int .i64 x9, .int .i64 xa, .int .i64 xb] 41)) (by simp)); clear hk6 hlv6 ho6) | (go_at_call 12; (with_reducible refine (normal24_any HL6.out (by omega) HST.out).mono ?_); rintro e7 w7 ⟨v7, rfl, ho7, hk7⟩; rw [HNE.out] at ho7; obtain ⟨a7, c7, hv7⟩ := own_sliceE ho7; subst hv7; have HO7 := Lib.hid ho7; have HK7 := Lib.hid (HK6.out.trans hk7); have HKR7 := Lib.hid ((HKR5.out.alloc (.cells #[.int .i64 x0, .int .i64 x1, .int .i64 x2, .int .i64 x3, .int .i64 x4, .int .i64 x5, .int .i64 x6, .int .i64 x7, .int .i64 x8, .int .i64 x9, .int .i64 xa, .int .i64 xb] 41)).trans (HKR6.out.trans hk7)); have HB7 := Lib.hid (hk7.at HB6.out (by simp)); have HW67 := Lib.hid (Nat.le_trans HK6.out.size (Nat.le_refl _)); clear hk7 ho7))
      have HKW := Lib.hid (HK7.out.alloc (.cells #[.slice a7 n c7] 44))
      have HKRW := Lib.hid (HKR7.out.alloc (.cells #[.slice a7 n c7] 44))
      have HBW := Lib.hid (((Keep.refl [] w7).alloc (.cells #[.slice a7 n c7] 44)).at HB7.out (by simp))
      have HBN := Lib.hid (blk_new w7 (.cells #[.slice a7 n c7] 44))
      have HOW := Lib.hid (ownBaseE (own_keep HO7.out ((Keep.refl [] w7).alloc (.cells #[.slice a7 n c7] 44)) (by simp)) HK6.out.size)
      obtain ⟨W, hW⟩ : ∃ W, w7.alloc (.cells #[.slice a7 n c7] 44) = W := ⟨_, rfl⟩
      obtain ⟨bS, hbS⟩ : ∃ b, w5.heap.size = b := ⟨_, rfl⟩
      obtain ⟨bN, hbN⟩ : ∃ b, w7.heap.size = b := ⟨_, rfl⟩
      rw [hW] at HKW HKRW HBW HBN HOW ⊢
      rw [hbS] at HBW ⊢
      rw [hbN] at HBN ⊢
      have HI41 : Hid ((Tryd.prog.info? 41).map (·.size) = some (#[.int .i64 x0, .int .i64 x1, .int .i64 x2, .int .i64 x3, .int .i64 x4, .int .i64 x5, .int .i64 x6, .int .i64 x7, .int .i64 x8, .int .i64 x9, .int .i64 xa, .int .i64 xb] : Array Value).size) := Lib.hid info62
      clear hW hbS hbN HKR5 HKA5 HL6 HKR6 HB6 HW67 HO7 HKR7 HB7 HK5 HK6 HK7 HRUN HSTP hcell hgl hgo1 hgo2 hgo4
      have hx0 : W.cell? ⟨bS, 0, none⟩ = some (.int .i64 x0) := (cell_of_row W bS 0 _ _ _ HBW.out).trans rfl
      have hx1 : W.cell? ⟨bS, 1, none⟩ = some (.int .i64 x1) := (cell_of_row W bS 1 _ _ _ HBW.out).trans rfl
      have hx2 : W.cell? ⟨bS, 2, none⟩ = some (.int .i64 x2) := (cell_of_row W bS 2 _ _ _ HBW.out).trans rfl
      have hx3 : W.cell? ⟨bS, 3, none⟩ = some (.int .i64 x3) := (cell_of_row W bS 3 _ _ _ HBW.out).trans rfl
      have hx4 : W.cell? ⟨bS, 4, none⟩ = some (.int .i64 x4) := (cell_of_row W bS 4 _ _ _ HBW.out).trans rfl
      have hx5 : W.cell? ⟨bS, 5, none⟩ = some (.int .i64 x5) := (cell_of_row W bS 5 _ _ _ HBW.out).trans rfl
      have hx6 : W.cell? ⟨bS, 6, none⟩ = some (.int .i64 x6) := (cell_of_row W bS 6 _ _ _ HBW.out).trans rfl
      have hx7 : W.cell? ⟨bS, 7, none⟩ = some (.int .i64 x7) := (cell_of_row W bS 7 _ _ _ HBW.out).trans rfl
      have hx8 : W.cell? ⟨bS, 8, none⟩ = some (.int .i64 x8) := (cell_of_row W bS 8 _ _ _ HBW.out).trans rfl
      have hx9 : W.cell? ⟨bS, 9, none⟩ = some (.int .i64 x9) := (cell_of_row W bS 9 _ _ _ HBW.out).trans rfl
      have hx10 : W.cell? ⟨bS, 10, none⟩ = some (.int .i64 xa) := (cell_of_row W bS 10 _ _ _ HBW.out).trans rfl
      have hx11 : W.cell? ⟨bS, 11, none⟩ = some (.int .i64 xb) := (cell_of_row W bS 11 _ _ _ HBW.out).trans rfl
      go_upto_region 18 with (first | (go_at_call 13; refine (HCNE.out _ HKW.out).mono ?_; rintro e8 w8 ⟨rfl, hk8⟩; have HK8 := Lib.hid hk8; clear hk8))
      clear hx0 hx1 hx2 hx3 hx4 hx5 hx6 hx7 hx8 hx9 hx10 hx11
      have HB8 := Lib.hid (HK8.out.at HBW.out (by simp))
      have HN8 := Lib.hid (HK8.out.at HBN.out (by simp))
      have HO8 := Lib.hid (own_keep HOW.out HK8.out (by simp))
      have HKR8 := Lib.hid (HKRW.out.trans HK8.out)
      have HS8 := Lib.hid (HS.out.keep HKR8.out)
      obtain ⟨aS, cS, hsv, hrows⟩ := HS8.out.rows
      rw [HNI.out] at hsv hrows
      subst hsv
      obtain ⟨a9, c9, he9, hlv, _⟩ := LnsV.ofOwn HO8.out
      injection he9 with e1 e2 e3
      subst e1 e3
      have HC14 := Lib.hid (contains14_no HN8.out hlv hrows HNO.out)
      clear hlv hrows e2 HBW HBN HOW HCNE
      go_upto_region 20 with (first | (go_at_call 14; refine HC14.out.mono ?_; rintro e9 w9 ⟨rfl, hk9⟩; have HK9 := Lib.hid hk9; clear hk9))
      have hn9 : w9.cell? ⟨bN, 0, none⟩ = some (.slice a7 n c7) := (cell_of_row w9 bN _ _ _ _ (HK9.out.at HN8.out (by simp))).trans rfl
      have HKA := Lib.hid (HK9.out.alloc (.cells #[.slice a7 n c7] 44))
      have HKR9 := Lib.hid (HKR8.out.trans HKA.out)
      have HS9 := Lib.hid (HS8.out.keep HKA.out)
      have HO9 := Lib.hid (own_keep HO8.out HKA.out (by simp))
      have HOA := Lib.hid HS9.out.out
      rw [HNI.out] at HOA
      have HB9 := Lib.hid (HKA.out.at HB8.out (by simp))
      have HC9 := Lib.hid (own_keep HC.out HKR9.out (by simp))
      have HON : Hid (∀ u ∈ ([.slice a7 n c7] : List Value), u.oneCell' = true) := Lib.hid (by simp [Value.oneCell'])
      have hfew := HFEW.out
      have H63 : Hid (i + 1 ≤ maxLen) := Lib.hid (by unfold maxLen; omega)
      have HBY : Hid ((i + 1) * 24 ≤ 140737488355328) := Lib.hid (by omega)
      have HBS : Hid (w4.heap.size ≤ (w9.alloc (.cells #[.slice a7 n c7] 44)).heap.size) := Lib.hid (Nat.le_trans HK.out.size HKR9.out.size)
      have HKT := Lib.hid (HK.out.trans HKR9.out)
      have hbn9 : bN < w9.heap.size := lt_of_blk (HK9.out.at HN8.out (by simp))
      clear HC14 hfew
      go_upto_region 21 with (first | (at_builtin; refine wpList_append_lies _ rfl _ _ 38 rfl w4.heap.size 44 i44 (.slice none 0 0) 1 24 Tryd.underlying38 hi44 hy0 hy1 hy2 rfl (by decide) (.slice aS i cS) i vals rfl HOA.out ⟨w9.heap.size, 0, none⟩ 1 1 [.slice a7 n c7] rfl rfl (cells_new w9 [.slice a7 n c7] 44 (0, 0)) HON.out (by decide) H63.out HBY.out HBS.out _ rfl ?_; intro g10 c10 w10 hown10 hgr10 hat10 hlt10; have HO10 := Lib.hid hown10; have HG10 := Lib.hid hgr10; clear hown10 hgr10 hat10 hlt10))
      have hk10 := Keep.ofGrown (S := (Value.slice aS i cS).ownBlock.toList) HG10.out (fun x hx => by simp [hx])
      have n41 := not_own HOA.out (T := 41) (by decide)
      have HC10 := Lib.hid (own_keepT HC9.out hk10 n41)
      have HB10 := Lib.hid (hk10.at HB9.out (fun hm => own_ne HOA.out HB9.out (by decide) bS (by simpa using hm) rfl))
      have HS10 : Hid (SnV w10 w4.heap.size (.slice (some ⟨g10, 0, none⟩) (i + 1) c10) (vals ++ [.slice a7 n c7]) (nrms (out.take (i + 1)))) := Lib.hid (by
        rw [HNN.out]
        exact HS9.out.push hk10 (by rw [HNI.out]; exact HO10.out) (by rw [HNL.out]; exact HO9.out))
      have HK10 := Lib.hid (HKT.out.call hk10 (fun b hb => .inr (HOA.out.lt b (by simpa using hb)).1))
      obtain ⟨A, hA⟩ : ∃ A, decide ([x0, x1, x2, x3, x4, x5, x6, x7, x8, x9, xa, xb] ∈ comes (out.take i)) = A := ⟨_, rfl⟩
      have HC13 := Lib.hid (contains13_own HC10.out HOK13.out HKS2.out (by have := HCF.out; omega) hA)
      rw [show Value.agg ([x0, x1, x2, x3, x4, x5, x6, x7, x8, x9, xa, xb].map (Value.int .i64)).toArray = (.agg #[.int .i64 x0, .int .i64 x1, .int .i64 x2, .int .i64 x3, .int .i64 x4, .int .i64 x5, .int .i64 x6, .int .i64 x7, .int .i64 x8, .int .i64 x9, .int .i64 xa, .int .i64 xb]) from rfl] at HC13
      clear hk10 n41 HG10 HO10 HC9 HB9 HOA HKT HKR9 HS9 HO9 HON HBS HBY H63 HKA hn9 hbn9 HB8 HN8 HO8 HKR8 HS8 HK8 HK9
      cases A with
      | true =>
        have HCE : Hid (comes (out.take (i + 1)) = comes (out.take i)) := Lib.hid (by rw [HCN.out]; exact if_pos (of_decide_eq_true hA))
        clear hA
        go_wp2_with (first | (with_reducible refine wpList_load_row rfl 41 _ rfl bS rfl 41 #[.int .i64 x0, .int .i64 x1, .int .i64 x2, .int .i64 x3, .int .i64 x4, .int .i64 x5, .int .i64 x6, .int .i64 x7, .int .i64 x8, .int .i64 x9, .int .i64 xa, .int .i64 xb] (0, 0) _ HB10.out Tryd.underlying41 rfl HI41.out ?_) | (go_at_call 13; refine HC13.out.mono ?_; rintro e11 w11 ⟨rfl, hk11⟩; have HK11 := Lib.hid hk11; clear hk11))
        exact ⟨⟨i + 1, vals ++ [.slice a7 n c7], hlt, by go_num, Lib.hid (by rw [HCE.out]; exact own_keep HC10.out HK11.out (by simp)), Lib.hid (HS10.out.keep HK11.out), Lib.hid (HK10.out.trans HK11.out)⟩, by simp [intOf]; omega⟩
      | false =>
        have HCE : Hid (comes (out.take (i + 1)) = comes (out.take i) ++ [[x0, x1, x2, x3, x4, x5, x6, x7, x8, x9, xa, xb]]) := Lib.hid (by rw [HCN.out]; exact if_neg (of_decide_eq_false hA))
        have HON : Hid (∀ u ∈ ([.int .i64 x0, .int .i64 x1, .int .i64 x2, .int .i64 x3, .int .i64 x4, .int .i64 x5, .int .i64 x6, .int .i64 x7, .int .i64 x8, .int .i64 x9, .int .i64 xa, .int .i64 xb] : List Value), u.oneCell' = true) := Lib.hid (by simp [Value.oneCell'])
        have hcf := HCF.out
        have H63 : Hid ((comes (out.take i)).length + 1 ≤ maxLen) := Lib.hid (by unfold maxLen; omega)
        have HBY : Hid (((comes (out.take i)).length + 1) * 96 ≤ 140737488355328) := Lib.hid (by omega)
        clear hA hcf
        go_upto_region 22 with (first | (with_reducible refine wpList_load_row rfl 41 _ rfl bS rfl 41 #[.int .i64 x0, .int .i64 x1, .int .i64 x2, .int .i64 x3, .int .i64 x4, .int .i64 x5, .int .i64 x6, .int .i64 x7, .int .i64 x8, .int .i64 x9, .int .i64 xa, .int .i64 xb] (0, 0) _ HB10.out Tryd.underlying41 rfl HI41.out ?_) | (go_at_call 13; refine HC13.out.mono ?_; rintro e11 w11 ⟨rfl, hk11⟩; have HK11 := Lib.hid hk11; clear hk11))
        have HB11 := Lib.hid (HK11.out.at HB10.out (by simp))
        have HKB := Lib.hid (HK11.out.alloc (.cells #[.int .i64 x0, .int .i64 x1, .int .i64 x2, .int .i64 x3, .int .i64 x4, .int .i64 x5, .int .i64 x6, .int .i64 x7, .int .i64 x8, .int .i64 x9, .int .i64 xa, .int .i64 xb] 41))
        have HCB := Lib.hid (own_keep HC10.out HKB.out (by simp))
        have HSB := Lib.hid (HS10.out.keep HKB.out)
        have HKC := Lib.hid (HK10.out.trans HKB.out)
        go_wp2_with (first | (with_reducible refine wpList_load_row rfl 41 _ rfl bS rfl 41 #[.int .i64 x0, .int .i64 x1, .int .i64 x2, .int .i64 x3, .int .i64 x4, .int .i64 x5, .int .i64 x6, .int .i64 x7, .int .i64 x8, .int .i64 x9, .int .i64 xa, .int .i64 xb] (0, 0) _ HB11.out Tryd.underlying41 rfl HI41.out ?_)           | (at_builtin; refine wpList_append_lies _ rfl _ _ 30 rfl w4.heap.size 41 i41 (.agg #[.int .i64 0, .int .i64 0, .int .i64 0, .int .i64 0, .int .i64 0, .int .i64 0, .int .i64 0, .int .i64 0, .int .i64 0, .int .i64 0, .int .i64 0, .int .i64 0]) 12 96 Tryd.underlying30 hi41 hz0 hz1 hz2 rfl (by decide) u8 (comes (out.take i)).length ((comes (out.take i)).flatMap encS) rfl HCB.out ⟨w11.heap.size, 0, none⟩ 1 1 [.int .i64 x0, .int .i64 x1, .int .i64 x2, .int .i64 x3, .int .i64 x4, .int .i64 x5, .int .i64 x6, .int .i64 x7, .int .i64 x8, .int .i64 x9, .int .i64 xa, .int .i64 xb] rfl rfl (cells_new w11 [.int .i64 x0, .int .i64 x1, .int .i64 x2, .int .i64 x3, .int .i64 x4, .int .i64 x5, .int .i64 x6, .int .i64 x7, .int .i64 x8, .int .i64 x9, .int .i64 xa, .int .i64 xb] 41 (0, 0)) HON.out (by decide) H63.out HBY.out HKC.out.size _ rfl ?_; intro g12 c12 w12 hown12 hgr12 hat12 hlt12; have HO12 := Lib.hid hown12; have HG12 := Lib.hid hgr12; clear hown12 hgr12 hat12 hlt12))
        have hk12 := Keep.ofGrown (S := u8.ownBlock.toList) HG12.out (fun x hx => by simp [hx])
        have n44 := not_own HCB.out (T := 44) (by decide)
        have n52 := not_own HCB.out (T := 52) (by decide)
        exact ⟨⟨i + 1, vals ++ [.slice a7 n c7], hlt, by go_num, Lib.hid (by rw [HCE.out, List.length_append, List.flatMap_append]; exact HO12.out), Lib.hid (HSB.out.keepT hk12 n44 n52), Lib.hid (HKC.out.call hk12 (fun b hb => .inr (HCB.out.lt b (by simpa using hb)).1))⟩, by simp [intOf]; omega⟩
    · obtain rfl : i = m := by omega
      have hdec : decide ((i : Int) < (i : Int)) = false := by simp
      have HEQ : Hid ((comes (out.take i)).length = E.length) := Lib.hid (by rw [List.take_of_length_le (by rw [HOL.out]; exact Nat.le_refl _)]; exact comes_len HO4.out HE3.out)
      obtain ⟨ac, cc, hcv⟩ := own_sliceE HC.out
      rw [HEQ.out] at hcv
      subst hcv
      go_wp2_with fail
      go_ret
      exact ⟨rfl, HK4.out.trans HK.out⟩
end Go.Proofs.YtfcellgjbbfobaaDoor
