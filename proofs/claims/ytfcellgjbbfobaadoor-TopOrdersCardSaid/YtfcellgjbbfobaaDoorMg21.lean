/- Texts laid together: DB4. -/
import Derived.Test.YtfcellgjbbfobaaDoorMg20
import Derived.Deep.CutRange
import Derived.Deep.DeepCutAuto
import Derived.Deep.CutBlock
/- TopOrders: the walk. -/
namespace Go.Proofs.YtfcellgjbbfobaaDoor
open Go.RowKit Go.Ex Go.Bf
theorem mod_who {q k : Nat} : ((k : Int) + (q : Int)) % 3 = ((whoF (some q) k : Nat) : Int) := by
  show _ = (((k + q) % 3 : Nat) : Int)
  omega
set_option maxRecDepth 100000 in
set_option maxHeartbeats 8000000 in
theorem topOrders_walk (ap : Option Addr) (len cap : Nat) (zs : List Int) (ap2 : Option Addr) (len2 cap2 : Nat) (zs2 : List Int) (w : World) (hz : IntsV w ap len cap zs) (hz2 : IntsV w ap2 len2 cap2 zs2) :
    Calls Tryd.prog 5 #[.slice ap len cap, .slice ap2 len2 cap2] w fun e w' => e = .returned (.bool true) ∧ Keep [] w w' := by
  have HZ := Lib.hid hz
  have HZ2 := Lib.hid hz2
  have hroom2 := hz2.room
  have hmost2 := hz2.most
  have h9 : maxLen = 9223372036854775807 := rfl
  rw [h9] at hmost2
  have hi3 := info3
  obtain ⟨i3, hi3, hy0, hy1, hy2⟩ := infoE hi3
  clear hz hz2 h9
  go_enter Tryd.func5, Tryd.ntmps5
  go_upto_region 7 with (first | (go_at_call 7; (refine (progs26_any (most := 8) HZ.out (by omega)).mono ?_); rintro e1 w1 ⟨g, vals, rs, rfl, hr1, hr3, hps, hfl, hk1⟩; have HR1 := Lib.hid (hr1.rows hr3 (by omega)); have HPS := Lib.hid hps; have HK1 := Lib.hid hk1; have HN3 := Lib.hid hr3; have HFL := Lib.hid hfl; clear hr1 hps hk1 hr3 hfl) | (go_at_call 9; (with_reducible refine (orders9_any HR1.out HPS.out).mono ?_); rintro e3 w3 ⟨v3, ods, rfl, hO3, hk3, ho3, hord3⟩; obtain ⟨aO, cO, hvO⟩ := own_sliceE ho3; subst hvO; have HO3 := Lib.hid hO3; have HK3 := Lib.hid (HK1.out.trans hk3); have HR3 := Lib.hid (HR1.out.keep hk3); have HOS := Lib.hid ho3; have HORD := Lib.hid hord3; clear hO3 hk3 ho3 hord3) | (go_at_call 8; (with_reducible refine (ends27_any HR3.out HPS.out).mono ?_); rintro e4 w4 ⟨v4, E, rfl, hE4, hEl4, hk4, ho4⟩; have hpos := Go.Ex.ends_pos HPS.out hE4; have hoe := out_ends HO3.out hE4; rw [List.length_map] at hoe; have hE0 : ((E.length : Int) == 0) = false := (by rw [beq_eq_false_iff_ne]; omega); have hEO : decide ((ods.length : Int) < (E.length : Int)) = false := (by simp; omega); obtain ⟨gE, cE, hvE, hE1, hE2, hE5, hE6, hEC⟩ := own_at ho4 hpos; subst hvE; have HEC := Lib.hid hEC; have HK4 := Lib.hid (HK3.out.trans hk4); have HK34 := Lib.hid hk4; have HE4 := Lib.hid hE4; clear hE4 hk4 ho4 hEC hE5 hE6))
  have HR4 := Lib.hid (HR3.out.keep HK34.out)
  have HEK : Hid (∀ x ∈ E, KS.ok x) := Lib.hid (fun x hx => sok_key HPS.out (reach_ok HPS.out ((HE4.out.mem x).1 hx).1))
  have hoc := own_roomE HOS.out
  obtain ⟨m, hm⟩ : ∃ m, ods.length = m := ⟨_, rfl⟩
  have HM := Lib.hid hm
  have HFEW : Hid (m ≤ 218103808) := Lib.hid (by rw [← hm]; have := HO3.out.few; rwa [List.length_map] at this)
  have HOL : Hid ((ods.map (·.2)).length = m) := Lib.hid (by rw [List.length_map, hm])
  have HOS2 : Hid (w3.ownsRow w1.heap.size 22 1 (.slice aO m cO) m (ods.map (·.1))) := Lib.hid (by have h := HOS.out; rwa [hm] at h)
  rw [hm] at hoc ⊢
  clear hm HOS hE0 hEO hoe HR1 HR3 HK1
  obtain ⟨out, hout⟩ : ∃ out, ods.map (·.2) = out := ⟨_, rfl⟩
  rw [hout] at HO3 HOL
  have HOUT := Lib.hid hout
  clear hout
  have hn3 : rs.length = 3 := HN3.out
  go_upto_block 0 with fail
  go_cut [10] (fun ov wx => ∃ (a : Option Addr) (i c : Nat) (ks : List Nat) (S : List Int), ov = .slice a i c ∧ i ≤ 8 ∧ Hid (ks.length = i) ∧ Hid (∀ k ∈ ks, k < 3) ∧ Hid (runP rs ks s0 = (S, i)) ∧ Hid (fin rs S = true) ∧ Hid (IntsV wx a i c (ks.map fun (k : Nat) => (k : Int))) ∧ Hid (Keep [] w4 wx))
  case first =>
    have HKW4 := Lib.hid (show Keep [] w w4 from HK4.out)
    go_wp2_with fail
    go_loopw [57, 10] (fun j ov wr => ∃ (i : Nat) (ks : List Nat) (S : List Int), i ≤ 12 ∧ j = .int .i64 i ∧ Hid (ks.length = i) ∧ Hid (∀ k ∈ ks, k < 3) ∧ Hid (runP rs ks s0 = (S, i)) ∧ Hid (wr.ownsRow w4.heap.size 3 1 ov i ((ks.map fun (k : Nat) => (k : Int)).map (Value.int .i64))) ∧ Hid (Keep [] w4 wr)) (fun j _ _ => 13 - (intOf j).toNat)
    case atStart => exact ⟨0, [], s0, by omega, rfl, Lib.hid rfl, Lib.hid (by simp), Lib.hid rfl, Lib.hid (World.ownsRow_nil _ _ _ _), Lib.hid (Keep.refl _ _)⟩
    case round =>
      obtain ⟨i, ks, S, hi, rfl, HKL, HOS3, HRP, HO, HK⟩ := hrel
      have hrs := runP_sok HPS.out (l := ks) (SOk.start rs)
      rw [HRP.out] at hrs
      obtain ⟨hso, hst⟩ := hrs
      have hi8 : i ≤ 8 := by
        have h1 := steps_le HPS.out hso
        have h2 := HFL.out
        have h3 : steps s0 = 0 := by decide
        simp only at hst h1
        omega
      simp only at hso
      have HSO := Lib.hid hso
      have hsl := hso.len
      obtain ⟨av, cv, hve⟩ := own_sliceE HO.out
      subst hve
      have hav := own_roomE HO.out
      have hdec : decide ((i : Int) < 12) = true := by simp; omega
      have HIS : Hid ((Tryd.prog.info? 41).map (·.size) = some (S.map (Value.int .i64)).toArray.size) := Lib.hid (by rw [info62]; simp [hsl])
      have HZS : Hid ((#[.int .i64 0, .int .i64 0, .int .i64 0, .int .i64 0, .int .i64 0, .int .i64 0, .int .i64 0, .int .i64 0, .int .i64 0, .int .i64 0, .int .i64 0, .int .i64 0] : Array Value).size = (S.map (Value.int .i64)).toArray.size) := Lib.hid (by simp [hsl])
      have HOSI := Lib.hid (ints_one S)
      clear hso hst
      by_cases hpk : i < len2
      · skip
        have hd46 : decide ((i : Int) < (len2 : Int)) = true := by simp; omega
        obtain ⟨bp, op, hap, hcp⟩ := HZ2.out.cells (by omega)
        have HCP := Lib.hid (hcp i hpk)
        obtain ⟨z, hz⟩ : ∃ z, zs2.getD i 0 = z := ⟨_, rfl⟩
        rw [hz] at HCP
        obtain ⟨q, hq, hqb⟩ := rest_nat z 3 (by omega)
        have HQ := Lib.hid hq
        have hq3 : q < 3 := by omega
        have hpi : (i : Int) < (len2 : Int) := by omega
        subst hap
        clear hcp hz hq hqb
        go_wp2_with fail
        go_loopw [61, 10, 11] (fun j o2 mv wr2 => ∃ k : Nat, k ≤ 3 ∧ j = .int .i64 k ∧ o2 = .slice av i cv ∧ mv = .bool false ∧ Hid (∀ k2, k2 < k → nx rs (whoF (some q) k2) S = none) ∧ Hid (Keep [] wr wr2)) (fun j _ _ _ => 3 - (intOf j).toNat)
        case atStart => exact ⟨0, by omega, rfl, rfl, rfl, Lib.hid (fun k2 h => absurd h (Nat.not_lt_zero _)), Lib.hid (Keep.refl _ _)⟩
        case round =>
          obtain ⟨k, hk, rfl, rfl, rfl, HNO, HKI⟩ := hrel
          by_cases hk3 : k < 3
          · have hdk : decide ((k : Int) < 3) = true := by simp; omega
            obtain ⟨who, hwho⟩ : ∃ who, whoF (some q) k = who := ⟨_, rfl⟩
            have hw3 : who < 3 := by rw [← hwho]; exact whoF_lt _ hk3
            have hmod : ((k : Int) + (q : Int)) % 3 = (who : Int) := by rw [← hwho]; exact mod_who
            have hcpk := ((HKW4.out.trans HK.out).trans HKI.out).cell HCP.out (by simp)
            have HWH := Lib.hid hwho
            clear hwho
            have hoA : (wr.alloc (.cells #[.int .i64 who] 3)).ownsRow w4.heap.size 3 1 (.slice av i cv) i ((ks.map fun (k : Nat) => (k : Int)).map (Value.int .i64)) := own_keep HO.out ((HKI.out).alloc _) (by simp)
            have HOA := Lib.hid hoA
            clear hoA
            have HOS2x : Hid (∀ j ∈ ks ++ [who], j < 3) := Lib.hid (fun j hj => by
              rcases List.mem_append.1 hj with h | h
              · exact HOS3.out j h
              · rw [List.mem_singleton] at h; subst h; exact hw3)
            have HRS := Lib.hid (runP_snoc (ps := rs) (l := ks) (s := s0) (j := who) (by rw [HRP.out, HKL.out]))
            have HRW : Hid (∀ w9, Keep [] wr w9 → RowsL w9 (some ⟨g, 0, none⟩) 3 3 rs) := Lib.hid (fun w9 h => HR4.out.keep ((HK.out.trans HKI.out).trans h))
            have HIW : Hid (∀ (w9 : World) g9 c9, w9.ownsRow (wr.alloc (.cells #[.int .i64 who] 3)).heap.size 3 1 (.slice (some ⟨g9, 0, none⟩) (i + 1) c9) (i + 1) (((ks.map fun (k : Nat) => (k : Int)).map (Value.int .i64)) ++ [.int .i64 who]) → IntsV w9 (some ⟨g9, 0, none⟩) (i + 1) c9 ((ks ++ [who]).map fun (k : Nat) => (k : Int))) := Lib.hid (fun w9 g9 c9 h => by
              have h1 : w9.ownsRow (wr.alloc (.cells #[.int .i64 who] 3)).heap.size 3 1 (.slice (some ⟨g9, 0, none⟩) (i + 1) c9) (i + 1) (((ks ++ [who]).map fun (k : Nat) => (k : Int)).map (Value.int .i64)) := by simpa using h
              obtain ⟨a8, c8, he, hiv⟩ := IntsV.ofOwn h1 (fun z hz => by
                obtain ⟨j, hj, rfl⟩ := List.mem_map.1 hz
                have := HOS2x.out j hj
                exact wf_small (by omega) (by omega))
              injection he with e1 e2 e3
              subst e1 e3
              exact hiv.1)
            have HONW : Hid (∀ u ∈ ([.int .i64 who] : List Value), u.oneCell' = true) := Lib.hid (by simp [Value.oneCell'])
            have H63 : Hid (i + 1 ≤ maxLen) := Lib.hid (by unfold maxLen; omega)
            have HBY : Hid ((i + 1) * 8 ≤ 140737488355328) := Lib.hid (by omega)
            cases hnx : nx rs who S with
            | none =>
              have HRE : Hid (runP rs (ks ++ [who]) s0 = (S, i)) := Lib.hid (by rw [HRS.out, HRP.out, hnx, HKL.out])
              have HNX := Lib.hid hnx
              clear hnx
              go_wp2_with (first | (go_at_call 17; (with_reducible refine (rest_tq HQ (by omega) (by omega) _).mono ?_); rintro e8 w8 ⟨rfl, hw8⟩; have hw9 := hw8.symm; clear hw8; subst hw9) | (at_builtin; refine wpList_append_capped rfl _ _ 22 rfl w4.heap.size 3 i3 (.int .i64 0) 1 8 Tryd.underlying22 hi3 hy0 hy1 hy2 rfl (by decide) av i cv ((ks.map fun (k : Nat) => (k : Int)).map (Value.int .i64)) rfl HOA.out ⟨wr.heap.size, 0, none⟩ 1 1 [.int .i64 who] rfl rfl (cells_new wr [.int .i64 who] 3 (0, 0)) HONW.out (by decide) H63.out HBY.out ?_; intro g9 c9 w9 hown9 hk9; have hkw9 : Keep [] wr w9 := ((Keep.refl [] wr).alloc _).trans hk9; have HKW9 := Lib.hid hkw9; have HIV9 := Lib.hid (HIW.out w9 g9 c9 hown9); have HRW9 := Lib.hid (HRW.out w9 hkw9); clear hown9 hk9 hkw9) | (go_at_call 10; (with_reducible refine (run28_any HRW9.out HPS.out HIV9.out HOS2x.out).mono ?_); rw [HRE.out]; rintro e10 w10 ⟨rfl, hk10⟩; (try unfold aggI); have HK10 := Lib.hid (HKW9.out.trans hk10); clear hk10) | (with_reducible refine wpList_store_new rfl 41 _ _ rfl 41 #[.int .i64 0, .int .i64 0, .int .i64 0, .int .i64 0, .int .i64 0, .int .i64 0, .int .i64 0, .int .i64 0, .int .i64 0, .int .i64 0, .int .i64 0, .int .i64 0] (S.map (Value.int .i64)).toArray rfl rfl HIS.out HZS.out HOSI.out ?_))
              have HNO2 : Hid (∀ k2, k2 < k + 1 → nx rs (whoF (some q) k2) S = none) := Lib.hid (fun k2 h2 => by
                by_cases e : k2 = k
                · subst e; rw [HWH.out]; exact HNX.out
                · exact HNO.out k2 (by omega))
              exact ⟨⟨k + 1, hk3, by go_num, rfl, rfl, HNO2, Lib.hid (HKI.out.trans (HK10.out.alloc _))⟩, by simp [intOf]; omega⟩
            | some t =>
              have HRE : Hid (runP rs (ks ++ [who]) s0 = (t, i + 1)) := Lib.hid (by rw [HRS.out, HRP.out, hnx, HKL.out])
              have htl := (HSO.out.next HPS.out hnx).1.len
              have HIT : Hid ((Tryd.prog.info? 41).map (·.size) = some (t.map (Value.int .i64)).toArray.size) := Lib.hid (by rw [info62]; simp [htl])
              have HZT : Hid ((#[.int .i64 0, .int .i64 0, .int .i64 0, .int .i64 0, .int .i64 0, .int .i64 0, .int .i64 0, .int .i64 0, .int .i64 0, .int .i64 0, .int .i64 0, .int .i64 0] : Array Value).size = (t.map (Value.int .i64)).toArray.size) := Lib.hid (by simp [htl])
              have HOT := Lib.hid (ints_one t)
              clear hnx htl
              go_upto_region 18 with (first | (go_at_call 17; (with_reducible refine (rest_tq HQ (by omega) (by omega) _).mono ?_); rintro e8 w8 ⟨rfl, hw8⟩; have hw9 := hw8.symm; clear hw8; subst hw9) | (at_builtin; refine wpList_append_capped rfl _ _ 22 rfl w4.heap.size 3 i3 (.int .i64 0) 1 8 Tryd.underlying22 hi3 hy0 hy1 hy2 rfl (by decide) av i cv ((ks.map fun (k : Nat) => (k : Int)).map (Value.int .i64)) rfl HOA.out ⟨wr.heap.size, 0, none⟩ 1 1 [.int .i64 who] rfl rfl (cells_new wr [.int .i64 who] 3 (0, 0)) HONW.out (by decide) H63.out HBY.out ?_; intro g9 c9 w9 hown9 hk9; have hkw9 : Keep [] wr w9 := ((Keep.refl [] wr).alloc _).trans hk9; have HKW9 := Lib.hid hkw9; have HIV9 := Lib.hid (HIW.out w9 g9 c9 hown9); have HRW9 := Lib.hid (HRW.out w9 hkw9); clear hown9 hk9 hkw9) | (go_at_call 10; (with_reducible refine (run28_any HRW9.out HPS.out HIV9.out HOS2x.out).mono ?_); rw [HRE.out]; rintro e10 w10 ⟨rfl, hk10⟩; (try unfold aggI); have HK10 := Lib.hid (HKW9.out.trans hk10); clear hk10) | (with_reducible refine wpList_store_new rfl 41 _ _ rfl 41 #[.int .i64 0, .int .i64 0, .int .i64 0, .int .i64 0, .int .i64 0, .int .i64 0, .int .i64 0, .int .i64 0, .int .i64 0, .int .i64 0, .int .i64 0, .int .i64 0] (t.map (Value.int .i64)).toArray rfl rfl HIT.out HZT.out HOT.out ?_))
              have HKX := Lib.hid (HK10.out.alloc (.cells (t.map (Value.int .i64)).toArray 41))
              obtain ⟨WX, hWX⟩ : ∃ WX, w10.alloc (.cells (t.map (Value.int .i64)).toArray 41) = WX := ⟨_, rfl⟩
              rw [hWX] at HKX ⊢
              clear hWX HOA
              have HOB := Lib.hid (own_keep HO.out (HKI.out.trans (HKX.out.alloc (.cells #[.int .i64 who] 3))) (by simp))
              have HKY := Lib.hid ((HK.out.trans HKI.out).trans (HKX.out.alloc (.cells #[.int .i64 who] 3)))
              go_wp2_with (first | (at_builtin; refine wpList_append_lies _ rfl _ _ 22 rfl w4.heap.size 3 i3 (.int .i64 0) 1 8 Tryd.underlying22 hi3 hy0 hy1 hy2 rfl (by decide) (.slice av i cv) i ((ks.map fun (k : Nat) => (k : Int)).map (Value.int .i64)) rfl HOB.out ⟨WX.heap.size, 0, none⟩ 1 1 [.int .i64 who] rfl rfl (cells_new WX [.int .i64 who] 3 (0, 0)) HONW.out (by decide) H63.out HBY.out HKY.out.size _ rfl ?_; intro g6 c6 w6 hown6 hgr6 hat6 hlt6; have HO6 := Lib.hid hown6; have HG6 := Lib.hid hgr6; clear hown6 hgr6 hat6 hlt6))
              have hk6 := Keep.ofGrown (S := (Value.slice av i cv).ownBlock.toList) HG6.out (fun x hx => by simp [hx])
              exact ⟨⟨i + 1, ks ++ [who], t, by omega, by go_num, Lib.hid (by rw [List.length_append, HKL.out]; rfl), HOS2x, HRE, Lib.hid (by simpa using HO6.out), Lib.hid (HKY.out.call hk6 (fun b hb => .inr (HO.out.lt b (by simpa using hb)).1))⟩, by simp [intOf]; omega⟩
          · have hk33 : k = 3 := by omega
            subst hk33
            have HFN : Hid (fin rs S = true) := Lib.hid (fin_iff.2 (by rw [hn3]; exact whoF_all (some q) HNO.out))
            have HIV2 : Hid (IntsV wr av i cv (ks.map fun (k : Nat) => (k : Int))) := Lib.hid (by
              obtain ⟨a8, c8, he, hiv⟩ := IntsV.ofOwn (own_keep HO.out HKI.out (by simp)) (fun z hz => by
                obtain ⟨j, hj, rfl⟩ := List.mem_map.1 hz
                have := HOS3.out j hj
                exact wf_small (by omega) (by omega))
              injection he with e1 e2 e3
              subst e1 e3
              exact hiv.1)
            go_wp2_with fail
            go_meet
            case rel => exact ⟨av, i, cv, ks, S, rfl, hi8, HKL, HOS3, HRP, HFN, HIV2, Lib.hid (HK.out.trans HKI.out)⟩
      · skip
        have hd46 : decide ((i : Int) < (len2 : Int)) = false := by simp; omega
        go_wp2_with fail
        go_loopw [61, 10, 11] (fun j o2 mv wr2 => ∃ k : Nat, k ≤ 3 ∧ j = .int .i64 k ∧ o2 = .slice av i cv ∧ mv = .bool false ∧ Hid (∀ k2, k2 < k → nx rs (whoF none k2) S = none) ∧ Hid (Keep [] wr wr2)) (fun j _ _ _ => 3 - (intOf j).toNat)
        case atStart => exact ⟨0, by omega, rfl, rfl, rfl, Lib.hid (fun k2 h => absurd h (Nat.not_lt_zero _)), Lib.hid (Keep.refl _ _)⟩
        case round =>
          obtain ⟨k, hk, rfl, rfl, rfl, HNO, HKI⟩ := hrel
          by_cases hk3 : k < 3
          · have hdk : decide ((k : Int) < 3) = true := by simp; omega
            have hw3 : k < 3 := hk3
            have hoA : (wr.alloc (.cells #[.int .i64 k] 3)).ownsRow w4.heap.size 3 1 (.slice av i cv) i ((ks.map fun (k : Nat) => (k : Int)).map (Value.int .i64)) := own_keep HO.out ((HKI.out).alloc _) (by simp)
            have HOA := Lib.hid hoA
            clear hoA
            have HOS2x : Hid (∀ j ∈ ks ++ [k], j < 3) := Lib.hid (fun j hj => by
              rcases List.mem_append.1 hj with h | h
              · exact HOS3.out j h
              · rw [List.mem_singleton] at h; subst h; exact hw3)
            have HRS := Lib.hid (runP_snoc (ps := rs) (l := ks) (s := s0) (j := k) (by rw [HRP.out, HKL.out]))
            have HRW : Hid (∀ w9, Keep [] wr w9 → RowsL w9 (some ⟨g, 0, none⟩) 3 3 rs) := Lib.hid (fun w9 h => HR4.out.keep ((HK.out.trans HKI.out).trans h))
            have HIW : Hid (∀ (w9 : World) g9 c9, w9.ownsRow (wr.alloc (.cells #[.int .i64 k] 3)).heap.size 3 1 (.slice (some ⟨g9, 0, none⟩) (i + 1) c9) (i + 1) (((ks.map fun (k : Nat) => (k : Int)).map (Value.int .i64)) ++ [.int .i64 k]) → IntsV w9 (some ⟨g9, 0, none⟩) (i + 1) c9 ((ks ++ [k]).map fun (k : Nat) => (k : Int))) := Lib.hid (fun w9 g9 c9 h => by
              have h1 : w9.ownsRow (wr.alloc (.cells #[.int .i64 k] 3)).heap.size 3 1 (.slice (some ⟨g9, 0, none⟩) (i + 1) c9) (i + 1) (((ks ++ [k]).map fun (k : Nat) => (k : Int)).map (Value.int .i64)) := by simpa using h
              obtain ⟨a8, c8, he, hiv⟩ := IntsV.ofOwn h1 (fun z hz => by
                obtain ⟨j, hj, rfl⟩ := List.mem_map.1 hz
                have := HOS2x.out j hj
                exact wf_small (by omega) (by omega))
              injection he with e1 e2 e3
              subst e1 e3
              exact hiv.1)
            have HONW : Hid (∀ u ∈ ([.int .i64 k] : List Value), u.oneCell' = true) := Lib.hid (by simp [Value.oneCell'])
            have H63 : Hid (i + 1 ≤ maxLen) := Lib.hid (by unfold maxLen; omega)
            have HBY : Hid ((i + 1) * 8 ≤ 140737488355328) := Lib.hid (by omega)
            cases hnx : nx rs k S with
            | none =>
              have HRE : Hid (runP rs (ks ++ [k]) s0 = (S, i)) := Lib.hid (by rw [HRS.out, HRP.out, hnx, HKL.out])
              have HNX := Lib.hid hnx
              clear hnx
              go_wp2_with (first | (at_builtin; refine wpList_append_capped rfl _ _ 22 rfl w4.heap.size 3 i3 (.int .i64 0) 1 8 Tryd.underlying22 hi3 hy0 hy1 hy2 rfl (by decide) av i cv ((ks.map fun (k : Nat) => (k : Int)).map (Value.int .i64)) rfl HOA.out ⟨wr.heap.size, 0, none⟩ 1 1 [.int .i64 k] rfl rfl (cells_new wr [.int .i64 k] 3 (0, 0)) HONW.out (by decide) H63.out HBY.out ?_; intro g9 c9 w9 hown9 hk9; have hkw9 : Keep [] wr w9 := ((Keep.refl [] wr).alloc _).trans hk9; have HKW9 := Lib.hid hkw9; have HIV9 := Lib.hid (HIW.out w9 g9 c9 hown9); have HRW9 := Lib.hid (HRW.out w9 hkw9); clear hown9 hk9 hkw9) | (go_at_call 10; (with_reducible refine (run28_any HRW9.out HPS.out HIV9.out HOS2x.out).mono ?_); rw [HRE.out]; rintro e10 w10 ⟨rfl, hk10⟩; (try unfold aggI); have HK10 := Lib.hid (HKW9.out.trans hk10); clear hk10) | (with_reducible refine wpList_store_new rfl 41 _ _ rfl 41 #[.int .i64 0, .int .i64 0, .int .i64 0, .int .i64 0, .int .i64 0, .int .i64 0, .int .i64 0, .int .i64 0, .int .i64 0, .int .i64 0, .int .i64 0, .int .i64 0] (S.map (Value.int .i64)).toArray rfl rfl HIS.out HZS.out HOSI.out ?_))
              have HNO2 : Hid (∀ k2, k2 < k + 1 → nx rs (whoF none k2) S = none) := Lib.hid (fun k2 h2 => by
                by_cases e : k2 = k
                · subst e; exact HNX.out
                · exact HNO.out k2 (by omega))
              exact ⟨⟨k + 1, hk3, by go_num, rfl, rfl, HNO2, Lib.hid (HKI.out.trans (HK10.out.alloc _))⟩, by simp [intOf]; omega⟩
            | some t =>
              have HRE : Hid (runP rs (ks ++ [k]) s0 = (t, i + 1)) := Lib.hid (by rw [HRS.out, HRP.out, hnx, HKL.out])
              have htl := (HSO.out.next HPS.out hnx).1.len
              have HIT : Hid ((Tryd.prog.info? 41).map (·.size) = some (t.map (Value.int .i64)).toArray.size) := Lib.hid (by rw [info62]; simp [htl])
              have HZT : Hid ((#[.int .i64 0, .int .i64 0, .int .i64 0, .int .i64 0, .int .i64 0, .int .i64 0, .int .i64 0, .int .i64 0, .int .i64 0, .int .i64 0, .int .i64 0, .int .i64 0] : Array Value).size = (t.map (Value.int .i64)).toArray.size) := Lib.hid (by simp [htl])
              have HOT := Lib.hid (ints_one t)
              clear hnx htl
              go_upto_region 18 with (first | (at_builtin; refine wpList_append_capped rfl _ _ 22 rfl w4.heap.size 3 i3 (.int .i64 0) 1 8 Tryd.underlying22 hi3 hy0 hy1 hy2 rfl (by decide) av i cv ((ks.map fun (k : Nat) => (k : Int)).map (Value.int .i64)) rfl HOA.out ⟨wr.heap.size, 0, none⟩ 1 1 [.int .i64 k] rfl rfl (cells_new wr [.int .i64 k] 3 (0, 0)) HONW.out (by decide) H63.out HBY.out ?_; intro g9 c9 w9 hown9 hk9; have hkw9 : Keep [] wr w9 := ((Keep.refl [] wr).alloc _).trans hk9; have HKW9 := Lib.hid hkw9; have HIV9 := Lib.hid (HIW.out w9 g9 c9 hown9); have HRW9 := Lib.hid (HRW.out w9 hkw9); clear hown9 hk9 hkw9) | (go_at_call 10; (with_reducible refine (run28_any HRW9.out HPS.out HIV9.out HOS2x.out).mono ?_); rw [HRE.out]; rintro e10 w10 ⟨rfl, hk10⟩; (try unfold aggI); have HK10 := Lib.hid (HKW9.out.trans hk10); clear hk10) | (with_reducible refine wpList_store_new rfl 41 _ _ rfl 41 #[.int .i64 0, .int .i64 0, .int .i64 0, .int .i64 0, .int .i64 0, .int .i64 0, .int .i64 0, .int .i64 0, .int .i64 0, .int .i64 0, .int .i64 0, .int .i64 0] (t.map (Value.int .i64)).toArray rfl rfl HIT.out HZT.out HOT.out ?_))
              have HKX := Lib.hid (HK10.out.alloc (.cells (t.map (Value.int .i64)).toArray 41))
              obtain ⟨WX, hWX⟩ : ∃ WX, w10.alloc (.cells (t.map (Value.int .i64)).toArray 41) = WX := ⟨_, rfl⟩
              rw [hWX] at HKX ⊢
              clear hWX HOA
              have HOB := Lib.hid (own_keep HO.out (HKI.out.trans (HKX.out.alloc (.cells #[.int .i64 k] 3))) (by simp))
              have HKY := Lib.hid ((HK.out.trans HKI.out).trans (HKX.out.alloc (.cells #[.int .i64 k] 3)))
              go_wp2_with (first | (at_builtin; refine wpList_append_lies _ rfl _ _ 22 rfl w4.heap.size 3 i3 (.int .i64 0) 1 8 Tryd.underlying22 hi3 hy0 hy1 hy2 rfl (by decide) (.slice av i cv) i ((ks.map fun (k : Nat) => (k : Int)).map (Value.int .i64)) rfl HOB.out ⟨WX.heap.size, 0, none⟩ 1 1 [.int .i64 k] rfl rfl (cells_new WX [.int .i64 k] 3 (0, 0)) HONW.out (by decide) H63.out HBY.out HKY.out.size _ rfl ?_; intro g6 c6 w6 hown6 hgr6 hat6 hlt6; have HO6 := Lib.hid hown6; have HG6 := Lib.hid hgr6; clear hown6 hgr6 hat6 hlt6))
              have hk6 := Keep.ofGrown (S := (Value.slice av i cv).ownBlock.toList) HG6.out (fun x hx => by simp [hx])
              exact ⟨⟨i + 1, ks ++ [k], t, by omega, by go_num, Lib.hid (by rw [List.length_append, HKL.out]; rfl), HOS2x, HRE, Lib.hid (by simpa using HO6.out), Lib.hid (HKY.out.call hk6 (fun b hb => .inr (HO.out.lt b (by simpa using hb)).1))⟩, by simp [intOf]; omega⟩
          · have hk33 : k = 3 := by omega
            subst hk33
            have HFN : Hid (fin rs S = true) := Lib.hid (fin_iff.2 (by rw [hn3]; exact whoF_all none HNO.out))
            have HIV2 : Hid (IntsV wr av i cv (ks.map fun (k : Nat) => (k : Int))) := Lib.hid (by
              obtain ⟨a8, c8, he, hiv⟩ := IntsV.ofOwn (own_keep HO.out HKI.out (by simp)) (fun z hz => by
                obtain ⟨j, hj, rfl⟩ := List.mem_map.1 hz
                have := HOS3.out j hj
                exact wf_small (by omega) (by omega))
              injection he with e1 e2 e3
              subst e1 e3
              exact hiv.1)
            go_wp2_with fail
            go_meet
            case rel => exact ⟨av, i, cv, ks, S, rfl, hi8, HKL, HOS3, HRP, HFN, HIV2, Lib.hid (HK.out.trans HKI.out)⟩
  case rest =>
    obtain ⟨aK, i, cK, ks, S, rfl, hi8, HKL, HKS, HRP, HFIN, HIV, HKW⟩ := hcut
    obtain ⟨l, hw, hwho⟩ := Ex.Way.of_run (ps := rs) (o := ks) (s := s0) (t := S) (by rw [HRP.out, HKL.out])
    have hl : l.length = i := by rw [← HKL.out, ← hwho]; simp [who]
    have HN := Lib.hid hl
    have HW := Lib.hid hw
    have HFW := Lib.hid (sameC_one HO3.out hw HFIN.out)
    have hso := (hw.ok HPS.out (SOk.start rs)).1
    have HTE : Hid (S ∈ E) := Lib.hid ((HE4.out.mem S).2 ⟨hw.rc .start, HFIN.out⟩)
    have HKS2 := Lib.hid (sok_key HPS.out hso)
    have HST : Hid (∀ x ∈ l, StOk x) := Lib.hid (way_st HPS.out hw)
    have HRUN : Hid (Calls Tryd.prog 10 #[.slice (some ⟨g, 0, none⟩) 3 3, .slice aK i cK] wc fun e w' => e = .returned (.tuple #[aggI S, .int .i64 i, .int .i64 0]) ∧ Keep [] wc w') := Lib.hid (by
      have h := run28_any (os := ks) (HR4.out.keep HKW.out) HPS.out HIV.out HKS.out
      rw [HRP.out] at h
      exact h)
    have HSTP : Hid (∀ w9, Keep [] wc w9 → Calls Tryd.prog 11 #[.slice (some ⟨g, 0, none⟩) 3 3, .slice aK i cK] w9 fun e w' => ∃ v, e = .returned (.tuple #[v, .int .i64 0]) ∧ w'.ownsRow w9.heap.size 52 3 v i (lanesC l) ∧ Keep [] w9 w') := Lib.hid (fun w9 h9 => by
      have h := steps11_any (HR4.out.keep (HKW.out.trans h9)) HPS.out HW.out (by rw [hwho]; exact HIV.out.keep h9 (by simp))
      rw [HN.out] at h
      exact h)
    have HCNE : Hid (∀ w9, Keep [] wc w9 → Calls Tryd.prog 13 #[.slice (some ⟨gE, 0, none⟩) E.length cE, .agg (S.map (Value.int .i64)).toArray] w9 fun e w' => e = .returned (.bool true) ∧ Keep [] w9 w') := Lib.hid (fun w9 h9 => contains29_any (A := true) rfl HEK.out HKS2.out (fun j u hu => (HKW.out.trans h9).cell (HEC.out j u hu) (by simp)) (by omega) hE1 hE2 (decide_eq_true HTE.out))
    have htl := hso.len
    clear hw hl hso HFIN HKS HRP hwho HKL HIV
    obtain ⟨x0, x1, x2, x3, x4, x5, x6, x7, x8, x9, xa, xb, hxe⟩ := list12 htl
    subst hxe
    rw [show aggI [x0, x1, x2, x3, x4, x5, x6, x7, x8, x9, xa, xb] = (.agg #[.int .i64 x0, .int .i64 x1, .int .i64 x2, .int .i64 x3, .int .i64 x4, .int .i64 x5, .int .i64 x6, .int .i64 x7, .int .i64 x8, .int .i64 x9, .int .i64 xa, .int .i64 xb]) from rfl] at HRUN
    rw [show Value.agg ([x0, x1, x2, x3, x4, x5, x6, x7, x8, x9, xa, xb].map (Value.int .i64)).toArray = (.agg #[.int .i64 x0, .int .i64 x1, .int .i64 x2, .int .i64 x3, .int .i64 x4, .int .i64 x5, .int .i64 x6, .int .i64 x7, .int .i64 x8, .int .i64 x9, .int .i64 xa, .int .i64 xb]) from rfl] at HCNE
    clear htl
    go_upto_region 24 with (first | (go_at_call 10; refine HRUN.out.mono ?_; rintro e5 w5 ⟨rfl, hk5⟩; have HKA5 := Lib.hid (hk5.alloc (.cells #[.int .i64 x0, .int .i64 x1, .int .i64 x2, .int .i64 x3, .int .i64 x4, .int .i64 x5, .int .i64 x6, .int .i64 x7, .int .i64 x8, .int .i64 x9, .int .i64 xa, .int .i64 xb] 41)); clear hk5) | (go_at_call 11; refine (HSTP.out _ HKA5.out).mono ?_; rintro e6 w6 ⟨v6, rfl, ho6, hk6⟩; obtain ⟨a6, c6, hv6, hlv6, _⟩ := LnsV.ofOwn ho6; subst hv6; have HL6 := Lib.hid hlv6; have HK6 := Lib.hid (HKA5.out.trans hk6); have HB6 := Lib.hid (hk6.at (blk_new w5 (.cells #[.int .i64 x0, .int .i64 x1, .int .i64 x2, .int .i64 x3, .int .i64 x4, .int .i64 x5, .int .i64 x6, .int .i64 x7, .int .i64 x8, .int .i64 x9, .int .i64 xa, .int .i64 xb] 41)) (by simp)); clear hk6 hlv6 ho6))
    obtain ⟨bS, hbS⟩ : ∃ b, w5.heap.size = b := ⟨_, rfl⟩
    rw [hbS] at HB6 ⊢
    have hx0 : w6.cell? ⟨bS, 0, none⟩ = some (.int .i64 x0) := (cell_of_row w6 bS 0 _ _ _ HB6.out).trans rfl
    have hx1 : w6.cell? ⟨bS, 1, none⟩ = some (.int .i64 x1) := (cell_of_row w6 bS 1 _ _ _ HB6.out).trans rfl
    have hx2 : w6.cell? ⟨bS, 2, none⟩ = some (.int .i64 x2) := (cell_of_row w6 bS 2 _ _ _ HB6.out).trans rfl
    have hx3 : w6.cell? ⟨bS, 3, none⟩ = some (.int .i64 x3) := (cell_of_row w6 bS 3 _ _ _ HB6.out).trans rfl
    have hx4 : w6.cell? ⟨bS, 4, none⟩ = some (.int .i64 x4) := (cell_of_row w6 bS 4 _ _ _ HB6.out).trans rfl
    have hx5 : w6.cell? ⟨bS, 5, none⟩ = some (.int .i64 x5) := (cell_of_row w6 bS 5 _ _ _ HB6.out).trans rfl
    have hx6 : w6.cell? ⟨bS, 6, none⟩ = some (.int .i64 x6) := (cell_of_row w6 bS 6 _ _ _ HB6.out).trans rfl
    have hx7 : w6.cell? ⟨bS, 7, none⟩ = some (.int .i64 x7) := (cell_of_row w6 bS 7 _ _ _ HB6.out).trans rfl
    have hx8 : w6.cell? ⟨bS, 8, none⟩ = some (.int .i64 x8) := (cell_of_row w6 bS 8 _ _ _ HB6.out).trans rfl
    have hx9 : w6.cell? ⟨bS, 9, none⟩ = some (.int .i64 x9) := (cell_of_row w6 bS 9 _ _ _ HB6.out).trans rfl
    have hx10 : w6.cell? ⟨bS, 10, none⟩ = some (.int .i64 xa) := (cell_of_row w6 bS 10 _ _ _ HB6.out).trans rfl
    have hx11 : w6.cell? ⟨bS, 11, none⟩ = some (.int .i64 xb) := (cell_of_row w6 bS 11 _ _ _ HB6.out).trans rfl
    clear hbS HKA5 HRUN HSTP
    go_upto_region 26 with (first | (go_at_call 13; refine (HCNE.out _ HK6.out).mono ?_; rintro e8 w8 ⟨rfl, hk8⟩; have HK8 := Lib.hid (HK6.out.trans hk8); have HL8 := Lib.hid (HL6.out.keep hk8 (by simp)); clear hk8))
    clear hx0 hx1 hx2 hx3 hx4 hx5 hx6 hx7 hx8 hx9 hx10 hx11 HB6 HCNE HL6 HK6
    have HKZ := Lib.hid (HKW.out.trans HK8.out)
    go_wp2_with fail
    go_loopw [141, 20] (fun j cv wr => ∃ (k cnt : Nat), k ≤ m ∧ j = .int .i64 k ∧ cv = .int .i64 cnt ∧ Hid (cnt = sameC l (out.take k)) ∧ Hid (Keep [] w8 wr)) (fun j _ _ => m - (intOf j).toNat)
    case atStart => exact ⟨0, 0, by omega, rfl, rfl, Lib.hid rfl, Lib.hid (Keep.refl _ _)⟩
    case round =>
      obtain ⟨k, cnt, hk, rfl, rfl, HCT, HK⟩ := hrel
      have hck : cnt ≤ k := by
        rw [HCT.out]
        refine Nat.le_trans (sameC_le _ _) ?_
        rw [List.length_take]; omega
      by_cases hlt : k < m
      · obtain ⟨⟨ov, l2, t2⟩, hoi⟩ : ∃ e, ods[k]? = some e := ⟨_, List.getElem?_eq_getElem (by rw [HM.out]; exact hlt)⟩
        have hpi : out[k]? = some (l2, t2) := by rw [← HOUT.out, List.getElem?_map, hoi]; rfl
        obtain ⟨hw, hf⟩ := HO3.out.way _ (List.mem_of_getElem? hpi)
        simp only at hw hf
        have HW2 := Lib.hid hw
        have hl12 := hw.len12 HPS.out
        have hl40 : l2.length ≤ 12 := Nat.le_trans hl12 HPS.out.tot
        have hord := HORD.out _ (List.mem_of_getElem? hoi)
        obtain ⟨ao, co, hov, hiv⟩ := ord_ints HPS.out hw hord
        simp only at hov
        subst hov
        obtain ⟨n, hn⟩ : ∃ n, l2.length = n := ⟨_, rfl⟩
        have HN2 := Lib.hid hn
        rw [hn] at hl40 hiv
        have HIV2 := Lib.hid (hiv.keep HK34.out (by simp))
        have HKK := Lib.hid (HKZ.out.trans HK.out)
        have HSTP2 : Hid (Calls Tryd.prog 11 #[.slice (some ⟨g, 0, none⟩) 3 3, .slice ao n co] wr fun e w' => ∃ v, e = .returned (.tuple #[v, .int .i64 0]) ∧ w'.ownsRow wr.heap.size 52 3 v n (lanesC l2) ∧ Keep [] wr w') := Lib.hid (by
          have h := steps11_any (HR4.out.keep HKK.out) HPS.out HW2.out (HIV2.out.keep HKK.out (by simp))
          rw [HN2.out] at h
          exact h)
        have HST2 : Hid (∀ x ∈ l2, StOk x) := Lib.hid (way_st HPS.out hw)
        have hdec : decide ((k : Int) < (m : Int)) = true := by simp; omega
        obtain ⟨go, cgo, hgo, hgo1, hgo2, -, hgo4, hgoc⟩ := own_at HOS2.out (by omega)
        injection hgo with hgoa hgob hgoc'
        subst hgoa hgoc'
        have hcell := (HK34.out.trans HKK.out).cell (hgoc k (.slice ao n co) (by rw [List.getElem?_map, hoi, hn]; rfl)) (by simp)
        obtain ⟨B, hB⟩ : ∃ B, decide (Tr.rnds dep Ln.q l = Tr.rnds dep Ln.q l2) = B := ⟨_, rfl⟩
        have HB := Lib.hid hB
        have HCT2 : Hid (sameC l (out.take (k + 1)) = cnt + if Tr.rnds dep Ln.q l = Tr.rnds dep Ln.q l2 then 1 else 0) := Lib.hid (by rw [sameC_next l hpi, ← HCT.out])
        have hfew := HFEW.out
        clear hoi hpi hw hf hl12 hord hiv hn hgoc hgob hB
        cases B with
        | true =>
          have HCT3 : Hid (cnt + 1 = sameC l (out.take (k + 1))) := Lib.hid (by rw [HCT2.out, if_pos (of_decide_eq_true HB.out)])
          go_wp2_with (first | (go_at_call 11; refine HSTP2.out.mono ?_; rintro e9 w9 ⟨v9, rfl, ho9, hk9⟩; obtain ⟨a9, c9, hv9, hlv9, _⟩ := LnsV.ofOwn ho9; subst hv9; have HL9 := Lib.hid hlv9; have HLK9 := Lib.hid (HL8.out.keep (HK.out.trans hk9) (by simp)); have HKR9 := Lib.hid hk9; clear hk9 hlv9 ho9) | (go_at_call 18; (with_reducible refine (same14_any HLK9.out HL9.out (by omega) (by omega) HST.out HST2.out).mono ?_); rw [HB.out]; rintro e10 w10 ⟨rfl, hk10⟩; have HK10 := Lib.hid (HKR9.out.trans hk10); clear hk10))
          exact ⟨⟨k + 1, cnt + 1, hlt, by go_num, by go_num, HCT3, Lib.hid (HK.out.trans HK10.out)⟩, by simp [intOf]; omega⟩
        | false =>
          have HCT3 : Hid (cnt = sameC l (out.take (k + 1))) := Lib.hid (by rw [HCT2.out, if_neg (of_decide_eq_false HB.out)]; rfl)
          go_wp2_with (first | (go_at_call 11; refine HSTP2.out.mono ?_; rintro e9 w9 ⟨v9, rfl, ho9, hk9⟩; obtain ⟨a9, c9, hv9, hlv9, _⟩ := LnsV.ofOwn ho9; subst hv9; have HL9 := Lib.hid hlv9; have HLK9 := Lib.hid (HL8.out.keep (HK.out.trans hk9) (by simp)); have HKR9 := Lib.hid hk9; clear hk9 hlv9 ho9) | (go_at_call 18; (with_reducible refine (same14_any HLK9.out HL9.out (by omega) (by omega) HST.out HST2.out).mono ?_); rw [HB.out]; rintro e10 w10 ⟨rfl, hk10⟩; have HK10 := Lib.hid (HKR9.out.trans hk10); clear hk10))
          exact ⟨⟨k + 1, cnt, hlt, by go_num, rfl, HCT3, Lib.hid (HK.out.trans HK10.out)⟩, by simp [intOf]; omega⟩
      · obtain rfl : k = m := by omega
        have hdec : decide ((k : Int) < (k : Int)) = false := by simp
        have h1 : cnt = 1 := by rw [HCT.out, List.take_of_length_le (by rw [HOL.out]; exact Nat.le_refl _)]; exact HFW.out
        subst h1
        go_wp2_with fail
        go_ret
        exact ⟨rfl, HK4.out.trans (HKZ.out.trans HK.out)⟩
end Go.Proofs.YtfcellgjbbfobaaDoor
