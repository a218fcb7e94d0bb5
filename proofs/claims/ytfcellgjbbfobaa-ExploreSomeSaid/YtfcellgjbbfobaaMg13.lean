/- Texts laid together: E13. -/
import Derived.Test.YtfcellgjbbfobaaMg12
import Derived.Deep.RegionHeldLaw
/- ExploreSome: the walk. -/
namespace Go.Proofs.Ytfcellgjbbfobaa
open Go.RowKit Go.Ex Go.Bf
theorem ends_len {ps : List (List Ln)} (hp : PsOk ps) {E : List (List Int)} (he : EndsOf ps E) : 0 < E.length := by
  obtain ⟨t, h1, h2⟩ := fin_ex hp 12 s0 .start (by decide)
  exact List.length_pos_of_mem ((he.mem t).2 ⟨h1, h2⟩)
theorem own_roomE {w : World} {B e m n c : Nat} {a : Option Addr} {xs : List Value} (h : w.ownsRow B e m (.slice a n c) n xs) : n ≤ c ∧ c ≤ 9223372036854775807 := by
  rcases h.2 with ⟨h0, _⟩ | ⟨g', cap, cur, hv, hb, hg, hnc, hcm, _⟩
  · cases h0; omega
  · cases hv; exact ⟨hnc, hcm⟩
theorem run28_nil {w : World} {a : Option Addr} {n c : Nat} {ps : List (List Ln)} (hv : RowsL w a n c ps) (hp : PsOk ps) :
    Calls Try.prog 28 #[.slice a n c, .slice none 0 0] w fun e w' => e = .returned (.tuple #[.agg #[.int .i64 0, .int .i64 0, .int .i64 0, .int .i64 0, .int .i64 0, .int .i64 0, .int .i64 0, .int .i64 0, .int .i64 0, .int .i64 0, .int .i64 0, .int .i64 0], .int .i64 0, .int .i64 0]) ∧ Keep [] w w' :=
  run28_any (os := []) hv hp (IntsV.nil w) (by simp)
set_option maxRecDepth 100000 in
set_option maxHeartbeats 8000000 in
theorem exploreSome_walk (ap : Option Addr) (len cap : Nat) (zs : List Int) (ap2 : Option Addr) (len2 cap2 : Nat) (zs2 : List Int) (w : World) (hz : IntsV w ap len cap zs) (hz2 : IntsV w ap2 len2 cap2 zs2) :
    Calls Try.prog 8 #[.slice ap len cap, .slice ap2 len2 cap2] w fun e w' => e = .returned (.bool true) ∧ Keep [] w w' := by
  have HZ := Lib.hid hz
  have HZ2 := Lib.hid hz2
  have hroom2 := hz2.room
  have hmost2 := hz2.most
  have h9 : maxLen = 9223372036854775807 := rfl
  rw [h9] at hmost2
  clear hz hz2 h9
  go_enter Try.func8, Try.ntmps8
  go_upto_region 10 with (first | (go_at_call 25; (with_reducible refine (begun25_any _).mono ?_); rintro e0 w0 ⟨rfl, hk0⟩; have HK0 := Lib.hid hk0; clear hk0) | (go_at_call 26; (refine (progs26_any (most := 9) (HZ.out.keep HK0.out (by simp)) (by omega)).mono ?_); rintro e1 w1 ⟨g, vals, rs, rfl, hr1, hr3, hps, _, hk1⟩; have HR1 := Lib.hid (hr1.rows hr3 (by omega)); have HPS := Lib.hid hps; have HK1 := Lib.hid (HK0.out.trans hk1); clear hr1 hps hk1) | (go_at_call 27; (with_reducible refine (ends27_any HR1.out HPS.out).mono ?_); rintro e3 w3 ⟨v3, E, rfl, hE3, hEl3, hk3, ho3⟩; obtain ⟨gE, cE, hvE, hE1, hE2, hE5, hE6, hEC⟩ := own_at ho3 (ends_len HPS.out hE3); subst hvE; have HEC := Lib.hid hEC; have HK3 := Lib.hid (HK1.out.trans hk3); have HR3 := Lib.hid (HR1.out.keep hk3); have HO3 := Lib.hid ho3; have HE3 := Lib.hid hE3; clear hE3 hk3 ho3 hEC) | (go_at_call 28; (with_reducible refine (run28_nil HR3.out HPS.out).mono ?_); rintro e4 w4 ⟨rfl, hk4⟩; have HK4 := Lib.hid (HK3.out.trans hk4); have HK34 := Lib.hid hk4; clear hk4))
  have HS0 : Hid (ArrAt 62 (w4.alloc (.cells #[.int .i64 0, .int .i64 0, .int .i64 0, .int .i64 0, .int .i64 0, .int .i64 0, .int .i64 0, .int .i64 0, .int .i64 0, .int .i64 0, .int .i64 0, .int .i64 0] 62)) w4.heap.size s0) := Lib.hid (ArrAt.new 62 w4 s0)
  have HKS := Lib.hid (HK34.out.alloc (.cells #[.int .i64 0, .int .i64 0, .int .i64 0, .int .i64 0, .int .i64 0, .int .i64 0, .int .i64 0, .int .i64 0, .int .i64 0, .int .i64 0, .int .i64 0, .int .i64 0] 62))
  have HEK : Hid (∀ x ∈ E, KS.ok x) := Lib.hid (fun x hx => sok_key HPS.out (reach_ok HPS.out ((HE3.out.mem x).1 hx).1))
  have hi3 := info3
  obtain ⟨i3, hi3, hy0, hy1, hy2⟩ := infoE hi3
  have hn3 : rs.length = 3 := hr3
  obtain ⟨b9, hb9⟩ : ∃ b9, w4.heap.size = b9 := ⟨_, rfl⟩
  have HB9 : Hid (w3.heap.size ≤ b9) := Lib.hid (by have := HK34.out.size; omega)
  have HK3w := Lib.hid (show Keep [] w w3 from HK3.out)
  obtain ⟨W4, hW4⟩ : ∃ W4, w4.alloc (.cells #[.int .i64 0, .int .i64 0, .int .i64 0, .int .i64 0, .int .i64 0, .int .i64 0, .int .i64 0, .int .i64 0, .int .i64 0, .int .i64 0, .int .i64 0, .int .i64 0] 62) = W4 := ⟨_, rfl⟩
  rw [hW4] at HS0 HKS ⊢
  rw [hb9] at HS0 ⊢
  clear HK34 HK4 hW4 hb9 HR1 HK1
  go_loopw [34, 8] (fun j ov wr => ∃ (i : Nat) (os : List Nat) (S : List Int), i ≤ 13 ∧ j = .int .i64 i ∧ Hid (os.length = i) ∧ Hid (∀ k ∈ os, k < 3) ∧ Hid (runP rs os s0 = (S, i)) ∧ Hid (ArrAt 62 wr b9 S) ∧ Hid (wr.ownsRow w3.heap.size 3 1 ov i ((os.map fun (k : Nat) => (k : Int)).map (Value.int .i64))) ∧ Hid (Keep [] w3 wr)) (fun j _ _ => 13 - (intOf j).toNat)
  case atStart => exact ⟨0, [], s0, by omega, rfl, Lib.hid rfl, Lib.hid (by simp), Lib.hid rfl, HS0, Lib.hid (World.ownsRow_nil _ _ _ _), HKS⟩
  case round =>
    obtain ⟨i, os, S, hi, rfl, HOL, HOS, HRP, HS, HO, HK⟩ := hrel
    have hrs := runP_sok HPS.out (l := os) (SOk.start rs)
    rw [HRP.out] at hrs
    obtain ⟨hso, hst⟩ := hrs
    have hi12 : i ≤ 12 := by
      have h1 := steps_le HPS.out hso
      have h2 := HPS.out.tot
      have h3 : steps s0 = 0 := by decide
      simp only at hst h1
      omega
    simp only at hso
    have HSO := Lib.hid hso
    have hsl := hso.len
    have HRC : Hid (Rc rs.length (nx rs) s0 S) := Lib.hid (by
      have h := runP_whole (ps := rs) (l := os) .start (fun j hj => by rw [hn3]; exact HOS.out j hj) (by rw [HRP.out, HOL.out])
      rw [HRP.out] at h
      exact h)
    obtain ⟨av, cv, hve⟩ := own_sliceE HO.out
    subst hve
    have hav := own_roomE HO.out
    have hdec : decide ((i : Int) < 13) = true := by simp; omega
    have HIS : Hid ((Try.prog.info? 62).map (·.size) = some (S.map (Value.int .i64)).toArray.size) := Lib.hid (by rw [info62]; simp [hsl])
    have HZS : Hid ((#[.int .i64 0, .int .i64 0, .int .i64 0, .int .i64 0, .int .i64 0, .int .i64 0, .int .i64 0, .int .i64 0, .int .i64 0, .int .i64 0, .int .i64 0, .int .i64 0] : Array Value).size = (S.map (Value.int .i64)).toArray.size) := Lib.hid (by simp [hsl])
    have HOSI := Lib.hid (ints_one S)
    clear hso hst
    have hgen : ∀ qo : Option Nat, qo = qo := fun _ => rfl
    by_cases hpk : i < len2
    · skip
      have hd46 : decide ((i : Int) < (len2 : Int)) = true := by simp; omega
      obtain ⟨bp, op, hap, hcp⟩ := HZ2.out.cells (by omega)
      have HCP := Lib.hid (hcp i hpk)
      obtain ⟨z, hz⟩ : ∃ z, zs2.getD i 0 = z := ⟨_, rfl⟩
      rw [hz] at HCP
      obtain ⟨q, hq, hqb⟩ := rest_nat z 3 (by omega)
      have HQ := Lib.hid hq
      have hq3 : q < 3 := by omega
      have hpi : (i : Int) < (len2 : Int) := by omega
      subst hap
      clear hcp hz hq hqb
      go_wp2_with fail
      go_loopw [38, 8, 11] (fun j o2 mv wr2 => ∃ k : Nat, k ≤ 3 ∧ j = .int .i64 k ∧ o2 = .slice av i cv ∧ mv = .bool false ∧ Hid (∀ k2, k2 < k → nx rs (whoF (some q) k2) S = none) ∧ Hid (Keep [] wr wr2)) (fun j _ _ _ => 3 - (intOf j).toNat)
      case atStart => exact ⟨0, by omega, rfl, rfl, rfl, Lib.hid (fun k2 h => absurd h (Nat.not_lt_zero _)), Lib.hid (Keep.refl _ _)⟩
      case round =>
        obtain ⟨k, hk, rfl, rfl, rfl, HNO, HKI⟩ := hrel
        by_cases hk3 : k < 3
        · have hdk : decide ((k : Int) < 3) = true := by simp; omega
          obtain ⟨who, hwho⟩ : ∃ who, whoF (some q) k = who := ⟨_, rfl⟩
          have hw3 : who < 3 := by rw [← hwho]; exact whoF_lt _ hk3
          have HWQ : Hid (restI ((k : Int) + (q : Int)) 3 = (who : Int)) := Lib.hid (by rw [restI_whoF hk3 hq3, ← hwho]; rfl)
          have hcpk := ((HK3w.out.trans HK.out).trans HKI.out).cell HCP.out (by simp)
          have HWH := Lib.hid hwho
          have hoA : (wr.alloc (.cells #[.int .i64 who] 3)).ownsRow w3.heap.size 3 1 (.slice av i cv) i ((os.map fun (k : Nat) => (k : Int)).map (Value.int .i64)) := own_keep HO.out ((HKI.out).alloc _) (by simp)
          have HOA := Lib.hid hoA
          clear hoA hwho
          have HOS2 : Hid (∀ j ∈ os ++ [who], j < 3) := Lib.hid (fun j hj => by
            rcases List.mem_append.1 hj with h | h
            · exact HOS.out j h
            · rw [List.mem_singleton] at h; subst h; exact hw3)
          have HRS := Lib.hid (runP_snoc (ps := rs) (l := os) (s := s0) (j := who) (by rw [HRP.out, HOL.out]))
          have HRW : Hid (∀ w9, Keep [] wr w9 → RowsL w9 (some ⟨g, 0, none⟩) 3 3 rs) := Lib.hid (fun w9 h => HR3.out.keep ((HK.out.trans HKI.out).trans h))
          have HIW : Hid (∀ (w9 : World) g9 c9, w9.ownsRow (wr.alloc (.cells #[.int .i64 who] 3)).heap.size 3 1 (.slice (some ⟨g9, 0, none⟩) (i + 1) c9) (i + 1) (((os.map fun (k : Nat) => (k : Int)).map (Value.int .i64)) ++ [.int .i64 who]) → IntsV w9 (some ⟨g9, 0, none⟩) (i + 1) c9 ((os ++ [who]).map fun (k : Nat) => (k : Int))) := Lib.hid (fun w9 g9 c9 h => by
            have h1 : w9.ownsRow (wr.alloc (.cells #[.int .i64 who] 3)).heap.size 3 1 (.slice (some ⟨g9, 0, none⟩) (i + 1) c9) (i + 1) (((os ++ [who]).map fun (k : Nat) => (k : Int)).map (Value.int .i64)) := by simpa using h
            obtain ⟨a8, c8, he, hiv⟩ := IntsV.ofOwn h1 (fun z hz => by
              obtain ⟨j, hj, rfl⟩ := List.mem_map.1 hz
              have := HOS2.out j hj
              exact wf_small (by omega) (by omega))
            injection he with e1 e2 e3
            subst e1 e3
            exact hiv.1)
          have HONW : Hid (∀ u ∈ ([.int .i64 who] : List Value), u.oneCell' = true) := Lib.hid (by simp [Value.oneCell'])
          have H63 : Hid (i + 1 ≤ maxLen) := Lib.hid (by unfold maxLen; omega)
          have HBY : Hid ((i + 1) * 8 ≤ 140737488355328) := Lib.hid (by omega)
          cases hnx : nx rs who S with
          | none =>
            have HRE : Hid (runP rs (os ++ [who]) s0 = (S, i)) := Lib.hid (by rw [HRS.out, HRP.out, hnx, HOL.out])
            have HNX := Lib.hid hnx
            clear hnx
            go_wp2_with (first | (go_at_call 11; (with_reducible refine (rest_tq HQ (by omega) (by omega) _).mono ?_); rintro e8 w8 ⟨rfl, hw8⟩; have hw9 := hw8.symm; clear hw8; subst hw9) | (go_at_call 11; (with_reducible refine (rest_tq HWQ (by omega) (by omega) _).mono ?_); rintro e8 w8 ⟨rfl, hw8⟩; have hw9 := hw8.symm; clear hw8; subst hw9) | (at_builtin; refine wpList_append_capped rfl _ _ 22 rfl w3.heap.size 3 i3 (.int .i64 0) 1 8 Try.underlying22 hi3 hy0 hy1 hy2 rfl (by decide) av i cv ((os.map fun (k : Nat) => (k : Int)).map (Value.int .i64)) rfl HOA.out ⟨wr.heap.size, 0, none⟩ 1 1 [.int .i64 who] rfl rfl (cells_new wr [.int .i64 who] 3 (0, 0)) HONW.out (by decide) H63.out HBY.out ?_; intro g9 c9 w9 hown9 hk9; have hkw9 : Keep [] wr w9 := ((Keep.refl [] wr).alloc _).trans hk9; have HKW9 := Lib.hid hkw9; have HIV9 := Lib.hid (HIW.out w9 g9 c9 hown9); have HRW9 := Lib.hid (HRW.out w9 hkw9); clear hown9 hk9 hkw9) | (go_at_call 28; (with_reducible refine (run28_any HRW9.out HPS.out HIV9.out HOS2.out).mono ?_); rw [HRE.out]; rintro e10 w10 ⟨rfl, hk10⟩; (try unfold aggI); have HK10 := Lib.hid (HKW9.out.trans hk10); clear hk10) | (with_reducible refine wpList_store_new rfl 62 _ _ rfl 62 #[.int .i64 0, .int .i64 0, .int .i64 0, .int .i64 0, .int .i64 0, .int .i64 0, .int .i64 0, .int .i64 0, .int .i64 0, .int .i64 0, .int .i64 0, .int .i64 0] (S.map (Value.int .i64)).toArray rfl rfl HIS.out HZS.out HOSI.out ?_))
            have HNO2 : Hid (∀ k2, k2 < k + 1 → nx rs (whoF (some q) k2) S = none) := Lib.hid (fun k2 h2 => by
              by_cases e : k2 = k
              · subst e; rw [HWH.out]; exact HNX.out
              · exact HNO.out k2 (by omega))
            exact ⟨⟨k + 1, hk3, by go_num, rfl, rfl, HNO2, Lib.hid (HKI.out.trans (HK10.out.alloc _))⟩, by simp [intOf]; omega⟩
          | some t =>
            have HRE : Hid (runP rs (os ++ [who]) s0 = (t, i + 1)) := Lib.hid (by rw [HRS.out, HRP.out, hnx, HOL.out])
            have htl := (HSO.out.next HPS.out hnx).1.len
            have HIT : Hid ((Try.prog.info? 62).map (·.size) = some (t.map (Value.int .i64)).toArray.size) := Lib.hid (by rw [info62]; simp [htl])
            have HZT : Hid ((#[.int .i64 0, .int .i64 0, .int .i64 0, .int .i64 0, .int .i64 0, .int .i64 0, .int .i64 0, .int .i64 0, .int .i64 0, .int .i64 0, .int .i64 0, .int .i64 0] : Array Value).size = (t.map (Value.int .i64)).toArray.size) := Lib.hid (by simp [htl])
            have HST : Hid ((S.map (Value.int .i64)).toArray.size = (t.map (Value.int .i64)).toArray.size) := Lib.hid (by simp [htl, hsl])
            have HOT := Lib.hid (ints_one t)
            clear hnx htl
            go_upto_region 22 with (first | (go_at_call 11; (with_reducible refine (rest_tq HQ (by omega) (by omega) _).mono ?_); rintro e8 w8 ⟨rfl, hw8⟩; have hw9 := hw8.symm; clear hw8; subst hw9) | (go_at_call 11; (with_reducible refine (rest_tq HWQ (by omega) (by omega) _).mono ?_); rintro e8 w8 ⟨rfl, hw8⟩; have hw9 := hw8.symm; clear hw8; subst hw9) | (at_builtin; refine wpList_append_capped rfl _ _ 22 rfl w3.heap.size 3 i3 (.int .i64 0) 1 8 Try.underlying22 hi3 hy0 hy1 hy2 rfl (by decide) av i cv ((os.map fun (k : Nat) => (k : Int)).map (Value.int .i64)) rfl HOA.out ⟨wr.heap.size, 0, none⟩ 1 1 [.int .i64 who] rfl rfl (cells_new wr [.int .i64 who] 3 (0, 0)) HONW.out (by decide) H63.out HBY.out ?_; intro g9 c9 w9 hown9 hk9; have hkw9 : Keep [] wr w9 := ((Keep.refl [] wr).alloc _).trans hk9; have HKW9 := Lib.hid hkw9; have HIV9 := Lib.hid (HIW.out w9 g9 c9 hown9); have HRW9 := Lib.hid (HRW.out w9 hkw9); clear hown9 hk9 hkw9) | (go_at_call 28; (with_reducible refine (run28_any HRW9.out HPS.out HIV9.out HOS2.out).mono ?_); rw [HRE.out]; rintro e10 w10 ⟨rfl, hk10⟩; (try unfold aggI); have HK10 := Lib.hid (HKW9.out.trans hk10); clear hk10) | (with_reducible refine wpList_store_new rfl 62 _ _ rfl 62 #[.int .i64 0, .int .i64 0, .int .i64 0, .int .i64 0, .int .i64 0, .int .i64 0, .int .i64 0, .int .i64 0, .int .i64 0, .int .i64 0, .int .i64 0, .int .i64 0] (t.map (Value.int .i64)).toArray rfl rfl HIT.out HZT.out HOT.out ?_))
            have HS1 := Lib.hid (show (w10.alloc (.cells (t.map (Value.int .i64)).toArray 62)).drew.heap[w10.heap.size]? = some (.cells (t.map (Value.int .i64)).toArray 62 (0, 0)) from blk_new w10 _)
            have HS2 := Lib.hid (show ((w10.alloc (.cells (t.map (Value.int .i64)).toArray 62)).alloc (.cells #[.int .i64 who] 3)).drew.heap[w10.heap.size]? = some (.cells (t.map (Value.int .i64)).toArray 62 (0, 0)) from (((Keep.refl [] _).alloc _).drew).at (blk_new w10 (.cells (t.map (Value.int .i64)).toArray 62)) (by simp))
            have HKB := Lib.hid (show Keep [] wr ((w10.alloc (.cells (t.map (Value.int .i64)).toArray 62)).alloc (.cells #[.int .i64 who] 3)).drew from ((HK10.out.alloc _).alloc _).drew)
            have HOB := Lib.hid (own_keep HO.out (HKI.out.trans HKB.out) (by simp))
            have HSB := Lib.hid (HS.out.keep (HKI.out.trans HKB.out) (by simp))
            have HZB : Hid (((w10.alloc (.cells (t.map (Value.int .i64)).toArray 62)).alloc (.cells #[.int .i64 who] 3)).drew.heap.size = w10.heap.size + 1 + 1) := Lib.hid (by simp)
            have HNW : Hid (∀ j u, ([.int .i64 who] : List Value)[j]? = some u → ((w10.alloc (.cells (t.map (Value.int .i64)).toArray 62)).alloc (.cells #[.int .i64 who] 3)).drew.cell? ((⟨w10.heap.size + 1, 0, none⟩ : Addr).add j) = some u) := Lib.hid (cells_new2 w10 _ [.int .i64 who] 3)
            have HBB : Hid (w3.heap.size ≤ ((w10.alloc (.cells (t.map (Value.int .i64)).toArray 62)).alloc (.cells #[.int .i64 who] 3)).drew.heap.size) := Lib.hid (Nat.le_trans HK.out.size (Nat.le_trans HKI.out.size HKB.out.size))
            have HNB2 : Hid (¬ w10.heap.size = b9) := Lib.hid (by have h1 := HS.out.lt; have h2 := HKI.out.size; have h3 := HK10.out.size; omega)
            refine wp_region_held_drew (S := fun w' => w'.heap[w10.heap.size]? = some (.cells (t.map (Value.int .i64)).toArray 62 (0, 0))) (by kernel_rfl) ?_ (fun hH => ?_)
            · exact HS1.out
            refine wpAnyH_take (i := 0) (v := ?_) rfl (by kernel_rfl) (by kernel_rfl) (by kernel_rfl) (fun _ _ _ h => h) (Or.inl ⟨by rfl, ?_⟩) (by assumption) ?_
            rotate_left
            · (intro w hSw; go_simp; (try with_reducible rfl))
            try simp only [Act.put]
            try simp only [List.setIfInBounds_toArray]
            try simp only [List.set_cons_succ]
            try simp only [List.set_cons_zero]
            refine wpAnyH_take (i := 1) (v := ?_) rfl (by kernel_rfl) (by kernel_rfl) (by kernel_rfl) (fun _ _ _ h => h) (Or.inl ⟨by rfl, ?_⟩) (by assumption) ?_
            rotate_left
            · (intro w hSw; go_simp; (try with_reducible rfl))
            try simp only [Act.put]
            try simp only [List.setIfInBounds_toArray]
            try simp only [List.set_cons_succ]
            try simp only [List.set_cons_zero]
            refine wpAnyH_take (i := 4) (v := .agg (t.map (Value.int .i64)).toArray) rfl (by kernel_rfl) (by kernel_rfl) (by kernel_rfl) (fun _ _ _ h => h) (Or.inl ⟨by rfl, fun w9 hSw => exec_load_row 62 _ rfl w10.heap.size rfl 62 _ (0, 0) _ hSw Try.underlying62 rfl HIT.out⟩) (by assumption) ?_
            try simp only [Act.put]
            try simp only [List.setIfInBounds_toArray]
            try simp only [List.set_cons_succ]
            try simp only [List.set_cons_zero]
            refine wpAnyH_ready (rs := [2]) (by kernel_rfl) (by simp) ?_
            refine AllReadyH.cons rfl (fun K hK => ?_) AllReadyH.nil
            go_simp
            refine hK.out _ _ ?_ (fun hH => ?_)
            · exact HS2.out
            clear hK K
            refine wpAnyH_ready (rs := [3]) (by kernel_rfl) (by simp) ?_
            refine AllReadyH.cons rfl (fun K hK => ?_) AllReadyH.nil
            refine step_append_lies _ rfl (.tmp 79) (.tmp 81) 22 rfl w3.heap.size 3 i3 (.int .i64 0) 1 8 Try.underlying22 hi3 hy0 hy1 hy2 rfl (by decide) (.slice av i cv) i ((os.map fun (k : Nat) => (k : Int)).map (Value.int .i64)) (by simp [Act.eval]) HOB.out ⟨w10.heap.size + 1, 0, none⟩ 1 1 [.int .i64 who] (by simp [Act.eval]) rfl HNW.out HONW.out (by decide) H63.out HBY.out HBB.out (w10.heap.size + 1 + 1) HZB.out ?_
            intro g6 c6 w6 hown6 hgr6 hat6 hlt6
            have hk6 : Keep (Value.slice av i cv).ownBlock.toList ((w10.alloc (.cells (t.map (Value.int .i64)).toArray 62)).alloc (.cells #[.int .i64 who] 3)).drew w6 := Keep.ofGrown hgr6 (fun x hx => by simp [hx])
            have HS3 := Lib.hid (hk6.at HS2.out (fun hm => own_ne HOB.out HS2.out (by decide) w10.heap.size (by simpa using hm) rfl))
            have HB6 := Lib.hid (show w6.heap[b9]? = some (.cells (S.map (Value.int .i64)).toArray 62 (0, 0)) from hk6.at HSB.out (fun hm => own_ne HOB.out HSB.out (by decide) b9 (by simpa using hm) rfl))
            have HO6 := Lib.hid hown6
            have HK6 := Lib.hid hk6
            clear hown6 hgr6 hat6 hk6
            refine hK.out _ _ ?_ (fun hH => ?_)
            · exact HS3.out
            clear hK K
            refine wpAnyH_ready (rs := [5]) (by kernel_rfl) (by simp) ?_
            refine AllReadyH.cons rfl (fun K hK => ?_) AllReadyH.nil
            go_simp
            refine hK.out _ _ ?_ (fun hH => ?_)
            · exact HS3.out
            clear hK K
            refine wpAnyH_ready (rs := [6]) (by kernel_rfl) (by simp) ?_
            refine AllReadyH.cons rfl (fun K hK => ?_) AllReadyH.nil
            refine step_store_row rfl 62 _ _ rfl b9 (t.map (Value.int .i64)).toArray rfl rfl 62 _ HB6.out HIT.out HST.out HOT.out ?_
            have hKr := keep_setRow w6 b9 (t.map (Value.int .i64)).toArray
            have HS4 := Lib.hid (hKr.at HS3.out (by simpa using HNB2.out))
            have HA4 : Hid (ArrAt 62 (w6.setRow b9 (t.map (Value.int .i64)).toArray) b9 t) := Lib.hid (setRow_heap _ _ _ _ 62 _ HB6.out)
            have HO7 := Lib.hid (own_keep HO6.out hKr (fun b hb hm => by rw [List.mem_singleton] at hm; exact own_ne HO6.out HB6.out (by decide) b hb hm))
            have HK7 : Hid (Keep [] w3 (w6.setRow b9 (t.map (Value.int .i64)).toArray)) := Lib.hid ((((HK.out.trans HKI.out).trans HKB.out).call HK6.out (fun b hb => .inr (HO.out.lt b (by simpa using hb)).1)).call hKr (fun b hb => by rw [List.mem_singleton] at hb; subst hb; exact .inr HB9.out))
            clear hKr
            refine hK.out _ _ ?_ (fun hH => ?_)
            · exact HS4.out
            clear hK K
            refine wpAnyH_ready (rs := [7]) (by kernel_rfl) (by simp) ?_
            refine AllReadyH.cons rfl (fun K hK => ?_) AllReadyH.nil
            go_simp
            refine hK.out _ _ ?_ (fun hH => ?_)
            · exact HS4.out
            clear hK K
            refine wpAnyH_done (by kernel_rfl) ?_ _
            go_wp2_with fail
            exact ⟨⟨i + 1, os ++ [who], t, by omega, by go_num, Lib.hid (by rw [List.length_append, HOL.out]; rfl), HOS2, HRE, HA4, Lib.hid (by simpa using HO7.out), HK7⟩, by simp [intOf]; omega⟩
        · have hk33 : k = 3 := by omega
          subst hk33
          have HFN : Hid (S ∈ E) := Lib.hid ((HE3.out.mem S).2 ⟨HRC.out, fin_iff.2 (by rw [hn3]; exact whoF_all (some q) HNO.out)⟩)
          have HSW := Lib.hid (HS.out.keep HKI.out (by simp))
          have HKS2 := Lib.hid (sok_key HPS.out HSO.out)
          obtain ⟨x0, x1, x2, x3, x4, x5, x6, x7, x8, x9, xa, xb, hxe⟩ := list12 hsl
          have hx0 := HSW.out.cell (i := 0) (by omega)
          have hx1 := HSW.out.cell (i := 1) (by omega)
          have hx2 := HSW.out.cell (i := 2) (by omega)
          have hx3 := HSW.out.cell (i := 3) (by omega)
          have hx4 := HSW.out.cell (i := 4) (by omega)
          have hx5 := HSW.out.cell (i := 5) (by omega)
          have hx6 := HSW.out.cell (i := 6) (by omega)
          have hx7 := HSW.out.cell (i := 7) (by omega)
          have hx8 := HSW.out.cell (i := 8) (by omega)
          have hx9 := HSW.out.cell (i := 9) (by omega)
          have hx10 := HSW.out.cell (i := 10) (by omega)
          have hx11 := HSW.out.cell (i := 11) (by omega)
          have HCN := Lib.hid (contains29_any (A := true) (w := wr) rfl HEK.out HKS2.out (fun j u hu => ((HK.out.trans HKI.out)).cell (HEC.out j u hu) (by simp)) (by omega) hE1 hE2 (decide_eq_true HFN.out))
          rw [hxe] at hx0 hx1 hx2 hx3 hx4 hx5 hx6 hx7 hx8 hx9 hx10 hx11 HCN
          simp only [List.getD_cons_zero, List.getD_cons_succ, List.map_cons, List.map_nil] at hx0 hx1 hx2 hx3 hx4 hx5 hx6 hx7 hx8 hx9 hx10 hx11 HCN
          clear hxe
          go_wp2_with (first | (go_at_call 29; refine HCN.out.mono ?_; rintro e9 w9 ⟨rfl, hk9⟩; have HK9 := Lib.hid hk9; clear hk9))
          go_ret
          exact ⟨rfl, ((HK3w.out.trans HK.out).trans HKI.out).trans HK9.out⟩
    · skip
      have hd46 : decide ((i : Int) < (len2 : Int)) = false := by simp; omega
      go_wp2_with fail
      go_loopw [38, 8, 11] (fun j o2 mv wr2 => ∃ k : Nat, k ≤ 3 ∧ j = .int .i64 k ∧ o2 = .slice av i cv ∧ mv = .bool false ∧ Hid (∀ k2, k2 < k → nx rs (whoF none k2) S = none) ∧ Hid (Keep [] wr wr2)) (fun j _ _ _ => 3 - (intOf j).toNat)
      case atStart => exact ⟨0, by omega, rfl, rfl, rfl, Lib.hid (fun k2 h => absurd h (Nat.not_lt_zero _)), Lib.hid (Keep.refl _ _)⟩
      case round =>
        obtain ⟨k, hk, rfl, rfl, rfl, HNO, HKI⟩ := hrel
        by_cases hk3 : k < 3
        · have hdk : decide ((k : Int) < 3) = true := by simp; omega
          obtain ⟨who, hwho⟩ : ∃ who, whoF none k = who := ⟨_, rfl⟩
          have hw3 : who < 3 := by rw [← hwho]; exact whoF_lt _ hk3
          have hkw : k = who := hwho
          subst hkw
          have hoA : (wr.alloc (.cells #[.int .i64 k] 3)).ownsRow w3.heap.size 3 1 (.slice av i cv) i ((os.map fun (k : Nat) => (k : Int)).map (Value.int .i64)) := own_keep HO.out ((HKI.out).alloc _) (by simp)
          have HOA := Lib.hid hoA
          clear hoA
          have HOS2 : Hid (∀ j ∈ os ++ [k], j < 3) := Lib.hid (fun j hj => by
            rcases List.mem_append.1 hj with h | h
            · exact HOS.out j h
            · rw [List.mem_singleton] at h; subst h; exact hk3)
          have HRS := Lib.hid (runP_snoc (ps := rs) (l := os) (s := s0) (j := k) (by rw [HRP.out, HOL.out]))
          have HRW : Hid (∀ w9, Keep [] wr w9 → RowsL w9 (some ⟨g, 0, none⟩) 3 3 rs) := Lib.hid (fun w9 h => HR3.out.keep ((HK.out.trans HKI.out).trans h))
          have HIW : Hid (∀ (w9 : World) g9 c9, w9.ownsRow (wr.alloc (.cells #[.int .i64 k] 3)).heap.size 3 1 (.slice (some ⟨g9, 0, none⟩) (i + 1) c9) (i + 1) (((os.map fun (k : Nat) => (k : Int)).map (Value.int .i64)) ++ [.int .i64 k]) → IntsV w9 (some ⟨g9, 0, none⟩) (i + 1) c9 ((os ++ [k]).map fun (k : Nat) => (k : Int))) := Lib.hid (fun w9 g9 c9 h => by
            have h1 : w9.ownsRow (wr.alloc (.cells #[.int .i64 k] 3)).heap.size 3 1 (.slice (some ⟨g9, 0, none⟩) (i + 1) c9) (i + 1) (((os ++ [k]).map fun (k : Nat) => (k : Int)).map (Value.int .i64)) := by simpa using h
            obtain ⟨a8, c8, he, hiv⟩ := IntsV.ofOwn h1 (fun z hz => by
              obtain ⟨j, hj, rfl⟩ := List.mem_map.1 hz
              have := HOS2.out j hj
              exact wf_small (by omega) (by omega))
            injection he with e1 e2 e3
            subst e1 e3
            exact hiv.1)
          have HONW : Hid (∀ u ∈ ([.int .i64 k] : List Value), u.oneCell' = true) := Lib.hid (by simp [Value.oneCell'])
          have H63 : Hid (i + 1 ≤ maxLen) := Lib.hid (by unfold maxLen; omega)
          have HBY : Hid ((i + 1) * 8 ≤ 140737488355328) := Lib.hid (by omega)
          cases hnx : nx rs k S with
          | none =>
            have HRE : Hid (runP rs (os ++ [k]) s0 = (S, i)) := Lib.hid (by rw [HRS.out, HRP.out, hnx, HOL.out])
            have HNX := Lib.hid hnx
            clear hnx
            go_wp2_with (first | (at_builtin; refine wpList_append_capped rfl _ _ 22 rfl w3.heap.size 3 i3 (.int .i64 0) 1 8 Try.underlying22 hi3 hy0 hy1 hy2 rfl (by decide) av i cv ((os.map fun (k : Nat) => (k : Int)).map (Value.int .i64)) rfl HOA.out ⟨wr.heap.size, 0, none⟩ 1 1 [.int .i64 k] rfl rfl (cells_new wr [.int .i64 k] 3 (0, 0)) HONW.out (by decide) H63.out HBY.out ?_; intro g9 c9 w9 hown9 hk9; have hkw9 : Keep [] wr w9 := ((Keep.refl [] wr).alloc _).trans hk9; have HKW9 := Lib.hid hkw9; have HIV9 := Lib.hid (HIW.out w9 g9 c9 hown9); have HRW9 := Lib.hid (HRW.out w9 hkw9); clear hown9 hk9 hkw9) | (go_at_call 28; (with_reducible refine (run28_any HRW9.out HPS.out HIV9.out HOS2.out).mono ?_); rw [HRE.out]; rintro e10 w10 ⟨rfl, hk10⟩; (try unfold aggI); have HK10 := Lib.hid (HKW9.out.trans hk10); clear hk10) | (with_reducible refine wpList_store_new rfl 62 _ _ rfl 62 #[.int .i64 0, .int .i64 0, .int .i64 0, .int .i64 0, .int .i64 0, .int .i64 0, .int .i64 0, .int .i64 0, .int .i64 0, .int .i64 0, .int .i64 0, .int .i64 0] (S.map (Value.int .i64)).toArray rfl rfl HIS.out HZS.out HOSI.out ?_))
            have HNO2 : Hid (∀ k2, k2 < k + 1 → nx rs (whoF none k2) S = none) := Lib.hid (fun k2 h2 => by
              by_cases e : k2 = k
              · subst e; exact HNX.out
              · exact HNO.out k2 (by omega))
            exact ⟨⟨k + 1, hk3, by go_num, rfl, rfl, HNO2, Lib.hid (HKI.out.trans (HK10.out.alloc _))⟩, by simp [intOf]; omega⟩
          | some t =>
            have HRE : Hid (runP rs (os ++ [k]) s0 = (t, i + 1)) := Lib.hid (by rw [HRS.out, HRP.out, hnx, HOL.out])
            have htl := (HSO.out.next HPS.out hnx).1.len
            have HIT : Hid ((Try.prog.info? 62).map (·.size) = some (t.map (Value.int .i64)).toArray.size) := Lib.hid (by rw [info62]; simp [htl])
            have HZT : Hid ((#[.int .i64 0, .int .i64 0, .int .i64 0, .int .i64 0, .int .i64 0, .int .i64 0, .int .i64 0, .int .i64 0, .int .i64 0, .int .i64 0, .int .i64 0, .int .i64 0] : Array Value).size = (t.map (Value.int .i64)).toArray.size) := Lib.hid (by simp [htl])
            have HST : Hid ((S.map (Value.int .i64)).toArray.size = (t.map (Value.int .i64)).toArray.size) := Lib.hid (by simp [htl, hsl])
            have HOT := Lib.hid (ints_one t)
            clear hnx htl
            go_upto_region 22 with (first | (at_builtin; refine wpList_append_capped rfl _ _ 22 rfl w3.heap.size 3 i3 (.int .i64 0) 1 8 Try.underlying22 hi3 hy0 hy1 hy2 rfl (by decide) av i cv ((os.map fun (k : Nat) => (k : Int)).map (Value.int .i64)) rfl HOA.out ⟨wr.heap.size, 0, none⟩ 1 1 [.int .i64 k] rfl rfl (cells_new wr [.int .i64 k] 3 (0, 0)) HONW.out (by decide) H63.out HBY.out ?_; intro g9 c9 w9 hown9 hk9; have hkw9 : Keep [] wr w9 := ((Keep.refl [] wr).alloc _).trans hk9; have HKW9 := Lib.hid hkw9; have HIV9 := Lib.hid (HIW.out w9 g9 c9 hown9); have HRW9 := Lib.hid (HRW.out w9 hkw9); clear hown9 hk9 hkw9) | (go_at_call 28; (with_reducible refine (run28_any HRW9.out HPS.out HIV9.out HOS2.out).mono ?_); rw [HRE.out]; rintro e10 w10 ⟨rfl, hk10⟩; (try unfold aggI); have HK10 := Lib.hid (HKW9.out.trans hk10); clear hk10) | (with_reducible refine wpList_store_new rfl 62 _ _ rfl 62 #[.int .i64 0, .int .i64 0, .int .i64 0, .int .i64 0, .int .i64 0, .int .i64 0, .int .i64 0, .int .i64 0, .int .i64 0, .int .i64 0, .int .i64 0, .int .i64 0] (t.map (Value.int .i64)).toArray rfl rfl HIT.out HZT.out HOT.out ?_))
            have HS1 := Lib.hid (show (w10.alloc (.cells (t.map (Value.int .i64)).toArray 62)).drew.heap[w10.heap.size]? = some (.cells (t.map (Value.int .i64)).toArray 62 (0, 0)) from blk_new w10 _)
            have HS2 := Lib.hid (show ((w10.alloc (.cells (t.map (Value.int .i64)).toArray 62)).alloc (.cells #[.int .i64 k] 3)).drew.heap[w10.heap.size]? = some (.cells (t.map (Value.int .i64)).toArray 62 (0, 0)) from (((Keep.refl [] _).alloc _).drew).at (blk_new w10 (.cells (t.map (Value.int .i64)).toArray 62)) (by simp))
            have HKB := Lib.hid (show Keep [] wr ((w10.alloc (.cells (t.map (Value.int .i64)).toArray 62)).alloc (.cells #[.int .i64 k] 3)).drew from ((HK10.out.alloc _).alloc _).drew)
            have HOB := Lib.hid (own_keep HO.out (HKI.out.trans HKB.out) (by simp))
            have HSB := Lib.hid (HS.out.keep (HKI.out.trans HKB.out) (by simp))
            have HZB : Hid (((w10.alloc (.cells (t.map (Value.int .i64)).toArray 62)).alloc (.cells #[.int .i64 k] 3)).drew.heap.size = w10.heap.size + 1 + 1) := Lib.hid (by simp)
            have HNW : Hid (∀ j u, ([.int .i64 k] : List Value)[j]? = some u → ((w10.alloc (.cells (t.map (Value.int .i64)).toArray 62)).alloc (.cells #[.int .i64 k] 3)).drew.cell? ((⟨w10.heap.size + 1, 0, none⟩ : Addr).add j) = some u) := Lib.hid (cells_new2 w10 _ [.int .i64 k] 3)
            have HBB : Hid (w3.heap.size ≤ ((w10.alloc (.cells (t.map (Value.int .i64)).toArray 62)).alloc (.cells #[.int .i64 k] 3)).drew.heap.size) := Lib.hid (Nat.le_trans HK.out.size (Nat.le_trans HKI.out.size HKB.out.size))
            have HNB2 : Hid (¬ w10.heap.size = b9) := Lib.hid (by have h1 := HS.out.lt; have h2 := HKI.out.size; have h3 := HK10.out.size; omega)
            refine wp_region_held_drew (S := fun w' => w'.heap[w10.heap.size]? = some (.cells (t.map (Value.int .i64)).toArray 62 (0, 0))) (by kernel_rfl) ?_ (fun hH => ?_)
            · exact HS1.out
            refine wpAnyH_take (i := 0) (v := ?_) rfl (by kernel_rfl) (by kernel_rfl) (by kernel_rfl) (fun _ _ _ h => h) (Or.inl ⟨by rfl, ?_⟩) (by assumption) ?_
            rotate_left
            · (intro w hSw; go_simp; (try with_reducible rfl))
            try simp only [Act.put]
            try simp only [List.setIfInBounds_toArray]
            try simp only [List.set_cons_succ]
            try simp only [List.set_cons_zero]
            refine wpAnyH_take (i := 1) (v := ?_) rfl (by kernel_rfl) (by kernel_rfl) (by kernel_rfl) (fun _ _ _ h => h) (Or.inl ⟨by rfl, ?_⟩) (by assumption) ?_
            rotate_left
            · (intro w hSw; go_simp; (try with_reducible rfl))
            try simp only [Act.put]
            try simp only [List.setIfInBounds_toArray]
            try simp only [List.set_cons_succ]
            try simp only [List.set_cons_zero]
            refine wpAnyH_take (i := 4) (v := .agg (t.map (Value.int .i64)).toArray) rfl (by kernel_rfl) (by kernel_rfl) (by kernel_rfl) (fun _ _ _ h => h) (Or.inl ⟨by rfl, fun w9 hSw => exec_load_row 62 _ rfl w10.heap.size rfl 62 _ (0, 0) _ hSw Try.underlying62 rfl HIT.out⟩) (by assumption) ?_
            try simp only [Act.put]
            try simp only [List.setIfInBounds_toArray]
            try simp only [List.set_cons_succ]
            try simp only [List.set_cons_zero]
            refine wpAnyH_ready (rs := [2]) (by kernel_rfl) (by simp) ?_
            refine AllReadyH.cons rfl (fun K hK => ?_) AllReadyH.nil
            go_simp
            refine hK.out _ _ ?_ (fun hH => ?_)
            · exact HS2.out
            clear hK K
            refine wpAnyH_ready (rs := [3]) (by kernel_rfl) (by simp) ?_
            refine AllReadyH.cons rfl (fun K hK => ?_) AllReadyH.nil
            refine step_append_lies _ rfl (.tmp 79) (.tmp 81) 22 rfl w3.heap.size 3 i3 (.int .i64 0) 1 8 Try.underlying22 hi3 hy0 hy1 hy2 rfl (by decide) (.slice av i cv) i ((os.map fun (k : Nat) => (k : Int)).map (Value.int .i64)) (by simp [Act.eval]) HOB.out ⟨w10.heap.size + 1, 0, none⟩ 1 1 [.int .i64 k] (by simp [Act.eval]) rfl HNW.out HONW.out (by decide) H63.out HBY.out HBB.out (w10.heap.size + 1 + 1) HZB.out ?_
            intro g6 c6 w6 hown6 hgr6 hat6 hlt6
            have hk6 : Keep (Value.slice av i cv).ownBlock.toList ((w10.alloc (.cells (t.map (Value.int .i64)).toArray 62)).alloc (.cells #[.int .i64 k] 3)).drew w6 := Keep.ofGrown hgr6 (fun x hx => by simp [hx])
            have HS3 := Lib.hid (hk6.at HS2.out (fun hm => own_ne HOB.out HS2.out (by decide) w10.heap.size (by simpa using hm) rfl))
            have HB6 := Lib.hid (show w6.heap[b9]? = some (.cells (S.map (Value.int .i64)).toArray 62 (0, 0)) from hk6.at HSB.out (fun hm => own_ne HOB.out HSB.out (by decide) b9 (by simpa using hm) rfl))
            have HO6 := Lib.hid hown6
            have HK6 := Lib.hid hk6
            clear hown6 hgr6 hat6 hk6
            refine hK.out _ _ ?_ (fun hH => ?_)
            · exact HS3.out
            clear hK K
            refine wpAnyH_ready (rs := [5]) (by kernel_rfl) (by simp) ?_
            refine AllReadyH.cons rfl (fun K hK => ?_) AllReadyH.nil
            go_simp
            refine hK.out _ _ ?_ (fun hH => ?_)
            · exact HS3.out
            clear hK K
            refine wpAnyH_ready (rs := [6]) (by kernel_rfl) (by simp) ?_
            refine AllReadyH.cons rfl (fun K hK => ?_) AllReadyH.nil
            refine step_store_row rfl 62 _ _ rfl b9 (t.map (Value.int .i64)).toArray rfl rfl 62 _ HB6.out HIT.out HST.out HOT.out ?_
            have hKr := keep_setRow w6 b9 (t.map (Value.int .i64)).toArray
            have HS4 := Lib.hid (hKr.at HS3.out (by simpa using HNB2.out))
            have HA4 : Hid (ArrAt 62 (w6.setRow b9 (t.map (Value.int .i64)).toArray) b9 t) := Lib.hid (setRow_heap _ _ _ _ 62 _ HB6.out)
            have HO7 := Lib.hid (own_keep HO6.out hKr (fun b hb hm => by rw [List.mem_singleton] at hm; exact own_ne HO6.out HB6.out (by decide) b hb hm))
            have HK7 : Hid (Keep [] w3 (w6.setRow b9 (t.map (Value.int .i64)).toArray)) := Lib.hid ((((HK.out.trans HKI.out).trans HKB.out).call HK6.out (fun b hb => .inr (HO.out.lt b (by simpa using hb)).1)).call hKr (fun b hb => by rw [List.mem_singleton] at hb; subst hb; exact .inr HB9.out))
            clear hKr
            refine hK.out _ _ ?_ (fun hH => ?_)
            · exact HS4.out
            clear hK K
            refine wpAnyH_ready (rs := [7]) (by kernel_rfl) (by simp) ?_
            refine AllReadyH.cons rfl (fun K hK => ?_) AllReadyH.nil
            go_simp
            refine hK.out _ _ ?_ (fun hH => ?_)
            · exact HS4.out
            clear hK K
            refine wpAnyH_done (by kernel_rfl) ?_ _
            go_wp2_with fail
            exact ⟨⟨i + 1, os ++ [k], t, by omega, by go_num, Lib.hid (by rw [List.length_append, HOL.out]; rfl), HOS2, HRE, HA4, Lib.hid (by simpa using HO7.out), HK7⟩, by simp [intOf]; omega⟩
        · have hk33 : k = 3 := by omega
          subst hk33
          have HFN : Hid (S ∈ E) := Lib.hid ((HE3.out.mem S).2 ⟨HRC.out, fin_iff.2 (by rw [hn3]; exact whoF_all none HNO.out)⟩)
          have HSW := Lib.hid (HS.out.keep HKI.out (by simp))
          have HKS2 := Lib.hid (sok_key HPS.out HSO.out)
          obtain ⟨x0, x1, x2, x3, x4, x5, x6, x7, x8, x9, xa, xb, hxe⟩ := list12 hsl
          have hx0 := HSW.out.cell (i := 0) (by omega)
          have hx1 := HSW.out.cell (i := 1) (by omega)
          have hx2 := HSW.out.cell (i := 2) (by omega)
          have hx3 := HSW.out.cell (i := 3) (by omega)
          have hx4 := HSW.out.cell (i := 4) (by omega)
          have hx5 := HSW.out.cell (i := 5) (by omega)
          have hx6 := HSW.out.cell (i := 6) (by omega)
          have hx7 := HSW.out.cell (i := 7) (by omega)
          have hx8 := HSW.out.cell (i := 8) (by omega)
          have hx9 := HSW.out.cell (i := 9) (by omega)
          have hx10 := HSW.out.cell (i := 10) (by omega)
          have hx11 := HSW.out.cell (i := 11) (by omega)
          have HCN := Lib.hid (contains29_any (A := true) (w := wr) rfl HEK.out HKS2.out (fun j u hu => ((HK.out.trans HKI.out)).cell (HEC.out j u hu) (by simp)) (by omega) hE1 hE2 (decide_eq_true HFN.out))
          rw [hxe] at hx0 hx1 hx2 hx3 hx4 hx5 hx6 hx7 hx8 hx9 hx10 hx11 HCN
          simp only [List.getD_cons_zero, List.getD_cons_succ, List.map_cons, List.map_nil] at hx0 hx1 hx2 hx3 hx4 hx5 hx6 hx7 hx8 hx9 hx10 hx11 HCN
          clear hxe
          go_wp2_with (first | (go_at_call 29; refine HCN.out.mono ?_; rintro e9 w9 ⟨rfl, hk9⟩; have HK9 := Lib.hid hk9; clear hk9))
          go_ret
          exact ⟨rfl, ((HK3w.out.trans HK.out).trans HKI.out).trans HK9.out⟩
end Go.Proofs.Ytfcellgjbbfobaa
