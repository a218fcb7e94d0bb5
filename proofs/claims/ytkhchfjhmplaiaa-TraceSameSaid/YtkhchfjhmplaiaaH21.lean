import Derived.Test.YtkhchfjhmplaiaaH20
namespace Go
open Go.RowKit
/-- The first k events are sound. -/
structure HTo (h : List Ln) (k : Nat) : Prop where
  ev : ∀ i, i < k → 0 ≤ (lat h i).q ∧ (lat h i).q < 8 ∧ 1 ≤ (lat h i).g ∧ (lat h i).g ≤ 3 ∧ 0 ≤ (lat h i).u ∧ (lat h i).u ≤ 999
  sends : ∀ i j, i < j → j < k → (lat h i).g = 2 → (lat h j).g = 2 → (lat h i).u ≠ (lat h j).u
  takes : ∀ i j, i < j → j < k → (lat h i).g = 3 → (lat h j).g = 3 → (lat h i).u ≠ (lat h j).u
  sent : ∀ i, i < k → (lat h i).g = 3 → ∃ j, j < i ∧ (lat h j).g = 2 ∧ (lat h j).u = (lat h i).u
theorem HTo.zero (h : List Ln) : HTo h 0 := ⟨fun i h => absurd h (by omega), fun i j _ h => absurd h (by omega), fun i j _ h => absurd h (by omega), fun i h => absurd h (by omega)⟩
theorem HTo.all {h : List Ln} (t : HTo h h.length) (hl : h.length ≤ 200) : HOk h := ⟨hl, t.ev, t.sends, t.takes, t.sent⟩
theorem HTo.step {h : List Ln} {k : Nat} (t : HTo h k) (he : 0 ≤ (lat h k).q ∧ (lat h k).q < 8 ∧ 1 ≤ (lat h k).g ∧ (lat h k).g ≤ 3 ∧ 0 ≤ (lat h k).u ∧ (lat h k).u ≤ 999)
    (h2 : (lat h k).g = 2 → saidB h 2 k (lat h k).u = false) (h3 : (lat h k).g = 3 → saidB h 3 k (lat h k).u = false ∧ saidB h 2 k (lat h k).u = true) : HTo h (k + 1) := by
  refine ⟨fun i hi => ?_, fun i j hij hj e1 e2 e3 => ?_, fun i j hij hj e1 e2 e3 => ?_, fun i hi hg => ?_⟩
  · by_cases e : i = k
    · rw [e]; exact he
    · exact t.ev i (by omega)
  · by_cases e : j = k
    · subst e
      have h4 := h2 e2
      have h5 := (saidB_iff h 2 j (lat h j).u).2 ⟨i, hij, e1, e3⟩
      rw [h4] at h5; cases h5
    · exact t.sends i j hij (by omega) e1 e2 e3
  · by_cases e : j = k
    · subst e
      have h4 := (h3 e2).1
      have h5 := (saidB_iff h 3 j (lat h j).u).2 ⟨i, hij, e1, e3⟩
      rw [h4] at h5; cases h5
    · exact t.takes i j hij (by omega) e1 e2 e3
  · by_cases e : i = k
    · subst e
      exact (saidB_iff h 2 i (lat h i).u).1 (h3 hg).2
    · exact t.sent i (by omega) hg
end Go
namespace Go.Proofs.Ytkhchfjhmplaiaa
open Go.RowKit
theorem mark_get (h : List Ln) (g : Int) (k : Nat) (x : Int) : (markF h g k x).getD (.bool false) = .bool (saidB h g k x) := by
  unfold markF
  cases saidB h g k x <;> rfl
set_option maxRecDepth 100000 in
set_option maxHeartbeats 4000000 in
theorem check_gen {a : Option Addr} {n c : Nat} {h : List Ln} {w : World} (hv : LnsV w a n c h) (hloc : ∀ i, i < n → (lat h i).g = 1 → 0 ≤ (lat h i).u ∧ (lat h i).u ≤ 999) :
    Calls Try.prog 51 #[.slice a n c] w fun e w' => ∃ x : Int, e = .returned (.int .i64 x) ∧ Keep [] w w' ∧ (x = 0 → HOk h) := by
  have hmm := @run_makeMap Try.prog
  have HV := Lib.hid hv
  have HL := Lib.hid hv.len
  have HLO := Lib.hid hloc
  clear hv hloc
  by_cases hn : 200 < n
  · have hdn : decide ((200 : Int) < (n : Int)) = true := by simp; omega
    go_enter Try.func51, Try.ntmps51
    go_wp2_with fail
    go_ret
    exact ⟨2, rfl, Keep.refl _ _, fun h => absurd h (by decide)⟩
  · have hn2 : n ≤ 200 := by omega
    go_enter Try.func51, Try.ntmps51
    go_wp2_with fail
    go_loopw [14] (fun i wr => ∃ k : Nat, k ≤ n ∧ i = .int .i64 k ∧ Keep [] w wr ∧ Hid (HTo h k) ∧ Hid (MapF wr Try.prog 3 w.heap.size k (markF h 2 k)) ∧ Hid (MapF wr Try.prog 3 (w.heap.size + 1) k (markF h 3 k))) (fun i _ => n - (intOf i).toNat)
    case atStart =>
      have e2 : markF h 2 0 = fun _ => none := funext fun x => by simp [markF, saidB]
      have e3 : markF h 3 0 = fun _ => none := funext fun x => by simp [markF, saidB]
      refine ⟨0, by omega, rfl, ((Keep.refl _ _).alloc _).alloc _, Lib.hid (HTo.zero h), Lib.hid ?_, Lib.hid ?_⟩
      · rw [e2]; exact (MapF.made w Try.prog 3).keep ((Keep.refl [] _).alloc _) (by simp)
      · rw [e3]; have h9 := MapF.made (w.alloc (.map #[] 0)) Try.prog 3; rwa [show (w.alloc (.map #[] 0)).heap.size = w.heap.size + 1 by simp] at h9
    case round =>
      obtain ⟨k, hk, rfl, hkw, HTO, HS, HT⟩ := hrel
      by_cases hlt : k < n
      · have hlk : k < h.length := by rw [HL.out]; exact hlt
        have hloc := HLO.out k hlt
        obtain ⟨b, off, rfl, c0, c1, c2⟩ := (HV.out.keep hkw (by simp)).at_ hlt
        have hstep := Lib.hid (HTO.out.step)
        have hsame2 := Lib.hid (markF_same (h := h) (g := 2) (k := k))
        have hsame3 := Lib.hid (markF_same (h := h) (g := 3) (k := k))
        have hput2 := Lib.hid (markF_put (h := h) (g := 2) (k := k))
        have hput3 := Lib.hid (markF_put (h := h) (g := 3) (k := k))
        generalize lat h k = L at *
        obtain ⟨q, g, u⟩ := L
        dsimp only at *
        by_cases hg0 : g < 1
        · have b1 : decide (g < 1) = true := by simpa using hg0
          go_wp2_with (first | (with_reducible refine Txt.wp_region_text mixed quiet (by decide +kernel) ?_) | (with_reducible refine Txt.text_done (by kernel_rfl) ?_))
          go_ret
          exact ⟨3, rfl, hkw.alloc _, fun h => absurd h (by decide)⟩
        · have b1 : decide (g < 1) = false := by simpa using hg0
          by_cases hg4 : 3 < g
          · have b2 : decide (3 < g) = true := by simpa using hg4
            go_wp2_with (first | (with_reducible refine Txt.wp_region_text mixed quiet (by decide +kernel) ?_) | (with_reducible refine Txt.text_done (by kernel_rfl) ?_))
            go_ret
            exact ⟨3, rfl, hkw.alloc _, fun h => absurd h (by decide)⟩
          · have b2 : decide (3 < g) = false := by simpa using hg4
            by_cases hq0 : q < 0
            · have b3 : decide (q < 0) = true := by simpa using hq0
              go_wp2_with (first | (with_reducible refine Txt.wp_region_text mixed quiet (by decide +kernel) ?_) | (with_reducible refine Txt.text_done (by kernel_rfl) ?_))
              go_ret
              exact ⟨1, rfl, hkw.alloc _, fun h => absurd h (by decide)⟩
            · have b3 : decide (q < 0) = false := by simpa using hq0
              by_cases hq8 : 8 ≤ q
              · have b4 : decide (8 ≤ q) = true := by simpa using hq8
                go_wp2_with (first | (with_reducible refine Txt.wp_region_text mixed quiet (by decide +kernel) ?_) | (with_reducible refine Txt.text_done (by kernel_rfl) ?_))
                go_ret
                exact ⟨1, rfl, hkw.alloc _, fun h => absurd h (by decide)⟩
              · have b4 : decide (8 ≤ q) = false := by simpa using hq8
                by_cases hg1 : g = 1
                · subst hg1
                  have hu := hloc rfl
                  have hst := Lib.hid (hstep.out ⟨by omega, by omega, by omega, by omega, by omega, by omega⟩ (fun e => absurd e (by decide)) (fun e => absurd e (by decide)))
                  have HS1 : Hid (MapF (wr.alloc (.cells #[.int .i64 q, .int .i64 1, .int .i64 u] 27)) Try.prog 3 w.heap.size (k + 1) (markF h 2 (k + 1))) := Lib.hid (by rw [hsame2.out (by decide)]; exact (HS.out.keep ((Keep.refl [] _).alloc _) (by simp)).mono (by omega))
                  have HT1 : Hid (MapF (wr.alloc (.cells #[.int .i64 q, .int .i64 1, .int .i64 u] 27)) Try.prog 3 (w.heap.size + 1) (k + 1) (markF h 3 (k + 1))) := Lib.hid (by rw [hsame3.out (by decide)]; exact (HT.out.keep ((Keep.refl [] _).alloc _) (by simp)).mono (by omega))
                  clear hloc hu hg0 hg4
                  go_wp2_with (first | (with_reducible refine Txt.wp_region_text mixed quiet (by decide +kernel) ?_) | (with_reducible refine Txt.text_done (by kernel_rfl) ?_))
                  go_roundw
                  case measure => simp [intOf]; omega
                  case rel => exact ⟨k + 1, by omega, by go_num, hkw.alloc _, hst, HS1, HT1⟩
                · clear hloc
                  have hg1b : (g == 1) = false := beq_eq_false_iff_ne.2 hg1
                  by_cases hu0 : u < 0
                  · have b5 : decide (u < 0) = true := by simpa using hu0
                    go_wp2_with (first | (with_reducible refine Txt.wp_region_text mixed quiet (by decide +kernel) ?_) | (with_reducible refine Txt.text_done (by kernel_rfl) ?_))
                    go_ret
                    exact ⟨1, rfl, hkw.alloc _, fun h => absurd h (by decide)⟩
                  · have b5 : decide (u < 0) = false := by simpa using hu0
                    by_cases hu9 : 999 < u
                    · have b6 : decide (999 < u) = true := by simpa using hu9
                      go_wp2_with (first | (with_reducible refine Txt.wp_region_text mixed quiet (by decide +kernel) ?_) | (with_reducible refine Txt.text_done (by kernel_rfl) ?_))
                      go_ret
                      exact ⟨1, rfl, hkw.alloc _, fun h => absurd h (by decide)⟩
                    · have b6 : decide (999 < u) = false := by simpa using hu9
                      have HWF := Lib.hid (wf_msg (z := u) (by omega) (by omega))
                      rcases (by omega : g = 2 ∨ g = 3) with hg | hg
                      · subst hg
                        have HSa := Lib.hid (HS.out.keep ((Keep.refl [] _).alloc (.cells #[.int .i64 q, .int .i64 2, .int .i64 u] 27)) (by simp))
                        have HTa := Lib.hid (HT.out.keep ((Keep.refl [] _).alloc (.cells #[.int .i64 q, .int .i64 2, .int .i64 u] 27)) (by simp))
                        have hm := mark_get h 2 k u
                        obtain ⟨s2, hs2⟩ : ∃ s, saidB h 2 k u = s := ⟨_, rfl⟩
                        rw [hs2] at hm
                        have HV2 := Lib.hid hm
                        have hs2' := Lib.hid hs2
                        have hst := Lib.hid (fun (e : s2 = false) => hstep.out ⟨by omega, by omega, by omega, by omega, by omega, by omega⟩ (fun _ => hs2.trans e) (fun e => absurd e (by decide)))
                        clear hm hs2 hg0 hg4 hg1
                        cases s2
                        · go_wp2_with (first | (with_reducible refine Txt.wp_region_text mixed quiet (by decide +kernel) ?_) | (with_reducible refine Txt.text_done (by kernel_rfl) ?_) | (at_lookup; refine wpList_lookup_v _ rfl _ _ 103 rfl 3 4 Try.underlying103 Try.underlying3 (.bool false) (zeroB _) w.heap.size k (markF h 2 k) rfl HSa.out u rfl HWF.out _ HV2 ?_) | (at_mapUpdate; refine wpList_update_f _ rfl _ _ _ 103 rfl 3 4 Try.underlying103 Try.underlying3 w.heap.size k (markF h 2 k) rfl HSa.out (by unfold maxLen; omega) u (.bool true) rfl rfl HWF.out ?_; intro w2 hm2 hgr2; have HM2 := Lib.hid hm2; have HGR := Lib.hid hgr2; clear hm2 hgr2))
                          go_roundw
                          case measure => simp [intOf]; omega
                          case rel =>
                            refine ⟨k + 1, by omega, by go_num, (hkw.alloc (.cells #[.int .i64 q, .int .i64 2, .int .i64 u] 27)).grown HGR.out (fun x hx => by cases hx; exact .inr (Nat.le_refl _)), Lib.hid (hst.out rfl), Lib.hid ?_, Lib.hid ?_⟩
                            · rw [hput2.out rfl]; exact HM2.out
                            · rw [hsame3.out (by decide)]
                              exact (HTa.out.keep (Keep.ofGrown (S := [w.heap.size]) HGR.out (fun x hx => by cases hx; simp)) (by simp)).mono (by omega)
                        · go_wp2_with (first | (with_reducible refine Txt.wp_region_text mixed quiet (by decide +kernel) ?_) | (with_reducible refine Txt.text_done (by kernel_rfl) ?_) | (at_lookup; refine wpList_lookup_v _ rfl _ _ 103 rfl 3 4 Try.underlying103 Try.underlying3 (.bool false) (zeroB _) w.heap.size k (markF h 2 k) rfl HSa.out u rfl HWF.out _ HV2 ?_))
                          go_ret
                          exact ⟨5, rfl, hkw.alloc _, fun h => absurd h (by decide)⟩
                      · subst hg
                        have HSa := Lib.hid (HS.out.keep ((Keep.refl [] _).alloc (.cells #[.int .i64 q, .int .i64 3, .int .i64 u] 27)) (by simp))
                        have HTa := Lib.hid (HT.out.keep ((Keep.refl [] _).alloc (.cells #[.int .i64 q, .int .i64 3, .int .i64 u] 27)) (by simp))
                        have hm := mark_get h 2 k u
                        have hm' := mark_get h 3 k u
                        obtain ⟨s2, hs2⟩ : ∃ s, saidB h 2 k u = s := ⟨_, rfl⟩
                        obtain ⟨s3, hs3⟩ : ∃ s, saidB h 3 k u = s := ⟨_, rfl⟩
                        rw [hs2] at hm
                        rw [hs3] at hm'
                        have HV2 := Lib.hid hm
                        have HV3 := Lib.hid hm'
                        have hst := Lib.hid (fun (e : s3 = false) (e2 : s2 = true) => hstep.out ⟨by omega, by omega, by omega, by omega, by omega, by omega⟩ (fun e => absurd e (by decide)) (fun _ => ⟨hs3.trans e, hs2.trans e2⟩))
                        clear hm hm' hs2 hs3 hg0 hg4 hg1
                        cases s3
                        · cases s2
                          · go_wp2_with (first | (with_reducible refine Txt.wp_region_text mixed quiet (by decide +kernel) ?_) | (with_reducible refine Txt.text_done (by kernel_rfl) ?_) | (at_lookup; refine wpList_lookup_v _ rfl _ _ 103 rfl 3 4 Try.underlying103 Try.underlying3 (.bool false) (zeroB _) w.heap.size k (markF h 2 k) rfl HSa.out u rfl HWF.out _ HV2 ?_) | (at_lookup; refine wpList_lookup_v _ rfl _ _ 103 rfl 3 4 Try.underlying103 Try.underlying3 (.bool false) (zeroB _) (w.heap.size + 1) k (markF h 3 k) rfl HTa.out u rfl HWF.out _ HV3 ?_))
                            go_ret
                            exact ⟨4, rfl, hkw.alloc _, fun h => absurd h (by decide)⟩
                          · go_wp2_with (first | (with_reducible refine Txt.wp_region_text mixed quiet (by decide +kernel) ?_) | (with_reducible refine Txt.text_done (by kernel_rfl) ?_) | (at_lookup; refine wpList_lookup_v _ rfl _ _ 103 rfl 3 4 Try.underlying103 Try.underlying3 (.bool false) (zeroB _) w.heap.size k (markF h 2 k) rfl HSa.out u rfl HWF.out _ HV2 ?_) | (at_lookup; refine wpList_lookup_v _ rfl _ _ 103 rfl 3 4 Try.underlying103 Try.underlying3 (.bool false) (zeroB _) (w.heap.size + 1) k (markF h 3 k) rfl HTa.out u rfl HWF.out _ HV3 ?_) | (at_mapUpdate; refine wpList_update_f _ rfl _ _ _ 103 rfl 3 4 Try.underlying103 Try.underlying3 (w.heap.size + 1) k (markF h 3 k) rfl HTa.out (by unfold maxLen; omega) u (.bool true) rfl rfl HWF.out ?_; intro w2 hm2 hgr2; have HM2 := Lib.hid hm2; have HGR := Lib.hid hgr2; clear hm2 hgr2))
                            go_roundw
                            case measure => simp [intOf]; omega
                            case rel =>
                              refine ⟨k + 1, by omega, by go_num, (hkw.alloc (.cells #[.int .i64 q, .int .i64 3, .int .i64 u] 27)).grown HGR.out (fun x hx => by cases hx; exact .inr (Nat.le_succ _)), Lib.hid (hst.out rfl rfl), Lib.hid ?_, Lib.hid ?_⟩
                              · rw [hsame2.out (by decide)]
                                exact (HSa.out.keep (Keep.ofGrown (S := [(w.heap.size + 1)]) HGR.out (fun x hx => by cases hx; simp)) (by simp)).mono (by omega)
                              · rw [hput3.out rfl]; exact HM2.out
                        · go_wp2_with (first | (with_reducible refine Txt.wp_region_text mixed quiet (by decide +kernel) ?_) | (with_reducible refine Txt.text_done (by kernel_rfl) ?_) | (at_lookup; refine wpList_lookup_v _ rfl _ _ 103 rfl 3 4 Try.underlying103 Try.underlying3 (.bool false) (zeroB _) w.heap.size k (markF h 2 k) rfl HSa.out u rfl HWF.out _ HV2 ?_) | (at_lookup; refine wpList_lookup_v _ rfl _ _ 103 rfl 3 4 Try.underlying103 Try.underlying3 (.bool false) (zeroB _) (w.heap.size + 1) k (markF h 3 k) rfl HTa.out u rfl HWF.out _ HV3 ?_))
                          go_ret
                          exact ⟨5, rfl, hkw.alloc _, fun h => absurd h (by decide)⟩
      · have hkn := Lib.hid (show k = n by omega)
        go_wp2_with fail
        go_ret
        exact ⟨0, rfl, hkw, fun _ => HTo.all (by rw [HL.out, ← hkn.out]; exact HTO.out) (by rw [HL.out]; exact hn2)⟩
end Go.Proofs.Ytkhchfjhmplaiaa
