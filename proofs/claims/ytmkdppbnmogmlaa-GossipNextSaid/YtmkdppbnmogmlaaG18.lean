import Derived.Test.YtmkdppbnmogmlaaG17
import Derived.Test.YtmkdppbnmogmlaaR6
namespace Go.Proofs.Ytmkdppbnmogmlaa
open Go.RowKit
def Turn (w : World) (b : Nat) (E : Nat → Bool) (l : Nat) : Prop := ∃ g : Gs, GAt 55 w b g ∧ g.last = l ∧ l ≤ 8 ∧ ∀ m, 1 ≤ m → m ≤ 8 → elig g m = E m
theorem Turn.keep {S : List Nat} {w w' : World} {b l : Nat} {E : Nat → Bool} (h : Turn w b E l) (k : Keep S w w') (hb : b ∉ S) : Turn w' b E l :=
  let ⟨g, h1, h2, h3, h4⟩ := h; ⟨g, h1.keep k hb, h2, h3, h4⟩
theorem Turn.ex {w : World} {b l : Nat} {E : Nat → Bool} (h : Turn w b E l) : ∃ cs, w.heap[b]? = some (.cells cs 55 (0, 0)) := let ⟨_, h1, _⟩ := h; ⟨_, h1.1⟩
theorem Turn.grown {w w' : World} {b l : Nat} {E : Nat → Bool} {row : Option Nat} (h : Turn w b E l) (hg : w.grownBy w' row) (hne : ∀ k, row = some k → k ≠ b) : Turn w' b E l :=
  let ⟨g, h1, h2, h3, h4⟩ := h; ⟨g, h1.grown hg hne, h2, h3, h4⟩
theorem own_turn {w : World} {base e size n b l : Nat} {v : Value} {xs : List Value} {E : Nat → Bool} (h : w.ownsRow base e size v n xs) (t : Turn w b E l) (hT : e ≠ 55) : ∀ g, v.ownBlock = some g → g ≠ b := by
  obtain ⟨gg, h1, _⟩ := t
  exact own_ne h h1.1 hT
theorem next_some {b l m : Nat} {E : Nat → Bool} {w : World} (h : Turn w b E l) (hn : nx E l = some m) :
    Calls Try.prog 20 #[.pointer (some ⟨b, 0, none⟩)] w fun e w' => e = .returned (.tuple #[.int .i64 m, .int .i64 0]) ∧ Keep [b] w w' ∧ Turn w' b E m := by
  obtain ⟨g, h1, h2, h3, h4⟩ := h
  refine (next_any h1 h2 h3).mono fun e w' ⟨_, hs⟩ => ?_
  obtain ⟨he, hk, hg⟩ := hs m (by rw [nx_congr h4]; exact hn)
  exact ⟨he, hk, _, hg, rfl, (nx_mem hn).2.1, h4⟩
theorem next_none {b l : Nat} {E : Nat → Bool} {w : World} (h : Turn w b E l) (hn : nx E l = none) :
    Calls Try.prog 20 #[.pointer (some ⟨b, 0, none⟩)] w fun e w' => e = .returned (.tuple #[.int .i64 0, .int .i64 4]) ∧ Keep [b] w w' ∧ Turn w' b E l := by
  obtain ⟨g, h1, h2, h3, h4⟩ := h
  refine (next_any h1 h2 h3).mono fun e w' ⟨hs, _⟩ => ?_
  obtain ⟨he, hk, hg⟩ := hs (by rw [nx_congr h4]; exact hn)
  exact ⟨he, hk, _, hg, h2, h3, h4⟩
theorem next_free {b j : Nat} {E : Nat → Bool} {w : World} (h : Turn w b E (pos E j)) :
    Calls Try.prog 20 #[.pointer (some ⟨b, 0, none⟩)] w fun e w' => ∃ r s : Int, e = .returned (.tuple #[.int .i64 r, .int .i64 s]) ∧ Keep [b] w w' ∧ Turn w' b E (pos E (j + 1)) := by
  cases hn : nx E (pos E j) with
  | none => exact (next_none h hn).mono fun e w' ⟨he, hk, ht⟩ => ⟨0, 4, he, hk, by rw [pos, hn]; exact ht⟩
  | some m => exact (next_some h hn).mono fun e w' ⟨he, hk, ht⟩ => ⟨m, 0, he, hk, by rw [pos, hn]; exact ht⟩
set_option maxRecDepth 100000 in
set_option maxHeartbeats 4000000 in
theorem gossipNext_walk (x y z : Int) (w : World) :
    Calls Try.prog 7 #[.int .i64 x, .int .i64 y, .int .i64 z] w fun e w' => e = .returned (.bool true) ∧ Keep [] w w' := by
  obtain ⟨a, ha, ha1⟩ := rest_nat x 7 (by omega)
  obtain ⟨q, hq, hq1⟩ := rest_nat z (2 + a) (by omega)
  obtain ⟨d, hd, hd1⟩ := rest_nat y (2 + a) (by omega)
  obtain ⟨f, hf, hf1⟩ := rest_nat z 5 (by omega)
  have HA := Lib.hid ha
  have HQ := Lib.hid hq
  have HD := Lib.hid hd
  have HF := Lib.hid hf
  have HN : Hid ((2 : Int) + a = (a + 2 : Nat)) := Lib.hid (by omega)
  have HDN : Hid ((1 : Int) + d = (d + 1 : Nat)) := Lib.hid (by omega)
  clear ha hq hd hf
  have hgood := Lib.hid (good (n := a + 2) (me := q + 1) (dead := d + 1) (f := f) (by omega) (by omega) (by omega) (by omega) (by omega) (by omega) (by omega))
  obtain ⟨i1, hi1, hx0, hx1, hx2⟩ := info_parts info3
  by_cases hdq : d = q
  · subst hdq
    go_enter Try.func7, Try.ntmps7
    go_wp2_with (first | (go_at_call 9; refine (begun_any _).mono ?_; rintro e w0 ⟨rfl, hk0⟩) | (go_at_call 10; (with_reducible refine (rest_at HA (by omega) (by omega)).mono ?_); rintro e w' ⟨rfl, rfl⟩) | (go_at_call 10; (with_reducible refine (rest_at HQ (by omega) (by omega)).mono ?_); rintro e w' ⟨rfl, rfl⟩) | (go_at_call 10; (with_reducible refine (rest_at HD (by omega) (by omega)).mono ?_); rintro e w' ⟨rfl, rfl⟩) | (go_at_call 10; (with_reducible refine (rest_at HF (by omega) (by omega)).mono ?_); rintro e w' ⟨rfl, rfl⟩) | (go_at_call 11; refine (net_any HN _ (by omega) (by omega) (by omega) (by omega)).mono ?_; rintro e w1 ⟨al, c, bs, rfl, hk1, hnet⟩; obtain ⟨b, off, rfl, hcs⟩ := hnet.p.cells (by omega); have hcq := hcs d (by omega); have hlo := hnet.lo _ (hnet.mem (show d < a + 2 by omega)); have hg := hnet.at_ d (by omega); rw [starts_at _ (by omega)] at hg; generalize bs.getD d 0 = bq at *; have HG := Lib.hid hg; clear hcs hg hnet) | (with_reducible refine Txt.wp_region_text mixed quiet (by decide +kernel) ?_) | (with_reducible refine Txt.text_done (by kernel_rfl) ?_))
    obtain ⟨N, hNc, hN1, hN2⟩ : ∃ N : Nat, Hid (cnt' (a + 2) (d + 1) (d + 1) = N) ∧ (N : Int) ≤ (2 + (a : Int) - 1) ∧ (2 + (a : Int) - 1) ≤ (N : Int) := ⟨_, Lib.hid rfl, by unfold cnt'; split <;> omega, by unfold cnt'; split <;> omega⟩
    obtain ⟨E, hE⟩ : ∃ E, (others (a + 2) (d + 1) (d + 1)) = E := ⟨_, rfl⟩
    have HEM := Lib.hid (fun m (hm : E m = true) => (show m ≠ d + 1 ∧ m ≠ d + 1 by rw [← hE] at hm; unfold others at hm; simp at hm; omega))
    have HNX := Lib.hid (fun i (hi : i < N) => (show nx E (pos E (f + i)) = some (pos E (f + i + 1)) by rw [← hE]; exact good_next hgood.out (by rw [hNc.out]; exact hi)))
    have HNEW := Lib.hid (fun i j (hi : i < N) (hj : j < i) => (show pos E (f + j + 1) ≠ pos E (f + i + 1) by rw [← hE]; exact good_new hgood.out (by rw [hNc.out]; exact hi) hj))
    have HNO := Lib.hid (fun (h0 : N = 0) => (show nx E (pos E (f + N)) = none by rw [h0, Nat.add_zero, ← hE]; exact good_none hgood.out (by rw [hNc.out]; exact h0)))
    have HLA := Lib.hid (fun (h0 : N ≠ 0) => (show nx E (pos E (f + N)) = some (pos E (f + 1)) by rw [← hE, ← hNc.out]; exact good_last hgood.out (by rw [hNc.out]; exact h0)))
    have HT : Hid (Turn w1 bq E (pos E 0)) := Lib.hid ⟨_, HG.out, rfl, pos_le E 0, fun m h1 h2 => by
      rw [← hE]
      have h9 := elig_start (a + 2) (d + 1) m h1 h2
      rwa [show (((d + 1 : Nat) : Int)) = (d : Int) + 1 by omega] at h9⟩
    have hkw : Keep [] w w1 := hk0.call hk1 (by simp)
    have hlo2 : w.heap.size ≤ bq := by have := hk0.size; omega
    have hfr : ∀ u ∈ [bq], u ∈ ([] : List Nat) ∨ w.heap.size ≤ u := by intro u hu; simp at hu; omega
    have HFR := Lib.hid hfr
    clear hfr hE
    go_loopw [59] (fun i wr => ∃ j : Nat, j ≤ f ∧ i = .int .i64 j ∧ Keep [] w wr ∧ Hid (Turn wr bq E (pos E j))) (fun i _ => f - (intOf i).toNat)
    case atStart => exact ⟨0, by omega, rfl, hkw, HT⟩
    case round =>
      obtain ⟨j, hj, rfl, hkw1, HT1⟩ := hrel
      by_cases hlt : j < f
      · go_wp2_with (first | (go_at_call 20; refine (next_free HT1.out).mono ?_; rintro e w5 ⟨r5, s5, rfl, hk5, ht5⟩; have HT5 := Lib.hid ht5; clear ht5) | (with_reducible refine Txt.wp_region_text mixed quiet (by decide +kernel) ?_) | (with_reducible refine Txt.text_done (by kernel_rfl) ?_))
        go_roundw
        case measure => simp [intOf]; omega
        case rel => exact ⟨j + 1, by omega, by go_num, hkw1.call hk5 HFR.out, HT5⟩
      · have HT2 : Hid (Turn wr bq E (pos E (f + 0))) := Lib.hid (by have h9 := HT1.out; rwa [show j = f + 0 by omega] at h9)
        clear HT1
        go_wp2_with fail
        go_loopw [12, 65] (fun v i wr => ∃ k : Nat, k ≤ N ∧ i = .int .i64 k ∧ Keep [] w wr ∧ Hid (Turn wr bq E (pos E (f + k))) ∧ Hid (wr.ownsRow w.heap.size 3 1 v k (((List.range k).map fun (j : Nat) => ((pos E (f + j + 1) : Nat) : Int)).map (Value.int .i64)))) (fun _ i _ => N - (intOf i).toNat)
        case atStart => exact ⟨0, by omega, rfl, hkw1, HT2, World.ownsRow_nil _ _ _ _⟩
        case round =>
          obtain ⟨k, hk, rfl, hkw2, HT3, HO⟩ := hrel
          by_cases hlk : k < N
          · have hnx := HNX.out k hlk
            have hmm := nx_mem hnx
            have hne := HEM.out _ hmm.2.2
            have HNN := Lib.hid hnx
            have hsz := hkw2.size
            have hnin : ((pos E (f + k + 1) : Nat) : Int) ∉ (List.range k).map fun (j : Nat) => ((pos E (f + j + 1) : Nat) : Int) := fun hm => by
              obtain ⟨j, hj, he⟩ := List.mem_map.1 hm
              exact HNEW.out k j hlk (List.mem_range.1 hj) (by omega)
            have hwf : ∀ u ∈ (List.range k).map (fun (j : Nat) => ((pos E (f + j + 1) : Nat) : Int)), (Lit.int .i64 u).wf = true := fun u hu => by
              obtain ⟨j, _, rfl⟩ := List.mem_map.1 hu
              have := pos_le E (f + j + 1)
              exact wf_small (by omega) (by omega)
            have hsn : (List.range (k + 1)).map (fun (j : Nat) => ((pos E (f + j + 1) : Nat) : Int)) = (List.range k).map (fun (j : Nat) => ((pos E (f + j + 1) : Nat) : Int)) ++ [((pos E (f + k + 1) : Nat) : Int)] := by rw [List.range_succ, List.map_append]; rfl
            have HSN := Lib.hid hsn
            have HNIN := Lib.hid hnin
            have HWF := Lib.hid hwf
            clear hnx hsn hnin hwf
            obtain ⟨m, hm⟩ : ∃ m, pos E (f + k + 1) = m := ⟨_, rfl⟩
            rw [hm] at HNIN HSN HNN hmm hne
            have HMM := Lib.hid hm
            clear hm
            generalize (List.range k).map (fun (j : Nat) => ((pos E (f + j + 1) : Nat) : Int)) = L at *
            obtain ⟨sa, sc, hv, hiv, hib⟩ := IntsV.ofOwn HO.out HWF.out
            subst hv
            have HIV := Lib.hid hiv
            have HIB := Lib.hid hib
            have hc1 : ((m : Int) == 1 + (d : Int)) = false := by simp; omega
            have hc2 : ((m : Int) == 1 + (d : Int)) = false := by simp; omega
            have htt : (k : Int) < (2 + (a : Int) - 1) := by omega
            clear hiv hib
            go_wp2_with (first | (go_at_call 20; refine (next_some HT3.out HNN.out).mono ?_; rintro e w5 ⟨rfl, hk5, ht5⟩; have HT5 := Lib.hid ht5; have HO5 := Lib.hid (own_keep HO.out hk5 (fun g hg hm => own_turn HO.out HT3.out (by decide) g hg (by simpa using hm))); have HIV5 := Lib.hid (HIV.out.keep hk5 (fun u hu hm => own_turn HO.out HT3.out (by decide) u.block (by rw [hu]; rfl) (by simpa using hm))); clear ht5) | (go_at_call 21; refine (contains_not (by first | exact HIV5.out | exact HIV5.out.keep (Keep.refl [] _).drew (by simp)) HNIN.out).mono ?_; rintro e w6 ⟨rfl, hk6⟩; have HO6 := Lib.hid (own_keep HO5.out hk6 (by simp)); have hsz6 : w.heap.size ≤ w6.heap.size := Nat.le_trans hsz (Nat.le_trans hk5.size hk6.size)) | (at_builtin; refine wpList_append_own _ rfl _ _ 33 rfl w.heap.size 3 i1 (.int .i64 0) 1 8 Try.underlying33 hi1 hx0 hx1 hx2 rfl (by decide) _ _ _ rfl (HO6.out.alloc _) ⟨w6.heap.size, 0, none⟩ 1 1 [.int .i64 m] rfl rfl (cell_one_new _ _ _) (by intro u hu; simp at hu; subst hu; rfl) (by unfold maxLen; omega) (by omega) (by simp; omega) ?_; intro v7 w7 hown7 hgr7 _; have HO7 := Lib.hid hown7; have HGR7 := Lib.hid hgr7; clear hown7 hgr7) | (with_reducible refine Txt.wp_region_text mixed quiet (by decide +kernel) ?_) | (with_reducible refine Txt.text_done (by kernel_rfl) ?_))
            go_roundw
            case measure => simp [intOf]; omega
            case rel =>
              have hkk := (((hkw2.call hk5 HFR.out).trans hk6).alloc (.cells #[.int .i64 m] 3)).grown HGR7.out (fun g hg => .inr (HO6.out.lt g hg).1)
              refine ⟨k + 1, by omega, by go_num, hkk, Lib.hid ?_, Lib.hid ?_⟩
              · have h9 := HT5.out.keep hk6 (by simp)
                have h10 := h9.keep ((Keep.refl [] w6).alloc (.cells #[.int .i64 m] 3)) (by simp)
                have h11 := h10.grown HGR7.out (own_turn (HO6.out.alloc (.cells #[.int .i64 m] 3)) h10 (by decide))
                show Turn w7 bq E (pos E (f + k + 1))
                rw [HMM.out]; exact h11
              · rw [HSN.out, List.map_append]; exact HO7.out
          · obtain rfl : k = N := by omega
            have htt : ¬ (k : Int) < (2 + (a : Int) - 1) := by omega
            by_cases h0 : k = 0
            · have hnx := HNO.out h0
              have HNN := Lib.hid hnx
              have hz : ((2 + (a : Int) - 1) : Int) = 0 := by omega
              clear hnx
              go_wp2_with (first | (go_at_call 20; refine (next_none HT3.out HNN.out).mono ?_; rintro e w5 ⟨rfl, hk5, ht5⟩; clear ht5) | (with_reducible refine Txt.wp_region_text mixed quiet (by decide +kernel) ?_) | (with_reducible refine Txt.text_done (by kernel_rfl) ?_))
              go_ret
              exact ⟨rfl, hkw2.call hk5 HFR.out⟩
            · have hnx := HLA.out h0
              have HNN := Lib.hid hnx
              have hz : (((2 + (a : Int) - 1) : Int) == 0) = false := by simp; omega
              have hwf : ∀ u ∈ (List.range k).map (fun (j : Nat) => ((pos E (f + j + 1) : Nat) : Int)), (Lit.int .i64 u).wf = true := fun u hu => by
                obtain ⟨j, _, rfl⟩ := List.mem_map.1 hu
                have := pos_le E (f + j + 1)
                exact wf_small (by omega) (by omega)
              obtain ⟨sa, sc, hv, hiv, hib⟩ := IntsV.ofOwn HO.out hwf
              subst hv
              have hz0 : ((List.range k).map (fun (j : Nat) => ((pos E (f + j + 1) : Nat) : Int))).getD 0 0 = ((pos E (f + 1) : Nat) : Int) := by
                rw [List.getD_eq_getElem?_getD, List.getElem?_map, List.getElem?_range (by omega)]; rfl
              obtain ⟨bv, ov, rfl, hcv⟩ := hiv.cells (by omega)
              have hcv0 := hcv 0 (by omega)
              rw [hz0, Nat.add_zero] at hcv0
              have hbv := own_turn HO.out HT3.out (by decide) bv rfl
              have HBV := Lib.hid hbv
              generalize pos E (f + 1) = m at *
              clear hnx hwf hiv hib hz0 hcv hbv
              go_wp2_with (first | (go_at_call 20; refine (next_some HT3.out HNN.out).mono ?_; rintro e w5 ⟨rfl, hk5, ht5⟩; have hcv5 := hk5.cell hcv0 (by simpa using HBV.out); clear ht5) | (with_reducible refine Txt.wp_region_text mixed quiet (by decide +kernel) ?_) | (with_reducible refine Txt.text_done (by kernel_rfl) ?_))
              go_ret
              exact ⟨rfl, hkw2.call hk5 HFR.out⟩
  · have hdb : ((1 + (d : Int)) != 1 + (q : Int)) = true := by rw [bne_iff_ne]; omega
    go_enter Try.func7, Try.ntmps7
    go_wp2_with (first | (go_at_call 9; refine (begun_any _).mono ?_; rintro e w0 ⟨rfl, hk0⟩) | (go_at_call 10; (with_reducible refine (rest_at HA (by omega) (by omega)).mono ?_); rintro e w' ⟨rfl, rfl⟩) | (go_at_call 10; (with_reducible refine (rest_at HQ (by omega) (by omega)).mono ?_); rintro e w' ⟨rfl, rfl⟩) | (go_at_call 10; (with_reducible refine (rest_at HD (by omega) (by omega)).mono ?_); rintro e w' ⟨rfl, rfl⟩) | (go_at_call 10; (with_reducible refine (rest_at HF (by omega) (by omega)).mono ?_); rintro e w' ⟨rfl, rfl⟩) | (go_at_call 11; refine (net_any HN _ (by omega) (by omega) (by omega) (by omega)).mono ?_; rintro e w1 ⟨al, c, bs, rfl, hk1, hnet⟩; obtain ⟨b, off, rfl, hcs⟩ := hnet.p.cells (by omega); have hcq := hcs q (by omega); have hlo := hnet.lo _ (hnet.mem (show q < a + 2 by omega)); have hg := hnet.at_ q (by omega); rw [starts_at _ (by omega)] at hg; generalize bs.getD q 0 = bq at *; have HG := Lib.hid hg; clear hcs hg hnet) | (with_reducible refine Txt.wp_region_text mixed quiet (by decide +kernel) ?_) | (with_reducible refine Txt.text_done (by kernel_rfl) ?_) | (go_at_call 13; refine (doubt_yes HG.out HDN (by omega) (by omega) (show a + 2 ≤ 8 by omega) (startG_ok q (a + 2) 1 (by omega) (by omega) (by omega) (by omega)).2 (by rw [startG_lat _ _ _ _ (by omega), rowF, if_pos (by omega)]; simp [startG]; omega)).mono ?_; rintro e w3 ⟨rfl, hk3, hg3⟩; have HG3 := Lib.hid hg3; clear hg3) | (go_at_call 12; refine (tick_any (by first | exact HG3.out | exact HG3.out.drew) (tm100 (ok_doubt (startG_ok q (a + 2) 1 (by omega) (by omega) (by omega) (by omega)).1 (by omega)))).mono ?_; rintro e w4 ⟨rfl, hk4, hg4⟩; have HG4 := Lib.hid hg4; clear hg4))
    obtain ⟨N, hNc, hN1, hN2⟩ : ∃ N : Nat, Hid (cnt' (a + 2) (q + 1) (d + 1) = N) ∧ (N : Int) ≤ (2 + (a : Int) - 1 - 1) ∧ (2 + (a : Int) - 1 - 1) ≤ (N : Int) := ⟨_, Lib.hid rfl, by unfold cnt'; split <;> omega, by unfold cnt'; split <;> omega⟩
    obtain ⟨E, hE⟩ : ∃ E, (others (a + 2) (q + 1) (d + 1)) = E := ⟨_, rfl⟩
    have HEM := Lib.hid (fun m (hm : E m = true) => (show m ≠ q + 1 ∧ m ≠ d + 1 by rw [← hE] at hm; unfold others at hm; simp at hm; omega))
    have HNX := Lib.hid (fun i (hi : i < N) => (show nx E (pos E (f + i)) = some (pos E (f + i + 1)) by rw [← hE]; exact good_next hgood.out (by rw [hNc.out]; exact hi)))
    have HNEW := Lib.hid (fun i j (hi : i < N) (hj : j < i) => (show pos E (f + j + 1) ≠ pos E (f + i + 1) by rw [← hE]; exact good_new hgood.out (by rw [hNc.out]; exact hi) hj))
    have HNO := Lib.hid (fun (h0 : N = 0) => (show nx E (pos E (f + N)) = none by rw [h0, Nat.add_zero, ← hE]; exact good_none hgood.out (by rw [hNc.out]; exact h0)))
    have HLA := Lib.hid (fun (h0 : N ≠ 0) => (show nx E (pos E (f + N)) = some (pos E (f + 1)) by rw [← hE, ← hNc.out]; exact good_last hgood.out (by rw [hNc.out]; exact h0)))
    have HT : Hid (Turn w4 bq E (pos E 0)) := Lib.hid ⟨_, HG4.out, by rw [(tick_head _).2.2, (doubt_head _ _).2.2]; rfl, pos_le E 0, fun m h1 h2 => by
      rw [← hE]
      have h9 := elig_dead (a + 2) (q + 1) (d + 1) m h1 h2 (by omega) (by omega) (by omega) (by omega)
      rwa [show (((q + 1 : Nat) : Int)) = (q : Int) + 1 by omega] at h9⟩
    have hlo2 : w.heap.size ≤ bq := by have := hk0.size; omega
    have hkw : Keep [] w w4 := ((hk0.call hk1 (by simp)).call hk3 (by intro u hu; simp at hu; omega)).call hk4 (by intro u hu; simp at hu; omega)
    have hfr : ∀ u ∈ [bq], u ∈ ([] : List Nat) ∨ w.heap.size ≤ u := by intro u hu; simp at hu; omega
    have HFR := Lib.hid hfr
    clear hfr hE
    go_loopw [59] (fun i wr => ∃ j : Nat, j ≤ f ∧ i = .int .i64 j ∧ Keep [] w wr ∧ Hid (Turn wr bq E (pos E j))) (fun i _ => f - (intOf i).toNat)
    case atStart => exact ⟨0, by omega, rfl, hkw, HT⟩
    case round =>
      obtain ⟨j, hj, rfl, hkw1, HT1⟩ := hrel
      by_cases hlt : j < f
      · go_wp2_with (first | (go_at_call 20; refine (next_free HT1.out).mono ?_; rintro e w5 ⟨r5, s5, rfl, hk5, ht5⟩; have HT5 := Lib.hid ht5; clear ht5) | (with_reducible refine Txt.wp_region_text mixed quiet (by decide +kernel) ?_) | (with_reducible refine Txt.text_done (by kernel_rfl) ?_))
        go_roundw
        case measure => simp [intOf]; omega
        case rel => exact ⟨j + 1, by omega, by go_num, hkw1.call hk5 HFR.out, HT5⟩
      · have HT2 : Hid (Turn wr bq E (pos E (f + 0))) := Lib.hid (by have h9 := HT1.out; rwa [show j = f + 0 by omega] at h9)
        clear HT1
        go_wp2_with fail
        go_loopw [12, 65] (fun v i wr => ∃ k : Nat, k ≤ N ∧ i = .int .i64 k ∧ Keep [] w wr ∧ Hid (Turn wr bq E (pos E (f + k))) ∧ Hid (wr.ownsRow w.heap.size 3 1 v k (((List.range k).map fun (j : Nat) => ((pos E (f + j + 1) : Nat) : Int)).map (Value.int .i64)))) (fun _ i _ => N - (intOf i).toNat)
        case atStart => exact ⟨0, by omega, rfl, hkw1, HT2, World.ownsRow_nil _ _ _ _⟩
        case round =>
          obtain ⟨k, hk, rfl, hkw2, HT3, HO⟩ := hrel
          by_cases hlk : k < N
          · have hnx := HNX.out k hlk
            have hmm := nx_mem hnx
            have hne := HEM.out _ hmm.2.2
            have HNN := Lib.hid hnx
            have hsz := hkw2.size
            have hnin : ((pos E (f + k + 1) : Nat) : Int) ∉ (List.range k).map fun (j : Nat) => ((pos E (f + j + 1) : Nat) : Int) := fun hm => by
              obtain ⟨j, hj, he⟩ := List.mem_map.1 hm
              exact HNEW.out k j hlk (List.mem_range.1 hj) (by omega)
            have hwf : ∀ u ∈ (List.range k).map (fun (j : Nat) => ((pos E (f + j + 1) : Nat) : Int)), (Lit.int .i64 u).wf = true := fun u hu => by
              obtain ⟨j, _, rfl⟩ := List.mem_map.1 hu
              have := pos_le E (f + j + 1)
              exact wf_small (by omega) (by omega)
            have hsn : (List.range (k + 1)).map (fun (j : Nat) => ((pos E (f + j + 1) : Nat) : Int)) = (List.range k).map (fun (j : Nat) => ((pos E (f + j + 1) : Nat) : Int)) ++ [((pos E (f + k + 1) : Nat) : Int)] := by rw [List.range_succ, List.map_append]; rfl
            have HSN := Lib.hid hsn
            have HNIN := Lib.hid hnin
            have HWF := Lib.hid hwf
            clear hnx hsn hnin hwf
            obtain ⟨m, hm⟩ : ∃ m, pos E (f + k + 1) = m := ⟨_, rfl⟩
            rw [hm] at HNIN HSN HNN hmm hne
            have HMM := Lib.hid hm
            clear hm
            generalize (List.range k).map (fun (j : Nat) => ((pos E (f + j + 1) : Nat) : Int)) = L at *
            obtain ⟨sa, sc, hv, hiv, hib⟩ := IntsV.ofOwn HO.out HWF.out
            subst hv
            have HIV := Lib.hid hiv
            have HIB := Lib.hid hib
            have hc1 : ((m : Int) == 1 + (q : Int)) = false := by simp; omega
            have hc2 : ((m : Int) == 1 + (d : Int)) = false := by simp; omega
            have htt : (k : Int) < (2 + (a : Int) - 1 - 1) := by omega
            clear hiv hib
            go_wp2_with (first | (go_at_call 20; refine (next_some HT3.out HNN.out).mono ?_; rintro e w5 ⟨rfl, hk5, ht5⟩; have HT5 := Lib.hid ht5; have HO5 := Lib.hid (own_keep HO.out hk5 (fun g hg hm => own_turn HO.out HT3.out (by decide) g hg (by simpa using hm))); have HIV5 := Lib.hid (HIV.out.keep hk5 (fun u hu hm => own_turn HO.out HT3.out (by decide) u.block (by rw [hu]; rfl) (by simpa using hm))); clear ht5) | (go_at_call 21; refine (contains_not (by first | exact HIV5.out | exact HIV5.out.keep (Keep.refl [] _).drew (by simp)) HNIN.out).mono ?_; rintro e w6 ⟨rfl, hk6⟩; have HO6 := Lib.hid (own_keep HO5.out hk6 (by simp)); have hsz6 : w.heap.size ≤ w6.heap.size := Nat.le_trans hsz (Nat.le_trans hk5.size hk6.size)) | (at_builtin; refine wpList_append_own _ rfl _ _ 33 rfl w.heap.size 3 i1 (.int .i64 0) 1 8 Try.underlying33 hi1 hx0 hx1 hx2 rfl (by decide) _ _ _ rfl (HO6.out.alloc _) ⟨w6.heap.size, 0, none⟩ 1 1 [.int .i64 m] rfl rfl (cell_one_new _ _ _) (by intro u hu; simp at hu; subst hu; rfl) (by unfold maxLen; omega) (by omega) (by simp; omega) ?_; intro v7 w7 hown7 hgr7 _; have HO7 := Lib.hid hown7; have HGR7 := Lib.hid hgr7; clear hown7 hgr7) | (with_reducible refine Txt.wp_region_text mixed quiet (by decide +kernel) ?_) | (with_reducible refine Txt.text_done (by kernel_rfl) ?_))
            go_roundw
            case measure => simp [intOf]; omega
            case rel =>
              have hkk := (((hkw2.call hk5 HFR.out).trans hk6).alloc (.cells #[.int .i64 m] 3)).grown HGR7.out (fun g hg => .inr (HO6.out.lt g hg).1)
              refine ⟨k + 1, by omega, by go_num, hkk, Lib.hid ?_, Lib.hid ?_⟩
              · have h9 := HT5.out.keep hk6 (by simp)
                have h10 := h9.keep ((Keep.refl [] w6).alloc (.cells #[.int .i64 m] 3)) (by simp)
                have h11 := h10.grown HGR7.out (own_turn (HO6.out.alloc (.cells #[.int .i64 m] 3)) h10 (by decide))
                show Turn w7 bq E (pos E (f + k + 1))
                rw [HMM.out]; exact h11
              · rw [HSN.out, List.map_append]; exact HO7.out
          · obtain rfl : k = N := by omega
            have htt : ¬ (k : Int) < (2 + (a : Int) - 1 - 1) := by omega
            by_cases h0 : k = 0
            · have hnx := HNO.out h0
              have HNN := Lib.hid hnx
              have hz : ((2 + (a : Int) - 1 - 1) : Int) = 0 := by omega
              clear hnx
              go_wp2_with (first | (go_at_call 20; refine (next_none HT3.out HNN.out).mono ?_; rintro e w5 ⟨rfl, hk5, ht5⟩; clear ht5) | (with_reducible refine Txt.wp_region_text mixed quiet (by decide +kernel) ?_) | (with_reducible refine Txt.text_done (by kernel_rfl) ?_))
              go_ret
              exact ⟨rfl, hkw2.call hk5 HFR.out⟩
            · have hnx := HLA.out h0
              have HNN := Lib.hid hnx
              have hz : (((2 + (a : Int) - 1 - 1) : Int) == 0) = false := by simp; omega
              have hwf : ∀ u ∈ (List.range k).map (fun (j : Nat) => ((pos E (f + j + 1) : Nat) : Int)), (Lit.int .i64 u).wf = true := fun u hu => by
                obtain ⟨j, _, rfl⟩ := List.mem_map.1 hu
                have := pos_le E (f + j + 1)
                exact wf_small (by omega) (by omega)
              obtain ⟨sa, sc, hv, hiv, hib⟩ := IntsV.ofOwn HO.out hwf
              subst hv
              have hz0 : ((List.range k).map (fun (j : Nat) => ((pos E (f + j + 1) : Nat) : Int))).getD 0 0 = ((pos E (f + 1) : Nat) : Int) := by
                rw [List.getD_eq_getElem?_getD, List.getElem?_map, List.getElem?_range (by omega)]; rfl
              obtain ⟨bv, ov, rfl, hcv⟩ := hiv.cells (by omega)
              have hcv0 := hcv 0 (by omega)
              rw [hz0, Nat.add_zero] at hcv0
              have hbv := own_turn HO.out HT3.out (by decide) bv rfl
              have HBV := Lib.hid hbv
              generalize pos E (f + 1) = m at *
              clear hnx hwf hiv hib hz0 hcv hbv
              go_wp2_with (first | (go_at_call 20; refine (next_some HT3.out HNN.out).mono ?_; rintro e w5 ⟨rfl, hk5, ht5⟩; have hcv5 := hk5.cell hcv0 (by simpa using HBV.out); clear ht5) | (with_reducible refine Txt.wp_region_text mixed quiet (by decide +kernel) ?_) | (with_reducible refine Txt.text_done (by kernel_rfl) ?_))
              go_ret
              exact ⟨rfl, hkw2.call hk5 HFR.out⟩
end Go.Proofs.Ytmkdppbnmogmlaa
