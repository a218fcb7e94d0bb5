/- Texts laid together: H21 H13 H22 H23. -/
import Derived.Test.YtkhchfjhmplaiaaMg8
import Derived.Maps.AppendAt
import Derived.Deep.CutBlock
import Derived.Deep.DeepCutAuto
import Derived.StillTailTactics
namespace Go
open Go.RowKit
/-- The first k events are sound. -/
structure HTo (h : List Ln) (k : Nat) : Prop where
  ev : ∀ i, i < k → 0 ≤ (lat h i).q ∧ (lat h i).q < 8 ∧ 1 ≤ (lat h i).g ∧ (lat h i).g ≤ 3 ∧ 0 ≤ (lat h i).u ∧ (lat h i).u ≤ 999
  sends : ∀ i j, i < j → j < k → (lat h i).g = 2 → (lat h j).g = 2 → (lat h i).u ≠ (lat h j).u
  takes : ∀ i j, i < j → j < k → (lat h i).g = 3 → (lat h j).g = 3 → (lat h i).u ≠ (lat h j).u
  sent : ∀ i, i < k → (lat h i).g = 3 → ∃ j, j < i ∧ (lat h j).g = 2 ∧ (lat h j).u = (lat h i).u
theorem HTo.zero (h : List Ln) : HTo h 0 := ⟨fun i h => absurd h (by omega), fun i j _ h => absurd h (by omega), fun i j _ h => absurd h (by omega), fun i h => absurd h (by omega)⟩
theorem HTo.all {h : List Ln} (t : HTo h h.length) (hl : h.length ≤ 200) : HOk h := ⟨hl, t.ev, t.sends, t.takes, t.sent⟩
theorem HTo.step {h : List Ln} {k : Nat} (t : HTo h k) (he : 0 ≤ (lat h k).q ∧ (lat h k).q < 8 ∧ 1 ≤ (lat h k).g ∧ (lat h k).g ≤ 3 ∧ 0 ≤ (lat h k).u ∧ (lat h k).u ≤ 999)
    (h2 : (lat h k).g = 2 → saidB h 2 k (lat h k).u = false) (h3 : (lat h k).g = 3 → saidB h 3 k (lat h k).u = false ∧ saidB h 2 k (lat h k).u = true) : HTo h (k + 1) := by
  refine ⟨fun i hi => ?_, fun i j hij hj e1 e2 e3 => ?_, fun i j hij hj e1 e2 e3 => ?_, fun i hi hg => ?_⟩
  · by_cases e : i = k
    · rw [e]; exact he
    · exact t.ev i (by omega)
  · by_cases e : j = k
    · subst e
      have h4 := h2 e2
      have h5 := (saidB_iff h 2 j (lat h j).u).2 ⟨i, hij, e1, e3⟩
      rw [h4] at h5; cases h5
    · exact t.sends i j hij (by omega) e1 e2 e3
  · by_cases e : j = k
    · subst e
      have h4 := (h3 e2).1
      have h5 := (saidB_iff h 3 j (lat h j).u).2 ⟨i, hij, e1, e3⟩
      rw [h4] at h5; cases h5
    · exact t.takes i j hij (by omega) e1 e2 e3
  · by_cases e : i = k
    · subst e
      exact (saidB_iff h 2 i (lat h i).u).1 (h3 hg).2
    · exact t.sent i (by omega) hg
end Go
namespace Go.Proofs.Ytkhchfjhmplaiaa
open Go.RowKit
theorem mark_get (h : List Ln) (g : Int) (k : Nat) (x : Int) : (markF h g k x).getD (.bool false) = .bool (saidB h g k x) := by
  unfold markF
  cases saidB h g k x <;> rfl
set_option maxRecDepth 100000 in
set_option maxHeartbeats 4000000 in
theorem check_gen {a : Option Addr} {n c : Nat} {h : List Ln} {w : World} (hv : LnsV w a n c h) (hloc : ∀ i, i < n → (lat h i).g = 1 → 0 ≤ (lat h i).u ∧ (lat h i).u ≤ 999) :
    Calls Try.prog 51 #[.slice a n c] w fun e w' => ∃ x : Int, e = .returned (.int .i64 x) ∧ Keep [] w w' ∧ (x = 0 → HOk h) := by
  have hmm := @run_makeMap Try.prog
  have HV := Lib.hid hv
  have HL := Lib.hid hv.len
  have HLO := Lib.hid hloc
  clear hv hloc
  by_cases hn : 200 < n
  · have hdn : decide ((200 : Int) < (n : Int)) = true := by simp; omega
    go_enter Try.func51, Try.ntmps51
    go_wp2_with fail
    go_ret
    exact ⟨2, rfl, Keep.refl _ _, fun h => absurd h (by decide)⟩
  · have hn2 : n ≤ 200 := by omega
    go_enter Try.func51, Try.ntmps51
    go_wp2_with fail
    go_loopw [14] (fun i wr => ∃ k : Nat, k ≤ n ∧ i = .int .i64 k ∧ Keep [] w wr ∧ Hid (HTo h k) ∧ Hid (MapF wr Try.prog 3 w.heap.size k (markF h 2 k)) ∧ Hid (MapF wr Try.prog 3 (w.heap.size + 1) k (markF h 3 k))) (fun i _ => n - (intOf i).toNat)
    case atStart =>
      have e2 : markF h 2 0 = fun _ => none := funext fun x => by simp [markF, saidB]
      have e3 : markF h 3 0 = fun _ => none := funext fun x => by simp [markF, saidB]
      refine ⟨0, by omega, rfl, ((Keep.refl _ _).alloc _).alloc _, Lib.hid (HTo.zero h), Lib.hid ?_, Lib.hid ?_⟩
      · rw [e2]; exact (MapF.made w Try.prog 3).keep ((Keep.refl [] _).alloc _) (by simp)
      · rw [e3]; have h9 := MapF.made (w.alloc (.map #[] 0)) Try.prog 3; rwa [show (w.alloc (.map #[] 0)).heap.size = w.heap.size + 1 by simp] at h9
    case round =>
      obtain ⟨k, hk, rfl, hkw, HTO, HS, HT⟩ := hrel
      by_cases hlt : k < n
      · have hlk : k < h.length := by rw [HL.out]; exact hlt
        have hloc := HLO.out k hlt
        obtain ⟨b, off, rfl, c0, c1, c2⟩ := (HV.out.keep hkw (by simp)).at_ hlt
        have hstep := Lib.hid (HTO.out.step)
        have hsame2 := Lib.hid (markF_same (h := h) (g := 2) (k := k))
        have hsame3 := Lib.hid (markF_same (h := h) (g := 3) (k := k))
        have hput2 := Lib.hid (markF_put (h := h) (g := 2) (k := k))
        have hput3 := Lib.hid (markF_put (h := h) (g := 3) (k := k))
        generalize lat h k = L at *
        obtain ⟨q, g, u⟩ := L
        dsimp only at *
        by_cases hg0 : g < 1
        · have b1 : decide (g < 1) = true := by simpa using hg0
          go_wp2_with (first | (with_reducible refine Txt.wp_region_text mixed quiet (by decide +kernel) ?_) | (with_reducible refine Txt.text_done (by kernel_rfl) ?_))
          go_ret
          exact ⟨3, rfl, hkw.alloc _, fun h => absurd h (by decide)⟩
        · have b1 : decide (g < 1) = false := by simpa using hg0
          by_cases hg4 : 3 < g
          · have b2 : decide (3 < g) = true := by simpa using hg4
            go_wp2_with (first | (with_reducible refine Txt.wp_region_text mixed quiet (by decide +kernel) ?_) | (with_reducible refine Txt.text_done (by kernel_rfl) ?_))
            go_ret
            exact ⟨3, rfl, hkw.alloc _, fun h => absurd h (by decide)⟩
          · have b2 : decide (3 < g) = false := by simpa using hg4
            by_cases hq0 : q < 0
            · have b3 : decide (q < 0) = true := by simpa using hq0
              go_wp2_with (first | (with_reducible refine Txt.wp_region_text mixed quiet (by decide +kernel) ?_) | (with_reducible refine Txt.text_done (by kernel_rfl) ?_))
              go_ret
              exact ⟨1, rfl, hkw.alloc _, fun h => absurd h (by decide)⟩
            · have b3 : decide (q < 0) = false := by simpa using hq0
              by_cases hq8 : 8 ≤ q
              · have b4 : decide (8 ≤ q) = true := by simpa using hq8
                go_wp2_with (first | (with_reducible refine Txt.wp_region_text mixed quiet (by decide +kernel) ?_) | (with_reducible refine Txt.text_done (by kernel_rfl) ?_))
                go_ret
                exact ⟨1, rfl, hkw.alloc _, fun h => absurd h (by decide)⟩
              · have b4 : decide (8 ≤ q) = false := by simpa using hq8
                by_cases hg1 : g = 1
                · subst hg1
                  have hu := hloc rfl
                  have hst := Lib.hid (hstep.out ⟨by omega, by omega, by omega, by omega, by omega, by omega⟩ (fun e => absurd e (by decide)) (fun e => absurd e (by decide)))
                  have HS1 : Hid (MapF (wr.alloc (.cells #[.int .i64 q, .int .i64 1, .int .i64 u] 27)) Try.prog 3 w.heap.size (k + 1) (markF h 2 (k + 1))) := Lib.hid (by rw [hsame2.out (by decide)]; exact (HS.out.keep ((Keep.refl [] _).alloc _) (by simp)).mono (by omega))
                  have HT1 : Hid (MapF (wr.alloc (.cells #[.int .i64 q, .int .i64 1, .int .i64 u] 27)) Try.prog 3 (w.heap.size + 1) (k + 1) (markF h 3 (k + 1))) := Lib.hid (by rw [hsame3.out (by decide)]; exact (HT.out.keep ((Keep.refl [] _).alloc _) (by simp)).mono (by omega))
                  clear hloc hu hg0 hg4
                  go_wp2_with (first | (with_reducible refine Txt.wp_region_text mixed quiet (by decide +kernel) ?_) | (with_reducible refine Txt.text_done (by kernel_rfl) ?_))
                  go_roundw
                  case measure => simp [intOf]; omega
                  case rel => exact ⟨k + 1, by omega, by go_num, hkw.alloc _, hst, HS1, HT1⟩
                · clear hloc
                  have hg1b : (g == 1) = false := beq_eq_false_iff_ne.2 hg1
                  by_cases hu0 : u < 0
                  · have b5 : decide (u < 0) = true := by simpa using hu0
                    go_wp2_with (first | (with_reducible refine Txt.wp_region_text mixed quiet (by decide +kernel) ?_) | (with_reducible refine Txt.text_done (by kernel_rfl) ?_))
                    go_ret
                    exact ⟨1, rfl, hkw.alloc _, fun h => absurd h (by decide)⟩
                  · have b5 : decide (u < 0) = false := by simpa using hu0
                    by_cases hu9 : 999 < u
                    · have b6 : decide (999 < u) = true := by simpa using hu9
                      go_wp2_with (first | (with_reducible refine Txt.wp_region_text mixed quiet (by decide +kernel) ?_) | (with_reducible refine Txt.text_done (by kernel_rfl) ?_))
                      go_ret
                      exact ⟨1, rfl, hkw.alloc _, fun h => absurd h (by decide)⟩
                    · have b6 : decide (999 < u) = false := by simpa using hu9
                      have HWF := Lib.hid (wf_msg (z := u) (by omega) (by omega))
                      rcases (by omega : g = 2 ∨ g = 3) with hg | hg
                      · subst hg
                        have HSa := Lib.hid (HS.out.keep ((Keep.refl [] _).alloc (.cells #[.int .i64 q, .int .i64 2, .int .i64 u] 27)) (by simp))
                        have HTa := Lib.hid (HT.out.keep ((Keep.refl [] _).alloc (.cells #[.int .i64 q, .int .i64 2, .int .i64 u] 27)) (by simp))
                        have hm := mark_get h 2 k u
                        obtain ⟨s2, hs2⟩ : ∃ s, saidB h 2 k u = s := ⟨_, rfl⟩
                        rw [hs2] at hm
                        have HV2 := Lib.hid hm
                        have hs2' := Lib.hid hs2
                        have hst := Lib.hid (fun (e : s2 = false) => hstep.out ⟨by omega, by omega, by omega, by omega, by omega, by omega⟩ (fun _ => hs2.trans e) (fun e => absurd e (by decide)))
                        clear hm hs2 hg0 hg4 hg1
                        cases s2
                        · go_wp2_with (first | (with_reducible refine Txt.wp_region_text mixed quiet (by decide +kernel) ?_) | (with_reducible refine Txt.text_done (by kernel_rfl) ?_) | (at_lookup; refine wpList_lookup_v _ rfl _ _ 103 rfl 3 4 Try.underlying103 Try.underlying3 (.bool false) (zeroB _) w.heap.size k (markF h 2 k) rfl HSa.out u rfl HWF.out _ HV2 ?_) | (at_mapUpdate; refine wpList_update_f _ rfl _ _ _ 103 rfl 3 4 Try.underlying103 Try.underlying3 w.heap.size k (markF h 2 k) rfl HSa.out (by unfold maxLen; omega) u (.bool true) rfl rfl HWF.out ?_; intro w2 hm2 hgr2; have HM2 := Lib.hid hm2; have HGR := Lib.hid hgr2; clear hm2 hgr2))
                          go_roundw
                          case measure => simp [intOf]; omega
                          case rel =>
                            refine ⟨k + 1, by omega, by go_num, (hkw.alloc (.cells #[.int .i64 q, .int .i64 2, .int .i64 u] 27)).grown HGR.out (fun x hx => by cases hx; exact .inr (Nat.le_refl _)), Lib.hid (hst.out rfl), Lib.hid ?_, Lib.hid ?_⟩
                            · rw [hput2.out rfl]; exact HM2.out
                            · rw [hsame3.out (by decide)]
                              exact (HTa.out.keep (Keep.ofGrown (S := [w.heap.size]) HGR.out (fun x hx => by cases hx; simp)) (by simp)).mono (by omega)
                        · go_wp2_with (first | (with_reducible refine Txt.wp_region_text mixed quiet (by decide +kernel) ?_) | (with_reducible refine Txt.text_done (by kernel_rfl) ?_) | (at_lookup; refine wpList_lookup_v _ rfl _ _ 103 rfl 3 4 Try.underlying103 Try.underlying3 (.bool false) (zeroB _) w.heap.size k (markF h 2 k) rfl HSa.out u rfl HWF.out _ HV2 ?_))
                          go_ret
                          exact ⟨5, rfl, hkw.alloc _, fun h => absurd h (by decide)⟩
                      · subst hg
                        have HSa := Lib.hid (HS.out.keep ((Keep.refl [] _).alloc (.cells #[.int .i64 q, .int .i64 3, .int .i64 u] 27)) (by simp))
                        have HTa := Lib.hid (HT.out.keep ((Keep.refl [] _).alloc (.cells #[.int .i64 q, .int .i64 3, .int .i64 u] 27)) (by simp))
                        have hm := mark_get h 2 k u
                        have hm' := mark_get h 3 k u
                        obtain ⟨s2, hs2⟩ : ∃ s, saidB h 2 k u = s := ⟨_, rfl⟩
                        obtain ⟨s3, hs3⟩ : ∃ s, saidB h 3 k u = s := ⟨_, rfl⟩
                        rw [hs2] at hm
                        rw [hs3] at hm'
                        have HV2 := Lib.hid hm
                        have HV3 := Lib.hid hm'
                        have hst := Lib.hid (fun (e : s3 = false) (e2 : s2 = true) => hstep.out ⟨by omega, by omega, by omega, by omega, by omega, by omega⟩ (fun e => absurd e (by decide)) (fun _ => ⟨hs3.trans e, hs2.trans e2⟩))
                        clear hm hm' hs2 hs3 hg0 hg4 hg1
                        cases s3
                        · cases s2
                          · go_wp2_with (first | (with_reducible refine Txt.wp_region_text mixed quiet (by decide +kernel) ?_) | (with_reducible refine Txt.text_done (by kernel_rfl) ?_) | (at_lookup; refine wpList_lookup_v _ rfl _ _ 103 rfl 3 4 Try.underlying103 Try.underlying3 (.bool false) (zeroB _) w.heap.size k (markF h 2 k) rfl HSa.out u rfl HWF.out _ HV2 ?_) | (at_lookup; refine wpList_lookup_v _ rfl _ _ 103 rfl 3 4 Try.underlying103 Try.underlying3 (.bool false) (zeroB _) (w.heap.size + 1) k (markF h 3 k) rfl HTa.out u rfl HWF.out _ HV3 ?_))
                            go_ret
                            exact ⟨4, rfl, hkw.alloc _, fun h => absurd h (by decide)⟩
                          · go_wp2_with (first | (with_reducible refine Txt.wp_region_text mixed quiet (by decide +kernel) ?_) | (with_reducible refine Txt.text_done (by kernel_rfl) ?_) | (at_lookup; refine wpList_lookup_v _ rfl _ _ 103 rfl 3 4 Try.underlying103 Try.underlying3 (.bool false) (zeroB _) w.heap.size k (markF h 2 k) rfl HSa.out u rfl HWF.out _ HV2 ?_) | (at_lookup; refine wpList_lookup_v _ rfl _ _ 103 rfl 3 4 Try.underlying103 Try.underlying3 (.bool false) (zeroB _) (w.heap.size + 1) k (markF h 3 k) rfl HTa.out u rfl HWF.out _ HV3 ?_) | (at_mapUpdate; refine wpList_update_f _ rfl _ _ _ 103 rfl 3 4 Try.underlying103 Try.underlying3 (w.heap.size + 1) k (markF h 3 k) rfl HTa.out (by unfold maxLen; omega) u (.bool true) rfl rfl HWF.out ?_; intro w2 hm2 hgr2; have HM2 := Lib.hid hm2; have HGR := Lib.hid hgr2; clear hm2 hgr2))
                            go_roundw
                            case measure => simp [intOf]; omega
                            case rel =>
                              refine ⟨k + 1, by omega, by go_num, (hkw.alloc (.cells #[.int .i64 q, .int .i64 3, .int .i64 u] 27)).grown HGR.out (fun x hx => by cases hx; exact .inr (Nat.le_succ _)), Lib.hid (hst.out rfl rfl), Lib.hid ?_, Lib.hid ?_⟩
                              · rw [hsame2.out (by decide)]
                                exact (HSa.out.keep (Keep.ofGrown (S := [(w.heap.size + 1)]) HGR.out (fun x hx => by cases hx; simp)) (by simp)).mono (by omega)
                              · rw [hput3.out rfl]; exact HM2.out
                        · go_wp2_with (first | (with_reducible refine Txt.wp_region_text mixed quiet (by decide +kernel) ?_) | (with_reducible refine Txt.text_done (by kernel_rfl) ?_) | (at_lookup; refine wpList_lookup_v _ rfl _ _ 103 rfl 3 4 Try.underlying103 Try.underlying3 (.bool false) (zeroB _) w.heap.size k (markF h 2 k) rfl HSa.out u rfl HWF.out _ HV2 ?_) | (at_lookup; refine wpList_lookup_v _ rfl _ _ 103 rfl 3 4 Try.underlying103 Try.underlying3 (.bool false) (zeroB _) (w.heap.size + 1) k (markF h 3 k) rfl HTa.out u rfl HWF.out _ HV3 ?_))
                          go_ret
                          exact ⟨5, rfl, hkw.alloc _, fun h => absurd h (by decide)⟩
      · have hkn := Lib.hid (show k = n by omega)
        go_wp2_with fail
        go_ret
        exact ⟨0, rfl, hkw, fun _ => HTo.all (by rw [HL.out, ← hkn.out]; exact HTO.out) (by rw [HL.out]; exact hn2)⟩
end Go.Proofs.Ytkhchfjhmplaiaa
namespace Go.Proofs.Ytkhchfjhmplaiaa
open Go.RowKit
theorem ahead_next {a : Option Addr} {n c : Nat} {h : List Ln} {w : World} {i : Nat} {b : Bool} (hv : LnsV w a n c h) (hk : Hid (HOk h)) (hj : i + 1 < n) (hb : Hid (lessL (clk h i) (clk h (i + 1)) = b)) :
    Calls Try.prog 23 #[.slice a n c, .int .i64 i, .int .i64 (i + 1)] w fun e w' => e = .returned (.tuple #[.bool b, .int .i64 0]) ∧ Keep [] w w' := ahead_at hv hk (by omega) hj hb
theorem own3_at {w : World} {B n g cap : Nat} {h : List Ln} (ho : w.ownsRow B 27 3 (.slice (some ⟨g, 0, none⟩) n cap) n (lanesC h)) {i : Nat} (hi : i < n) :
    w.cell? ⟨g, i * 3, none⟩ = some (.int .i64 (lat h i).q) ∧ w.cell? ⟨g, i * 3 + 1, none⟩ = some (.int .i64 (lat h i).g) ∧ w.cell? ⟨g, i * 3 + 2, none⟩ = some (.int .i64 (lat h i).u) := by
  obtain ⟨a, c, he, hv, _⟩ := LnsV.ofOwn ho
  cases he
  obtain ⟨b, off, he, h0, h1, h2⟩ := hv.at_ hi
  cases he
  rw [Nat.zero_add] at h0 h1 h2
  exact ⟨h0, h1, h2⟩
theorem own_thaw {w : World} {B e m n g cap : Nat} {xs : List Value} (ho : w.ownsRow B e m (.slice (some ⟨g, 0, none⟩) n cap) n xs) (i : Nat) : w.frozen? ⟨g, i, none⟩ = false ∧ n ≤ cap ∧ cap ≤ maxLen ∧ B ≤ g ∧ g < w.heap.size := by
  rcases ho.2 with ⟨h0, _⟩ | ⟨g', cap', cur, hv, hb, hg, hnc, hcm, hcs, ht⟩
  · cases h0
  · cases hv
    exact ⟨thaw hg i, hnc, hcm, hb, lt_of_blk hg⟩
/-- The clocks in memory, with the row that holds them. -/
theorem clocks_at2 {a : Option Addr} {n c : Nat} {h : List Ln} {w : World} (hv : LnsV w a n c h) (hk : HOk h) (hn : 0 < n) :
    Calls Try.prog 25 #[.slice a n c] w fun e w' => ∃ g cap V, e = .returned (.tuple #[.slice (some ⟨g, 0, none⟩) n cap, .int .i64 0]) ∧ Keep [] w w' ∧ w'.ownsRow w.heap.size 22 1 (.slice (some ⟨g, 0, none⟩) n cap) n ((List.range n).map V) ∧ ∀ i, i < n → ∃ gi ci, gi ≠ g ∧ V i = .slice (some ⟨gi, 0, none⟩) 8 ci ∧ IntsV w' (some ⟨gi, 0, none⟩) 8 ci (clk h i) := by
  have hl := hv.len
  refine (clocks_ok hv hk).mono ?_
  rintro e w' ⟨v, V, rfl, hk1, ho, hV⟩
  obtain ⟨g, cap, rfl, _⟩ := own_cells ho hn
  refine ⟨g, cap, V, rfl, hk1, ho, fun i hi => ?_⟩
  obtain ⟨gi, ci, hvi, _⟩ := own_form (hV i hi) (by omega)
  obtain ⟨ai, ci', hve, hint, _⟩ := IntsV.ofOwn (hV i hi) (clk_wf hk (by omega))
  have hs := own_sep (hV i hi) ho (by decide)
  rw [hvi] at hve hs
  cases hve
  refine ⟨gi, ci, fun e => ?_, hvi, hint⟩
  subst e
  rcases hs with hs | hs
  · cases hs
  · exact hs rfl
theorem own_row {w : World} {B e n g cap : Nat} {V : Nat → Value} (ho : w.ownsRow B e 1 (.slice (some ⟨g, 0, none⟩) n cap) n ((List.range n).map V)) {i : Nat} (hi : i < n) : w.cell? ⟨g, i, none⟩ = some (V i) := by
  obtain ⟨g', cap', he, _, _, _, _, hc, _⟩ := own_cells ho (by omega)
  cases he
  rw [hc i hi, List.getElem?_map, List.getElem?_range hi]; rfl
theorem range_set {n i : Nat} (V : Nat → Value) (v : Value) : ((List.range n).map V).set i v = (List.range n).map fun k => if k = i then v else V k := by
  refine List.ext_getElem (by simp) fun p h1 h2 => ?_
  simp only [List.getElem_set, List.getElem_map, List.getElem_range]
  by_cases e : i = p
  · rw [if_pos e, if_pos e.symm]
  · rw [if_neg e, if_neg (fun h => e h.symm)]
theorem rows_of {w : World} {B n g cap : Nat} {V : Nat → Value} {R : Nat → List Int} (ho : w.ownsRow B 22 1 (.slice (some ⟨g, 0, none⟩) n cap) n ((List.range n).map V)) (hV : ∀ i, i < n → ∃ gi ci, V i = .slice (some ⟨gi, 0, none⟩) 8 ci ∧ IntsV w (some ⟨gi, 0, none⟩) 8 ci (R i)) : RowsC w g n R := fun i hi =>
  let ⟨gi, ci, h1, h2⟩ := hV i hi
  ⟨_, 8, ci, by rw [own_row ho hi, h1], h2⟩
/-- Behind the exchange, the rows are those of the history. -/
theorem swap_rows {w : World} {B n g cap i : Nat} {V : Nat → Value} {h : List Ln} (hk : HOk h) (hf : Free h i) (hn : h.length = n) (ho : w.ownsRow B 22 1 (.slice (some ⟨g, 0, none⟩) n cap) n ((List.range n).map V))
    (hV : ∀ k, k < n → ∃ gi ci, gi ≠ g ∧ V k = .slice (some ⟨gi, 0, none⟩) 8 ci ∧ IntsV w (some ⟨gi, 0, none⟩) 8 ci (clk (swapL h i) k)) :
    RowsC ((w.setCell ⟨g, i, none⟩ (V (i + 1))).setCell ⟨g, i + 1, none⟩ (V i)) g n (clk h) := by
  have hi := hf.at_
  have h1 := own_put_cell (own_put_cell ho i (V (i + 1))) (i + 1) (V i)
  rw [range_set, range_set] at h1
  have hks : Keep [g] w ((w.setCell ⟨g, i, none⟩ (V (i + 1))).setCell ⟨g, i + 1, none⟩ (V i)) := ((Keep.refl _ _).setCell (.inl (by simp)) _).setCell (.inl (by simp)) _
  have hat : ∀ k, k < n → ∃ gi ci, V k = .slice (some ⟨gi, 0, none⟩) 8 ci ∧ IntsV ((w.setCell ⟨g, i, none⟩ (V (i + 1))).setCell ⟨g, i + 1, none⟩ (V i)) (some ⟨gi, 0, none⟩) 8 ci (clk h (sw i k)) := fun k hkn => by
    obtain ⟨gi, ci, hne, h2, h3⟩ := hV k hkn
    rw [swap_clk' hk hf (by omega)] at h3
    exact ⟨gi, ci, h2, h3.keep hks (fun x hx => by cases hx; simpa using hne)⟩
  refine rows_of h1 fun k hkn => ?_
  show ∃ gi ci, (if k = i + 1 then V i else if k = i then V (i + 1) else V k) = _ ∧ _
  by_cases e1 : k = i + 1
  · rw [if_pos e1]
    obtain ⟨gi, ci, h2, h3⟩ := hat i (by omega)
    rw [show sw i i = k by unfold sw; rw [if_pos rfl, e1]] at h3
    exact ⟨gi, ci, h2, h3⟩
  · rw [if_neg e1]
    by_cases e2 : k = i
    · rw [if_pos e2]
      obtain ⟨gi, ci, h2, h3⟩ := hat (i + 1) (by omega)
      rw [show sw i (i + 1) = k by unfold sw; rw [if_neg (by omega), if_pos rfl, e2]] at h3
      exact ⟨gi, ci, h2, h3⟩
    · rw [if_neg e2]
      obtain ⟨gi, ci, h2, h3⟩ := hat k hkn
      rw [show sw i k = k by unfold sw; rw [if_neg e2, if_neg e1]] at h3
      exact ⟨gi, ci, h2, h3⟩
set_option maxRecDepth 100000 in
set_option maxHeartbeats 4000000 in
theorem clockSwaps_walk (a : Option Addr) (len cap : Nat) (zs : List Int) (x : Int) (w : World) (hv : IntsV w a len cap zs) :
    Calls Try.prog 10 #[.slice a len cap, .int .i64 x] w fun e w' => e = .returned (.bool true) ∧ Keep [] w w' := by
  obtain ⟨N, hN⟩ : ∃ N, (hist zs).length = N := ⟨_, rfl⟩
  have hok : HOk (hist zs) := (hist_inv zs).ok
  have hN60 := hist_len zs
  rw [hN] at hN60
  have hNle : N ≤ 60 := by omega
  have HV := Lib.hid hv
  have HOK := Lib.hid hok
  clear hv hN60
  by_cases h0 : N < 2
  · have HN := Lib.hid hN
    clear hN hok
    go_enter Try.func10, Try.ntmps10
    go_wp2_with (first | (go_at_call 22; refine (begun_any _).mono ?_; rintro e w1 ⟨rfl, hk1⟩) | (go_at_call 20; refine (history_at (HV.out.keep hk1 (by simp)) HN).mono ?_; rintro e w2 ⟨a2, c2, rfl, hk2, hv2⟩; clear hv2))
    go_ret
    exact ⟨rfl, hk1.trans hk2⟩
  · obtain ⟨i, hi, hi1⟩ := at_nat x (show 0 < N - 1 by omega)
    rw [show ((N - 1 : Nat) : Int) = (N : Int) - 1 by omega] at hi
    have hi2 : i + 1 < N := by omega
    obtain ⟨A, hA⟩ : ∃ A, lessL (clk (hist zs) i) (clk (hist zs) (i + 1)) = A := ⟨_, rfl⟩
    have HI := Lib.hid hi
    have HN := Lib.hid hN
    have HA := Lib.hid hA
    have HFR := Lib.hid (fun (e : A = false) => free_of hok (show i + 1 < (hist zs).length by omega) (hA.trans e))
    clear hi hN hA hok
    go_enter Try.func10, Try.ntmps10
    cases A
    · have hf := HFR.out rfl
      have HG := Lib.hid (swap_ok HOK.out hf)
      clear HFR
      go_wp2_with (first | (go_at_call 22; refine (begun_any _).mono ?_; rintro e w1 ⟨rfl, hk1⟩) | (go_at_call 20; refine (history_at (HV.out.keep hk1 (by simp)) HN).mono ?_; rintro e w2 ⟨a2, c2, rfl, hk2, hv2⟩; have HV2 := Lib.hid hv2; clear hv2) | (go_at_call 21; (with_reducible refine (rest_at HI (by omega) (by omega)).mono ?_); rintro e w' ⟨rfl, rfl⟩) | (go_at_call 23; (with_reducible refine (ahead_next HV2.out HOK (by omega) HA).mono ?_); rintro e w3 ⟨rfl, hk3⟩; have HV3 := Lib.hid (HV2.out.keep hk3 (by simp))) | (go_at_call 39; refine (clone_any HV3.out (by omega) (by omega)).mono ?_; rintro e w4 ⟨g, cg, rfl, hk4, ho4⟩; have HV4 := Lib.hid (HV3.out.keep hk4 (by simp)); have HO4 := Lib.hid ho4; obtain ⟨p0, p1, p2⟩ := own3_at ho4 (show i < N by omega); obtain ⟨q0, q1, q2⟩ := own3_at ho4 hi2; have hth := fun j => (own_thaw ho4 j).1; obtain ⟨_, hgc, hgm, hgb, hgl⟩ := own_thaw ho4 0; unfold maxLen at hgm; clear ho4))
      have hfz := hth (i * 3)
      have hIc : (i : Int) + 1 < (N : Int) := by omega
      have HTH := Lib.hid hth
      have hHlen := Lib.hid (show i + 1 < (hist zs).length by rw [HN.out]; omega)
      obtain ⟨⟨x0, x1, x2⟩, hL⟩ : ∃ L, lat (hist zs) i = L := ⟨_, rfl⟩
      obtain ⟨⟨y0, y1, y2⟩, hM⟩ : ∃ L, lat (hist zs) (i + 1) = L := ⟨_, rfl⟩
      rw [hL] at p0 p1 p2
      rw [hM] at q0 q1 q2
      dsimp only at p0 p1 p2 q0 q1 q2
      have HL := Lib.hid hL
      have HM := Lib.hid hM
      clear hL hM
      have hsw : World.ownsRow ((((((w4.setCell ⟨g, i * 3, none⟩ (.int .i64 y0)).setCell ⟨g, i * 3 + 1, none⟩ (.int .i64 y1)).setCell ⟨g, i * 3 + 2, none⟩ (.int .i64 y2)).setCell ⟨g, (i + 1) * 3, none⟩ (.int .i64 x0)).setCell ⟨g, (i + 1) * 3 + 1, none⟩ (.int .i64 x1)).setCell ⟨g, (i + 1) * 3 + 2, none⟩ (.int .i64 x2)) w3.heap.size 27 3 (.slice (some ⟨g, 0, none⟩) N cg) N (lanesC (swapL (hist zs) i)) := by
        have h9 := own_put3 (own_put3 HO4.out (i := i) (by have := hHlen.out; omega) y0 y1 y2) (i := i + 1) (by simpa using hHlen.out) x0 x1 x2
        rw [← HL.out, ← HM.out] at h9
        exact h9
      have hks : Keep [g] w4 ((((((w4.setCell ⟨g, i * 3, none⟩ (.int .i64 y0)).setCell ⟨g, i * 3 + 1, none⟩ (.int .i64 y1)).setCell ⟨g, i * 3 + 2, none⟩ (.int .i64 y2)).setCell ⟨g, (i + 1) * 3, none⟩ (.int .i64 x0)).setCell ⟨g, (i + 1) * 3 + 1, none⟩ (.int .i64 x1)).setCell ⟨g, (i + 1) * 3 + 2, none⟩ (.int .i64 x2)).drew := by
        refine Keep.drew ?_
        iterate 6 refine Keep.setCell ?_ (.inl (by simp)) _
        exact Keep.refl _ _
      obtain ⟨a9, c9, he9, hsv, _⟩ := LnsV.ofOwn hsw
      cases he9
      obtain ⟨b2, off2, ha2, hb20, _⟩ := HV3.out.at_ (show i < N by omega)
      have hb2 := World.block_lt_of_cell? _ _ hb20
      have HGV := Lib.hid hsv.drew
      have HV5 := Lib.hid (HV4.out.keep hks (fun x hx => by rw [ha2] at hx; cases hx; simp; dsimp only at hb2 ⊢; omega))
      clear hsw hsv hb20 HL HM ha2
      go_region
      obtain ⟨w5, hw5⟩ : ∃ w5, ((((((w4.setCell ⟨g, i * 3, none⟩ (.int .i64 y0)).setCell ⟨g, i * 3 + 1, none⟩ (.int .i64 y1)).setCell ⟨g, i * 3 + 2, none⟩ (.int .i64 y2)).setCell ⟨g, (i + 1) * 3, none⟩ (.int .i64 x0)).setCell ⟨g, (i + 1) * 3 + 1, none⟩ (.int .i64 x1)).setCell ⟨g, (i + 1) * 3 + 2, none⟩ (.int .i64 x2)).drew = w5 := ⟨_, rfl⟩
      rw [hw5] at hks HGV HV5 ⊢
      clear hw5 p0 p1 p2 q0 q1 q2 hth hfz HTH
      have hkw5 : Keep [] w w5 := Keep.call (((hk1.trans hk2).trans hk3).trans hk4) hks (fun z hz => .inr (by simp at hz; have := hk1.size; have := hk2.size; have := hk3.size; omega))
      go_wp2_with (first | (go_at_call 25; (with_reducible refine (clocks_at2 HV5.out HOK.out (by omega)).mono ?_); rintro e w6 ⟨ga, ca, Va, rfl, hk6, hoa, hva⟩; have HGV6 := Lib.hid (HGV.out.keep hk6 (by simp)); have HOA := Lib.hid hoa; have HVA := Lib.hid hva; obtain ⟨_, hac, ham, _, hal⟩ := own_thaw hoa 0; unfold maxLen at ham; clear hoa hva) | (go_at_call 25; (with_reducible refine (clocks_at2 HGV6.out HG.out (by omega)).mono ?_); rintro e w7 ⟨gb, cb, Vb, rfl, hk7, hob, hvb⟩; have HOB := Lib.hid hob; have HVB := Lib.hid hvb; obtain ⟨_, hbc, hbm, hbl, _⟩ := own_thaw hob 0; have hth := fun j => (own_thaw hob j).1; have q0 := own_row hob (show i < N by omega); have q1 := own_row hob hi2; unfold maxLen at hbm; clear hob hvb))
      have HRA : Hid (RowsC w7 ga N (clk (hist zs))) := Lib.hid ((rows_of HOA.out (fun i hi => let ⟨gi, ci, _, h1, h2⟩ := HVA.out i hi; ⟨gi, ci, h1, h2⟩)).keep hk7)
      have hlen := HN.out
      have hrb := swap_rows HOK.out hf hlen HOB.out HVB.out
      obtain ⟨g0, k0, _, hV0, _⟩ := HVB.out i (by omega)
      obtain ⟨g1, k1, _, hV1, _⟩ := HVB.out (i + 1) hi2
      rw [hV0, hV1] at hrb
      rw [hV0] at q0
      rw [hV1] at q1
      have HRB := Lib.hid hrb
      clear hrb hV0 hV1
      have hks7 : Keep [gb] w7 ((w7.setCell ⟨gb, i, none⟩ (.slice (some ⟨g1, 0, none⟩) 8 k1)).setCell ⟨gb, i + 1, none⟩ (.slice (some ⟨g0, 0, none⟩) 8 k0)).drew := by
        refine Keep.drew ?_
        iterate 2 refine Keep.setCell ?_ (.inl (by simp)) _
        exact Keep.refl _ _
      have HRA7 : Hid (RowsC ((w7.setCell ⟨gb, i, none⟩ (.slice (some ⟨g1, 0, none⟩) 8 k1)).setCell ⟨gb, i + 1, none⟩ (.slice (some ⟨g0, 0, none⟩) 8 k0)).drew ga N (clk (hist zs))) := Lib.hid (fun k hk => by
        obtain ⟨gi, ci, _, h1, h2⟩ := HVA.out k hk
        have h3 := own_row HOA.out hk
        have hne : ∀ x, some (⟨gi, 0, none⟩ : Addr) = some x → x.block ∉ [gb] := fun x hx => by
          cases hx
          obtain ⟨b9, o9, e9, c9⟩ := h2.cells (by omega)
          cases e9
          have := World.block_lt_of_cell? _ _ (c9 0 (by omega))
          dsimp only at this ⊢
          simp; omega
        exact ⟨_, 8, ci, by rw [← h1]; exact hks7.cell (hk7.cell h3 (by simp)) (by dsimp only; simp; omega), (h2.keep hk7 (by simp)).keep hks7 hne⟩)
      clear hlen
      go_region
      obtain ⟨w8, hw8⟩ : ∃ w8, ((w7.setCell ⟨gb, i, none⟩ (.slice (some ⟨g1, 0, none⟩) 8 k1)).setCell ⟨gb, i + 1, none⟩ (.slice (some ⟨g0, 0, none⟩) 8 k0)).drew = w8 := ⟨_, rfl⟩
      have HRB8 : Hid (RowsC ((w7.setCell ⟨gb, i, none⟩ (.slice (some ⟨g1, 0, none⟩) 8 k1)).setCell ⟨gb, i + 1, none⟩ (.slice (some ⟨g0, 0, none⟩) 8 k0)).drew gb N (clk (hist zs))) := Lib.hid (HRB.out.keep (Keep.drew (Keep.refl _ _)))
      rw [hw8] at hks7 HRA7 HRB8 ⊢
      have hkw8 : Keep [] w w8 := Keep.call ((hkw5.trans hk6).trans hk7) hks7 (fun z hz => .inr (by simp at hz; have := hkw5.size; have := hk6.size; omega))
      clear hw8 q0 q1 hth HRB HRA
      go_wp2_with (first | (go_at_call 41; refine (eqf_any HRA7.out HRB8.out (by omega) (by omega) (by unfold maxLen; omega) (by unfold maxLen; omega)).mono ?_; rintro e w9 ⟨rfl, hk9⟩))
      go_ret
      exact ⟨rfl, hkw8.trans hk9⟩
    · clear HFR
      go_wp2_with (first | (go_at_call 22; refine (begun_any _).mono ?_; rintro e w1 ⟨rfl, hk1⟩) | (go_at_call 20; refine (history_at (HV.out.keep hk1 (by simp)) HN).mono ?_; rintro e w2 ⟨a2, c2, rfl, hk2, hv2⟩; have HV2 := Lib.hid hv2; clear hv2) | (go_at_call 21; (with_reducible refine (rest_at HI (by omega) (by omega)).mono ?_); rintro e w' ⟨rfl, rfl⟩) | (go_at_call 23; (with_reducible refine (ahead_next HV2.out HOK (by omega) HA).mono ?_); rintro e w3 ⟨rfl, hk3⟩))
      go_ret
      exact ⟨rfl, (hk1.trans hk2).trans hk3⟩
end Go.Proofs.Ytkhchfjhmplaiaa
namespace Go.Proofs.Ytkhchfjhmplaiaa
open Go.RowKit
/-- The clocks in memory, no event too. -/
def ClkR (w : World) (a : Option Addr) (n : Nat) (V : Nat → Value) (h : List Ln) : Prop := ∀ i, i < n → ∃ g gi ci, a = some ⟨g, 0, none⟩ ∧ w.cell? ⟨g, i, none⟩ = some (V i) ∧ V i = .slice (some ⟨gi, 0, none⟩) 8 ci ∧ IntsV w (some ⟨gi, 0, none⟩) 8 ci (clk h i)
theorem ClkR.keep {w w' : World} {a : Option Addr} {n : Nat} {V : Nat → Value} {h : List Ln} (r : ClkR w a n V h) (k : Keep [] w w') : ClkR w' a n V h := fun i hi =>
  let ⟨g, gi, ci, h1, h2, h3, h4⟩ := r i hi
  ⟨g, gi, ci, h1, k.cell h2 (by simp), h3, h4.keep k (by simp)⟩
theorem clocks_at3 {a : Option Addr} {n c : Nat} {h : List Ln} {w : World} (hv : LnsV w a n c h) (hk : HOk h) :
    Calls Try.prog 25 #[.slice a n c] w fun e w' => ∃ a' c' V, e = .returned (.tuple #[.slice a' n c', .int .i64 0]) ∧ Keep [] w w' ∧ n ≤ c' ∧ c' ≤ maxLen ∧ ClkR w' a' n V h := by
  have hl := hv.len
  refine (clocks_ok hv hk).mono ?_
  rintro e w' ⟨v, V, rfl, hk1, ho, hV⟩
  rcases ho.2 with ⟨rfl, h0⟩ | ⟨g, cap, cur, rfl, hb, hg, hnc, hcm, hcs, ht⟩
  · subst h0
    exact ⟨none, 0, V, rfl, hk1, Nat.le_refl _, Nat.zero_le _, fun i hi => absurd hi (by omega)⟩
  · refine ⟨_, cap, V, rfl, hk1, hnc, hcm, fun i hi => ?_⟩
    obtain ⟨gi, ci, hvi, _⟩ := own_form (hV i hi) (by omega)
    obtain ⟨ai, ci', hve, hint, _⟩ := IntsV.ofOwn (hV i hi) (clk_wf hk (by omega))
    rw [hvi] at hve
    cases hve
    exact ⟨g, gi, ci, rfl, own_row ho hi, hvi, hint⟩
/-- Rows of clocks that an own row of slices holds. -/
def RowsA (w : World) (a : Option Addr) (n : Nat) (R : List (List Int)) : Prop := ∀ i, i < n → ∃ g b m c, a = some ⟨g, 0, none⟩ ∧ w.cell? ⟨g, i, none⟩ = some (.slice b m c) ∧ IntsV w b m c (R.getD i [])
theorem RowsA.keep {w w' : World} {a : Option Addr} {n : Nat} {R : List (List Int)} (r : RowsA w a n R) (k : Keep [] w w') : RowsA w' a n R := fun i hi =>
  let ⟨g, b, m, c, h1, h2, h3⟩ := r i hi
  ⟨g, b, m, c, h1, k.cell h2 (by simp), h3.keep k (by simp)⟩
theorem rows_pick {w : World} {B n m : Nat} {v : Value} {a : Option Addr} {V : Nat → Value} {h : List Ln} {P : Nat → Bool} (hc : ClkR w a n V h) (ho : w.ownsRow B 22 1 v m (pick P V n)) : ∃ a' c', v = .slice a' m c' ∧ m ≤ c' ∧ c' ≤ maxLen ∧ RowsA w a' m (pick P (clk h) n) := by
  have hlen : m = rk P n := by have := ho.1; rw [pick_len] at this; omega
  rcases ho.2 with ⟨rfl, h0⟩ | ⟨g, cap, cur, rfl, hb, hg, hnc, hcm, hcs, ht⟩
  · exact ⟨none, 0, by rw [h0], by omega, Nat.zero_le _, fun i hi => absurd hi (by omega)⟩
  · refine ⟨_, cap, rfl, hnc, hcm, fun i hi => ?_⟩
    obtain ⟨g', cap', he, _, _, _, _, hcell, _⟩ := own_cells ho (by omega)
    cases he
    have hi2 : i < ((List.range n).filter P).length := by unfold rk at hlen; omega
    have hj : ((List.range n).filter P)[i] < n := by
      have := List.getElem_mem hi2
      exact List.mem_range.1 (List.mem_filter.1 this).1
    obtain ⟨g2, gi, ci, _, _, h3, h4⟩ := hc _ hj
    refine ⟨g, some ⟨gi, 0, none⟩, 8, ci, rfl, ?_, ?_⟩
    · rw [hcell i hi]
      unfold pick
      rw [List.getElem?_map, List.getElem?_eq_getElem hi2, Option.map_some, h3]
    · have e1 : (pick P (clk h) n).getD i [] = clk h (((List.range n).filter P)[i]) := by
        unfold pick
        rw [List.getD_eq_getElem?_getD, List.getElem?_map, List.getElem?_eq_getElem hi2]; rfl
      rw [e1]; exact h4
theorem eqc52_any {a1 a2 : Option Addr} {n1 c1 n2 c2 : Nat} {xs : List Int} {w : World} (hx : IntsV w a1 n1 c1 xs) (hy : IntsV w a2 n2 c2 xs) :
    Calls Try.prog 52 #[.slice a1 n1 c1, .slice a2 n2 c2] w fun e w' => e = .returned (.bool true) ∧ Keep [] w w' := by
  have h := equal_any hx hy
  rw [decide_eq_true rfl] at h
  have H := Lib.hid h
  clear h hx hy
  go_enter Try.func52, Try.ntmps52
  go_wp2_with (first | (go_at_call 34; refine H.out.mono ?_; rintro e w1 ⟨rfl, hk1⟩))
  go_ret
  exact ⟨rfl, hk1⟩
theorem eqf52_any {a1 a2 : Option Addr} {c1 c2 n : Nat} {R : List (List Int)} {w : World} (hx : RowsA w a1 n R) (hy : RowsA w a2 n R) (h1 : n ≤ c1) (hm1 : c1 ≤ maxLen) :
    Calls Try.prog 41 #[.slice a1 n c1, .slice a2 n c2, .func (.func 52) #[] #[]] w fun e w' => e = .returned (.bool true) ∧ Keep [] w w' := by
  have HX0 := Lib.hid hx
  have HY0 := Lib.hid hy
  unfold maxLen at hm1
  clear hx hy
  go_enter Try.func41, Try.ntmps41
  go_wp2_with fail
  go_loopw [17] (fun i wr => ∃ k : Nat, k ≤ n ∧ i = .int .i64 k ∧ Keep [] w wr) (fun i _ => n - (intOf i).toNat)
  case atStart => exact ⟨0, by omega, rfl, Keep.refl _ _⟩
  case round =>
    obtain ⟨k, hk, rfl, hkw⟩ := hrel
    by_cases hlt : k < n
    · obtain ⟨g3, a3, m3, c3, rfl, hc3, hi3⟩ := HX0.out.keep hkw k hlt
      obtain ⟨g4, a4, m4, c4, rfl, hc4, hi4⟩ := HY0.out.keep hkw k hlt
      have HI3 := Lib.hid hi3
      have HI4 := Lib.hid hi4
      clear hi3 hi4
      go_wp2_with (first | (go_at_call 52; refine (eqc52_any HI3.out HI4.out).mono ?_; rintro e w1 ⟨rfl, hk1⟩))
      go_roundw
      case measure => simp [intOf]; omega
      case rel => exact ⟨k + 1, by omega, by go_num, hkw.trans hk1⟩
    · go_wp2_with fail
      go_ret
      exact ⟨rfl, hkw⟩
theorem same_part {h g : List Ln} (r : SameAt h g) : Part8 h g 8 := ⟨Nat.le_refl _, fun p _ => (r.ev p).symm, fun h => absurd h (by decide)⟩
end Go.Proofs.Ytkhchfjhmplaiaa
namespace Go.Proofs.Ytkhchfjhmplaiaa
open Go.RowKit
/-- Two rows of one's own that share no block. -/
def Sep2 (x y : Value) : Prop := ∀ g, x.ownBlock = some g → y.ownBlock ≠ some g
theorem Sep2.sym {x y : Value} (h : Sep2 x y) : Sep2 y x := fun g h1 h2 => h g h2 h1
theorem Sep2.or {x y : Value} (h : Sep2 x y) : x.ownBlock = none ∨ x.ownBlock ≠ y.ownBlock := by
  cases hx : x.ownBlock with
  | none => exact .inl rfl
  | some g => exact .inr fun e => h g hx e.symm
theorem Sep2.grow {W : World} {x x' y : Value} {B n : Nat} {xs : List Value} (h : Sep2 x y) (hat : x'.ownBlock = x.ownBlock ∨ x'.ownBlock = some W.heap.size) (hy : W.ownsRow B 22 1 y n xs) : Sep2 x' y := fun g h1 h2 => by
  rcases hat with e | e
  · exact h g (by rw [← e]; exact h1) h2
  · rw [h1] at e
    have := (hy.lt g h2).2
    cases e
    omega
theorem wrap_small {n : Int} (h0 : 0 ≤ n) (h1 : n ≤ 1000000) : IntKind.i64.wrap n = n := by
  have hm : n % (2 ^ IntKind.i64.bits : Int) = n := Int.emod_eq_of_lt h0 (by have : (2 ^ IntKind.i64.bits : Int) = 18446744073709551616 := by decide
                                                                             omega)
  have hb : ¬ (n ≥ (2 ^ (IntKind.i64.bits - 1) : Int)) := by
    have : (2 ^ (IntKind.i64.bits - 1) : Int) = 9223372036854775808 := by decide
    omega
  unfold IntKind.wrap
  rw [hm]
  simp [hb]
set_option maxRecDepth 100000 in
set_option maxHeartbeats 8000000 in
theorem traceSame_walk (a : Option Addr) (len cap : Nat) (zs : List Int) (b : Option Addr) (lenb capb : Nat) (ss : List Int) (w : World) (hv : IntsV w a len cap zs) (hvb : IntsV w b lenb capb ss) :
    Calls Try.prog 15 #[.slice a len cap, .slice b lenb capb] w fun e w' => e = .returned (.bool true) ∧ Keep [] w w' := by
  obtain ⟨N, hN⟩ : ∃ N, (hist zs).length = N := ⟨_, rfl⟩
  have hok : HOk (hist zs) := (hist_inv zs).ok
  have hN60 := hist_len zs
  rw [hN] at hN60
  have hNle : N ≤ 60 := by omega
  obtain ⟨M, hM, hMl, hM1⟩ : ∃ M : Nat, min (lenb : Int) 80 = (M : Int) ∧ M ≤ lenb ∧ M ≤ 80 :=
    ⟨min 80 lenb, by omega, by omega, by omega⟩
  have hrb := hvb.room
  have hmb := hvb.most
  unfold maxLen at hmb
  have HV := Lib.hid hv
  have HVB := Lib.hid hvb
  have HOK := Lib.hid hok
  have HN := Lib.hid hN
  clear hv hvb hok hN hN60
  go_enter Try.func15, Try.ntmps15
  go_upto_block 0 with (first | (go_at_call 35; refine (tbegun_any _).mono ?_; rintro e w0 ⟨rfl, hk0⟩) | (go_at_call 22; refine (begun_any _).mono ?_; rintro e w1 ⟨rfl, hk1⟩) | (go_at_call 20; refine (history_at (HV.out.keep (hk0.trans hk1) (by simp)) HN).mono ?_; rintro e w2 ⟨a2, c2, rfl, hk2, hv2⟩; have HV2 := Lib.hid hv2; clear hv2) | (go_at_call 39; refine (clone_gen HV2.out (by omega)).mono ?_; rintro e w3 ⟨v3, rfl, hk3, ho3⟩; have HV3 := Lib.hid (HV2.out.keep hk3 (by simp)); obtain ⟨a3, c3, rfl, hl3, _⟩ := LnsV.ofOwn ho3; have HL3 := Lib.hid hl3; clear ho3 hl3))
  have hkw3 := ((hk0.trans hk1).trans hk2).trans hk3
  clear hM hk0 hk1 HV2
  go_cut [6, 8, 9, 10] (fun v _ _ _ wx => ∃ (a9 : Option Addr) (c9 : Nat) (G : List Ln), v = .slice a9 N c9 ∧ Keep [] w3 wx ∧ Hid (LnsV wx a9 N c9 G) ∧ Hid (HOk G) ∧ Hid (SameAt (hist zs) G))
  case first =>
    go_wp2_with fail
    go_loopw [6, 8, 9, 10, 37] (fun v _ _ _ j wr => ∃ (k : Nat) (a9 : Option Addr) (c9 : Nat) (G : List Ln), k ≤ M ∧ j = .int .i64 k ∧ v = .slice a9 N c9 ∧ Keep [] w3 wr ∧ Hid (LnsV wr a9 N c9 G) ∧ Hid (HOk G) ∧ Hid (SameAt (hist zs) G)) (fun _ _ _ _ j _ => M - (intOf j).toNat)
    case atStart => exact ⟨0, a3, c3, hist zs, by omega, rfl, rfl, Keep.refl _ _, HL3, HOK, Lib.hid (SameAt.refl _)⟩
    case round =>
      obtain ⟨k, a9, c9, G, hk, rfl, rfl, hkw, HG, HGK, HSA⟩ := hrel
      by_cases hlt : k < M
      · obtain ⟨bb, ob, rfl, hcb⟩ := HVB.out.cells (by omega)
        have hck := (hkw3.trans hkw).cell (hcb k (by omega)) (by simp)
        clear hcb
        obtain ⟨z, hz⟩ : ∃ z, ss.getD k 0 = z := ⟨_, rfl⟩
        rw [hz] at hck
        clear hz
        by_cases hN2 : N < 2
        · have hd2 : decide ((N : Int) < 2) = true := by simp; omega
          go_wp2_with fail
          go_meet
          exact ⟨a9, c9, G, rfl, hkw, HG, HGK, HSA⟩
        · have hd2 : decide ((N : Int) < 2) = false := by simp; omega
          obtain ⟨i, hi, hi1⟩ := at_nat z (show 0 < N - 1 by omega)
          rw [show ((N - 1 : Nat) : Int) = (N : Int) - 1 by omega] at hi
          have HI := Lib.hid hi
          have hi2 : i + 1 < N := by omega
          clear hi
          go_upto_region 11 with (first | (go_at_call 21; (with_reducible refine (rest_at HI (by omega) (by omega)).mono ?_); rintro e w' ⟨rfl, rfl⟩) | (go_at_call 39; refine (clone_any HG.out (by omega) (by omega)).mono ?_; rintro e w4 ⟨g, cg, rfl, hk4, ho4⟩; have HG4 := Lib.hid (HG.out.keep hk4 (by simp)); have HO4 := Lib.hid ho4; obtain ⟨p0, p1, p2⟩ := own3_at ho4 (show i < N by omega); obtain ⟨q0, q1, q2⟩ := own3_at ho4 hi2; have hth := fun j => (own_thaw ho4 j).1; obtain ⟨_, hgc, hgm, hgb, hgl⟩ := own_thaw ho4 0; unfold maxLen at hgm; clear ho4))
          have hIc : (i : Int) + 1 < (N : Int) := by omega
          have hHlen := Lib.hid (show i + 1 < G.length by have := HG.out.len; omega)
          obtain ⟨⟨x0, x1, x2⟩, hL⟩ : ∃ L, lat G i = L := ⟨_, rfl⟩
          obtain ⟨⟨y0, y1, y2⟩, hM⟩ : ∃ L, lat G (i + 1) = L := ⟨_, rfl⟩
          have HL := Lib.hid hL
          have HM := Lib.hid hM
          rw [hL] at p0 p1 p2
          rw [hM] at q0 q1 q2
          dsimp only at p0 p1 p2 q0 q1 q2
          clear hL hM
          have hsw : World.ownsRow ((((((w4.setCell ⟨g, i * 3, none⟩ (.int .i64 y0)).setCell ⟨g, i * 3 + 1, none⟩ (.int .i64 y1)).setCell ⟨g, i * 3 + 2, none⟩ (.int .i64 y2)).setCell ⟨g, (i + 1) * 3, none⟩ (.int .i64 x0)).setCell ⟨g, (i + 1) * 3 + 1, none⟩ (.int .i64 x1)).setCell ⟨g, (i + 1) * 3 + 2, none⟩ (.int .i64 x2)) wr.heap.size 27 3 (.slice (some ⟨g, 0, none⟩) N cg) N (lanesC (swapL G i)) := by
            have h9 := own_put3 (own_put3 HO4.out (i := i) (by have := hHlen.out; omega) y0 y1 y2) (i := i + 1) (by simpa using hHlen.out) x0 x1 x2
            rw [← HL.out, ← HM.out] at h9
            exact h9
          have hks : Keep [g] w4 ((((((w4.setCell ⟨g, i * 3, none⟩ (.int .i64 y0)).setCell ⟨g, i * 3 + 1, none⟩ (.int .i64 y1)).setCell ⟨g, i * 3 + 2, none⟩ (.int .i64 y2)).setCell ⟨g, (i + 1) * 3, none⟩ (.int .i64 x0)).setCell ⟨g, (i + 1) * 3 + 1, none⟩ (.int .i64 x1)).setCell ⟨g, (i + 1) * 3 + 2, none⟩ (.int .i64 x2)).drew := by
            refine Keep.drew ?_
            iterate 6 refine Keep.setCell ?_ (.inl (by simp)) _
            exact Keep.refl _ _
          obtain ⟨ae, ce, hee, hsv, _⟩ := LnsV.ofOwn hsw
          cases hee
          obtain ⟨b9, o9, rfl, hb90, _⟩ := HG.out.at_ (show i < N by omega)
          have hb9 := World.block_lt_of_cell? _ _ hb90
          have HSV := Lib.hid hsv.drew
          have HG5 := Lib.hid (HG4.out.keep hks (fun x hx => by cases hx; simp; dsimp only at hb9 ⊢; omega))
          clear hsw hsv hb90
          go_region
          obtain ⟨w5, hw5⟩ : ∃ w5, ((((((w4.setCell ⟨g, i * 3, none⟩ (.int .i64 y0)).setCell ⟨g, i * 3 + 1, none⟩ (.int .i64 y1)).setCell ⟨g, i * 3 + 2, none⟩ (.int .i64 y2)).setCell ⟨g, (i + 1) * 3, none⟩ (.int .i64 x0)).setCell ⟨g, (i + 1) * 3 + 1, none⟩ (.int .i64 x1)).setCell ⟨g, (i + 1) * 3 + 2, none⟩ (.int .i64 x2)).drew = w5 := ⟨_, rfl⟩
          rw [hw5] at hks HSV HG5 ⊢
          clear hw5 p0 p1 p2 q0 q1 q2 hth
          have hkr5 : Keep [] wr w5 := Keep.call hk4 hks (fun z hz => .inr (by simp at hz; omega))
          obtain ⟨_, _, he1, d0, _⟩ := HG5.out.at_ (show i < N by omega)
          cases he1
          obtain ⟨_, _, he1, d1, _⟩ := HG5.out.at_ hi2
          cases he1
          rw [HL.out] at d0
          rw [HM.out] at d1
          dsimp only at d0 d1
          clear hks
          go_upto_region 12 with fail
          by_cases hq : x0 = y0
          · have hqb : (x0 == y0) = true := by rw [hq]; exact beq_self_eq_true _
            have hqc : (x0 != y0) = false := by rw [hq]; simp
            clear hq
            go_region
            go_wp2_with fail
            go_roundw
            case measure => simp [intOf]; omega
            case rel => exact ⟨k + 1, some ⟨b9, o9, none⟩, c9, G, by omega, by go_num, rfl, (hkw.trans hkr5).drew, Lib.hid HG5.out.drew, HGK, HSA⟩
          · have hqb : (x0 == y0) = false := beq_eq_false_iff_ne.2 hq
            have hqc : (x0 != y0) = true := by simpa using hq
            have f1 : (i : Int) < (N : Int) := by omega
            have f0 : (0 : Int) ≤ (i : Int) := by omega
            have f2 : (0 : Int) ≤ (i : Int) + 1 := by omega
            have hnt : ((i : Int) + 1).toNat = i + 1 := by omega
            have hwr : IntKind.i64.wrap ((i : Int) + 1) = (i : Int) + 1 := wrap_small (by omega) (by omega)
            go_still_tail 14, (by kernel_rfl)
            change wpList _ _ _ _ _ w5.drew
            obtain ⟨w6, hw6⟩ : ∃ w6, w5.drew = w6 := ⟨_, rfl⟩
            have hk56 : Keep [] w5 w5.drew := (Keep.refl _ _).drew
            rw [hw6] at hk56 ⊢
            have hkr6 := hkr5.trans hk56
            have HS6 := Lib.hid (HSV.out.keep hk56 (by simp))
            have HG6 := Lib.hid (HG5.out.keep hk56 (by simp))
            have HLOC : Hid (∀ j, j < N → (lat (swapL G i) j).g = 1 → 0 ≤ (lat (swapL G i) j).u ∧ (lat (swapL G i) j).u ≤ 999) := Lib.hid (fun j hj _ => by
              have hl := HG.out.len
              rw [lat_swap hHlen.out]
              have := HGK.out.ev (sw i j) (by rw [hl]; exact sw_lt hi2 hj)
              omega)
            have HFR : Hid (HOk (swapL G i) → Free G i) := Lib.hid (fun hs => free_sound HGK.out hHlen.out (by rw [HL.out, HM.out]; exact hq) hs)
            clear hw6 d0 d1 HG HG4 HO4 HSV HG5 hb9
            go_wp2_with (first | (go_at_call 51; refine (check_gen HS6.out HLOC.out).mono ?_; rintro e w7 ⟨xe, rfl, hk7, hxe⟩; have HXE := Lib.hid hxe; have HS7 := Lib.hid (HS6.out.keep hk7 (by simp)); have HG7 := Lib.hid (HG6.out.keep hk7 (by simp)); clear hxe))
            all_goals rename_i hx0
            all_goals refine ⟨?_, by simp [intOf]; omega⟩
            · have hx1 : xe = 0 := by simpa using hx0
              have hok2 := HXE.out hx1
              exact ⟨k + 1, some ⟨g, 0, none⟩, cg, swapL G i, by omega, by go_num, rfl, hkw.trans (hkr6.trans hk7), HS7, Lib.hid hok2, Lib.hid (HSA.out.swap HGK.out (HFR.out hok2))⟩
            · exact ⟨k + 1, some ⟨b9, o9, none⟩, c9, G, by omega, by go_num, rfl, hkw.trans (hkr6.trans hk7), HG7, HGK, HSA⟩
      · go_wp2_with fail
        go_meet
        exact ⟨a9, c9, G, rfl, hkw, HG, HGK, HSA⟩
  case rest =>
    obtain ⟨a9, c9, G, rfl, hkc, HG, HGK, HSA⟩ := hcut
    have HV5 := Lib.hid (HV3.out.keep hkc (by simp))
    obtain ⟨i1, hi1, hx0, hx1, hx2⟩ := info_parts info22
    clear HL3 HV HVB
    go_wp2_with (first | (go_at_call 40; refine (same40_any (R := true) HV5.out HG.out HOK.out HGK.out (same_part HSA.out) rfl).mono ?_; rintro e wd ⟨rfl, hkd⟩; have HVd := Lib.hid (HV5.out.keep hkd (by simp)); have HGd := Lib.hid (HG.out.keep hkd (by simp))) | (go_at_call 25; (with_reducible refine (clocks_at3 HVd.out HOK.out).mono ?_); rintro e we ⟨aa, ca, Va, rfl, hke, hca, hcam, hra⟩; have HGe := Lib.hid (HGd.out.keep hke (by simp)); have HVe := Lib.hid (HVd.out.keep hke (by simp)); have HRA := Lib.hid hra; unfold maxLen at hcam; clear hra) | (go_at_call 25; (with_reducible refine (clocks_at3 HGe.out HGK.out).mono ?_); rintro e wf ⟨ab, cb, Vb, rfl, hkf, hcb, hcbm, hrb2⟩; have HGf := Lib.hid (HGe.out.keep hkf (by simp)); have HVf := Lib.hid (HVe.out.keep hkf (by simp)); have HRAf := Lib.hid (HRA.out.keep hkf); have HRBf := Lib.hid hrb2; unfold maxLen at hcbm; clear hrb2))
    have hkwf : Keep [] w wf := (((hkw3.trans hkc).trans hkd).trans hke).trans hkf
    clear HRA HVe HGe HVd HGd HV5 HG HV3 hkw3 hkc hkd hke hkf hk2 hk3
    go_loopw [17, 18, 19, 20, 130] (fun _ _ _ _ j wr => ∃ p : Nat, p ≤ 8 ∧ j = .int .i64 p ∧ Keep [] wf wr) (fun _ _ _ _ j _ => 8 - (intOf j).toNat)
    case atStart => exact ⟨0, by omega, rfl, Keep.refl _ _⟩
    case round =>
      obtain ⟨p, hp, rfl, hkp⟩ := hrel
      by_cases hlp : p < 8
      · have hdec : decide ((p : Int) < 8) = true := by simp; omega
        go_wp2_with fail
        obtain ⟨wo, hwo⟩ : ∃ wo : World, wr = wo := ⟨_, rfl⟩
        have HRo := Lib.hid (HRAf.out.keep hkp)
        have HSo := Lib.hid (HRBf.out.keep hkp)
        have HVo := Lib.hid (HVf.out.keep hkp (by simp))
        have HGo := Lib.hid (HGf.out.keep hkp (by simp))
        rw [hwo] at hkp HRo HSo HVo HGo ⊢
        clear hwo
        go_loopw [18, 19, 20, 135] (fun vx vy _ j wr => ∃ (k mx my : Nat), k ≤ N ∧ j = .int .i64 k ∧ Keep [] wo wr ∧ Hid (wr.ownsRow wo.heap.size 22 1 vx mx (pick (plQ (hist zs) p) Va k)) ∧ Hid (wr.ownsRow wo.heap.size 22 1 vy my (pick (plQ G p) Vb k)) ∧ Hid (Sep2 vx vy)) (fun _ _ _ j _ => N - (intOf j).toNat)
        case atStart => exact ⟨0, 0, 0, by omega, rfl, Keep.refl _ _, Lib.hid (World.ownsRow_nil _ _ _ _), Lib.hid (World.ownsRow_nil _ _ _ _), Lib.hid (fun g h => by cases h)⟩
        case round =>
          obtain ⟨k, mx, my, hk, rfl, hkx, HOX, HOY, HSP⟩ := hrel
          by_cases hlt : k < N
          · have hsx := hkx.size
            have hmx : mx ≤ k := by have h1 := HOX.out.1; rw [pick_len] at h1; have h2 := rk_le (plQ (hist zs) p) k; omega
            have hmy : my ≤ k := by have h1 := HOY.out.1; rw [pick_len] at h1; have h2 := rk_le (plQ G p) k; omega
            obtain ⟨b1, o1, rfl, d0, _⟩ := HVo.out.at_ hlt
            obtain ⟨b3, o3, rfl, e0, _⟩ := HGo.out.at_ hlt
            obtain ⟨ga, gi, ci, rfl, a0, hva, _⟩ := HRo.out k hlt
            obtain ⟨gb, gj, cj, rfl, b0, hvb, _⟩ := HSo.out k hlt
            have hpx := pick_succ (plQ (hist zs) p) Va k
            have hpy := pick_succ (plQ G p) Vb k
            have hqx : plQ (hist zs) p k = decide ((lat (hist zs) k).q = p) := rfl
            have hqy : plQ G p k = decide ((lat G k).q = p) := rfl
            rw [hqx, hva] at hpx
            rw [hqy, hvb] at hpy
            rw [hva] at a0
            rw [hvb] at b0
            clear hqx hqy hva hvb
            obtain ⟨q1, hq1⟩ : ∃ q, (lat (hist zs) k).q = q := ⟨_, rfl⟩
            obtain ⟨q2, hq2⟩ : ∃ q, (lat G k).q = q := ⟨_, rfl⟩
            rw [hq1] at hpx d0
            rw [hq2] at hpy e0
            clear hq1 hq2
            have D0 := Lib.hid d0
            have E0 := Lib.hid e0
            have A0 := Lib.hid a0
            have B0 := Lib.hid b0
            clear d0 e0 a0 b0
            have d1 := hkx.cell D0.out (by simp)
            have e1 := hkx.cell E0.out (by simp)
            have a1 := hkx.cell A0.out (by simp)
            have b1' := hkx.cell B0.out (by simp)
            by_cases hqa : q1 = p
            · have hqa1 : (q1 == (p : Int)) = true := by rw [hqa]; exact beq_self_eq_true _
              have HPX := Lib.hid (show pick (plQ (hist zs) p) Va (k + 1) = pick (plQ (hist zs) p) Va k ++ [.slice (some ⟨gi, 0, none⟩) 8 ci] by rw [hpx, decide_eq_true hqa, if_pos rfl])
              clear hqa hpx
              by_cases hqc : q2 = p
              · have hqc1 : (q2 == (p : Int)) = true := by rw [hqc]; exact beq_self_eq_true _
                have HPY := Lib.hid (show pick (plQ G p) Vb (k + 1) = pick (plQ G p) Vb k ++ [.slice (some ⟨gj, 0, none⟩) 8 cj] by rw [hpy, decide_eq_true hqc, if_pos rfl])
                clear hqc hpy
                go_wp2_with (first | (with_reducible refine Txt.wp_region_text mixed quiet (by decide +kernel) ?_) | (with_reducible refine Txt.text_done (by kernel_rfl) ?_) | (at_builtin; refine wpList_append_own_at _ rfl _ _ 37 rfl wo.heap.size 22 i1 (.slice none 0 0) 1 24 Try.underlying37 hi1 hx0 hx1 hx2 rfl (by decide) _ _ _ rfl (HOX.out.alloc _) ⟨wr.heap.size, 0, none⟩ 1 1 [.slice (some ⟨gi, 0, none⟩) 8 ci] rfl rfl (cell_one_at rfl _ _) (by intro u hu; simp at hu; subst hu; rfl) (by unfold maxLen; omega) (by omega) (by simp; omega) ?_; intro v6 w6 hown6 hgr6 _ hat6; have hgx : (wr.alloc (.cells #[.slice (some ⟨gi, 0, none⟩) 8 ci] 22)).grownBy w6 u18.ownBlock := hgr6; have hax : v6.ownBlock = u18.ownBlock ∨ v6.ownBlock = some (wr.alloc (.cells #[.slice (some ⟨gi, 0, none⟩) 8 ci] 22)).heap.size := hat6; have HX6 := Lib.hid hown6; have hk6 : Keep [] wo w6 := (hkx.alloc _).grown hgx (fun g hg => .inr (HOX.out.lt g hg).1); have HY6 := Lib.hid ((HOY.out.alloc _).kept hgx HSP.out.sym.or); have HS6 := Lib.hid (HSP.out.grow hax (HOY.out.alloc _)); have e0' := hk6.cell E0.out (by simp); have b0' := hk6.cell B0.out (by simp); have hs6 := hk6.size; clear hown6 hgr6 hat6 hgx hax) | (at_builtin; refine wpList_append_own_at _ rfl _ _ 37 rfl wo.heap.size 22 i1 (.slice none 0 0) 1 24 Try.underlying37 hi1 hx0 hx1 hx2 rfl (by decide) _ _ _ rfl (HY6.out.alloc _) ⟨w6.heap.size, 0, none⟩ 1 1 [.slice (some ⟨gj, 0, none⟩) 8 cj] rfl rfl (cell_one_at rfl _ _) (by intro u hu; simp at hu; subst hu; rfl) (by unfold maxLen; omega) (by omega) (by simp; omega) ?_; intro v7 w7 hown7 hgr7 _ hat7; have hgy : (w6.alloc (.cells #[.slice (some ⟨gj, 0, none⟩) 8 cj] 22)).grownBy w7 u19.ownBlock := hgr7; have hay : v7.ownBlock = u19.ownBlock ∨ v7.ownBlock = some (w6.alloc (.cells #[.slice (some ⟨gj, 0, none⟩) 8 cj] 22)).heap.size := hat7; have HY7 := Lib.hid hown7; have hk7 : Keep [] wo w7 := (hk6.alloc _).grown hgy (fun g hg => .inr (HY6.out.lt g hg).1); have HX7 := Lib.hid ((HX6.out.alloc _).kept hgy HS6.out.or); have HS7 := Lib.hid ((HS6.out.sym.grow hay (HX6.out.alloc _)).sym); clear hown7 hgr7 hat7 hgy hay))
                go_roundw
                case measure => simp [intOf]; omega
                case rel => exact ⟨k + 1, mx + 1, my + 1, by omega, by go_num, hk7, Lib.hid (by rw [HPX.out]; exact HX7.out), Lib.hid (by rw [HPY.out]; exact HY7.out), HS7⟩
              · have hqc1 : (q2 == (p : Int)) = false := beq_eq_false_iff_ne.2 hqc
                have HPY := Lib.hid (show pick (plQ G p) Vb (k + 1) = pick (plQ G p) Vb k by rw [hpy, decide_eq_false hqc]; simp)
                clear hqc hpy
                go_wp2_with (first | (with_reducible refine Txt.wp_region_text mixed quiet (by decide +kernel) ?_) | (with_reducible refine Txt.text_done (by kernel_rfl) ?_) | (at_builtin; refine wpList_append_own_at _ rfl _ _ 37 rfl wo.heap.size 22 i1 (.slice none 0 0) 1 24 Try.underlying37 hi1 hx0 hx1 hx2 rfl (by decide) _ _ _ rfl (HOX.out.alloc _) ⟨wr.heap.size, 0, none⟩ 1 1 [.slice (some ⟨gi, 0, none⟩) 8 ci] rfl rfl (cell_one_at rfl _ _) (by intro u hu; simp at hu; subst hu; rfl) (by unfold maxLen; omega) (by omega) (by simp; omega) ?_; intro v6 w6 hown6 hgr6 _ hat6; have hgx : (wr.alloc (.cells #[.slice (some ⟨gi, 0, none⟩) 8 ci] 22)).grownBy w6 u18.ownBlock := hgr6; have hax : v6.ownBlock = u18.ownBlock ∨ v6.ownBlock = some (wr.alloc (.cells #[.slice (some ⟨gi, 0, none⟩) 8 ci] 22)).heap.size := hat6; have HX6 := Lib.hid hown6; have hk6 : Keep [] wo w6 := (hkx.alloc _).grown hgx (fun g hg => .inr (HOX.out.lt g hg).1); have HY6 := Lib.hid ((HOY.out.alloc _).kept hgx HSP.out.sym.or); have HS6 := Lib.hid (HSP.out.grow hax (HOY.out.alloc _)); have e0' := hk6.cell E0.out (by simp); have b0' := hk6.cell B0.out (by simp); have hs6 := hk6.size; clear hown6 hgr6 hat6 hgx hax))
                go_roundw
                case measure => simp [intOf]; omega
                case rel => exact ⟨k + 1, mx + 1, my, by omega, by go_num, hk6, Lib.hid (by rw [HPX.out]; exact HX6.out), Lib.hid (by rw [HPY.out]; exact HY6.out), HS6⟩
            · have hqa1 : (q1 == (p : Int)) = false := beq_eq_false_iff_ne.2 hqa
              have HPX := Lib.hid (show pick (plQ (hist zs) p) Va (k + 1) = pick (plQ (hist zs) p) Va k by rw [hpx, decide_eq_false hqa]; simp)
              clear hqa hpx
              by_cases hqc : q2 = p
              · have hqc1 : (q2 == (p : Int)) = true := by rw [hqc]; exact beq_self_eq_true _
                have HPY := Lib.hid (show pick (plQ G p) Vb (k + 1) = pick (plQ G p) Vb k ++ [.slice (some ⟨gj, 0, none⟩) 8 cj] by rw [hpy, decide_eq_true hqc, if_pos rfl])
                clear hqc hpy
                go_wp2_with (first | (with_reducible refine Txt.wp_region_text mixed quiet (by decide +kernel) ?_) | (with_reducible refine Txt.text_done (by kernel_rfl) ?_) | (at_builtin; refine wpList_append_own_at _ rfl _ _ 37 rfl wo.heap.size 22 i1 (.slice none 0 0) 1 24 Try.underlying37 hi1 hx0 hx1 hx2 rfl (by decide) _ _ _ rfl (HOY.out.alloc _) ⟨wr.heap.size, 0, none⟩ 1 1 [.slice (some ⟨gj, 0, none⟩) 8 cj] rfl rfl (cell_one_at rfl _ _) (by intro u hu; simp at hu; subst hu; rfl) (by unfold maxLen; omega) (by omega) (by simp; omega) ?_; intro v7 w7 hown7 hgr7 _ hat7; have hgy : (wr.alloc (.cells #[.slice (some ⟨gj, 0, none⟩) 8 cj] 22)).grownBy w7 u19.ownBlock := hgr7; have hay : v7.ownBlock = u19.ownBlock ∨ v7.ownBlock = some (wr.alloc (.cells #[.slice (some ⟨gj, 0, none⟩) 8 cj] 22)).heap.size := hat7; have HY7 := Lib.hid hown7; have hk7 : Keep [] wo w7 := (hkx.alloc _).grown hgy (fun g hg => .inr (HOY.out.lt g hg).1); have HX7 := Lib.hid ((HOX.out.alloc _).kept hgy HSP.out.or); have HS7 := Lib.hid ((HSP.out.sym.grow hay (HOX.out.alloc _)).sym); clear hown7 hgr7 hat7 hgy hay))
                go_roundw
                case measure => simp [intOf]; omega
                case rel => exact ⟨k + 1, mx, my + 1, by omega, by go_num, hk7, Lib.hid (by rw [HPX.out]; exact HX7.out), Lib.hid (by rw [HPY.out]; exact HY7.out), HS7⟩
              · have hqc1 : (q2 == (p : Int)) = false := beq_eq_false_iff_ne.2 hqc
                have HPY := Lib.hid (show pick (plQ G p) Vb (k + 1) = pick (plQ G p) Vb k by rw [hpy, decide_eq_false hqc]; simp)
                clear hqc hpy
                go_wp2_with (fail)
                go_roundw
                case measure => simp [intOf]; omega
                case rel => exact ⟨k + 1, mx, my, by omega, by go_num, hkx, Lib.hid (by rw [HPX.out]; exact HOX.out), Lib.hid (by rw [HPY.out]; exact HOY.out), HSP⟩
          · have hkn : k = N := by omega
            have hhl := HN.out
            have hgl := HSA.out.len
            have hck := HSA.out.ck (p : Int)
            have h1 := HOX.out
            have h2 := HOY.out
            rw [hkn] at h1 h2
            obtain ⟨ax, cx, rfl, hcx, hcxm, hrx⟩ := rows_pick (HRo.out.keep hkx) h1
            obtain ⟨ay, cy, rfl, hcy, hcym, hry⟩ := rows_pick (HSo.out.keep hkx) h2
            unfold clkAt at hck
            rw [hgl, hhl] at hck
            have hmm : my = mx := by
              have e1 := h1.1
              have e2 := h2.1
              have e3 := congrArg List.length hck
              rw [pick_len] at e1 e2
              rw [pick_len, pick_len] at e3
              omega
            subst hmm
            rw [hck] at hry
            have HRX := Lib.hid hrx
            have HRY := Lib.hid hry
            unfold maxLen at hcxm hcym
            clear h1 h2 hck hrx hry hhl hgl
            go_wp2_with (first | (go_at_call 41; refine (eqf52_any HRX.out HRY.out (by omega) (by unfold maxLen; omega)).mono ?_; rintro e wz ⟨rfl, hkz⟩))
            go_roundw
            case measure => simp [intOf]; omega
            case rel => exact ⟨p + 1, by omega, by go_num, (hkp.trans hkx).trans hkz⟩
      · go_wp2_with fail
        go_ret
        exact ⟨rfl, hkwf.trans hkp⟩
end Go.Proofs.Ytkhchfjhmplaiaa
