import Derived.Test.YtkhchfjhmplaiaaH12
namespace Go.Proofs.Ytkhchfjhmplaiaa
open Go.RowKit
theorem ahead_next {a : Option Addr} {n c : Nat} {h : List Ln} {w : World} {i : Nat} {b : Bool} (hv : LnsV w a n c h) (hk : Hid (HOk h)) (hj : i + 1 < n) (hb : Hid (lessL (clk h i) (clk h (i + 1)) = b)) :
    Calls Try.prog 23 #[.slice a n c, .int .i64 i, .int .i64 (i + 1)] w fun e w' => e = .returned (.tuple #[.bool b, .int .i64 0]) ∧ Keep [] w w' := ahead_at hv hk (by omega) hj hb
theorem own3_at {w : World} {B n g cap : Nat} {h : List Ln} (ho : w.ownsRow B 27 3 (.slice (some ⟨g, 0, none⟩) n cap) n (lanesC h)) {i : Nat} (hi : i < n) :
    w.cell? ⟨g, i * 3, none⟩ = some (.int .i64 (lat h i).q) ∧ w.cell? ⟨g, i * 3 + 1, none⟩ = some (.int .i64 (lat h i).g) ∧ w.cell? ⟨g, i * 3 + 2, none⟩ = some (.int .i64 (lat h i).u) := by
  obtain ⟨a, c, he, hv, _⟩ := LnsV.ofOwn ho
  cases he
  obtain ⟨b, off, he, h0, h1, h2⟩ := hv.at_ hi
  cases he
  rw [Nat.zero_add] at h0 h1 h2
  exact ⟨h0, h1, h2⟩
theorem own_thaw {w : World} {B e m n g cap : Nat} {xs : List Value} (ho : w.ownsRow B e m (.slice (some ⟨g, 0, none⟩) n cap) n xs) (i : Nat) : w.frozen? ⟨g, i, none⟩ = false ∧ n ≤ cap ∧ cap ≤ maxLen ∧ B ≤ g ∧ g < w.heap.size := by
  rcases ho.2 with ⟨h0, _⟩ | ⟨g', cap', cur, hv, hb, hg, hnc, hcm, hcs, ht⟩
  · cases h0
  · cases hv
    exact ⟨thaw hg i, hnc, hcm, hb, lt_of_blk hg⟩
/-- The clocks in memory, with the row that holds them. -/
theorem clocks_at2 {a : Option Addr} {n c : Nat} {h : List Ln} {w : World} (hv : LnsV w a n c h) (hk : HOk h) (hn : 0 < n) :
    Calls Try.prog 25 #[.slice a n c] w fun e w' => ∃ g cap V, e = .returned (.tuple #[.slice (some ⟨g, 0, none⟩) n cap, .int .i64 0]) ∧ Keep [] w w' ∧ w'.ownsRow w.heap.size 22 1 (.slice (some ⟨g, 0, none⟩) n cap) n ((List.range n).map V) ∧ ∀ i, i < n → ∃ gi ci, gi ≠ g ∧ V i = .slice (some ⟨gi, 0, none⟩) 8 ci ∧ IntsV w' (some ⟨gi, 0, none⟩) 8 ci (clk h i) := by
  have hl := hv.len
  refine (clocks_ok hv hk).mono ?_
  rintro e w' ⟨v, V, rfl, hk1, ho, hV⟩
  obtain ⟨g, cap, rfl, _⟩ := own_cells ho hn
  refine ⟨g, cap, V, rfl, hk1, ho, fun i hi => ?_⟩
  obtain ⟨gi, ci, hvi, _⟩ := own_form (hV i hi) (by omega)
  obtain ⟨ai, ci', hve, hint, _⟩ := IntsV.ofOwn (hV i hi) (clk_wf hk (by omega))
  have hs := own_sep (hV i hi) ho (by decide)
  rw [hvi] at hve hs
  cases hve
  refine ⟨gi, ci, fun e => ?_, hvi, hint⟩
  subst e
  rcases hs with hs | hs
  · cases hs
  · exact hs rfl
theorem own_row {w : World} {B e n g cap : Nat} {V : Nat → Value} (ho : w.ownsRow B e 1 (.slice (some ⟨g, 0, none⟩) n cap) n ((List.range n).map V)) {i : Nat} (hi : i < n) : w.cell? ⟨g, i, none⟩ = some (V i) := by
  obtain ⟨g', cap', he, _, _, _, _, hc, _⟩ := own_cells ho (by omega)
  cases he
  rw [hc i hi, List.getElem?_map, List.getElem?_range hi]; rfl
theorem range_set {n i : Nat} (V : Nat → Value) (v : Value) : ((List.range n).map V).set i v = (List.range n).map fun k => if k = i then v else V k := by
  refine List.ext_getElem (by simp) fun p h1 h2 => ?_
  simp only [List.getElem_set, List.getElem_map, List.getElem_range]
  by_cases e : i = p
  · rw [if_pos e, if_pos e.symm]
  · rw [if_neg e, if_neg (fun h => e h.symm)]
theorem rows_of {w : World} {B n g cap : Nat} {V : Nat → Value} {R : Nat → List Int} (ho : w.ownsRow B 22 1 (.slice (some ⟨g, 0, none⟩) n cap) n ((List.range n).map V)) (hV : ∀ i, i < n → ∃ gi ci, V i = .slice (some ⟨gi, 0, none⟩) 8 ci ∧ IntsV w (some ⟨gi, 0, none⟩) 8 ci (R i)) : RowsC w g n R := fun i hi =>
  let ⟨gi, ci, h1, h2⟩ := hV i hi
  ⟨_, 8, ci, by rw [own_row ho hi, h1], h2⟩
/-- Behind the exchange, the rows are those of the history. -/
theorem swap_rows {w : World} {B n g cap i : Nat} {V : Nat → Value} {h : List Ln} (hk : HOk h) (hf : Free h i) (hn : h.length = n) (ho : w.ownsRow B 22 1 (.slice (some ⟨g, 0, none⟩) n cap) n ((List.range n).map V))
    (hV : ∀ k, k < n → ∃ gi ci, gi ≠ g ∧ V k = .slice (some ⟨gi, 0, none⟩) 8 ci ∧ IntsV w (some ⟨gi, 0, none⟩) 8 ci (clk (swapL h i) k)) :
    RowsC ((w.setCell ⟨g, i, none⟩ (V (i + 1))).setCell ⟨g, i + 1, none⟩ (V i)) g n (clk h) := by
  have hi := hf.at_
  have h1 := own_put_cell (own_put_cell ho i (V (i + 1))) (i + 1) (V i)
  rw [range_set, range_set] at h1
  have hks : Keep [g] w ((w.setCell ⟨g, i, none⟩ (V (i + 1))).setCell ⟨g, i + 1, none⟩ (V i)) := ((Keep.refl _ _).setCell (.inl (by simp)) _).setCell (.inl (by simp)) _
  have hat : ∀ k, k < n → ∃ gi ci, V k = .slice (some ⟨gi, 0, none⟩) 8 ci ∧ IntsV ((w.setCell ⟨g, i, none⟩ (V (i + 1))).setCell ⟨g, i + 1, none⟩ (V i)) (some ⟨gi, 0, none⟩) 8 ci (clk h (sw i k)) := fun k hkn => by
    obtain ⟨gi, ci, hne, h2, h3⟩ := hV k hkn
    rw [swap_clk' hk hf (by omega)] at h3
    exact ⟨gi, ci, h2, h3.keep hks (fun x hx => by cases hx; simpa using hne)⟩
  refine rows_of h1 fun k hkn => ?_
  show ∃ gi ci, (if k = i + 1 then V i else if k = i then V (i + 1) else V k) = _ ∧ _
  by_cases e1 : k = i + 1
  · rw [if_pos e1]
    obtain ⟨gi, ci, h2, h3⟩ := hat i (by omega)
    rw [show sw i i = k by unfold sw; rw [if_pos rfl, e1]] at h3
    exact ⟨gi, ci, h2, h3⟩
  · rw [if_neg e1]
    by_cases e2 : k = i
    · rw [if_pos e2]
      obtain ⟨gi, ci, h2, h3⟩ := hat (i + 1) (by omega)
      rw [show sw i (i + 1) = k by unfold sw; rw [if_neg (by omega), if_pos rfl, e2]] at h3
      exact ⟨gi, ci, h2, h3⟩
    · rw [if_neg e2]
      obtain ⟨gi, ci, h2, h3⟩ := hat k hkn
      rw [show sw i k = k by unfold sw; rw [if_neg e2, if_neg e1]] at h3
      exact ⟨gi, ci, h2, h3⟩
set_option maxRecDepth 100000 in
set_option maxHeartbeats 4000000 in
theorem clockSwaps_walk (a : Option Addr) (len cap : Nat) (zs : List Int) (x : Int) (w : World) (hv : IntsV w a len cap zs) :
    Calls Try.prog 10 #[.slice a len cap, .int .i64 x] w fun e w' => e = .returned (.bool true) ∧ Keep [] w w' := by
  obtain ⟨N, hN⟩ : ∃ N, (hist zs).length = N := ⟨_, rfl⟩
  have hok : HOk (hist zs) := (hist_inv zs).ok
  have hN60 := hist_len zs
  rw [hN] at hN60
  have hNle : N ≤ 60 := by omega
  have HV := Lib.hid hv
  have HOK := Lib.hid hok
  clear hv hN60
  by_cases h0 : N < 2
  · have HN := Lib.hid hN
    clear hN hok
    go_enter Try.func10, Try.ntmps10
    go_wp2_with (first | (go_at_call 22; refine (begun_any _).mono ?_; rintro e w1 ⟨rfl, hk1⟩) | (go_at_call 20; refine (history_at (HV.out.keep hk1 (by simp)) HN).mono ?_; rintro e w2 ⟨a2, c2, rfl, hk2, hv2⟩; clear hv2))
    go_ret
    exact ⟨rfl, hk1.trans hk2⟩
  · obtain ⟨i, hi, hi1⟩ := at_nat x (show 0 < N - 1 by omega)
    rw [show ((N - 1 : Nat) : Int) = (N : Int) - 1 by omega] at hi
    have hi2 : i + 1 < N := by omega
    obtain ⟨A, hA⟩ : ∃ A, lessL (clk (hist zs) i) (clk (hist zs) (i + 1)) = A := ⟨_, rfl⟩
    have HI := Lib.hid hi
    have HN := Lib.hid hN
    have HA := Lib.hid hA
    have HFR := Lib.hid (fun (e : A = false) => free_of hok (show i + 1 < (hist zs).length by omega) (hA.trans e))
    clear hi hN hA hok
    go_enter Try.func10, Try.ntmps10
    cases A
    · have hf := HFR.out rfl
      have HG := Lib.hid (swap_ok HOK.out hf)
      clear HFR
      go_wp2_with (first | (go_at_call 22; refine (begun_any _).mono ?_; rintro e w1 ⟨rfl, hk1⟩) | (go_at_call 20; refine (history_at (HV.out.keep hk1 (by simp)) HN).mono ?_; rintro e w2 ⟨a2, c2, rfl, hk2, hv2⟩; have HV2 := Lib.hid hv2; clear hv2) | (go_at_call 21; (with_reducible refine (rest_at HI (by omega) (by omega)).mono ?_); rintro e w' ⟨rfl, rfl⟩) | (go_at_call 23; (with_reducible refine (ahead_next HV2.out HOK (by omega) HA).mono ?_); rintro e w3 ⟨rfl, hk3⟩; have HV3 := Lib.hid (HV2.out.keep hk3 (by simp))) | (go_at_call 39; refine (clone_any HV3.out (by omega) (by omega)).mono ?_; rintro e w4 ⟨g, cg, rfl, hk4, ho4⟩; have HV4 := Lib.hid (HV3.out.keep hk4 (by simp)); have HO4 := Lib.hid ho4; obtain ⟨p0, p1, p2⟩ := own3_at ho4 (show i < N by omega); obtain ⟨q0, q1, q2⟩ := own3_at ho4 hi2; have hth := fun j => (own_thaw ho4 j).1; obtain ⟨_, hgc, hgm, hgb, hgl⟩ := own_thaw ho4 0; unfold maxLen at hgm; clear ho4))
      have hfz := hth (i * 3)
      have hIc : (i : Int) + 1 < (N : Int) := by omega
      have HTH := Lib.hid hth
      have hHlen := Lib.hid (show i + 1 < (hist zs).length by rw [HN.out]; omega)
      obtain ⟨⟨x0, x1, x2⟩, hL⟩ : ∃ L, lat (hist zs) i = L := ⟨_, rfl⟩
      obtain ⟨⟨y0, y1, y2⟩, hM⟩ : ∃ L, lat (hist zs) (i + 1) = L := ⟨_, rfl⟩
      rw [hL] at p0 p1 p2
      rw [hM] at q0 q1 q2
      dsimp only at p0 p1 p2 q0 q1 q2
      have HL := Lib.hid hL
      have HM := Lib.hid hM
      clear hL hM
      have hsw : World.ownsRow ((((((w4.setCell ⟨g, i * 3, none⟩ (.int .i64 y0)).setCell ⟨g, i * 3 + 1, none⟩ (.int .i64 y1)).setCell ⟨g, i * 3 + 2, none⟩ (.int .i64 y2)).setCell ⟨g, (i + 1) * 3, none⟩ (.int .i64 x0)).setCell ⟨g, (i + 1) * 3 + 1, none⟩ (.int .i64 x1)).setCell ⟨g, (i + 1) * 3 + 2, none⟩ (.int .i64 x2)) w3.heap.size 27 3 (.slice (some ⟨g, 0, none⟩) N cg) N (lanesC (swapL (hist zs) i)) := by
        have h9 := own_put3 (own_put3 HO4.out (i := i) (by have := hHlen.out; omega) y0 y1 y2) (i := i + 1) (by simpa using hHlen.out) x0 x1 x2
        rw [← HL.out, ← HM.out] at h9
        exact h9
      have hks : Keep [g] w4 ((((((w4.setCell ⟨g, i * 3, none⟩ (.int .i64 y0)).setCell ⟨g, i * 3 + 1, none⟩ (.int .i64 y1)).setCell ⟨g, i * 3 + 2, none⟩ (.int .i64 y2)).setCell ⟨g, (i + 1) * 3, none⟩ (.int .i64 x0)).setCell ⟨g, (i + 1) * 3 + 1, none⟩ (.int .i64 x1)).setCell ⟨g, (i + 1) * 3 + 2, none⟩ (.int .i64 x2)).drew := by
        refine Keep.drew ?_
        iterate 6 refine Keep.setCell ?_ (.inl (by simp)) _
        exact Keep.refl _ _
      obtain ⟨a9, c9, he9, hsv, _⟩ := LnsV.ofOwn hsw
      cases he9
      obtain ⟨b2, off2, ha2, hb20, _⟩ := HV3.out.at_ (show i < N by omega)
      have hb2 := World.block_lt_of_cell? _ _ hb20
      have HGV := Lib.hid hsv.drew
      have HV5 := Lib.hid (HV4.out.keep hks (fun x hx => by rw [ha2] at hx; cases hx; simp; dsimp only at hb2 ⊢; omega))
      clear hsw hsv hb20 HL HM ha2
      go_region
      obtain ⟨w5, hw5⟩ : ∃ w5, ((((((w4.setCell ⟨g, i * 3, none⟩ (.int .i64 y0)).setCell ⟨g, i * 3 + 1, none⟩ (.int .i64 y1)).setCell ⟨g, i * 3 + 2, none⟩ (.int .i64 y2)).setCell ⟨g, (i + 1) * 3, none⟩ (.int .i64 x0)).setCell ⟨g, (i + 1) * 3 + 1, none⟩ (.int .i64 x1)).setCell ⟨g, (i + 1) * 3 + 2, none⟩ (.int .i64 x2)).drew = w5 := ⟨_, rfl⟩
      rw [hw5] at hks HGV HV5 ⊢
      clear hw5 p0 p1 p2 q0 q1 q2 hth hfz HTH
      have hkw5 : Keep [] w w5 := Keep.call (((hk1.trans hk2).trans hk3).trans hk4) hks (fun z hz => .inr (by simp at hz; have := hk1.size; have := hk2.size; have := hk3.size; omega))
      go_wp2_with (first | (go_at_call 25; (with_reducible refine (clocks_at2 HV5.out HOK.out (by omega)).mono ?_); rintro e w6 ⟨ga, ca, Va, rfl, hk6, hoa, hva⟩; have HGV6 := Lib.hid (HGV.out.keep hk6 (by simp)); have HOA := Lib.hid hoa; have HVA := Lib.hid hva; obtain ⟨_, hac, ham, _, hal⟩ := own_thaw hoa 0; unfold maxLen at ham; clear hoa hva) | (go_at_call 25; (with_reducible refine (clocks_at2 HGV6.out HG.out (by omega)).mono ?_); rintro e w7 ⟨gb, cb, Vb, rfl, hk7, hob, hvb⟩; have HOB := Lib.hid hob; have HVB := Lib.hid hvb; obtain ⟨_, hbc, hbm, hbl, _⟩ := own_thaw hob 0; have hth := fun j => (own_thaw hob j).1; have q0 := own_row hob (show i < N by omega); have q1 := own_row hob hi2; unfold maxLen at hbm; clear hob hvb))
      have HRA : Hid (RowsC w7 ga N (clk (hist zs))) := Lib.hid ((rows_of HOA.out (fun i hi => let ⟨gi, ci, _, h1, h2⟩ := HVA.out i hi; ⟨gi, ci, h1, h2⟩)).keep hk7)
      have hlen := HN.out
      have hrb := swap_rows HOK.out hf hlen HOB.out HVB.out
      obtain ⟨g0, k0, _, hV0, _⟩ := HVB.out i (by omega)
      obtain ⟨g1, k1, _, hV1, _⟩ := HVB.out (i + 1) hi2
      rw [hV0, hV1] at hrb
      rw [hV0] at q0
      rw [hV1] at q1
      have HRB := Lib.hid hrb
      clear hrb hV0 hV1
      have hks7 : Keep [gb] w7 ((w7.setCell ⟨gb, i, none⟩ (.slice (some ⟨g1, 0, none⟩) 8 k1)).setCell ⟨gb, i + 1, none⟩ (.slice (some ⟨g0, 0, none⟩) 8 k0)).drew := by
        refine Keep.drew ?_
        iterate 2 refine Keep.setCell ?_ (.inl (by simp)) _
        exact Keep.refl _ _
      have HRA7 : Hid (RowsC ((w7.setCell ⟨gb, i, none⟩ (.slice (some ⟨g1, 0, none⟩) 8 k1)).setCell ⟨gb, i + 1, none⟩ (.slice (some ⟨g0, 0, none⟩) 8 k0)).drew ga N (clk (hist zs))) := Lib.hid (fun k hk => by
        obtain ⟨gi, ci, _, h1, h2⟩ := HVA.out k hk
        have h3 := own_row HOA.out hk
        have hne : ∀ x, some (⟨gi, 0, none⟩ : Addr) = some x → x.block ∉ [gb] := fun x hx => by
          cases hx
          obtain ⟨b9, o9, e9, c9⟩ := h2.cells (by omega)
          cases e9
          have := World.block_lt_of_cell? _ _ (c9 0 (by omega))
          dsimp only at this ⊢
          simp; omega
        exact ⟨_, 8, ci, by rw [← h1]; exact hks7.cell (hk7.cell h3 (by simp)) (by dsimp only; simp; omega), (h2.keep hk7 (by simp)).keep hks7 hne⟩)
      clear hlen
      go_region
      obtain ⟨w8, hw8⟩ : ∃ w8, ((w7.setCell ⟨gb, i, none⟩ (.slice (some ⟨g1, 0, none⟩) 8 k1)).setCell ⟨gb, i + 1, none⟩ (.slice (some ⟨g0, 0, none⟩) 8 k0)).drew = w8 := ⟨_, rfl⟩
      have HRB8 : Hid (RowsC ((w7.setCell ⟨gb, i, none⟩ (.slice (some ⟨g1, 0, none⟩) 8 k1)).setCell ⟨gb, i + 1, none⟩ (.slice (some ⟨g0, 0, none⟩) 8 k0)).drew gb N (clk (hist zs))) := Lib.hid (HRB.out.keep (Keep.drew (Keep.refl _ _)))
      rw [hw8] at hks7 HRA7 HRB8 ⊢
      have hkw8 : Keep [] w w8 := Keep.call ((hkw5.trans hk6).trans hk7) hks7 (fun z hz => .inr (by simp at hz; have := hkw5.size; have := hk6.size; omega))
      clear hw8 q0 q1 hth HRB HRA
      go_wp2_with (first | (go_at_call 41; refine (eqf_any HRA7.out HRB8.out (by omega) (by omega) (by unfold maxLen; omega) (by unfold maxLen; omega)).mono ?_; rintro e w9 ⟨rfl, hk9⟩))
      go_ret
      exact ⟨rfl, hkw8.trans hk9⟩
    · clear HFR
      go_wp2_with (first | (go_at_call 22; refine (begun_any _).mono ?_; rintro e w1 ⟨rfl, hk1⟩) | (go_at_call 20; refine (history_at (HV.out.keep hk1 (by simp)) HN).mono ?_; rintro e w2 ⟨a2, c2, rfl, hk2, hv2⟩; have HV2 := Lib.hid hv2; clear hv2) | (go_at_call 21; (with_reducible refine (rest_at HI (by omega) (by omega)).mono ?_); rintro e w' ⟨rfl, rfl⟩) | (go_at_call 23; (with_reducible refine (ahead_next HV2.out HOK (by omega) HA).mono ?_); rintro e w3 ⟨rfl, hk3⟩))
      go_ret
      exact ⟨rfl, (hk1.trans hk2).trans hk3⟩
end Go.Proofs.Ytkhchfjhmplaiaa
