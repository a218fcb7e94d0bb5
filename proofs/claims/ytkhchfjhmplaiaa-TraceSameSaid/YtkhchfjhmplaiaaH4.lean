import Derived.Test.YtkhchfjhmplaiaaHS
import Derived.Test.YtkhchfjhmplaiaaHP4
import Derived.Test.YtkhchfjhmplaiaaR6
import Derived.BigRegion
namespace Go.Proofs.Ytkhchfjhmplaiaa
open Go.RowKit
theorem info27 : (Try.prog.info? 27).map (fun i => (i.zero, i.size, i.bytes)) = some (some (.agg #[.int .i64 0, .int .i64 0, .int .i64 0]), 3, 24) := by kernel_rfl
theorem ev_put (w : World) (p g u x y : Int) : (((w.alloc (.cells #[.int .i64 p, .int .i64 g, .int .i64 u] 27)).setCell ⟨w.heap.size, 1, none⟩ (.int .i64 x)).setCell ⟨w.heap.size, 2, none⟩ (.int .i64 y)).heap[w.heap.size]? = some (.cells #[.int .i64 p, .int .i64 x, .int .i64 y] 27 (0, 0)) := by
  rw [blk_setCell, if_pos rfl, blk_setCell, if_pos rfl, blk_new]; rfl
theorem take_snoc (zs : List Int) (k : Nat) (h : k < zs.length) : zs.take (k + 1) = zs.take k ++ [zs.getD k 0] := by
  rw [List.take_succ_eq_append_getElem h]; simp [List.getD_eq_getElem?_getD, h]
theorem cells_at {X : World} {s : Nat} (hs : X.heap.size = s) (xs : List Value) (t : TypeId) : ∀ j u, xs[j]? = some u → (X.alloc (.cells xs.toArray t)).cell? ((⟨s, 0, none⟩ : Addr).add j) = some u := by
  subst hs
  exact cells_new _ _ _ _
theorem own_slice {w : World} {B e size n : Nat} {v : Value} {xs : List Value} (h : w.ownsRow B e size v n xs) : ∃ a c, v = .slice a n c := by
  rcases h.2 with ⟨rfl, h0⟩ | ⟨g, cap, cur, rfl, _⟩
  · have hl := h.1
    exact ⟨none, 0, by rw [show n = 0 by omega]⟩
  · exact ⟨_, _, rfl⟩
set_option maxRecDepth 100000 in
set_option maxHeartbeats 4000000 in
theorem history_any {a : Option Addr} {len cap : Nat} {zs : List Int} {w : World} (hv : IntsV w a len cap zs) :
    Calls Try.prog 20 #[.slice a len cap] w fun e w' => ∃ a n c, e = .returned (.slice a n c) ∧ Keep [] w w' ∧ LnsV w' a n c (hist zs) ∧ ∀ x, a = some x → w.heap.size ≤ x.block := by
  have hroom := hv.room
  have hmost := hv.most
  unfold maxLen at hmost
  obtain ⟨N, hN, hNl, hN1⟩ : ∃ N : Nat, (if (60 : Int) < (len : Int) then (60 : Int) else (len : Int)) = (N : Int) ∧ N ≤ len ∧ N ≤ 60 :=
    ⟨min 60 len, by split <;> omega, by omega, by omega⟩
  have HNE : Hid (zs.take 60 = zs.take N) := Lib.hid (by
    have hl := hv.len
    by_cases h : 60 < len
    · have : N = 60 := by split at hN <;> omega
      rw [this]
    · have : N = len := by split at hN <;> omega
      rw [List.take_of_length_le (by omega), List.take_of_length_le (by omega)])
  have HL := Lib.hid hv.len
  have HV := Lib.hid hv
  obtain ⟨i0, hi0, hz0, hz1, hz2⟩ := info_parts info27
  obtain ⟨i3, hi3, hy0, hy1, hy2⟩ := info_parts info3
  clear hv
  go_enter Try.func20, Try.ntmps20
  go_wp2_with fail
  go_loopw [3, 4, 15] (fun v u i wr => ∃ k : Nat, k ≤ N ∧ i = .int .i64 k ∧ Keep [] w wr ∧ Hid (wr.ownsRow w.heap.size 27 3 v (histS (zs.take k)).1.length (lanesC (histS (zs.take k)).1)) ∧ Hid (wr.ownsRow w.heap.size 3 1 u (histS (zs.take k)).2.length ((histS (zs.take k)).2.map (Value.int .i64)))) (fun _ _ i _ => N - (intOf i).toNat)
  case atStart => exact ⟨0, by omega, rfl, Keep.refl _ _, World.ownsRow_nil _ _ _ _, World.ownsRow_nil _ _ _ _⟩
  case round =>
    obtain ⟨k, hk, rfl, hkw, HO, HU⟩ := hrel
    by_cases hlt : k < N
    · obtain ⟨b2, off2, rfl, hcell⟩ := HV.out.cells (by omega)
      have hck := hkw.cell (hcell k (by omega)) (by simp)
      clear hcell
      have hS : histS (zs.take (k + 1)) = histStep (histS (zs.take k)) (zs.getD k 0) := by rw [take_snoc zs k (by rw [HL.out]; omega), histS_snoc]
      have hlen := histS_len (zs.take k)
      rw [List.length_take, HL.out, Nat.min_eq_left (by omega)] at hlen
      generalize zs.getD k 0 = z at *
      generalize histS (zs.take k) = s at *
      obtain ⟨evs, way⟩ := s
      unfold histStep at hS
      dsimp only at hS hlen HO HU
      obtain ⟨hlen1, hlen2⟩ := hlen
      rw [hlen1] at hS HO
      obtain ⟨m, hm⟩ : ∃ m, way.length = m := ⟨_, rfl⟩
      rw [hm] at hS HU hlen2
      obtain ⟨pl, hpl⟩ : ∃ pl, restI (wrap64 (z.tdiv 8)) 4 = pl := ⟨_, rfl⟩
      obtain ⟨r, hr⟩ : ∃ r, restI z 8 = r := ⟨_, rfl⟩
      have hr0 := restI_lo z (show (0 : Int) < 8 by omega)
      have hr1 := restI_hi z (show (0 : Int) < 8 by omega)
      rw [hr] at hr0 hr1
      rw [hr, hpl] at hS
      have HPL := Lib.hid hpl
      have HR := Lib.hid hr
      have HE := Lib.hid hlen1
      have HM := Lib.hid hm
      clear hpl hr hlen1 hm
      have hsz := hkw.size
      have hb2 : b2 < wr.heap.size := World.block_lt_of_cell? _ _ hck
      by_cases c1 : r ≤ 2
      · rw [if_pos c1] at hS
        have HS := Lib.hid hS
        clear hS
        have HNB : Hid (∀ b, u4.ownBlock = some b → b ≠ wr.heap.size) := Lib.hid (fun b hb hm => by have := (HU.out.lt b hb).2; omega)
        have HUX := Lib.hid ((HU.out.alloc (.cells #[.int .i64 pl, .int .i64 2, .int .i64 k] 27)).alloc (.cells #[.int .i64 k] 3))
        have HOX := Lib.hid ((HO.out.alloc (.cells #[.int .i64 pl, .int .i64 2, .int .i64 k] 27)).alloc (.cells #[.int .i64 k] 3))
        have HSEP := Lib.hid (own_sep HOX.out HUX.out (by decide))
        have HEX := Lib.hid (((Keep.refl [] _).alloc (.cells #[.int .i64 k] 3)).at (blk_new wr (.cells #[.int .i64 pl, .int .i64 2, .int .i64 k] 27)) (by simp))
        rcases (by omega : r = 0 ∨ r = 1 ∨ r = 2) with h | h | h
        all_goals as_aux_lemma =>
          subst h
          clear hr0 hr1 c1
          go_wp2_with (first | (go_at_call 21; (with_reducible refine (rest_at HPL (by omega) (by omega)).mono ?_); rintro e w' ⟨rfl, rfl⟩) | (go_at_call 21; (with_reducible refine (rest_at HR (by omega) (by omega)).mono ?_); rintro e w' ⟨rfl, rfl⟩) | (with_reducible refine Txt.wp_region_text mixed quiet (by decide +kernel) ?_) | (with_reducible refine Txt.text_done (by kernel_rfl) ?_) | (at_builtin; refine wpList_append_own _ rfl _ _ 22 rfl w.heap.size 3 i3 (.int .i64 0) 1 8 Try.underlying22 hi3 hy0 hy1 hy2 rfl (by decide) _ _ _ rfl HUX.out ⟨wr.heap.size + 1, 0, none⟩ 1 1 [.int .i64 k] rfl rfl (cell_one_at (by simp) _ _) (by intro u hu; simp at hu; subst hu; rfl) (by unfold maxLen; omega) (by omega) (by simp; omega) ?_; intro v5 w5 hown5 hgr5 _; have HU5 := Lib.hid hown5; have HO5 := Lib.hid (HOX.out.kept hgr5 HSEP.out); have hE5 := (hgr5.block wr.heap.size (lt_of_blk HEX.out) (fun e => HNB.out _ e.symm rfl)).trans HEX.out; obtain ⟨n0, n1, n2, _⟩ := row3 hE5; have HGR5 := Lib.hid hgr5; have hsz5 := lt_of_blk hE5; clear hown5 hgr5 hE5) | (at_builtin; refine wpList_append_own _ rfl _ _ 28 rfl w.heap.size 27 i0 (.agg #[.int .i64 0, .int .i64 0, .int .i64 0]) 3 24 Try.underlying28 hi0 hz0 hz1 hz2 rfl (by decide) _ _ _ rfl (HO5.out.alloc _) ⟨w5.heap.size, 0, none⟩ 1 1 [.int .i64 pl, .int .i64 2, .int .i64 k] rfl rfl (cells_new _ _ _ _) (by intro u hu; simp at hu; rcases hu with hu | hu | hu <;> (subst hu; rfl)) (by unfold maxLen; omega) (by omega) (by simp; omega) ?_; intro v6 w6 hown6 hgr6 _; have HO6 := Lib.hid hown6; have HGR6 := Lib.hid hgr6; clear hown6 hgr6))
          go_roundw
          case measure => simp [intOf]; omega
          case rel =>
            refine ⟨k + 1, by omega, by go_num, ((((hkw.alloc _).alloc _).grown HGR5.out (fun g hg => .inr (HU.out.lt g hg).1)).alloc _).grown HGR6.out (fun g hg => .inr (HO.out.lt g hg).1), Lib.hid ?_, Lib.hid ?_⟩
            · rw [HS.out]; show World.ownsRow _ _ _ _ _ (evs ++ [_]).length (lanesC (evs ++ [_])); rw [lanesC_snoc, List.length_append, HE.out]; exact HO6.out
            · rw [HS.out]; show World.ownsRow _ _ _ _ _ (way ++ [_]).length ((way ++ [_]).map _); rw [List.map_append, List.length_append, HM.out]
              exact (HU5.out.alloc (.cells #[.int .i64 pl, .int .i64 2, .int .i64 k] 27)).kept HGR6.out (own_sep (HU5.out.alloc (.cells #[.int .i64 pl, .int .i64 2, .int .i64 k] 27)) (HO5.out.alloc (.cells #[.int .i64 pl, .int .i64 2, .int .i64 k] 27)) (by decide))
      · rw [if_neg c1] at hS
        by_cases c2 : r ≤ 6 ∧ 0 < m
        · rw [if_pos c2] at hS
          obtain ⟨q, hq, hqm⟩ := at_nat (wrap64 (z.tdiv 32)) c2.2
          rw [hq, show (q : Int).toNat = q from rfl] at hS
          obtain ⟨g, capg, rfl, _, hgl, hmc, hcm, hcells, hfz⟩ := own_form HU.out c2.2
          have hcq := hcells q hqm
          have hgne : ¬ g = wr.heap.size := by omega
          obtain ⟨ms, hms⟩ : ∃ ms, way.getD q 0 = ms := ⟨_, rfl⟩
          rw [hms] at hS hcq
          have HQ := Lib.hid hq
          have HI : Hid ((q : Int) = q) := Lib.hid rfl
          have HJ : Hid ((q : Int) + 1 = (q + 1 : Nat)) := Lib.hid (by omega)
          have HUX := Lib.hid (own_keep (HU.out.alloc (.cells #[.int .i64 pl, .int .i64 3, .int .i64 ms] 27)) (Keep.refl [] _).drew (by simp))
          have HOX := Lib.hid (own_keep (HO.out.alloc (.cells #[.int .i64 pl, .int .i64 3, .int .i64 ms] 27)) (Keep.refl [] _).drew (by simp))
          have HOS : Hid (∀ b, u3.ownBlock = some b → b ∉ [g]) := Lib.hid (fun b hb hm => by simp at hm; subst hm; exact own_own HO.out HU.out (by decide) b hb rfl)
          have HEX := Lib.hid ((Keep.refl [] _).drew.at (blk_new wr (.cells #[.int .i64 pl, .int .i64 3, .int .i64 ms] 27)) (by simp))
          have HEN : Hid (wr.heap.size ∉ [g]) := Lib.hid (by simp; omega)
          have HS := Lib.hid hS
          have c3 := c2.1
          have c4 := c2.2
          clear hS c2 hcells hq hms
          rcases (by omega : r = 3 ∨ r = 4 ∨ r = 5 ∨ r = 6) with h | h | h | h
          all_goals as_aux_lemma =>
            subst h
            clear hr0 hr1 c1 c3
            go_wp2_with (first | (go_at_call 21; (with_reducible refine (rest_at HPL (by omega) (by omega)).mono ?_); rintro e w' ⟨rfl, rfl⟩) | (go_at_call 21; (with_reducible refine (rest_at HR (by omega) (by omega)).mono ?_); rintro e w' ⟨rfl, rfl⟩) | (go_at_call 21; (with_reducible refine (rest_at HQ (by omega) (by omega)).mono ?_); rintro e w' ⟨rfl, rfl⟩))
            go_region
            go_wp2_with (first | (go_at_call 60; refine (delete_own HUX.out hqm (Lib.hid rfl) HJ).mono ?_; rintro e w5 ⟨rfl, hk5, hu5⟩; have HU5 := Lib.hid hu5; have HO5 := Lib.hid (own_keep HOX.out hk5 HOS.out); have hE5 := hk5.at HEX.out HEN.out; obtain ⟨n0, n1, n2, _⟩ := row3 hE5; have HK5 := Lib.hid hk5; have hsz5 := lt_of_blk hE5; clear hu5 hk5 hE5) | (at_builtin; refine wpList_append_own _ rfl _ _ 28 rfl w.heap.size 27 i0 (.agg #[.int .i64 0, .int .i64 0, .int .i64 0]) 3 24 Try.underlying28 hi0 hz0 hz1 hz2 rfl (by decide) _ _ _ rfl (HO5.out.alloc _) ⟨w5.heap.size, 0, none⟩ 1 1 [.int .i64 pl, .int .i64 3, .int .i64 ms] rfl rfl (cells_new _ _ _ _) (by intro u hu; simp at hu; rcases hu with hu | hu | hu <;> (subst hu; rfl)) (by unfold maxLen; omega) (by omega) (by simp; omega) ?_; intro v6 w6 hown6 hgr6 _; have HO6 := Lib.hid hown6; have HGR6 := Lib.hid hgr6; clear hown6 hgr6))
            go_roundw
            case measure => simp [intOf]; omega
            case rel =>
              refine ⟨k + 1, by omega, by go_num, ((((hkw.alloc _).drew).call HK5.out (fun b hb => by simp at hb; subst hb; exact .inr (HU.out.lt b rfl).1)).alloc _).grown HGR6.out (fun g hg => .inr (HO.out.lt g hg).1), Lib.hid ?_, Lib.hid ?_⟩
              · rw [HS.out]; show World.ownsRow _ _ _ _ _ (evs ++ [_]).length (lanesC (evs ++ [_])); rw [lanesC_snoc, List.length_append, HE.out]; exact HO6.out
              · rw [HS.out]; show World.ownsRow _ _ _ _ _ (way.eraseIdx q).length ((way.eraseIdx q).map _); rw [List.length_eraseIdx, HM.out, if_pos hqm]
                exact (HU5.out.alloc (.cells #[.int .i64 pl, .int .i64 3, .int .i64 ms] 27)).kept HGR6.out (own_sep (HU5.out.alloc (.cells #[.int .i64 pl, .int .i64 3, .int .i64 ms] 27)) (HO5.out.alloc (.cells #[.int .i64 pl, .int .i64 3, .int .i64 ms] 27)) (by decide))
        · rw [if_neg c2] at hS
          obtain ⟨ua, uc, rfl⟩ := own_slice HU.out
          have HS := Lib.hid hS
          clear hS
          rcases (by omega : r = 3 ∧ m = 0 ∨ r = 4 ∧ m = 0 ∨ r = 5 ∧ m = 0 ∨ r = 6 ∧ m = 0 ∨ r = 7) with h | h | h | h | h
          all_goals as_aux_lemma =>
            (first | (obtain ⟨h, hm0⟩ := h; subst h; subst hm0) | subst h)
            clear hr0 hr1 c1 c2
            go_wp2_with (first | (go_at_call 21; (with_reducible refine (rest_at HPL (by omega) (by omega)).mono ?_); rintro e w' ⟨rfl, rfl⟩) | (go_at_call 21; (with_reducible refine (rest_at HR (by omega) (by omega)).mono ?_); rintro e w' ⟨rfl, rfl⟩) | (with_reducible refine Txt.wp_region_text mixed quiet (by decide +kernel) ?_) | (with_reducible refine Txt.text_done (by kernel_rfl) ?_) | (at_builtin; refine wpList_append_own _ rfl _ _ 28 rfl w.heap.size 27 i0 (.agg #[.int .i64 0, .int .i64 0, .int .i64 0]) 3 24 Try.underlying28 hi0 hz0 hz1 hz2 rfl (by decide) _ _ _ rfl ((HO.out.alloc _).alloc _) ⟨wr.heap.size + 1, 0, none⟩ 1 1 [.int .i64 pl, .int .i64 1, .int .i64 0] rfl rfl (cells_new2 _ _ _ _) (by intro u hu; simp at hu; rcases hu with hu | hu | hu <;> (subst hu; rfl)) (by unfold maxLen; omega) (by omega) (by simp; omega) ?_; intro v6 w6 hown6 hgr6 _; have HO6 := Lib.hid hown6; have HGR6 := Lib.hid hgr6; clear hown6 hgr6))
            go_roundw
            case measure => simp [intOf]; omega
            case rel =>
              refine ⟨k + 1, by omega, by go_num, ((hkw.alloc _).alloc _).grown HGR6.out (fun g hg => .inr (HO.out.lt g hg).1), Lib.hid ?_, Lib.hid ?_⟩
              · rw [HS.out]; show World.ownsRow _ _ _ _ _ (evs ++ [_]).length (lanesC (evs ++ [_])); rw [lanesC_snoc, List.length_append, HE.out]; exact HO6.out
              · rw [HS.out, HM.out]
                exact ((HU.out.alloc (.cells #[.int .i64 pl, .int .i64 1, .int .i64 0] 27)).alloc (.cells #[.int .i64 pl, .int .i64 1, .int .i64 0] 27)).kept HGR6.out (own_sep ((HU.out.alloc (.cells #[.int .i64 pl, .int .i64 1, .int .i64 0] 27)).alloc (.cells #[.int .i64 pl, .int .i64 1, .int .i64 0] 27)) ((HO.out.alloc (.cells #[.int .i64 pl, .int .i64 1, .int .i64 0] 27)).alloc (.cells #[.int .i64 pl, .int .i64 1, .int .i64 0] 27)) (by decide))
    · obtain rfl : k = N := by omega
      go_wp2_with fail
      go_ret
      have hout := HO.out
      rw [← HNE.out] at hout
      obtain ⟨a', c', hv', hl', hb'⟩ := LnsV.ofOwn hout
      exact ⟨a', _, c', by rw [← hv']; rfl, hkw, hl', hb'⟩
end Go.Proofs.Ytkhchfjhmplaiaa
