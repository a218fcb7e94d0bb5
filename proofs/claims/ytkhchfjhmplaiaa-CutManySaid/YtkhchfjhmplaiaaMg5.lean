/- Texts laid together: H4 HP5 H5 H6 HP6 HP8 H8. -/
import Derived.Test.YtkhchfjhmplaiaaMg4
import Derived.BigRegion
import Derived.Deep.RegionWith
import Derived.Deep.QuietTactic
import Derived.BigQuiet
namespace Go.Proofs.Ytkhchfjhmplaiaa
open Go.RowKit
theorem info27 : (Try.prog.info? 27).map (fun i => (i.zero, i.size, i.bytes)) = some (some (.agg #[.int .i64 0, .int .i64 0, .int .i64 0]), 3, 24) := by kernel_rfl
theorem ev_put (w : World) (p g u x y : Int) : (((w.alloc (.cells #[.int .i64 p, .int .i64 g, .int .i64 u] 27)).setCell ⟨w.heap.size, 1, none⟩ (.int .i64 x)).setCell ⟨w.heap.size, 2, none⟩ (.int .i64 y)).heap[w.heap.size]? = some (.cells #[.int .i64 p, .int .i64 x, .int .i64 y] 27 (0, 0)) := by
  rw [blk_setCell, if_pos rfl, blk_setCell, if_pos rfl, blk_new]; rfl
theorem take_snoc (zs : List Int) (k : Nat) (h : k < zs.length) : zs.take (k + 1) = zs.take k ++ [zs.getD k 0] := by
  rw [List.take_succ_eq_append_getElem h]; simp [List.getD_eq_getElem?_getD, h]
theorem cells_at {X : World} {s : Nat} (hs : X.heap.size = s) (xs : List Value) (t : TypeId) : ∀ j u, xs[j]? = some u → (X.alloc (.cells xs.toArray t)).cell? ((⟨s, 0, none⟩ : Addr).add j) = some u := by
  subst hs
  exact cells_new _ _ _ _
theorem own_slice {w : World} {B e size n : Nat} {v : Value} {xs : List Value} (h : w.ownsRow B e size v n xs) : ∃ a c, v = .slice a n c := by
  rcases h.2 with ⟨rfl, h0⟩ | ⟨g, cap, cur, rfl, _⟩
  · have hl := h.1
    exact ⟨none, 0, by rw [show n = 0 by omega]⟩
  · exact ⟨_, _, rfl⟩
set_option maxRecDepth 100000 in
set_option maxHeartbeats 4000000 in
theorem history_any {a : Option Addr} {len cap : Nat} {zs : List Int} {w : World} (hv : IntsV w a len cap zs) :
    Calls Try.prog 20 #[.slice a len cap] w fun e w' => ∃ a n c, e = .returned (.slice a n c) ∧ Keep [] w w' ∧ LnsV w' a n c (hist zs) ∧ ∀ x, a = some x → w.heap.size ≤ x.block := by
  have hroom := hv.room
  have hmost := hv.most
  unfold maxLen at hmost
  obtain ⟨N, hN, hNl, hN1⟩ : ∃ N : Nat, (if (60 : Int) < (len : Int) then (60 : Int) else (len : Int)) = (N : Int) ∧ N ≤ len ∧ N ≤ 60 :=
    ⟨min 60 len, by split <;> omega, by omega, by omega⟩
  have HNE : Hid (zs.take 60 = zs.take N) := Lib.hid (by
    have hl := hv.len
    by_cases h : 60 < len
    · have : N = 60 := by split at hN <;> omega
      rw [this]
    · have : N = len := by split at hN <;> omega
      rw [List.take_of_length_le (by omega), List.take_of_length_le (by omega)])
  have HL := Lib.hid hv.len
  have HV := Lib.hid hv
  obtain ⟨i0, hi0, hz0, hz1, hz2⟩ := info_parts info27
  obtain ⟨i3, hi3, hy0, hy1, hy2⟩ := info_parts info3
  clear hv
  go_enter Try.func20, Try.ntmps20
  go_wp2_with fail
  go_loopw [3, 4, 15] (fun v u i wr => ∃ k : Nat, k ≤ N ∧ i = .int .i64 k ∧ Keep [] w wr ∧ Hid (wr.ownsRow w.heap.size 27 3 v (histS (zs.take k)).1.length (lanesC (histS (zs.take k)).1)) ∧ Hid (wr.ownsRow w.heap.size 3 1 u (histS (zs.take k)).2.length ((histS (zs.take k)).2.map (Value.int .i64)))) (fun _ _ i _ => N - (intOf i).toNat)
  case atStart => exact ⟨0, by omega, rfl, Keep.refl _ _, World.ownsRow_nil _ _ _ _, World.ownsRow_nil _ _ _ _⟩
  case round =>
    obtain ⟨k, hk, rfl, hkw, HO, HU⟩ := hrel
    by_cases hlt : k < N
    · obtain ⟨b2, off2, rfl, hcell⟩ := HV.out.cells (by omega)
      have hck := hkw.cell (hcell k (by omega)) (by simp)
      clear hcell
      have hS : histS (zs.take (k + 1)) = histStep (histS (zs.take k)) (zs.getD k 0) := by rw [take_snoc zs k (by rw [HL.out]; omega), histS_snoc]
      have hlen := histS_len (zs.take k)
      rw [List.length_take, HL.out, Nat.min_eq_left (by omega)] at hlen
      generalize zs.getD k 0 = z at *
      generalize histS (zs.take k) = s at *
      obtain ⟨evs, way⟩ := s
      unfold histStep at hS
      dsimp only at hS hlen HO HU
      obtain ⟨hlen1, hlen2⟩ := hlen
      rw [hlen1] at hS HO
      obtain ⟨m, hm⟩ : ∃ m, way.length = m := ⟨_, rfl⟩
      rw [hm] at hS HU hlen2
      obtain ⟨pl, hpl⟩ : ∃ pl, restI (wrap64 (z.tdiv 8)) 4 = pl := ⟨_, rfl⟩
      obtain ⟨r, hr⟩ : ∃ r, restI z 8 = r := ⟨_, rfl⟩
      have hr0 := restI_lo z (show (0 : Int) < 8 by omega)
      have hr1 := restI_hi z (show (0 : Int) < 8 by omega)
      rw [hr] at hr0 hr1
      rw [hr, hpl] at hS
      have HPL := Lib.hid hpl
      have HR := Lib.hid hr
      have HE := Lib.hid hlen1
      have HM := Lib.hid hm
      clear hpl hr hlen1 hm
      have hsz := hkw.size
      have hb2 : b2 < wr.heap.size := World.block_lt_of_cell? _ _ hck
      by_cases c1 : r ≤ 2
      · rw [if_pos c1] at hS
        have HS := Lib.hid hS
        clear hS
        have HNB : Hid (∀ b, u4.ownBlock = some b → b ≠ wr.heap.size) := Lib.hid (fun b hb hm => by have := (HU.out.lt b hb).2; omega)
        have HUX := Lib.hid ((HU.out.alloc (.cells #[.int .i64 pl, .int .i64 2, .int .i64 k] 27)).alloc (.cells #[.int .i64 k] 3))
        have HOX := Lib.hid ((HO.out.alloc (.cells #[.int .i64 pl, .int .i64 2, .int .i64 k] 27)).alloc (.cells #[.int .i64 k] 3))
        have HSEP := Lib.hid (own_sep HOX.out HUX.out (by decide))
        have HEX := Lib.hid (((Keep.refl [] _).alloc (.cells #[.int .i64 k] 3)).at (blk_new wr (.cells #[.int .i64 pl, .int .i64 2, .int .i64 k] 27)) (by simp))
        rcases (by omega : r = 0 ∨ r = 1 ∨ r = 2) with h | h | h
        all_goals as_aux_lemma =>
          subst h
          clear hr0 hr1 c1
          go_wp2_with (first | (go_at_call 21; (with_reducible refine (rest_at HPL (by omega) (by omega)).mono ?_); rintro e w' ⟨rfl, rfl⟩) | (go_at_call 21; (with_reducible refine (rest_at HR (by omega) (by omega)).mono ?_); rintro e w' ⟨rfl, rfl⟩) | (with_reducible refine Txt.wp_region_text mixed quiet (by decide +kernel) ?_) | (with_reducible refine Txt.text_done (by kernel_rfl) ?_) | (at_builtin; refine wpList_append_own _ rfl _ _ 22 rfl w.heap.size 3 i3 (.int .i64 0) 1 8 Try.underlying22 hi3 hy0 hy1 hy2 rfl (by decide) _ _ _ rfl HUX.out ⟨wr.heap.size + 1, 0, none⟩ 1 1 [.int .i64 k] rfl rfl (cell_one_at (by simp) _ _) (by intro u hu; simp at hu; subst hu; rfl) (by unfold maxLen; omega) (by omega) (by simp; omega) ?_; intro v5 w5 hown5 hgr5 _; have HU5 := Lib.hid hown5; have HO5 := Lib.hid (HOX.out.kept hgr5 HSEP.out); have hE5 := (hgr5.block wr.heap.size (lt_of_blk HEX.out) (fun e => HNB.out _ e.symm rfl)).trans HEX.out; obtain ⟨n0, n1, n2, _⟩ := row3 hE5; have HGR5 := Lib.hid hgr5; have hsz5 := lt_of_blk hE5; clear hown5 hgr5 hE5) | (at_builtin; refine wpList_append_own _ rfl _ _ 28 rfl w.heap.size 27 i0 (.agg #[.int .i64 0, .int .i64 0, .int .i64 0]) 3 24 Try.underlying28 hi0 hz0 hz1 hz2 rfl (by decide) _ _ _ rfl (HO5.out.alloc _) ⟨w5.heap.size, 0, none⟩ 1 1 [.int .i64 pl, .int .i64 2, .int .i64 k] rfl rfl (cells_new _ _ _ _) (by intro u hu; simp at hu; rcases hu with hu | hu | hu <;> (subst hu; rfl)) (by unfold maxLen; omega) (by omega) (by simp; omega) ?_; intro v6 w6 hown6 hgr6 _; have HO6 := Lib.hid hown6; have HGR6 := Lib.hid hgr6; clear hown6 hgr6))
          go_roundw
          case measure => simp [intOf]; omega
          case rel =>
            refine ⟨k + 1, by omega, by go_num, ((((hkw.alloc _).alloc _).grown HGR5.out (fun g hg => .inr (HU.out.lt g hg).1)).alloc _).grown HGR6.out (fun g hg => .inr (HO.out.lt g hg).1), Lib.hid ?_, Lib.hid ?_⟩
            · rw [HS.out]; show World.ownsRow _ _ _ _ _ (evs ++ [_]).length (lanesC (evs ++ [_])); rw [lanesC_snoc, List.length_append, HE.out]; exact HO6.out
            · rw [HS.out]; show World.ownsRow _ _ _ _ _ (way ++ [_]).length ((way ++ [_]).map _); rw [List.map_append, List.length_append, HM.out]
              exact (HU5.out.alloc (.cells #[.int .i64 pl, .int .i64 2, .int .i64 k] 27)).kept HGR6.out (own_sep (HU5.out.alloc (.cells #[.int .i64 pl, .int .i64 2, .int .i64 k] 27)) (HO5.out.alloc (.cells #[.int .i64 pl, .int .i64 2, .int .i64 k] 27)) (by decide))
      · rw [if_neg c1] at hS
        by_cases c2 : r ≤ 6 ∧ 0 < m
        · rw [if_pos c2] at hS
          obtain ⟨q, hq, hqm⟩ := at_nat (wrap64 (z.tdiv 32)) c2.2
          rw [hq, show (q : Int).toNat = q from rfl] at hS
          obtain ⟨g, capg, rfl, _, hgl, hmc, hcm, hcells, hfz⟩ := own_form HU.out c2.2
          have hcq := hcells q hqm
          have hgne : ¬ g = wr.heap.size := by omega
          obtain ⟨ms, hms⟩ : ∃ ms, way.getD q 0 = ms := ⟨_, rfl⟩
          rw [hms] at hS hcq
          have HQ := Lib.hid hq
          have HI : Hid ((q : Int) = q) := Lib.hid rfl
          have HJ : Hid ((q : Int) + 1 = (q + 1 : Nat)) := Lib.hid (by omega)
          have HUX := Lib.hid (own_keep (HU.out.alloc (.cells #[.int .i64 pl, .int .i64 3, .int .i64 ms] 27)) (Keep.refl [] _).drew (by simp))
          have HOX := Lib.hid (own_keep (HO.out.alloc (.cells #[.int .i64 pl, .int .i64 3, .int .i64 ms] 27)) (Keep.refl [] _).drew (by simp))
          have HOS : Hid (∀ b, u3.ownBlock = some b → b ∉ [g]) := Lib.hid (fun b hb hm => by simp at hm; subst hm; exact own_own HO.out HU.out (by decide) b hb rfl)
          have HEX := Lib.hid ((Keep.refl [] _).drew.at (blk_new wr (.cells #[.int .i64 pl, .int .i64 3, .int .i64 ms] 27)) (by simp))
          have HEN : Hid (wr.heap.size ∉ [g]) := Lib.hid (by simp; omega)
          have HS := Lib.hid hS
          have c3 := c2.1
          have c4 := c2.2
          clear hS c2 hcells hq hms
          rcases (by omega : r = 3 ∨ r = 4 ∨ r = 5 ∨ r = 6) with h | h | h | h
          all_goals as_aux_lemma =>
            subst h
            clear hr0 hr1 c1 c3
            go_wp2_with (first | (go_at_call 21; (with_reducible refine (rest_at HPL (by omega) (by omega)).mono ?_); rintro e w' ⟨rfl, rfl⟩) | (go_at_call 21; (with_reducible refine (rest_at HR (by omega) (by omega)).mono ?_); rintro e w' ⟨rfl, rfl⟩) | (go_at_call 21; (with_reducible refine (rest_at HQ (by omega) (by omega)).mono ?_); rintro e w' ⟨rfl, rfl⟩))
            go_region
            go_wp2_with (first | (go_at_call 60; refine (delete_own HUX.out hqm (Lib.hid rfl) HJ).mono ?_; rintro e w5 ⟨rfl, hk5, hu5⟩; have HU5 := Lib.hid hu5; have HO5 := Lib.hid (own_keep HOX.out hk5 HOS.out); have hE5 := hk5.at HEX.out HEN.out; obtain ⟨n0, n1, n2, _⟩ := row3 hE5; have HK5 := Lib.hid hk5; have hsz5 := lt_of_blk hE5; clear hu5 hk5 hE5) | (at_builtin; refine wpList_append_own _ rfl _ _ 28 rfl w.heap.size 27 i0 (.agg #[.int .i64 0, .int .i64 0, .int .i64 0]) 3 24 Try.underlying28 hi0 hz0 hz1 hz2 rfl (by decide) _ _ _ rfl (HO5.out.alloc _) ⟨w5.heap.size, 0, none⟩ 1 1 [.int .i64 pl, .int .i64 3, .int .i64 ms] rfl rfl (cells_new _ _ _ _) (by intro u hu; simp at hu; rcases hu with hu | hu | hu <;> (subst hu; rfl)) (by unfold maxLen; omega) (by omega) (by simp; omega) ?_; intro v6 w6 hown6 hgr6 _; have HO6 := Lib.hid hown6; have HGR6 := Lib.hid hgr6; clear hown6 hgr6))
            go_roundw
            case measure => simp [intOf]; omega
            case rel =>
              refine ⟨k + 1, by omega, by go_num, ((((hkw.alloc _).drew).call HK5.out (fun b hb => by simp at hb; subst hb; exact .inr (HU.out.lt b rfl).1)).alloc _).grown HGR6.out (fun g hg => .inr (HO.out.lt g hg).1), Lib.hid ?_, Lib.hid ?_⟩
              · rw [HS.out]; show World.ownsRow _ _ _ _ _ (evs ++ [_]).length (lanesC (evs ++ [_])); rw [lanesC_snoc, List.length_append, HE.out]; exact HO6.out
              · rw [HS.out]; show World.ownsRow _ _ _ _ _ (way.eraseIdx q).length ((way.eraseIdx q).map _); rw [List.length_eraseIdx, HM.out, if_pos hqm]
                exact (HU5.out.alloc (.cells #[.int .i64 pl, .int .i64 3, .int .i64 ms] 27)).kept HGR6.out (own_sep (HU5.out.alloc (.cells #[.int .i64 pl, .int .i64 3, .int .i64 ms] 27)) (HO5.out.alloc (.cells #[.int .i64 pl, .int .i64 3, .int .i64 ms] 27)) (by decide))
        · rw [if_neg c2] at hS
          obtain ⟨ua, uc, rfl⟩ := own_slice HU.out
          have HS := Lib.hid hS
          clear hS
          rcases (by omega : r = 3 ∧ m = 0 ∨ r = 4 ∧ m = 0 ∨ r = 5 ∧ m = 0 ∨ r = 6 ∧ m = 0 ∨ r = 7) with h | h | h | h | h
          all_goals as_aux_lemma =>
            (first | (obtain ⟨h, hm0⟩ := h; subst h; subst hm0) | subst h)
            clear hr0 hr1 c1 c2
            go_wp2_with (first | (go_at_call 21; (with_reducible refine (rest_at HPL (by omega) (by omega)).mono ?_); rintro e w' ⟨rfl, rfl⟩) | (go_at_call 21; (with_reducible refine (rest_at HR (by omega) (by omega)).mono ?_); rintro e w' ⟨rfl, rfl⟩) | (with_reducible refine Txt.wp_region_text mixed quiet (by decide +kernel) ?_) | (with_reducible refine Txt.text_done (by kernel_rfl) ?_) | (at_builtin; refine wpList_append_own _ rfl _ _ 28 rfl w.heap.size 27 i0 (.agg #[.int .i64 0, .int .i64 0, .int .i64 0]) 3 24 Try.underlying28 hi0 hz0 hz1 hz2 rfl (by decide) _ _ _ rfl ((HO.out.alloc _).alloc _) ⟨wr.heap.size + 1, 0, none⟩ 1 1 [.int .i64 pl, .int .i64 1, .int .i64 0] rfl rfl (cells_new2 _ _ _ _) (by intro u hu; simp at hu; rcases hu with hu | hu | hu <;> (subst hu; rfl)) (by unfold maxLen; omega) (by omega) (by simp; omega) ?_; intro v6 w6 hown6 hgr6 _; have HO6 := Lib.hid hown6; have HGR6 := Lib.hid hgr6; clear hown6 hgr6))
            go_roundw
            case measure => simp [intOf]; omega
            case rel =>
              refine ⟨k + 1, by omega, by go_num, ((hkw.alloc _).alloc _).grown HGR6.out (fun g hg => .inr (HO.out.lt g hg).1), Lib.hid ?_, Lib.hid ?_⟩
              · rw [HS.out]; show World.ownsRow _ _ _ _ _ (evs ++ [_]).length (lanesC (evs ++ [_])); rw [lanesC_snoc, List.length_append, HE.out]; exact HO6.out
              · rw [HS.out, HM.out]
                exact ((HU.out.alloc (.cells #[.int .i64 pl, .int .i64 1, .int .i64 0] 27)).alloc (.cells #[.int .i64 pl, .int .i64 1, .int .i64 0] 27)).kept HGR6.out (own_sep ((HU.out.alloc (.cells #[.int .i64 pl, .int .i64 1, .int .i64 0] 27)).alloc (.cells #[.int .i64 pl, .int .i64 1, .int .i64 0] 27)) ((HO.out.alloc (.cells #[.int .i64 pl, .int .i64 1, .int .i64 0] 27)).alloc (.cells #[.int .i64 pl, .int .i64 1, .int .i64 0] 27)) (by decide))
    · obtain rfl : k = N := by omega
      go_wp2_with fail
      go_ret
      have hout := HO.out
      rw [← HNE.out] at hout
      obtain ⟨a', c', hv', hl', hb'⟩ := LnsV.ofOwn hout
      exact ⟨a', _, c', by rw [← hv']; rfl, hkw, hl', hb'⟩
end Go.Proofs.Ytkhchfjhmplaiaa
namespace Go
open Go.RowKit
/-- One clock is at most the other. -/
def LeC (a b : List Int) : Prop := ∀ p : Nat, a.getD p 0 ≤ b.getD p 0
theorem LeC.refl (a : List Int) : LeC a a := fun _ => Int.le_refl _
theorem LeC.trans {a b c : List Int} (h : LeC a b) (k : LeC b c) : LeC a c := fun p => Int.le_trans (h p) (k p)
theorem getD_out {a : List Int} {p : Nat} (h : a.length ≤ p) : a.getD p 0 = 0 := by simp [List.getD_eq_getElem?_getD, List.getElem?_eq_none h]
theorem lessL_iff {a b : List Int} : lessL a b = true ↔ LeC a b ∧ ∃ p, a.getD p 0 < b.getD p 0 := by
  unfold lessL geTo ltTo
  simp only [Bool.and_eq_true, List.all_eq_true, List.any_eq_true, List.mem_range, decide_eq_true_eq]
  constructor
  · rintro ⟨h1, p, _, h2⟩
    refine ⟨fun q => ?_, p, h2⟩
    by_cases hq : q < max a.length b.length
    · exact h1 q hq
    · rw [getD_out (show a.length ≤ q by omega), getD_out (show b.length ≤ q by omega)]; omega
  · rintro ⟨h1, p, h2⟩
    refine ⟨fun q _ => h1 q, p, ?_, h2⟩
    by_cases hp : p < max a.length b.length
    · exact hp
    · rw [getD_out (show a.length ≤ p by omega), getD_out (show b.length ≤ p by omega)] at h2; omega
theorem lessL_trans {a b c : List Int} (h : lessL a b = true) (k : lessL b c = true) : lessL a c = true := by
  rw [lessL_iff] at *
  obtain ⟨h1, p, h2⟩ := h
  exact ⟨h1.trans k.1, p, Int.lt_of_lt_of_le h2 (k.1 p)⟩
theorem lessL_asymm {a b : List Int} (h : lessL a b = true) : lessL b a = false := by
  cases k : lessL b a with
  | false => rfl
  | true =>
    rw [lessL_iff] at *
    obtain ⟨_, p, h2⟩ := h
    have := k.1 p
    omega
/-- The events of a place ahead of k. -/
def cntP (h : List Ln) (p : Nat) : Nat → Int
  | 0 => 0
  | k + 1 => cntP h p k + (if (lat h k).q = p then 1 else 0)
theorem cntP_mono (h : List Ln) (p : Nat) {i k : Nat} (hk : i ≤ k) : cntP h p i ≤ cntP h p k := by
  induction k with
  | zero => rw [show i = 0 by omega]; exact Int.le_refl _
  | succ k ih =>
    by_cases e : i = k + 1
    · rw [e]; exact Int.le_refl _
    · have := ih (by omega)
      rw [cntP]; split <;> omega
theorem cntP_nn (h : List Ln) (p k : Nat) : 0 ≤ cntP h p k := cntP_mono h p (Nat.zero_le k)
theorem getD_bump {c : List Int} {p : Nat} (hp : p < c.length) (r : Nat) : (bump c p).getD r 0 = if r = p then c.getD p 0 + 1 else c.getD r 0 := by
  unfold bump
  simp only [List.getD_eq_getElem?_getD, List.getElem?_set]
  by_cases e : p = r
  · subst e; simp [hp]
  · rw [if_neg e, if_neg (fun h => e h.symm)]
theorem zeros8_getD (r : Nat) : zeros8.getD r 0 = 0 := by
  by_cases hr : r < 8
  · rcases (by omega : r = 0 ∨ r = 1 ∨ r = 2 ∨ r = 3 ∨ r = 4 ∨ r = 5 ∨ r = 6 ∨ r = 7) with h | h | h | h | h | h | h | h <;> (subst h; rfl)
  · exact getD_out (by simp [zeros8]; omega)
theorem joinL_at (a b : List Int) (r : Nat) : (joinL a b).getD r 0 = max (a.getD r 0) (b.getD r 0) := by
  by_cases hr : r < max a.length b.length
  · exact joinL_getD a b r hr
  · rw [getD_out (by simp [joinL]; omega), getD_out (show a.length ≤ r by omega), getD_out (show b.length ≤ r by omega)]; omega
/-- What stands ahead of the count of the event itself. -/
def base (h : List Ln) (k : Nat) : List Int := if (lat h k).g = 3 then joinL ((lastIx h (lat h k).q k).elim zeros8 (clk h)) ((sendIx h (lat h k).u k).elim [] (clk h)) else (lastIx h (lat h k).q k).elim zeros8 (clk h)
theorem clk_base (h : List Ln) (k : Nat) : clk h k = bump (base h k) (lat h k).q.toNat := clk_eq h k
theorem last_clk {h : List Ln} (hk : HOk h) {k : Nat} (hl : k < h.length) (p : Int) : Clk k ((lastIx h p k).elim zeros8 (clk h)) := by
  cases hj : lastIx h p k with
  | none => exact zeros8_clk.more (by omega)
  | some j =>
    have := lastIx_lt hj
    exact (clk_ok hk j (by omega)).more (by omega)
theorem base_len {h : List Ln} (hk : HOk h) {k : Nat} (hl : k < h.length) : (base h k).length = 8 := by
  unfold base
  split
  · rename_i hg
    obtain ⟨j, hj⟩ := sendIx_take hk hl hg
    have := sendIx_lt hj
    rw [hj]
    exact (join_clk (last_clk hk hl _) ((clk_ok hk j (by omega)).more (show ((j : Int) + 1) ≤ k by omega)) (by omega)).len
  · exact (last_clk hk hl _).len
theorem clk_at {h : List Ln} (hk : HOk h) {k : Nat} (hl : k < h.length) (r : Nat) : (clk h k).getD r 0 = if (lat h k).q = r then (base h k).getD r 0 + 1 else (base h k).getD r 0 := by
  have he := hk.ev k hl
  have hb := base_len hk hl
  rw [clk_base]
  generalize lat h k = L at *
  rw [getD_bump (by omega)]
  by_cases e : r = L.q.toNat
  · rw [if_pos e, if_pos (by omega), e]
  · rw [if_neg e, if_neg (by omega)]
theorem last_base (h : List Ln) {k : Nat} (_hl : k < h.length) (_hk : HOk h) (r : Nat) : ((lastIx h (lat h k).q k).elim zeros8 (clk h)).getD r 0 ≤ (base h k).getD r 0 := by
  unfold base
  split
  · rw [joinL_at]; omega
  · exact Int.le_refl _
/-- The two laws of counting: a clock's own place counts the place's events; each place, at most so many. -/
theorem clk_cnt {h : List Ln} (hk : HOk h) : ∀ (n k : Nat), k < n → k < h.length → (∀ p, (clk h k).getD p 0 ≤ cntP h p (k + 1)) ∧ ∀ p : Nat, (lat h k).q = p → (clk h k).getD p 0 = cntP h p (k + 1) := by
  intro n
  induction n with
  | zero => intro k h; omega
  | succ n ih =>
    intro k hn hl
    have hlast : ∀ p r, ((lastIx h p k).elim zeros8 (clk h)).getD r 0 ≤ cntP h r k := fun p r => by
      cases hj : lastIx h p k with
      | none => rw [show (none : Option Nat).elim zeros8 (clk h) = zeros8 from rfl, zeros8_getD]; exact cntP_nn _ _ _
      | some j =>
        have := lastIx_lt hj
        exact Int.le_trans ((ih j (by omega) (by omega)).1 r) (cntP_mono h r (by omega))
    have hbase : ∀ r, (base h k).getD r 0 ≤ cntP h r k := fun r => by
      unfold base
      split
      · rename_i hg
        obtain ⟨j, hj⟩ := sendIx_take hk hl hg
        have := sendIx_lt hj
        rw [joinL_at, hj]
        have h1 := hlast (lat h k).q r
        have h2 := Int.le_trans ((ih j (by omega) (by omega)).1 r) (cntP_mono h r (show j + 1 ≤ k by omega))
        exact Int.max_le.2 ⟨h1, h2⟩
      · exact hlast _ r
    have hown : ∀ p : Nat, (lat h k).q = p → cntP h p k ≤ (base h k).getD p 0 := fun p hp => by
      refine Int.le_trans ?_ (last_base h hl hk p)
      rw [hp]
      cases hj : lastIx h (p : Int) k with
      | none =>
        rw [show (none : Option Nat).elim zeros8 (clk h) = zeros8 from rfl, zeros8_getD]
        have hn := lastIx_none hj
        have : ∀ m, m ≤ k → cntP h p m ≤ 0 := fun m => by
          induction m with
          | zero => intro _; exact Int.le_refl _
          | succ m ihm => intro hm; rw [cntP, if_neg (hn m (by omega))]; have := ihm (by omega); omega
        exact this k (Nat.le_refl _)
      | some j =>
        obtain ⟨h1, h2, h3⟩ := lastIx_lt hj
        have h4 := (ih j (by omega) (by omega)).2 p h2
        show cntP h p k ≤ (clk h j).getD p 0
        rw [h4]
        have : ∀ m, j + 1 ≤ m → m ≤ k → cntP h p m ≤ cntP h p (j + 1) := fun m => by
          induction m with
          | zero => intro hh; omega
          | succ m ihm =>
            intro h5 h6
            by_cases e : m = j
            · rw [e]; exact Int.le_refl _
            · rw [cntP, if_neg (h3 m (by omega) (by omega))]; have := ihm (by omega) (by omega); omega
        exact this k (by omega) (Nat.le_refl _)
    constructor
    · intro p
      rw [clk_at hk hl, cntP]
      have := hbase p
      split <;> omega
    · intro p hp
      rw [clk_at hk hl, cntP, if_pos hp, if_pos hp]
      have := hbase p
      have := hown p hp
      omega
/-- What is ahead came earlier. -/
theorem less_lt {h : List Ln} (hk : HOk h) {i k : Nat} (hi : i < h.length) (hl : k < h.length) (hL : LeC (clk h i) (clk h k)) : i ≤ k := by
  have he := hk.ev i hi
  obtain ⟨p, hp⟩ : ∃ p : Nat, (lat h i).q = p := ⟨(lat h i).q.toNat, by omega⟩
  have h1 := (clk_cnt hk (i + 1) i (by omega) hi).2 p hp
  have h2 := (clk_cnt hk (k + 1) k (by omega) hl).1 p
  have h3 := hL p
  by_cases e : i ≤ k
  · exact e
  · have h4 := cntP_mono h p (show k + 1 ≤ i by omega)
    rw [cntP, if_pos hp] at h1
    omega
theorem lessL_lt {h : List Ln} (hk : HOk h) {i k : Nat} (hi : i < h.length) (hl : k < h.length) (hL : lessL (clk h i) (clk h k) = true) : i < k := by
  have h1 := less_lt hk hi hl (lessL_iff.1 hL).1
  by_cases e : i = k
  · subst e
    have := lessL_asymm hL
    rw [hL] at this; cases this
  · omega
theorem lastIx_ge {h : List Ln} {p : Int} {k i : Nat} (hi : i < k) (hq : (lat h i).q = p) : ∃ j, lastIx h p k = some j ∧ i ≤ j := by
  cases hj : lastIx h p k with
  | none => exact absurd hq (lastIx_none hj i hi)
  | some j =>
    refine ⟨j, rfl, ?_⟩
    by_cases e : i ≤ j
    · exact e
    · exact absurd hq ((lastIx_lt hj).2.2 i (by omega) hi)
/-- On one place the earlier is at most the later. -/
theorem same_le {h : List Ln} (hk : HOk h) : ∀ (n k : Nat), k < n → k < h.length → ∀ i, i ≤ k → (lat h i).q = (lat h k).q → LeC (clk h i) (clk h k) := by
  intro n
  induction n with
  | zero => intro k h; omega
  | succ n ih =>
    intro k hn hl i hi hq
    by_cases e : i = k
    · rw [e]; exact LeC.refl _
    · obtain ⟨j, hj, hij⟩ := lastIx_ge (h := h) (show i < k by omega) hq
      have hjl := lastIx_lt hj
      refine (ih j (by omega) (by omega) i hij (by rw [hq, hjl.2.1])).trans fun r => ?_
      have h1 := last_base h hl hk r
      rw [hj] at h1
      have h2 : (clk h j).getD r 0 ≤ (base h k).getD r 0 := h1
      rw [clk_at hk hl r]
      split <;> omega
theorem le_less {h : List Ln} (hk : HOk h) {i k : Nat} (hik : i < k) (hl : k < h.length) (hL : LeC (clk h i) (clk h k)) : lessL (clk h i) (clk h k) = true := by
  refine lessL_iff.2 ⟨hL, ?_⟩
  have he := hk.ev k hl
  obtain ⟨p, hp⟩ : ∃ p : Nat, (lat h k).q = p := ⟨(lat h k).q.toNat, by omega⟩
  refine ⟨p, ?_⟩
  have h1 := (clk_cnt hk (i + 1) i (by omega) (by omega)).1 p
  have h2 := (clk_cnt hk (k + 1) k (by omega) hl).2 p hp
  have h3 := cntP_mono h p (show i + 1 ≤ k by omega)
  rw [cntP, if_pos hp] at h2
  omega
theorem same_less {h : List Ln} (hk : HOk h) {i k : Nat} (hik : i < k) (hl : k < h.length) (hq : (lat h i).q = (lat h k).q) : lessL (clk h i) (clk h k) = true :=
  le_less hk hik hl (same_le hk (k + 1) k (by omega) hl i (by omega) hq)
/-- The law of order. -/
theorem clockOrder_law {h : List Ln} (hk : HOk h) {i j k : Nat} (hi : i < h.length) (hj : j < h.length) (_ : k < h.length) :
    (lessL (clk h i) (clk h j) = true → lessL (clk h j) (clk h k) = true → lessL (clk h i) (clk h k) = true) ∧ (lessL (clk h i) (clk h j) = true → lessL (clk h j) (clk h i) = false) ∧ (lessL (clk h i) (clk h j) = true → i < j) ∧
    ((lat h i).q = (lat h j).q → (lessL (clk h i) (clk h j) = decide (i < j))) := by
  refine ⟨lessL_trans, lessL_asymm, lessL_lt hk hi hj, fun hq => ?_⟩
  by_cases e : i < j
  · rw [same_less hk e hj hq]; simp [e]
  · simp only [e, decide_false]
    cases hb : lessL (clk h i) (clk h j) with
    | false => rfl
    | true => exact absurd (lessL_lt hk hi hj hb) e
end Go
namespace Go.Proofs.Ytkhchfjhmplaiaa
open Go.RowKit
theorem own_cells {w : World} {B e n : Nat} {v : Value} {xs : List Value} (h : w.ownsRow B e 1 v n xs) (hn : 0 < n) : ∃ g cap, v = .slice (some ⟨g, 0, none⟩) n cap ∧ B ≤ g ∧ g < w.heap.size ∧ n ≤ cap ∧ cap ≤ maxLen ∧ (∀ i, i < n → w.cell? ⟨g, i, none⟩ = xs[i]?) ∧ ∀ i, w.frozen? ⟨g, i, none⟩ = false := by
  obtain ⟨hl, h⟩ := h
  rcases h with ⟨_, h0⟩ | ⟨g, cap, cur, rfl, hb, hg, hnc, hcm, hcs, ht⟩
  · omega
  · refine ⟨g, cap, rfl, hb, (Array.getElem?_eq_some_iff.1 hg).1, hnc, hcm, fun i hi => ?_, thaw hg⟩
    rw [cell_of_row w g i cur e (0, 0) hg]
    have : (cur.toList.take (n * 1))[i]? = xs[i]? := by rw [ht]
    rw [List.getElem?_take, if_pos (by omega)] at this
    simpa using this
theorem clk_wf {h : List Ln} (hk : HOk h) {i : Nat} (hi : i < h.length) : ∀ z ∈ clk h i, (Lit.int .i64 z).wf = true := fun z hz => by
  have := (clk_ok hk i hi).bd z hz
  have := hk.len
  exact wf_small (by omega) (by omega)
/-- The clocks in memory, each as a slice of numbers. -/
theorem clocks_at {a : Option Addr} {n c : Nat} {h : List Ln} {w : World} (hv : LnsV w a n c h) (hk : HOk h) (hn : 0 < n) :
    Calls Try.prog 25 #[.slice a n c] w fun e w' => ∃ g cap, e = .returned (.tuple #[.slice (some ⟨g, 0, none⟩) n cap, .int .i64 0]) ∧ Keep [] w w' ∧ w.heap.size ≤ g ∧ g < w'.heap.size ∧ n ≤ cap ∧ cap ≤ maxLen ∧ ∀ i, i < n → ∃ gi ci, w'.cell? ⟨g, i, none⟩ = some (.slice (some ⟨gi, 0, none⟩) 8 ci) ∧ IntsV w' (some ⟨gi, 0, none⟩) 8 ci (clk h i) := by
  have hl := hv.len
  refine (clocks_ok hv hk).mono ?_
  rintro e w' ⟨v, V, rfl, hk1, ho, hV⟩
  obtain ⟨g, cap, rfl, hg, hgl, hnc, hcm, hcell, _⟩ := own_cells ho hn
  refine ⟨g, cap, rfl, hk1, hg, hgl, hnc, hcm, fun i hi => ?_⟩
  obtain ⟨gi, ci, hvi, _⟩ := own_form (hV i hi) (by omega)
  obtain ⟨ai, ci', hve, hint, _⟩ := IntsV.ofOwn (hV i hi) (clk_wf hk (by omega))
  rw [hvi] at hve
  cases hve
  refine ⟨gi, ci, ?_, hint⟩
  rw [hcell i hi, List.getElem?_map, List.getElem?_range hi]
  show some (V i) = _
  rw [hvi]
set_option maxRecDepth 100000 in
set_option maxHeartbeats 1000000 in
theorem ahead_any {a : Option Addr} {n c : Nat} {h : List Ln} {w : World} (hv : LnsV w a n c h) (hk : HOk h) {i j : Nat} (hi : i < n) (hj : j < n) :
    Calls Try.prog 23 #[.slice a n c, .int .i64 i, .int .i64 j] w fun e w' => e = .returned (.tuple #[.bool (lessL (clk h i) (clk h j)), .int .i64 0]) ∧ Keep [] w w' := by
  have hc := Lib.hid (clocks_at hv hk (by omega))
  have hm := hv.most
  have hr := hv.room
  unfold maxLen at hm
  have h1 : ¬ (min (i : Int) j < 0) := by omega
  have h2 : ¬ (max (i : Int) j ≥ n) := by omega
  clear hv hk
  go_enter Try.func23, Try.ntmps23
  go_wp2_with (first | (go_at_call 25; refine hc.out.mono ?_; rintro e w1 ⟨g, cap, rfl, hk1, hg, hgl, hnc, hcm, hcs⟩; obtain ⟨gi, ci, hci, hii⟩ := hcs i hi; obtain ⟨gj, cj, hcj, hij⟩ := hcs j hj; have HII := Lib.hid hii; have HIJ := Lib.hid hij; have HK1 := Lib.hid hk1; unfold maxLen at hcm; clear hii hij hcs hk1))
  have e1 : (i : Int) < (n : Int) := by omega
  have e2 : (j : Int) < (n : Int) := by omega
  have e3 : (0 : Int) ≤ (i : Int) := by omega
  have e4 : (0 : Int) ≤ (j : Int) := by omega
  go_region_with (first | (go_at_call 27; refine (less_any (HII.out.keep (keep_drewN (Keep.refl [] _) _) (by simp)) (HIJ.out.keep (keep_drewN (Keep.refl [] _) _) (by simp))).mono ?_; rintro e w' ⟨rfl, rfl⟩))
  all_goals
    go_wp2_with fail
    go_ret2
    refine ⟨rfl, ?_⟩
    repeat (first | exact HK1.out | exact keep_drewN HK1.out _ | apply Keep.drew)
def begunH : List Ln := [⟨0, 2, 5⟩, ⟨1, 3, 5⟩]
theorem begun_ok : HOk begunH := by
  refine ⟨by decide, fun i hi => ?_, fun i j h1 h2 => ?_, fun i j h1 h2 => ?_, fun i hi => ?_⟩
  · rcases (by simp [begunH] at hi; omega : i = 0 ∨ i = 1) with h | h <;> (subst h; decide)
  · simp [begunH] at h2; obtain rfl : i = 0 := by omega
    obtain rfl : j = 1 := by omega
    decide
  · simp [begunH] at h2; obtain rfl : i = 0 := by omega
    obtain rfl : j = 1 := by omega
    decide
  · rcases (by simp [begunH] at hi; omega : i = 0 ∨ i = 1) with h | h
    · subst h; decide
    · subst h; intro _; exact ⟨0, by decide, by decide, by decide⟩
theorem begun_clk : clk begunH 1 = [1, 1, 0, 0, 0, 0, 0, 0] := by decide
theorem begun_lns (w : World) : LnsV (w.alloc (.cells #[.int .i64 0, .int .i64 2, .int .i64 5, .int .i64 1, .int .i64 3, .int .i64 5] 27)) (some ⟨w.heap.size, 0, none⟩) 2 2 begunH :=
  ⟨rfl, by omega, by decide, fun _ => ⟨w.heap.size, 0, rfl, fun i hi => by
    rw [cellAt (blk_new _ _), show (0 + i) = i by omega]
    rcases (by omega : i = 0 ∨ i = 1 ∨ i = 2 ∨ i = 3 ∨ i = 4 ∨ i = 5) with h | h | h | h | h | h <;> (subst h; rfl)⟩⟩
theorem begun_ints (w : World) : IntsV (w.alloc (.cells #[.int .i64 1, .int .i64 1, .int .i64 0, .int .i64 0, .int .i64 0, .int .i64 0, .int .i64 0, .int .i64 0] 3)) (some ⟨w.heap.size, 0, none⟩) 8 8 [1, 1, 0, 0, 0, 0, 0, 0] :=
  ⟨rfl, by omega, by decide, by decide, fun _ => ⟨w.heap.size, 0, rfl, fun i hi => by
    rw [cellAt (blk_new _ _), show (0 + i) = i by omega]
    rcases (by omega : i = 0 ∨ i = 1 ∨ i = 2 ∨ i = 3 ∨ i = 4 ∨ i = 5 ∨ i = 6 ∨ i = 7) with h | h | h | h | h | h | h | h <;> (subst h; rfl)⟩⟩
set_option maxRecDepth 100000 in
set_option maxHeartbeats 1000000 in
theorem begun_any (w : World) : Calls Try.prog 22 #[] w fun e w' => e = .returned (.bool true) ∧ Keep [] w w' := by
  have hc := Lib.hid (clocks_at (begun_lns w) begun_ok (by omega))
  have hk0 : Keep [] w (w.alloc (.cells #[.int .i64 0, .int .i64 2, .int .i64 5, .int .i64 1, .int .i64 3, .int .i64 5] 27)) := (Keep.refl _ _).alloc _
  have HK0 := Lib.hid hk0
  clear hk0
  go_enter Try.func22, Try.ntmps22
  go_wp2_with (first | (go_at_call 25; refine hc.out.mono ?_; rintro e w1 ⟨g, cap, rfl, hk1, hg, hgl, hnc, hcm, hcs⟩; obtain ⟨gi, ci, hci, hii⟩ := hcs 1 (by omega); rw [begun_clk] at hii; have HII := Lib.hid hii; have HK1 := Lib.hid hk1; unfold maxLen at hcm; clear hii hcs hk1; simp at hg; have hgne : ¬ g = w1.heap.size := by omega) | (go_at_call 34; refine (equal_any (HII.out.keep ((Keep.refl [] _).alloc _) (by simp)) (begun_ints _)).mono ?_; rintro e w2 ⟨rfl, hk2⟩))
  go_ret
  exact ⟨ret_bool (by decide), (HK0.out.trans HK1.out).trans (((Keep.refl _ _).alloc _).trans hk2)⟩
end Go.Proofs.Ytkhchfjhmplaiaa
namespace Go.Proofs.Ytkhchfjhmplaiaa
open Go.RowKit
/-- The history, at its length. -/
theorem history_at {a : Option Addr} {len cap N : Nat} {zs : List Int} {w : World} (hv : IntsV w a len cap zs) (hN : Hid ((hist zs).length = N)) :
    Calls Try.prog 20 #[.slice a len cap] w fun e w' => ∃ a c, e = .returned (.slice a N c) ∧ Keep [] w w' ∧ LnsV w' a N c (hist zs) := by
  refine (history_any hv).mono ?_
  rintro e w' ⟨a', n, c, rfl, hk, hl, _⟩
  obtain rfl : n = N := by rw [← hN.out, hl.len]
  exact ⟨a', c, rfl, hk, hl⟩
theorem ahead_at {a : Option Addr} {n c : Nat} {h : List Ln} {w : World} {i j : Nat} {b : Bool} (hv : LnsV w a n c h) (hk : Hid (HOk h)) (hi : i < n) (hj : j < n) (hb : Hid (lessL (clk h i) (clk h j) = b)) :
    Calls Try.prog 23 #[.slice a n c, .int .i64 i, .int .i64 j] w fun e w' => e = .returned (.tuple #[.bool b, .int .i64 0]) ∧ Keep [] w w' := by
  have := ahead_any hv hk.out hi hj
  rw [hb.out] at this
  exact this
theorem cells_q {w : World} {b off n c : Nat} {ls : List Ln} (h : LnsV w (some ⟨b, off, none⟩) n c ls) {i : Nat} (hi : i < n) : w.cell? ⟨b, off + i * 3, none⟩ = some (.int .i64 (lat ls i).q) := by
  obtain ⟨b', off', he, c0, _⟩ := h.at_ hi
  cases he
  exact c0
set_option maxRecDepth 100000 in
set_option maxHeartbeats 4000000 in
theorem clockOrder_walk (a : Option Addr) (len cap : Nat) (zs : List Int) (x y z : Int) (w : World) (hv : IntsV w a len cap zs) :
    Calls Try.prog 4 #[.slice a len cap, .int .i64 x, .int .i64 y, .int .i64 z] w fun e w' => e = .returned (.bool true) ∧ Keep [] w w' := by
  obtain ⟨N, hN⟩ : ∃ N, (hist zs).length = N := ⟨_, rfl⟩
  have hok : HOk (hist zs) := (hist_inv zs).ok
  have hN60 := hist_len zs
  rw [hN] at hN60
  have hNle : N ≤ 60 := by omega
  have HV := Lib.hid hv
  clear hv hN60
  by_cases h0 : N = 0
  · have HN := Lib.hid (hN.trans h0)
    clear hN h0 hNle hok
    go_enter Try.func4, Try.ntmps4
    go_wp2_with (first | (go_at_call 22; refine (begun_any _).mono ?_; rintro e w1 ⟨rfl, hk1⟩) | (go_at_call 20; refine (history_at (HV.out.keep hk1 (by simp)) HN).mono ?_; rintro e w2 ⟨a2, c2, rfl, hk2, hv2⟩; clear hv2))
    go_ret
    exact ⟨rfl, hk1.trans hk2⟩
  · obtain ⟨i, hi, hi1⟩ := at_nat x (show 0 < N by omega)
    obtain ⟨j, hj, hj1⟩ := at_nat y (show 0 < N by omega)
    obtain ⟨k, hk, hk1'⟩ := at_nat z (show 0 < N by omega)
    have hlaw := clockOrder_law hok (i := i) (j := j) (k := k) (by omega) (by omega) (by omega)
    obtain ⟨A, hA⟩ : ∃ A, lessL (clk (hist zs) i) (clk (hist zs) j) = A := ⟨_, rfl⟩
    obtain ⟨B, hB⟩ : ∃ B, lessL (clk (hist zs) j) (clk (hist zs) k) = B := ⟨_, rfl⟩
    obtain ⟨C, hC⟩ : ∃ C, lessL (clk (hist zs) i) (clk (hist zs) k) = C := ⟨_, rfl⟩
    obtain ⟨D, hD⟩ : ∃ D, lessL (clk (hist zs) j) (clk (hist zs) i) = D := ⟨_, rfl⟩
    rw [hA, hB, hC, hD] at hlaw
    obtain ⟨qi, hqi⟩ : ∃ q, (lat (hist zs) i).q = q := ⟨_, rfl⟩
    obtain ⟨qj, hqj⟩ : ∃ q, (lat (hist zs) j).q = q := ⟨_, rfl⟩
    rw [hqi, hqj] at hlaw
    have HA := Lib.hid hA
    have HB := Lib.hid hB
    have HC := Lib.hid hC
    have HD := Lib.hid hD
    have HQI := Lib.hid hqi
    have HQJ := Lib.hid hqj
    have HN := Lib.hid hN
    have HOK := Lib.hid hok
    have HI := Lib.hid hi
    have HJ := Lib.hid hj
    have HKK := Lib.hid hk
    have HLAW := Lib.hid hlaw
    clear hA hB hC hD hqi hqj hN hok hi hj hk hlaw
    by_cases hq : qi = qj
    all_goals as_aux_lemma =>
      (try subst hq)
      go_enter Try.func4, Try.ntmps4
      go_wp2_with (first | (go_at_call 22; refine (begun_any _).mono ?_; rintro e w1 ⟨rfl, hk1⟩) | (go_at_call 20; refine (history_at (HV.out.keep hk1 (by simp)) HN).mono ?_; rintro e w2 ⟨a2, c2, rfl, hk2, hv2⟩; obtain ⟨b, off, rfl, _⟩ := hv2.at_ hi1; have HV2 := Lib.hid hv2; have hr2 := hv2.room; have hm2 := hv2.most; unfold maxLen at hm2; clear hv2) | (go_at_call 21; (with_reducible refine (rest_at HI (by omega) (by omega)).mono ?_); rintro e w' ⟨rfl, rfl⟩) | (go_at_call 21; (with_reducible refine (rest_at HJ (by omega) (by omega)).mono ?_); rintro e w' ⟨rfl, rfl⟩) | (go_at_call 21; (with_reducible refine (rest_at HKK (by omega) (by omega)).mono ?_); rintro e w' ⟨rfl, rfl⟩) | (go_at_call 23; (with_reducible refine (ahead_at HV2.out HOK hi1 hj1 HA).mono ?_); rintro e w3 ⟨rfl, hk3⟩; have HV3 := Lib.hid (HV2.out.keep hk3 (by simp))) | (go_at_call 23; (with_reducible refine (ahead_at HV3.out HOK hj1 hk1' HB).mono ?_); rintro e w4 ⟨rfl, hk4⟩; have HV4 := Lib.hid (HV3.out.keep hk4 (by simp))) | (go_at_call 23; (with_reducible refine (ahead_at HV4.out HOK hi1 hk1' HC).mono ?_); rintro e w5 ⟨rfl, hk5⟩; have HV5 := Lib.hid (HV4.out.keep hk5 (by simp))) | (go_at_call 23; (with_reducible refine (ahead_at HV5.out HOK hj1 hi1 HD).mono ?_); rintro e w6 ⟨rfl, hk6⟩; have ci := cells_q (HV5.out.keep hk6 (by simp)) hi1; have cj := cells_q (HV5.out.keep hk6 (by simp)) hj1; rw [HQI.out] at ci; rw [HQJ.out] at cj) | (with_reducible refine Txt.wp_region_text mixed quiet (by decide +kernel) ?_) | (with_reducible refine Txt.text_done (by kernel_rfl) ?_))
      all_goals
        go_ret
        refine ⟨?_, by first | exact ((((hk1.trans hk2).trans hk3).trans hk4).trans hk5).trans hk6 | exact (((((hk1.trans hk2).trans hk3).trans hk4).trans hk5).trans hk6).drew⟩
        have hl := HLAW.out
        first | rfl | (exfalso; omega) | (refine ret_bool ?_; clear HLAW HI HJ HKK HV; simp_all; done) | (refine ret_bool ?_; clear HLAW HI HJ HKK HV; simp_all; omega) | (exfalso; clear HLAW HI HJ HKK HV; simp at hl; omega) | (exfalso; clear HLAW HI HJ HKK HV; simp_all; done) | (exfalso; clear HLAW HI HJ HKK HV; simp_all; omega) | trace_state
end Go.Proofs.Ytkhchfjhmplaiaa
namespace Go
open Go.RowKit
/-- A step from one event to a later one: along a place, or with a message. -/
def edgeB (h : List Ln) (x y : Nat) : Bool := decide ((lat h x).q = (lat h y).q) || (decide ((lat h x).g = 2) && (decide ((lat h y).g = 3) && decide ((lat h x).u = (lat h y).u)))
inductive Past (h : List Ln) (i : Nat) : Nat → Prop
  | here : Past h i i
  | step {x y : Nat} : Past h i x → x < y → edgeB h x y = true → Past h i y
theorem Past.le {h : List Ln} {i k : Nat} (r : Past h i k) : i ≤ k := by
  induction r with
  | here => exact Nat.le_refl _
  | step _ h1 _ ih => omega
theorem sendIx_eq {h : List Ln} (hk : HOk h) {x y : Nat} (hxy : x < y) (hl : y < h.length) (hg : (lat h x).g = 2) {u : Int} (hu : (lat h x).u = u) : sendIx h u y = some x := by
  cases hs : sendIx h u y with
  | none => exact absurd ⟨hg, hu⟩ (sendIx_none hs x hxy)
  | some j =>
    obtain ⟨h1, h2, h3⟩ := sendIx_lt hs
    rcases Nat.lt_trichotomy j x with e | e | e
    · exact absurd (h3.trans hu.symm) (hk.sends j x e (by omega) h2 hg)
    · rw [e]
    · exact absurd (hu.trans h3.symm) (hk.sends x j e (by omega) hg h2)
theorem base_le {h : List Ln} (hk : HOk h) {k : Nat} (hl : k < h.length) : LeC (base h k) (clk h k) := fun r => by
  rw [clk_at hk hl r]; split <;> omega
theorem edge_le {h : List Ln} (hk : HOk h) {x y : Nat} (hxy : x < y) (hl : y < h.length) (he : edgeB h x y = true) : LeC (clk h x) (clk h y) := by
  unfold edgeB at he
  simp only [Bool.or_eq_true, Bool.and_eq_true, decide_eq_true_eq] at he
  rcases he with he | ⟨h1, h2, h3⟩
  · exact same_le hk (y + 1) y (by omega) hl x (by omega) he
  · refine LeC.trans (fun r => ?_) (base_le hk hl)
    unfold base
    rw [if_pos h2, joinL_at, sendIx_eq hk hxy hl h1 h3]
    exact Int.le_max_right _ _
theorem reach_le {h : List Ln} (hk : HOk h) {i k : Nat} (r : Past h i k) (hl : k < h.length) : LeC (clk h i) (clk h k) := by
  induction r with
  | here => exact LeC.refl _
  | step _ h1 h2 ih => exact (ih (by omega)).trans (edge_le hk h1 hl h2)
/-- Who has counted an event of a place has it in the past. -/
theorem cnt_reach {h : List Ln} (hk : HOk h) {i p : Nat} (_ : i < h.length) (hp : (lat h i).q = p) : ∀ (n k : Nat), k < n → k < h.length → cntP h p (i + 1) ≤ (clk h k).getD p 0 → Past h i k := by
  intro n
  induction n with
  | zero => intro k h; omega
  | succ n ih =>
    intro k hn hl hc
    have hpos : 1 ≤ cntP h p (i + 1) := by rw [cntP, if_pos hp]; have := cntP_nn h p i; omega
    by_cases hq : (lat h k).q = p
    · rw [(clk_cnt hk (k + 1) k (by omega) hl).2 p hq] at hc
      by_cases e : i = k
      · subst e; exact .here
      · by_cases e2 : i < k
        · exact .step .here e2 (by simp only [edgeB, hp, hq, decide_true, Bool.true_or])
        · have := cntP_mono h p (show k + 1 ≤ i by omega)
          rw [cntP, if_pos hp] at hc
          omega
    · rw [clk_at hk hl, if_neg hq] at hc
      have hlast : cntP h p (i + 1) ≤ ((lastIx h (lat h k).q k).elim zeros8 (clk h)).getD p 0 → Past h i k := fun hc => by
        cases hj : lastIx h (lat h k).q k with
        | none => rw [hj, show (none : Option Nat).elim zeros8 (clk h) = zeros8 from rfl, zeros8_getD] at hc; omega
        | some j =>
          rw [hj] at hc
          obtain ⟨h1, h2, _⟩ := lastIx_lt hj
          exact .step (ih j (by omega) (by omega) hc) h1 (by simp only [edgeB, h2, decide_true, Bool.true_or])
      unfold base at hc
      split at hc
      · rename_i hg
        rw [joinL_at] at hc
        obtain ⟨j, hj⟩ := sendIx_take hk hl hg
        obtain ⟨h1, h2, h3⟩ := sendIx_lt hj
        rw [hj] at hc
        rcases Int.le_total (((lastIx h (lat h k).q k).elim zeros8 (clk h)).getD p 0) (((some j).elim [] (clk h)).getD p 0) with e | e
        · rw [Int.max_eq_right e] at hc
          exact .step (ih j (by omega) (by omega) hc) h1 (by simp only [edgeB, h2, h3, hg, decide_true, Bool.and_self, Bool.or_true])
        · rw [Int.max_eq_left e] at hc
          exact hlast hc
      · exact hlast hc
theorem le_reach {h : List Ln} (hk : HOk h) {i k : Nat} (hi : i < h.length) (hl : k < h.length) (hc : LeC (clk h i) (clk h k)) : Past h i k := by
  have he := hk.ev i hi
  obtain ⟨p, hp⟩ : ∃ p : Nat, (lat h i).q = p := ⟨(lat h i).q.toNat, by omega⟩
  have h1 := (clk_cnt hk (i + 1) i (by omega) hi).2 p hp
  exact cnt_reach hk hi hp (k + 1) k (by omega) hl (by rw [← h1]; exact hc p)
/-- The events come to, as the law counts them. -/
def comeL (h : List Ln) (i : Nat) : Nat → List Bool
  | 0 => []
  | m + 1 => comeL h i m ++ [if m < i then false else if m = i then true else (List.range m).any fun x => decide (i ≤ x) && ((comeL h i m).getD x false && edgeB h x m)]
theorem comeL_len (h : List Ln) (i m : Nat) : (comeL h i m).length = m := by
  induction m with
  | zero => rfl
  | succ m ih => simp [comeL, ih]
def comeB (h : List Ln) (i k : Nat) : Bool := (comeL h i (k + 1)).getD k false
theorem comeL_getD (h : List Ln) (i m k : Nat) (hk : k < m) : (comeL h i m).getD k false = comeB h i k := by
  induction m with
  | zero => omega
  | succ m ih =>
    by_cases e : k = m
    · rw [e]; rfl
    · rw [← ih (by omega), comeL]
      simp only [List.getD_eq_getElem?_getD]
      rw [List.getElem?_append_left (by rw [comeL_len]; omega)]
theorem comeB_eq (h : List Ln) (i k : Nat) : comeB h i k = if k < i then false else if k = i then true else (List.range k).any fun x => decide (i ≤ x) && (comeB h i x && edgeB h x k) := by
  have h1 : comeB h i k = if k < i then false else if k = i then true else (List.range k).any fun x => decide (i ≤ x) && ((comeL h i k).getD x false && edgeB h x k) := by
    unfold comeB
    rw [comeL]
    simp only [List.getD_eq_getElem?_getD]
    rw [List.getElem?_append_right (by rw [comeL_len]; omega), comeL_len]
    simp
  rw [h1]
  split
  · rfl
  · split
    · rfl
    · rw [Bool.eq_iff_iff, List.any_eq_true, List.any_eq_true]
      constructor
      · rintro ⟨x, hx, hb⟩
        refine ⟨x, hx, ?_⟩
        rw [comeL_getD h i k x (List.mem_range.1 hx)] at hb
        exact hb
      · rintro ⟨x, hx, hb⟩
        refine ⟨x, hx, ?_⟩
        rw [comeL_getD h i k x (List.mem_range.1 hx)]
        exact hb
theorem comeB_reach (h : List Ln) (i : Nat) : ∀ (n k : Nat), k < n → (comeB h i k = true ↔ Past h i k) := by
  intro n
  induction n with
  | zero => intro k h; omega
  | succ n ih =>
    intro k hn
    rw [comeB_eq]
    by_cases h1 : k < i
    · rw [if_pos h1]
      exact ⟨fun h => absurd h (by decide), fun r => absurd r.le (by omega)⟩
    · rw [if_neg h1]
      by_cases h2 : k = i
      · rw [if_pos h2, h2]; exact ⟨fun _ => .here, fun _ => rfl⟩
      · rw [if_neg h2]
        simp only [List.any_eq_true, List.mem_range, Bool.and_eq_true, decide_eq_true_eq]
        constructor
        · rintro ⟨x, hx, hix, hc, he⟩
          exact .step ((ih x (by omega)).1 hc) hx he
        · intro r
          cases r with
          | here => omega
          | step r' hx he => exact ⟨_, hx, r'.le, (ih _ (by omega)).2 r', he⟩
/-- The law of exactness. -/
theorem clockExact_law {h : List Ln} (hk : HOk h) {i k : Nat} (hi : i < h.length) (hl : k < h.length) : lessL (clk h i) (clk h k) = (decide (i ≠ k) && comeB h i k) := by
  rw [Bool.eq_iff_iff, Bool.and_eq_true, decide_eq_true_eq, comeB_reach h i (k + 1) k (by omega)]
  constructor
  · intro hb
    have := lessL_lt hk hi hl hb
    exact ⟨by omega, le_reach hk hi hl (lessL_iff.1 hb).1⟩
  · rintro ⟨h1, h2⟩
    exact le_less hk (by have := h2.le; omega) hl (reach_le hk h2 hl)
end Go
namespace Go
open Go.RowKit
/-- The sum of the first k components. -/
def sumTo (xs : List Int) : Nat → Int
  | 0 => 0
  | k + 1 => sumTo xs k + xs.getD k 0
/-- The events ahead of i, of the first m. -/
def aheadN (h : List Ln) (i : Nat) : Nat → Int
  | 0 => 0
  | m + 1 => aheadN h i m + (if lessL (clk h m) (clk h i) = true then 1 else 0)
/-- The events apart from i, of the first m. -/
def apartN (h : List Ln) (i : Nat) : Nat → Int
  | 0 => 0
  | m + 1 => apartN h i m + (if (!lessL (clk h i) (clk h m) && !lessL (clk h m) (clk h i)) = true then 1 else 0)
theorem apart_ahead {h : List Ln} (hk : HOk h) {i : Nat} (hi : i < h.length) : ∀ m, m ≤ i → apartN h i m + aheadN h i m = m := by
  intro m
  induction m with
  | zero => intro _; rfl
  | succ m ih =>
    intro hm
    have h1 : lessL (clk h i) (clk h m) = false := by
      cases hb : lessL (clk h i) (clk h m) with
      | false => rfl
      | true => have := lessL_lt hk hi (by omega) hb; omega
    rw [apartN, aheadN, h1]
    have := ih (by omega)
    cases lessL (clk h m) (clk h i) <;> simp <;> omega
/-- Of a place's events, those in i's past or i itself. -/
def pastN (h : List Ln) (i p : Nat) : Nat → Int
  | 0 => 0
  | m + 1 => pastN h i p m + (if (lat h m).q = p ∧ (m = i ∨ lessL (clk h m) (clk h i) = true) then 1 else 0)
theorem past_iff {h : List Ln} (hk : HOk h) {i m p : Nat} (hi : i < h.length) (hm : m < h.length) (hp : (lat h m).q = p) : (m = i ∨ lessL (clk h m) (clk h i) = true) ↔ cntP h p (m + 1) ≤ (clk h i).getD p 0 := by
  have h1 := (clk_cnt hk (m + 1) m (by omega) hm).2 p hp
  constructor
  · rintro (rfl | h2)
    · omega
    · have := (lessL_iff.1 h2).1 p
      omega
  · intro h2
    have h3 := cnt_reach hk hm hp (i + 1) i (by omega) hi h2
    by_cases e : m = i
    · exact .inl e
    · exact .inr (le_less hk (by have := h3.le; omega) hi (reach_le hk h3 hi))
theorem pastN_eq {h : List Ln} (hk : HOk h) {i p : Nat} (hi : i < h.length) : ∀ m, m ≤ h.length → pastN h i p m = min (cntP h p m) ((clk h i).getD p 0) := by
  have h0 := ((clk_ok hk i hi).at_ (by omega) p).1
  intro m
  induction m with
  | zero => intro _; show (0 : Int) = min 0 _; omega
  | succ m ih =>
    intro hm
    rw [pastN, ih (by omega), cntP]
    by_cases hp : (lat h m).q = p
    · have h1 := past_iff hk hi (show m < h.length by omega) hp
      rw [cntP, if_pos hp] at h1
      rw [if_pos hp]
      by_cases h2 : cntP h p m + 1 ≤ (clk h i).getD p 0
      · rw [if_pos ⟨hp, h1.2 h2⟩]; omega
      · rw [if_neg (fun h3 => h2 (h1.1 h3.2))]; omega
    · rw [if_neg (fun h3 => hp h3.1), if_neg hp]; omega
theorem pastN_clk {h : List Ln} (hk : HOk h) {i p : Nat} (hi : i < h.length) : pastN h i p (i + 1) = (clk h i).getD p 0 := by
  rw [pastN_eq hk hi (i + 1) (by omega)]
  have := (clk_cnt hk (i + 1) i (by omega) hi).1 p
  omega
theorem pastN_all {h : List Ln} (hk : HOk h) {i : Nat} (hi : i < h.length) : ∀ m, m ≤ i → pastN h i 0 m + pastN h i 1 m + pastN h i 2 m + pastN h i 3 m + pastN h i 4 m + pastN h i 5 m + pastN h i 6 m + pastN h i 7 m = aheadN h i m := by
  intro m
  induction m with
  | zero => intro _; rfl
  | succ m ih =>
    intro hm
    have := ih (by omega)
    have he := hk.ev m (by omega)
    simp only [pastN, aheadN]
    generalize lat h m = L at *
    cases lessL (clk h m) (clk h i) with
    | false => simp [show ¬ m = i by omega]; omega
    | true =>
      simp only [or_true, and_true, if_true]
      rcases (by omega : L.q = 0 ∨ L.q = 1 ∨ L.q = 2 ∨ L.q = 3 ∨ L.q = 4 ∨ L.q = 5 ∨ L.q = 6 ∨ L.q = 7) with e | e | e | e | e | e | e | e <;> (rw [e]; simp; omega)
theorem sumTo_clk {h : List Ln} (hk : HOk h) {i : Nat} (hi : i < h.length) : sumTo (clk h i) 8 = aheadN h i i + 1 := by
  have h1 := pastN_all hk hi i (Nat.le_refl _)
  have he := hk.ev i hi
  have h2 : ∀ p : Nat, (clk h i).getD p 0 = pastN h i p i + (if (lat h i).q = p then 1 else 0) := fun p => by
    rw [← pastN_clk hk hi, pastN]; simp
  simp only [sumTo, h2]
  generalize lat h i = L at *
  rcases (by omega : L.q = 0 ∨ L.q = 1 ∨ L.q = 2 ∨ L.q = 3 ∨ L.q = 4 ∨ L.q = 5 ∨ L.q = 6 ∨ L.q = 7) with e | e | e | e | e | e | e | e <;> (rw [e]; simp; omega)
theorem aheadN_nn (h : List Ln) (i : Nat) : ∀ m, 0 ≤ aheadN h i m ∧ aheadN h i m ≤ m := by
  intro m
  induction m with
  | zero => exact ⟨Int.le_refl _, Int.le_refl _⟩
  | succ m ih => rw [aheadN]; split <;> omega
/-- All pairs apart, of the first m events; and all that are ahead of one. -/
def apartAll (h : List Ln) : Nat → Int
  | 0 => 0
  | m + 1 => apartAll h m + apartN h m m
def aheadAll (h : List Ln) : Nat → Int
  | 0 => 0
  | m + 1 => aheadAll h m + aheadN h m m
theorem apart_law {h : List Ln} (hk : HOk h) : ∀ m, m ≤ h.length → 2 * (apartAll h m + aheadAll h m) = m * (m - 1) := by
  intro m
  induction m with
  | zero => intro _; rfl
  | succ m ih =>
    intro hm
    have h1 := ih (by omega)
    have h2 := apart_ahead hk (show m < h.length by omega) m (Nat.le_refl _)
    rw [apartAll, aheadAll]
    have h3 : ((m + 1 : Nat) : Int) * (((m + 1 : Nat) : Int) - 1) = (m : Int) * (m - 1) + 2 * m := by
      rw [show ((m + 1 : Nat) : Int) = (m : Int) + 1 by omega, show (m : Int) + 1 - 1 = m by omega, Int.add_mul, Int.mul_sub]; omega
    rw [h3, ← h1]; omega
end Go
namespace Go.Proofs.Ytkhchfjhmplaiaa
open Go.RowKit
/-- The clocks of n events, in the cells of block g. -/
def ClksV (w : World) (g n : Nat) (h : List Ln) : Prop := ∀ i, i < n → ∃ gi ci, w.cell? ⟨g, i, none⟩ = some (.slice (some ⟨gi, 0, none⟩) 8 ci) ∧ IntsV w (some ⟨gi, 0, none⟩) 8 ci (clk h i)
theorem ClksV.keep {w w' : World} {g n : Nat} {h : List Ln} (q : ClksV w g n h) (k : Keep [] w w') : ClksV w' g n h := fun i hi =>
  let ⟨gi, ci, h1, h2⟩ := q i hi
  ⟨gi, ci, k.cell h1 (by simp), h2.keep k (by simp)⟩
theorem less_at {a1 a2 : Option Addr} {n1 c1 n2 c2 : Nat} {xs ys : List Int} {w : World} {b : Bool} (hx : IntsV w a1 n1 c1 xs) (hy : IntsV w a2 n2 c2 ys) (hb : Hid (lessL xs ys = b)) :
    Calls Try.prog 27 #[.slice a1 n1 c1, .slice a2 n2 c2] w fun e w' => e = .returned (.bool b) ∧ w = w' := by
  have := less_any hx hy
  rw [hb.out] at this
  exact this
/-- 'Less' in a region that only reads. -/
theorem less_q {a1 a2 : Option Addr} {n1 c1 n2 c2 m : Nat} {xs ys : List Int} {w : World} {b : Bool} (hx : IntsV w a1 n1 c1 xs) (hy : IntsV w a2 n2 c2 ys) (hb : Hid (lessL xs ys = b)) :
    Calls Try.prog 27 #[.slice a1 n1 c1, .slice a2 n2 c2] (w.drewN m) fun e w'' => e = .returned (.bool b) ∧ ∃ k, w'' = w.drewN k :=
  Calls.quiet_of_same ((less_at (hx.keep (keep_drewN (Keep.refl [] _) _) (by simp)) (hy.keep (keep_drewN (Keep.refl [] _) _) (by simp)) hb).mono fun _ _ h => ⟨h.1, h.2.symm⟩)
theorem apartAll_bd (h : List Ln) : ∀ m, 0 ≤ apartAll h m ∧ apartAll h m ≤ 1000 * m ∨ 1000 < m := by
  have h1 : ∀ i m, 0 ≤ apartN h i m ∧ apartN h i m ≤ m := fun i m => by
    induction m with
    | zero => exact ⟨Int.le_refl _, Int.le_refl _⟩
    | succ m ih => rw [apartN]; split <;> omega
  intro m
  induction m with
  | zero => exact .inl ⟨Int.le_refl _, Int.le_refl _⟩
  | succ m ih =>
    rw [apartAll]
    have := h1 m m
    omega
set_option maxRecDepth 100000 in
set_option maxHeartbeats 2000000 in
theorem apart_any {a : Option Addr} {n c : Nat} {h : List Ln} {w : World} (hv : LnsV w a n c h) (hk : HOk h) (hn : 0 < n) :
    Calls Try.prog 24 #[.slice a n c] w fun e w' => e = .returned (.tuple #[.int .i64 (apartAll h n), .int .i64 0]) ∧ Keep [] w w' := by
  have hc := Lib.hid (clocks_at hv hk hn)
  have hl := Lib.hid hv.len
  have hn2 : n ≤ 200 := by have := hk.len; have := hv.len; omega
  have HK := Lib.hid hk
  clear hv hk
  go_enter Try.func24, Try.ntmps24
  go_wp2_with (first | (go_at_call 25; refine hc.out.mono ?_; rintro e w1 ⟨g, cap, rfl, hk1, hg, hgl, hnc, hcm, hcs⟩; have HCS : Hid (ClksV w1 g n h) := Lib.hid hcs; unfold maxLen at hcm; clear hcs))
  go_loopw [6, 7, 19] (fun v _ i wr => ∃ I : Nat, I ≤ n ∧ v = .int .i64 (apartAll h I) ∧ i = .int .i64 I ∧ Keep [] w wr ∧ Hid (ClksV wr g n h)) (fun _ _ i _ => n - (intOf i).toNat)
  case atStart => exact ⟨0, by omega, rfl, rfl, hk1, HCS⟩
  case round =>
    obtain ⟨I, hI, rfl, rfl, hkw, HQ⟩ := hrel
    by_cases hlt : I < n
    · have hdec : decide ((I : Int) < n) = true := by simpa using hlt
      have hbI := apartAll_bd h I
      obtain ⟨S, hS⟩ : ∃ S, apartAll h I = S := ⟨_, rfl⟩
      rw [hS] at hbI
      have HS := Lib.hid hS
      rw [hS]
      clear hS
      go_wp2_with fail
      go_loopw [6, 8, 23] (fun v _ i wr => ∃ K : Nat, K ≤ I ∧ v = .int .i64 (S + apartN h I K) ∧ i = .int .i64 K ∧ Keep [] w wr ∧ Hid (ClksV wr g n h)) (fun _ _ i _ => I - (intOf i).toNat)
      case atStart => exact ⟨0, by omega, by simp [apartN], rfl, hkw, HQ⟩
      case round =>
        obtain ⟨K, hK, rfl, rfl, hkx, HX⟩ := hrel
        by_cases hlk : K < I
        · obtain ⟨gi, ci, hci, hii⟩ := HX.out I hlt
          obtain ⟨gk, ck, hck, hik⟩ := HX.out K (by omega)
          have HII := Lib.hid hii
          have HIK := Lib.hid hik
          have hno : lessL (clk h I) (clk h K) = false := by
            cases hb : lessL (clk h I) (clk h K) with
            | false => rfl
            | true => have := lessL_lt HK.out (by rw [hl.out]; omega) (by rw [hl.out]; omega) hb; omega
          have HNO := Lib.hid hno
          obtain ⟨b, hb⟩ : ∃ b, lessL (clk h K) (clk h I) = b := ⟨_, rfl⟩
          have HB := Lib.hid hb
          have hap : apartN h I (K + 1) = apartN h I K + (if b = false then 1 else 0) := by rw [apartN, hno, hb]; cases b <;> rfl
          have hbd : 0 ≤ apartN h I K ∧ apartN h I K ≤ 1000 := by
            have h1 := apart_ahead HK.out (show I < h.length by rw [hl.out]; omega) K hK
            have h2 := aheadN_nn h I K
            have h3 : ∀ m, 0 ≤ apartN h I m := fun m => by
              induction m with
              | zero => exact Int.le_refl _
              | succ m ih => rw [apartN]; split <;> omega
            have := h3 K
            omega
          obtain ⟨T, hT⟩ : ∃ T, apartN h I K = T := ⟨_, rfl⟩
          rw [hT] at hap hbd
          rw [hT]
          have HAP := Lib.hid hap
          clear hii hik hno hb hap hT
          go_wp2_with fail
          have f1 : (I : Int) < (n : Int) := by omega
          have f2 : (K : Int) < (n : Int) := by omega
          cases b
          all_goals
            go_quiet (first | (go_at_call 27; exact less_q HII.out HIK.out HNO) | (go_at_call 27; exact less_q HIK.out HII.out HB))
            go_wp2_with fail
            go_roundw
            case measure => simp [intOf]; omega
            case rel =>
              refine ⟨K + 1, by omega, ?_, by go_num, keep_drewN hkx _, Lib.hid (HX.out.keep (keep_drewN (Keep.refl [] _) _))⟩
              rw [HAP.out]
              simp only [if_true, if_false, Bool.true_eq_false]
              first | rfl | (congr 1; omega) | (go_num)
        · have HKI := Lib.hid (show K = I by omega)
          go_wp2_with fail
          go_roundw
          case measure => simp [intOf]; omega
          case rel => exact ⟨I + 1, by omega, by rw [apartAll, HS.out, HKI.out], by go_num, hkx, HX⟩
    · have HIN := Lib.hid (show I = n by omega)
      go_wp2_with fail
      go_ret2
      exact ⟨by rw [← HIN.out]; rfl, hkw⟩
end Go.Proofs.Ytkhchfjhmplaiaa
