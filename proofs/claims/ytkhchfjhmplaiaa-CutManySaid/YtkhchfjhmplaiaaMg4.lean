/- Texts laid together: H3 HS HP4. -/
import Derived.Test.YtkhchfjhmplaiaaMg3
import Derived.Shelf.Slices.Delete
import Derived.Shelf.Slices.Cells
import Derived.Ground.Names2Prog
import Derived.Ground.SlgnProg
import Derived.Shelf.SlicesE.Clone
import Derived.Laws.IdiomCopy
namespace Go.Proofs.Ytkhchfjhmplaiaa
open Go.RowKit
set_option maxRecDepth 100000 in
set_option maxHeartbeats 8000000 in
theorem clocks_ok {a : Option Addr} {n c : Nat} {h : List Ln} {w : World} (hv : LnsV w a n c h) (hk : HOk h) :
    Calls Try.prog 25 #[.slice a n c] w fun e w' => ∃ v V, e = .returned (.tuple #[v, .int .i64 0]) ∧ Keep [] w w' ∧ w'.ownsRow w.heap.size 22 1 v n ((List.range n).map V) ∧ ∀ i, i < n → w'.ownsRow w.heap.size 3 1 (V i) 8 ((clk h i).map (Value.int .i64)) := by
  have hmm := @run_makeMap Try.prog
  have hmk1 := mk37
  have hmk2 := mk22
  have hn2 : n ≤ 200 := by have := hk.len; have := hv.len; omega
  have HV := Lib.hid hv
  have HK := Lib.hid hk
  have HL := Lib.hid hv.len
  obtain ⟨i1, hi1, hx0, hx1, hx2⟩ := info_parts info22
  clear hv hk
  go_enter Try.func25, Try.ntmps25
  go_wp2_with (first | (go_at_call 51; refine (check_ok HV.out HK.out).mono ?_; rintro e w1 ⟨rfl, hk1⟩) | (with_reducible refine Txt.wp_region_text mixed quiet (by decide +kernel) ?_) | (with_reducible refine Txt.text_done (by kernel_rfl) ?_))
  have hsz1 := hk1.size
  go_loopw [20] (fun i wr => ∃ (j : Nat) (Z : Nat → Value), j ≤ 8 ∧ i = .int .i64 j ∧ Keep [] w wr ∧ w1.heap.size < wr.heap.size ∧ Hid (∀ p, p < j → wr.ownsRow w.heap.size 3 1 (Z p) 8 (zeros8.map (Value.int .i64))) ∧ Hid (wr.heap[w1.heap.size]? = some (.cells ((List.range 8).map fun p => if p < j then Z p else .slice none 0 0).toArray 22 (0, 0)))) (fun i _ => 8 - (intOf i).toNat)
  case atStart => exact ⟨0, fun _ => .slice none 0 0, by omega, rfl, hk1.alloc _, by simp, fun p hp => absurd hp (by omega), blk_new _ _⟩
  case round =>
    obtain ⟨j, Z, hj, rfl, hkw, hsz, HZ, HB⟩ := hrel
    by_cases hlt : j < 8
    · have hb := HB.out
      have hc := cellAt hb j
      have hf := thaw hb
      have hcj : wr.cell? ⟨w1.heap.size, j, none⟩ = some (.slice none 0 0) := by
        rw [hc, List.getElem?_toArray, List.getElem?_map, List.getElem?_range hlt]; simp
      clear hb hc
      go_wp2_with fail
      go_roundw
      case measure => simp [intOf]; omega
      case rel =>
        refine ⟨j + 1, fun p => if p = j then .slice (some ⟨wr.heap.size, 0, none⟩) 8 8 else Z p, by omega, by go_num, ?_, by simp; omega, Lib.hid (fun p hp => ?_), Lib.hid ?_⟩
        · repeat (first | exact hkw | apply Keep.drew | apply Keep.alloc | refine Keep.setCell ?_ (.inr (by omega)) _)
        · show World.ownsRow _ _ _ _ (if p = j then _ else _) _ _
          by_cases e : p = j
          · rw [if_pos e]
            refine ⟨rfl, .inr ⟨wr.heap.size, 8, #[.int .i64 0, .int .i64 0, .int .i64 0, .int .i64 0, .int .i64 0, .int .i64 0, .int .i64 0, .int .i64 0], rfl, by omega, ?_, by omega, by decide, rfl, rfl⟩⟩
            have h9 := blk_new (wr.setCell ⟨w1.heap.size, j, none⟩ (.slice (some ⟨wr.heap.size, 0, none⟩) 8 8)) (.cells #[.int .i64 0, .int .i64 0, .int .i64 0, .int .i64 0, .int .i64 0, .int .i64 0, .int .i64 0, .int .i64 0] 3)
            rw [show (wr.setCell ⟨w1.heap.size, j, none⟩ (.slice (some ⟨wr.heap.size, 0, none⟩) 8 8)).heap.size = wr.heap.size by simp] at h9
            exact h9
          · rw [if_neg e]
            have h9 := HZ.out p (by omega)
            have hks : Keep [w1.heap.size] wr (wr.setCell ⟨w1.heap.size, j, none⟩ (.slice (some ⟨wr.heap.size, 0, none⟩) 8 8)) := (Keep.refl _ _).setCell (.inl (by simp)) _
            exact (own_keep h9 hks (fun g hg hm => own_ne h9 HB.out (by decide) g hg (by simpa using hm))).alloc _
        · have h9 := HB.out
          have h10 : (wr.setCell ⟨w1.heap.size, j, none⟩ (.slice (some ⟨wr.heap.size, 0, none⟩) 8 8)).heap[w1.heap.size]? = some (.cells (((List.range 8).map fun p => if p < j then Z p else .slice none 0 0).set j (.slice (some ⟨wr.heap.size, 0, none⟩) 8 8)).toArray 22 (0, 0)) := by
            rw [blk_setCell, if_pos rfl, h9]; simp
          have h11 : ((List.range 8).map fun p => if p < j then Z p else .slice none 0 0).set j (.slice (some ⟨wr.heap.size, 0, none⟩) 8 8) = (List.range 8).map fun p => if p < j + 1 then (if p = j then .slice (some ⟨wr.heap.size, 0, none⟩) 8 8 else Z p) else .slice none 0 0 := by
            refine List.ext_getElem (by simp) fun p h1 h2 => ?_
            simp only [List.getElem_set, List.getElem_map, List.getElem_range]
            by_cases e : j = p
            · subst e; simp
            · rw [if_neg e]
              by_cases h3 : p < j
              · rw [if_pos h3, if_pos (by omega), if_neg (fun h => e h.symm)]
              · rw [if_neg h3, if_neg (by omega)]
          rw [h11] at h10
          exact ((Keep.refl [] _).alloc _).at h10 (by simp)
    · have hj8 := Lib.hid (show j = 8 by omega)
      have hb := HB.out
      rw [hj8.out] at hb
      have h11 : ((List.range 8).map fun p => if p < 8 then Z p else .slice none 0 0) = (List.range 8).map fun (p : Nat) => (lastIx h (p : Int) 0).elim (Z p) (fun _ => .slice none 0 0) := List.map_congr_left fun p hp => by rw [if_pos (List.mem_range.1 hp)]; rfl
      rw [h11] at hb
      have HK0 : Hid (Kept (wr.alloc (.map #[] 0)) w.heap.size w1.heap.size wr.heap.size 0 h (fun _ => .slice none 0 0) Z) := Lib.hid ⟨fun i hi => absurd hi (by omega), fun p hp => (HZ.out p (by rw [hj8.out]; exact hp)).alloc _, ((Keep.refl [] _).alloc _).at hb (by simp), MapF.made wr Try.prog 3⟩
      clear hb h11 HB hmk1 hmk2
      go_wp2_with fail
      obtain ⟨wo, rfl⟩ : ∃ wo : World, wo = wr := ⟨_, rfl⟩
      go_loopw [8, 31] (fun v i wr => ∃ (k : Nat) (V : Nat → Value), k ≤ n ∧ i = .int .i64 k ∧ Keep [] w wr ∧ Hid (Kept wr w.heap.size w1.heap.size wo.heap.size k h V Z) ∧ Hid (wr.ownsRow wo.heap.size 22 1 v k ((List.range k).map V))) (fun _ i _ => n - (intOf i).toNat)
      case atStart => exact ⟨0, fun _ => .slice none 0 0, by omega, rfl, hkw.alloc _, HK0, World.ownsRow_nil _ _ _ _⟩
      case round =>
        obtain ⟨k, V, hk, rfl, hkw2, HQ, HO⟩ := hrel
        by_cases hlk : k < n
        · have hlh : k < h.length := by rw [HL.out]; exact hlk
          have he := HK.out.ev k hlh
          obtain ⟨b, off, rfl, c0, c1, c2⟩ := (HV.out.keep hkw2 (by simp)).at_ hlk
          have hsz2 := hkw2.size
          have hclk := clk_eq h k
          have hstake := sendIx_take HK.out hlh
          have HC := Lib.hid (fun i (hi : i < k) => (clk_ok HK.out i (by omega)).more (B' := 200) (by omega))
          obtain ⟨⟨q, g, u⟩, hL⟩ : ∃ L, lat h k = L := ⟨_, rfl⟩
          rw [hL] at he c0 c1 c2 hclk hstake
          dsimp only at he c0 c1 c2 hclk hstake
          obtain ⟨p, rfl⟩ : ∃ p : Nat, q = p := ⟨q.toNat, by omega⟩
          have HLL := Lib.hid hL
          have HWF := Lib.hid (wf_msg he.2.2.2.2.1 he.2.2.2.2.2)
          clear hL
          -- the last clock of the place
          obtain ⟨lv, hlv⟩ : ∃ lv, (lastIx h (p : Int) k).elim (Z p) V = lv := ⟨_, rfl⟩
          obtain ⟨lc, hlc⟩ : ∃ lc, (lastIx h (p : Int) k).elim zeros8 (clk h) = lc := ⟨_, rfl⟩
          have hlo : wr.ownsRow w.heap.size 3 1 lv 8 (lc.map (Value.int .i64)) ∧ Clk 200 lc := by
            rw [← hlv, ← hlc]
            cases hx : lastIx h (p : Int) k with
            | none => exact ⟨HQ.out.zero p (by omega), zeros8_clk.more (by omega)⟩
            | some i => exact ⟨HQ.out.clk i (lastIx_lt hx).1, HC.out i (lastIx_lt hx).1⟩
          have hlcell : wr.cell? ⟨w1.heap.size, p, none⟩ = some lv := by
            rw [cellAt HQ.out.last, List.getElem?_toArray, List.getElem?_map, List.getElem?_range (by omega)]
            show some ((lastIx h (p : Int) k).elim (Z p) V) = some lv
            rw [hlv]
          have hlfz := thaw HQ.out.last
          have hLlt : w1.heap.size < wr.heap.size := lt_of_blk HQ.out.last
          have hLne : ¬ w1.heap.size = wr.heap.size := by omega
          have hble : b < wr.heap.size := World.block_lt_of_cell? _ _ c0
          have hbne : ¬ b = wr.heap.size := by omega
          rw [hlc] at hclk
          have HLV := Lib.hid hlv
          have HLO := Lib.hid hlo.1
          have HLC := Lib.hid hlo.2
          clear hlv hlc hlo
          obtain ⟨gl, cl, rfl, _, hgl, _, _, _, _⟩ := own_form HLO.out (by omega)
          obtain ⟨al, cl', hve, hlint, _⟩ := IntsV.ofOwn HLO.out (fun z hz => wf_small (by have := HLC.out.bd z hz; omega) (by have := HLC.out.bd z hz; omega))
          cases hve
          have HLINT := Lib.hid hlint
          clear hlint
          have hjn := Lib.hid (join_nil HLC.out (by omega))
          have hjlen := Lib.hid HLC.out.len
          have hkA : Keep [] wr (wr.alloc (.cells #[.int .i64 p, .int .i64 g, .int .i64 u] 27)) := (Keep.refl [] _).alloc _
          go_wp2_with fail
          refine (join_any (HLINT.out.keep hkA (by simp)) (IntsV.nil _) (by omega) (by omega)).mono ?_
          rintro e w3 ⟨v3, rfl, hk3, ho3⟩
          have hn3 := hk3.at (k := wr.heap.size) (o := .cells #[.int .i64 p, .int .i64 g, .int .i64 u] 27 (0, 0)) (by exact blk_new _ _) (by simp)
          obtain ⟨n0, n1, n2, _⟩ := row3 hn3
          have HN3 := Lib.hid hn3
          rw [hjn.out, show max 8 0 = 8 from rfl] at ho3
          have ho3' := ho3.mono (show w.heap.size ≤ (wr.alloc (.cells #[.int .i64 p, .int .i64 g, .int .i64 u] 27)).heap.size by simp; omega)
          have hk13 : Keep [] wr w3 := hkA.trans hk3
          have HQ3 := Lib.hid (HQ.out.keep0 hk13)
          have HOU3 := Lib.hid (own_keep HO.out hk13 (by simp))
          have hlast3 := cellAt HQ3.out.last p
          obtain ⟨oldp, holdp⟩ : ∃ x, ((List.range 8).map fun (p : Nat) => (lastIx h (p : Int) k).elim (Z p) V)[p]? = some x := ⟨_, List.getElem?_eq_getElem (by simp; omega)⟩
          rw [List.getElem?_toArray, holdp] at hlast3
          have HOLD := Lib.hid holdp
          have hlz3 := thaw HQ3.out.last
          have hsz3 := hk13.size
          have hge3 : ∀ gg, v3.ownBlock = some gg → wr.heap.size < gg := fun gg hgg => by have := (ho3.lt gg hgg).1; simp at this; omega
          have HO3 := Lib.hid ho3'
          have HGE3 := Lib.hid hge3
          clear ho3 ho3' hn3 holdp hge3 hlcell hlfz c0 c1 c2
          have hrng : ∀ cv : Value, (List.range (k + 1)).map (fun i => if i = k then cv else V i) = (List.range k).map V ++ [cv] := fun cv => by
            rw [List.range_succ, List.map_append]
            congr 1
            · exact List.map_congr_left fun i hi => by rw [if_neg (by have := List.mem_range.1 hi; omega)]
            · simp
          have hkw0 : Keep [] w w3 := hkw2.trans hk13
          have hQs := HQ.out.sent.lt
          by_cases hg3 : g = 3
          · subst hg3
            obtain ⟨js, hjs⟩ := hstake rfl
            have hjk := (sendIx_lt hjs).1
            rw [if_pos rfl, hjs] at hclk
            have hclk0 : clk h k = bump (joinL lc (clk h js)) ((p : Int)).toNat := hclk
            clear hclk
            have HCJ := Lib.hid (HC.out js hjk)
            have hVo := HQ3.out.clk js hjk
            obtain ⟨g3, cap3, rfl, hg3b, hg3l, hc38, hc3m, hcell3, hfz3⟩ := own_form HO3.out (by omega)
            obtain ⟨a3, c3', hve3, hint3, _⟩ := IntsV.ofOwn HO3.out (fun z hz => wf_small (by have := HLC.out.bd z hz; omega) (by have := HLC.out.bd z hz; omega))
            cases hve3
            obtain ⟨gj, cj, hVj, _, _, _, _, _, _⟩ := own_form hVo (by omega)
            rw [hVj] at hVo
            obtain ⟨aj, cj', hvej, hintj, _⟩ := IntsV.ofOwn hVo (fun z hz => wf_small (by have := HCJ.out.bd z hz; omega) (by have := HCJ.out.bd z hz; omega))
            cases hvej
            have HI3 := Lib.hid hint3
            have HIJ := Lib.hid hintj
            have hjc := Lib.hid (join_clk HLC.out HCJ.out (by omega))
            clear hcell3 hint3 hintj hVo hfz3
            go_wp2_with (first | (with_reducible refine Txt.wp_region_text mixed quiet (by decide +kernel) ?_) | (with_reducible refine Txt.text_done (by kernel_rfl) ?_) | (at_lookup; refine wpList_lookup_f _ rfl _ _ 82 rfl 3 22 Try.underlying82 Try.underlying3 (.slice none 0 0) (zeroS _) wo.heap.size k (fun x => (sendIx h x k).map V) rfl HQ3.out.sent u rfl HWF.out ?_))
            refine (join_any HI3.out HIJ.out (by omega) (by omega)).mono ?_
            rintro e w4 ⟨v4, rfl, hk4, ho4⟩
            rw [show max 8 8 = 8 from rfl] at ho4
            have HO4 := Lib.hid (ho4.mono (show w.heap.size ≤ w3.heap.size by omega))
            have HGE4 : Hid (∀ gg, v4.ownBlock = some gg → w3.heap.size ≤ gg) := Lib.hid (fun gg hgg => (ho4.lt gg hgg).1)
            have HQ4 := Lib.hid (HQ3.out.keep0 hk4)
            have HOU4 := Lib.hid (own_keep HOU3.out hk4 (by simp))
            have m0 := hk4.cell n0 (by simp)
            have m1 := hk4.cell n1 (by simp)
            have hlast4 := hk4.cell hlast3 (by simp)
            have hlz4 := thaw HQ4.out.last
            have hsz4 := hk4.size
            have hkw4 : Keep [] w w4 := hkw0.trans hk4
            clear n0 n1 n2 hlast3 hlz3 ho4 hkw0 hVj
            have hkw0 := hkw4
            obtain ⟨gc, capc, rfl, hgcb, hgcl, hcc8, hccm, hcellc, hfzc⟩ := own_form HO4.out (by omega)
            have hcp := hcellc p (by omega)
            have hbd := hjc.out.at_ (by omega) p
            obtain ⟨x, hx⟩ : ∃ x, (joinL lc (clk h js)).getD p 0 = x := ⟨_, rfl⟩
            rw [hx] at hcp hbd
            have HX := Lib.hid hx
            have hgew0 : w3.heap.size ≤ gc := HGE4.out gc rfl
            have hwr3 : wr.heap.size < w3.heap.size := lt_of_blk HN3.out
            have hgew : wr.heap.size < gc := by omega
            have hne1 : ¬ gc = wr.heap.size := by omega
            have hg2 : ¬ (3 : Int) = 2 := by decide
            have hclk := Lib.hid hclk0
            clear hcellc hx hclk0 hkw4
            have hXk : Keep [gc] w4 (w4.setCell ⟨gc, p, none⟩ (.int .i64 (x + 1))) := (Keep.refl _ _).setCell (.inl (by simp)) _
            have hVg : ∀ i, i < k → (V i).ownBlock ≠ some gc := fun i hi e => by have := ((HQ.out.clk i hi).lt gc e).2; omega
            have hZg : ∀ p, p < 8 → (Z p).ownBlock ≠ some gc := fun p hp e => by have := ((HQ.out.zero p hp).lt gc e).2; omega
            have HQX := Lib.hid (HQ4.out.keep hXk (fun b hb => by simp at hb; subst hb; exact ⟨by omega, by have := HQ.out.sent.lt; omega⟩) (fun b hb => by simp at hb; subst hb; exact hVg) (fun b hb => by simp at hb; subst hb; exact hZg))
            have HCX : Hid ((w4.setCell ⟨gc, p, none⟩ (.int .i64 (x + 1))).ownsRow w.heap.size 3 1 (.slice (some ⟨gc, 0, none⟩) 8 capc) 8 ((clk h k).map (Value.int .i64))) := Lib.hid (by
              have h9 := own_put HO4.out (i := p) (x + 1)
              have h10 : (joinL lc (clk h js)).set p (x + 1) = clk h k := by rw [hclk.out, bump, show ((p : Int)).toNat = p from rfl, HX.out]
              rw [h10] at h9; exact h9)
            have HOX : Hid ((w4.setCell ⟨gc, p, none⟩ (.int .i64 (x + 1))).ownsRow wo.heap.size 22 1 u8 k ((List.range k).map V)) := Lib.hid (own_keep HOU4.out hXk (fun g hg hm => by have := (HO.out.lt g hg).2; simp at hm; omega))
            have hcl : u8.ownBlock ≠ some w1.heap.size := fun e => by have := (HO.out.lt _ e).1; omega
            have HNE : Hid (∀ b, u8.ownBlock = some b → b ∉ [w1.heap.size]) := Lib.hid (fun b hb hm => by simp at hm; subst hm; exact hcl hb)
            have HNE2 : Hid (∀ b, u8.ownBlock = some b → b ∉ [gc, w1.heap.size]) := Lib.hid (fun b hb hm => by
              simp at hm
              rcases hm with hm | hm
              · have := (HO.out.lt b hb).2; omega
              · subst hm; exact hcl hb)
            clear hXk hVg hZg hcl
            have HS4 := Lib.hid (show (∀ i, i < k → (w4.setCell ⟨gc, p, none⟩ (.int .i64 (x + 1))).ownsRow w.heap.size 3 1 (V i) 8 ((Go.clk h i).map (Value.int .i64))) ∧ _ ∧ _ ∧ MapF (w4.setCell ⟨gc, p, none⟩ (.int .i64 (x + 1))) Try.prog 3 wo.heap.size (k + 1) (fun x => (sendIx h x (k + 1)).map fun i => if i = k then (.slice (some ⟨gc, 0, none⟩) 8 capc) else V i) ∧ _ from ⟨HQX.out.clk, HQX.out.zero, HQX.out.last, by rw [sendIx_map_same (show (lat h k).g ≠ 2 by rw [HLL.out]; exact hg2)]; exact HQX.out.sent.mono (by omega), HCX.out⟩)
            go_wp2_with (first | (with_reducible refine Txt.wp_region_text mixed quiet (by decide +kernel) ?_) | (with_reducible refine Txt.text_done (by kernel_rfl) ?_) | (at_builtin; refine wpList_append_own _ rfl _ _ 37 rfl wo.heap.size 22 i1 (.slice none 0 0) 1 24 Try.underlying37 hi1 hx0 hx1 hx2 rfl (by decide) _ _ _ rfl (own_keep HOU4.out (by repeat (first | exact Keep.refl _ _ | apply Keep.drew | apply Keep.alloc | refine Keep.setCell ?_ (.inl (by simp)) _)) HNE2.out) ⟨w4.heap.size, 0, none⟩ 1 1 [.slice (some ⟨gc, 0, none⟩) 8 capc] rfl rfl (cell_one_at (by simp) _ _) (by intro u hu; simp at hu; subst hu; rfl) (by unfold maxLen; omega) (by omega) (by simp; omega) ?_; intro v5 w5 hown5 hgr5 _; have HO5 := Lib.hid hown5; have HGR5 := Lib.hid hgr5; clear hown5 hgr5))
            go_roundw
            case measure => simp [intOf]; omega
            case rel =>
              have hstep := Kept.step HS4.out.1 HS4.out.2.1 HS4.out.2.2.1 HS4.out.2.2.2.1 HS4.out.2.2.2.2 (show (lat h k).q = (p : Int) by rw [HLL.out])
              have ho4 : World.ownsRow ((w4.setCell ⟨gc, p, none⟩ (.int .i64 (x + 1))).setCell ⟨w1.heap.size, p, none⟩ (.slice (some ⟨gc, 0, none⟩) 8 capc)) wo.heap.size 22 1 u8 k ((List.range k).map V) := own_keep HOX.out ((Keep.refl [w1.heap.size] _).setCell (.inl (by simp)) _) HNE.out
              have hst2 := Kept.keep0 hstep ((Keep.refl [] _).alloc (.cells #[.slice (some ⟨gc, 0, none⟩) 8 capc] 22))
              have hfin := Kept.append hst2 (ho4.alloc (.cells #[.slice (some ⟨gc, 0, none⟩) 8 capc] 22)) (by omega) HGR5.out
              have hkf : Keep [] w w5 := by
                refine Keep.grown ?_ HGR5.out (fun g hg => .inr (by have := (HO.out.lt g hg).1; omega))
                repeat (first | exact hkw0 | apply Keep.drew | apply Keep.alloc | refine Keep.setCell ?_ (.inr (by omega)) _)
              refine ⟨k + 1, fun i => if i = k then (.slice (some ⟨gc, 0, none⟩) 8 capc) else V i, by omega, by go_num, hkf, Lib.hid hfin, Lib.hid ?_⟩
              rw [hrng]; exact HO5.out
          · have hgb : (g == 3) = false := by simpa using hg3
            rw [if_neg hg3] at hclk
            obtain ⟨gc, capc, rfl, hg3b, hg3l, hc38, hc3m, hcell3, hfz3⟩ := own_form HO3.out (by omega)
            have hcp := hcell3 p (by omega)
            have hbd := HLC.out.at_ (by omega) p
            obtain ⟨x, hx⟩ : ∃ x, lc.getD p 0 = x := ⟨_, rfl⟩
            rw [hx] at hcp hbd
            have HX := Lib.hid hx
            have hne1 : ¬ gc = wr.heap.size := by have := HGE3.out gc rfl; omega
            have hgew : wr.heap.size < gc := HGE3.out gc rfl
            have hclk' := Lib.hid hclk
            clear hcell3 hx hclk
            have hclk := hclk'
            clear hclk'
            by_cases hg2 : g = 2
            · subst hg2
              have hXk : Keep [gc] w3 (w3.setCell ⟨gc, p, none⟩ (.int .i64 (x + 1))) := (Keep.refl _ _).setCell (.inl (by simp)) _
              have hVg : ∀ i, i < k → (V i).ownBlock ≠ some gc := fun i hi e => by have := ((HQ.out.clk i hi).lt gc e).2; omega
              have hZg : ∀ p, p < 8 → (Z p).ownBlock ≠ some gc := fun p hp e => by have := ((HQ.out.zero p hp).lt gc e).2; omega
              have HQX := Lib.hid (HQ3.out.keep hXk (fun b hb => by simp at hb; subst hb; exact ⟨by omega, by have := HQ.out.sent.lt; omega⟩) (fun b hb => by simp at hb; subst hb; exact hVg) (fun b hb => by simp at hb; subst hb; exact hZg))
              have HCX : Hid ((w3.setCell ⟨gc, p, none⟩ (.int .i64 (x + 1))).ownsRow w.heap.size 3 1 (.slice (some ⟨gc, 0, none⟩) 8 capc) 8 ((clk h k).map (Value.int .i64))) := Lib.hid (by
                have h9 := own_put HO3.out (i := p) (x + 1)
                have h10 : lc.set p (x + 1) = clk h k := by rw [hclk.out, bump, show ((p : Int)).toNat = p from rfl, HX.out]
                rw [h10] at h9; exact h9)
              have HOX : Hid ((w3.setCell ⟨gc, p, none⟩ (.int .i64 (x + 1))).ownsRow wo.heap.size 22 1 u8 k ((List.range k).map V)) := Lib.hid (own_keep HOU3.out hXk (fun g hg hm => by have := (HO.out.lt g hg).2; simp at hm; omega))
              have hcl : u8.ownBlock ≠ some w1.heap.size := fun e => by have := (HO.out.lt _ e).1; omega
              have HNE : Hid (∀ b, u8.ownBlock = some b → b ∉ [w1.heap.size]) := Lib.hid (fun b hb hm => by simp at hm; subst hm; exact hcl hb)
              have HNE2 : Hid (∀ b, u8.ownBlock = some b → b ∉ [gc, w1.heap.size]) := Lib.hid (fun b hb hm => by
                simp at hm
                rcases hm with hm | hm
                · have := (HO.out.lt b hb).2; omega
                · subst hm; exact hcl hb)
              clear hXk hVg hZg hcl
              have HNS : Hid (∀ b, u8.ownBlock = some b → b ∉ [wo.heap.size]) := Lib.hid (fun b hb hm => by
                simp at hm
                subst hm
                rcases HOX.out.2 with ⟨he0, _⟩ | ⟨g9, cap9, cur9, he9, _, hgg9, _⟩
                · rw [he0] at hb; cases hb
                · rw [he9] at hb
                  have e1 : g9 = wo.heap.size := by simpa [Value.ownBlock] using hb
                  exact HQX.out.sent.notCells hgg9 e1.symm)
              have HN0X := Lib.hid (((Keep.refl [gc] w3).setCell (a := gc) (i := p) (.inl (by simp)) (.int .i64 (x + 1))).cell n0 (by simp; omega))
              go_wp2_with (first | (with_reducible refine Txt.wp_region_text mixed quiet (by decide +kernel) ?_) | (with_reducible refine Txt.text_done (by kernel_rfl) ?_) | (at_mapUpdate; refine wpList_update_f _ rfl _ _ _ 82 rfl 3 22 Try.underlying82 Try.underlying3 wo.heap.size k (fun x => (sendIx h x k).map V) rfl HQX.out.sent (by unfold maxLen; omega) u (.slice (some ⟨gc, 0, none⟩) 8 capc) rfl rfl HWF.out ?_; intro w4 hm4 hgr4; have HM4 := Lib.hid hm4; have HGR4 := Lib.hid hgr4; have hk4 : Keep [wo.heap.size] (w3.setCell ⟨gc, p, none⟩ (.int .i64 (x + 1))) w4 := Keep.ofGrown hgr4 (fun x hx => by cases hx; simp); have hsz4 : w3.heap.size ≤ w4.heap.size := (by have h9 := hk4.size; simpa using h9); have n40 := hk4.cell HN0X.out (by simp; omega); have HOX4 := Lib.hid (own_keep HOX.out hk4 HNS.out); have h4l := hk4.at HQX.out.last (by simp; omega); have h4c := cellAt h4l p; rw [List.getElem?_toArray, HOLD.out] at h4c; have h4z := thaw h4l; clear hm4 hgr4 h4l) | (at_builtin; refine wpList_append_own _ rfl _ _ 37 rfl wo.heap.size 22 i1 (.slice none 0 0) 1 24 Try.underlying37 hi1 hx0 hx1 hx2 rfl (by decide) _ _ _ rfl (own_keep HOX4.out (by repeat (first | exact Keep.refl _ _ | apply Keep.drew | apply Keep.alloc | refine Keep.setCell ?_ (.inl (by simp)) _)) HNE.out) ⟨w4.heap.size, 0, none⟩ 1 1 [.slice (some ⟨gc, 0, none⟩) 8 capc] rfl rfl (cell_one_at (by simp) _ _) (by intro u hu; simp at hu; subst hu; rfl) (by unfold maxLen; omega) (by omega) (by simp; omega) ?_; intro v5 w5 hown5 hgr5 _; have HO5 := Lib.hid hown5; have HGR5 := Lib.hid hgr5; clear hown5 hgr5))
              go_roundw
              case measure => simp [intOf]; omega
              case rel =>
                have hnS : ∀ (vv : Value) (zs : List Value), World.ownsRow (w3.setCell ⟨gc, p, none⟩ (.int .i64 (x + 1))) w.heap.size 3 1 vv 8 zs → w4.ownsRow w.heap.size 3 1 vv 8 zs := fun vv zs ho => own_keep ho hk4 (fun g hg hm => by
                  simp at hm
                  subst hm
                  rcases ho.2 with ⟨he0, _⟩ | ⟨g9, cap9, cur9, he9, _, hgg9, _⟩
                  · rw [he0] at hg; cases hg
                  · rw [he9] at hg
                    have e1 : g9 = wo.heap.size := by simpa [Value.ownBlock] using hg
                    exact HQX.out.sent.notCells hgg9 e1.symm)
                have hmap : MapF w4 Try.prog 3 wo.heap.size (k + 1) (fun x => (sendIx h x (k + 1)).map fun i => if i = k then (.slice (some ⟨gc, 0, none⟩) 8 capc) else V i) := by
                  rw [sendIx_map_put (show (lat h k).g = 2 by rw [HLL.out]), HLL.out]; exact HM4.out
                have hstep := Kept.step (cv := .slice (some ⟨gc, 0, none⟩) 8 capc) (fun i hi => hnS _ _ (HQX.out.clk i hi)) (fun p hp => hnS _ _ (HQX.out.zero p hp)) (hk4.at HQX.out.last (by simp; omega)) hmap (hnS _ _ HCX.out) (show (lat h k).q = (p : Int) by rw [HLL.out])
                have ho4 : World.ownsRow (w4.setCell ⟨w1.heap.size, p, none⟩ (.slice (some ⟨gc, 0, none⟩) 8 capc)) wo.heap.size 22 1 u8 k ((List.range k).map V) := own_keep HOX4.out ((Keep.refl [w1.heap.size] _).setCell (.inl (by simp)) _) HNE.out
                have hst2 := Kept.keep0 hstep ((Keep.refl [] _).alloc (.cells #[.slice (some ⟨gc, 0, none⟩) 8 capc] 22))
                have hfin := Kept.append hst2 (ho4.alloc (.cells #[.slice (some ⟨gc, 0, none⟩) 8 capc] 22)) (by omega) HGR5.out
                have hkf : Keep [] w w5 := by
                  refine Keep.grown ?_ HGR5.out (fun g hg => .inr (by have := (HO.out.lt g hg).1; omega))
                  have hkx : Keep [] w w4 := Keep.call (hkw0.setCell (a := gc) (i := p) (.inr (by omega)) (.int .i64 (x + 1))) hk4 (fun z hz => .inr (by simp at hz; omega))
                  repeat (first | exact hkx | apply Keep.drew | apply Keep.alloc | refine Keep.setCell ?_ (.inr (by omega)) _)
                refine ⟨k + 1, fun i => if i = k then (.slice (some ⟨gc, 0, none⟩) 8 capc) else V i, by omega, by go_num, hkf, Lib.hid hfin, Lib.hid ?_⟩
                rw [hrng]; exact HO5.out
            · have hgc : (g == 2) = false := by simpa using hg2
              have hXk : Keep [gc] w3 (w3.setCell ⟨gc, p, none⟩ (.int .i64 (x + 1))) := (Keep.refl _ _).setCell (.inl (by simp)) _
              have hVg : ∀ i, i < k → (V i).ownBlock ≠ some gc := fun i hi e => by have := ((HQ.out.clk i hi).lt gc e).2; omega
              have hZg : ∀ p, p < 8 → (Z p).ownBlock ≠ some gc := fun p hp e => by have := ((HQ.out.zero p hp).lt gc e).2; omega
              have HQX := Lib.hid (HQ3.out.keep hXk (fun b hb => by simp at hb; subst hb; exact ⟨by omega, by have := HQ.out.sent.lt; omega⟩) (fun b hb => by simp at hb; subst hb; exact hVg) (fun b hb => by simp at hb; subst hb; exact hZg))
              have HCX : Hid ((w3.setCell ⟨gc, p, none⟩ (.int .i64 (x + 1))).ownsRow w.heap.size 3 1 (.slice (some ⟨gc, 0, none⟩) 8 capc) 8 ((clk h k).map (Value.int .i64))) := Lib.hid (by
                have h9 := own_put HO3.out (i := p) (x + 1)
                have h10 : lc.set p (x + 1) = clk h k := by rw [hclk.out, bump, show ((p : Int)).toNat = p from rfl, HX.out]
                rw [h10] at h9; exact h9)
              have HOX : Hid ((w3.setCell ⟨gc, p, none⟩ (.int .i64 (x + 1))).ownsRow wo.heap.size 22 1 u8 k ((List.range k).map V)) := Lib.hid (own_keep HOU3.out hXk (fun g hg hm => by have := (HO.out.lt g hg).2; simp at hm; omega))
              have hcl : u8.ownBlock ≠ some w1.heap.size := fun e => by have := (HO.out.lt _ e).1; omega
              have HNE : Hid (∀ b, u8.ownBlock = some b → b ∉ [w1.heap.size]) := Lib.hid (fun b hb hm => by simp at hm; subst hm; exact hcl hb)
              have HNE2 : Hid (∀ b, u8.ownBlock = some b → b ∉ [gc, w1.heap.size]) := Lib.hid (fun b hb hm => by
                simp at hm
                rcases hm with hm | hm
                · have := (HO.out.lt b hb).2; omega
                · subst hm; exact hcl hb)
              clear hXk hVg hZg hcl
              have HS4 := Lib.hid (show (∀ i, i < k → (w3.setCell ⟨gc, p, none⟩ (.int .i64 (x + 1))).ownsRow w.heap.size 3 1 (V i) 8 ((Go.clk h i).map (Value.int .i64))) ∧ _ ∧ _ ∧ MapF (w3.setCell ⟨gc, p, none⟩ (.int .i64 (x + 1))) Try.prog 3 wo.heap.size (k + 1) (fun x => (sendIx h x (k + 1)).map fun i => if i = k then (.slice (some ⟨gc, 0, none⟩) 8 capc) else V i) ∧ _ from ⟨HQX.out.clk, HQX.out.zero, HQX.out.last, by rw [sendIx_map_same (show (lat h k).g ≠ 2 by rw [HLL.out]; exact hg2)]; exact HQX.out.sent.mono (by omega), HCX.out⟩)
              go_wp2_with (first | (with_reducible refine Txt.wp_region_text mixed quiet (by decide +kernel) ?_) | (with_reducible refine Txt.text_done (by kernel_rfl) ?_) | (at_builtin; refine wpList_append_own _ rfl _ _ 37 rfl wo.heap.size 22 i1 (.slice none 0 0) 1 24 Try.underlying37 hi1 hx0 hx1 hx2 rfl (by decide) _ _ _ rfl (own_keep HOU3.out (by repeat (first | exact Keep.refl _ _ | apply Keep.drew | apply Keep.alloc | refine Keep.setCell ?_ (.inl (by simp)) _)) HNE2.out) ⟨w3.heap.size, 0, none⟩ 1 1 [.slice (some ⟨gc, 0, none⟩) 8 capc] rfl rfl (cell_one_at (by simp) _ _) (by intro u hu; simp at hu; subst hu; rfl) (by unfold maxLen; omega) (by omega) (by simp; omega) ?_; intro v5 w5 hown5 hgr5 _; have HO5 := Lib.hid hown5; have HGR5 := Lib.hid hgr5; clear hown5 hgr5))
              go_roundw
              case measure => simp [intOf]; omega
              case rel =>
                have hstep := Kept.step HS4.out.1 HS4.out.2.1 HS4.out.2.2.1 HS4.out.2.2.2.1 HS4.out.2.2.2.2 (show (lat h k).q = (p : Int) by rw [HLL.out])
                have ho4 : World.ownsRow ((w3.setCell ⟨gc, p, none⟩ (.int .i64 (x + 1))).setCell ⟨w1.heap.size, p, none⟩ (.slice (some ⟨gc, 0, none⟩) 8 capc)) wo.heap.size 22 1 u8 k ((List.range k).map V) := own_keep HOX.out ((Keep.refl [w1.heap.size] _).setCell (.inl (by simp)) _) HNE.out
                have hst2 := Kept.keep0 hstep ((Keep.refl [] _).alloc (.cells #[.slice (some ⟨gc, 0, none⟩) 8 capc] 22))
                have hfin := Kept.append hst2 (ho4.alloc (.cells #[.slice (some ⟨gc, 0, none⟩) 8 capc] 22)) (by omega) HGR5.out
                have hkf : Keep [] w w5 := by
                  refine Keep.grown ?_ HGR5.out (fun g hg => .inr (by have := (HO.out.lt g hg).1; omega))
                  repeat (first | exact hkw0 | apply Keep.drew | apply Keep.alloc | refine Keep.setCell ?_ (.inr (by omega)) _)
                refine ⟨k + 1, fun i => if i = k then (.slice (some ⟨gc, 0, none⟩) 8 capc) else V i, by omega, by go_num, hkf, Lib.hid hfin, Lib.hid ?_⟩
                rw [hrng]; exact HO5.out
        · have hkn := Lib.hid (show k = n by omega)
          go_wp2_with fail
          go_ret2
          exact ⟨_, V, rfl, hkw2, by rw [← hkn.out]; exact HO.out.mono (by omega), fun i hi => HQ.out.clk i (by rw [hkn.out]; exact hi)⟩
end Go.Proofs.Ytkhchfjhmplaiaa
namespace Go.Proofs
open Go.Shelf
def Try.laysNm223_ren : Go.Shelf.Ren := ⟨fun | 23 => 60 | n => n, fun | 22 => 22 | 3 => 3 | 4 => 4 | 0 => 0 | n => n, fun | n => n⟩
theorem Try.laysNm223 : Go.Proofs.Lays2.n23 Try.prog Try.laysNm223_ren := {
  mixed := by kernel_rfl
  f23 := Try.func60.trans (congrArg some (by kernel_rfl))
  t0 := Try.underlying0
  a0 := Try.isAgg0
  z0 := Try.sizeOf0
  v0 := Try.zeroValue0
  t3 := Try.underlying3
  a3 := Try.isAgg3
  z3 := Try.sizeOf3
  v3 := Try.zeroValue3
  t4 := Try.underlying4
  a4 := Try.isAgg4
  z4 := Try.sizeOf4
  v4 := Try.zeroValue4
  t22 := Try.underlying22
  a22 := Try.isAgg22
  z22 := Try.sizeOf22
  v22 := Try.zeroValue22
  i3 := by kernel_rfl }
open Go.RowKit Go.Lib Go.Sort in
theorem Try.slices_Delete_int_cells (b off n c i j : Nat) (zs : List Int) (w : World) (hz : n ≤ zs.length) (hcap : n ≤ c) (hm : c ≤ 9223372036854775807) (hij : i ≤ j) (hj : j ≤ n) (hc : ∀ j, j < zs.length → w.cell? ⟨b, off + j, none⟩ = some (.int .i64 (zs.getD j 0))) (hf : ∀ j, j < n → w.frozen? ⟨b, off + j, none⟩ = false) :
    Calls Try.prog 60 #[.slice (some ⟨b, off, none⟩) n c, .int .i64 i, .int .i64 j] w fun e w' => e = .returned (.slice (some ⟨b, off, none⟩) (n - (j - i)) c) ∧ ∃ q, w' = (w.drewN q).setCells b off (((zs.take n).take i ++ (zs.take n).drop j ++ List.replicate (j - i) 0).map (Value.int .i64)) := Any.slices_Delete_int_cells Try.laysNm223 b off n c i j zs w hz hcap hm hij hj hc hf
def Try.laysSlE041_f46_ren : Go.Shelf.Ren := ⟨fun | 41 => 46 | n => n, fun | 22 => 22 | 23 => 3 | 4 => 4 | n => n, fun | n => n⟩
theorem Try.laysSlE041_f46 : Go.Proofs.SlLaysE0.n41 Try.prog Try.laysSlE041_f46_ren := {
  mixed := by kernel_rfl
  f41 := ⟨Try.f46.name, by decide, Try.func46.trans (congrArg some (by kernel_rfl))⟩
  t4 := Try.underlying4
  a4 := Try.isAgg4
  z4 := Try.sizeOf4
  v4 := Try.zeroValue4
  t22 := Try.underlying22
  a22 := Try.isAgg22
  z22 := Try.sizeOf22
  v22 := Try.zeroValue22 }
open Go.RowKit Go.Lib in
theorem Try.slices_Clone (i0 : TypeInfo) (z : Value) (size bytes : Nat) (hi : Try.prog.info? 3 = some i0) (hz0 : i0.zero = some z) (hz1 : i0.size = size) (hz2 : i0.bytes = bytes) (hzs : z.cells.size = size) (hsz : 0 < size) (z23 : ∀ w, (Go.sizeOf 3).run Try.prog w = .ok size w) (b off n c : Nat) (news : List Value) (w : World) (hl : news.length = n * size) (hn : n ≤ maxLen) (hbig : n * bytes ≤ 140737488355328) (hc : ∀ j u, news[j]? = some u → w.cell? ⟨b, off + j, none⟩ = some u) (h1 : ∀ u ∈ news, u.oneCell' = true) :
    Calls Try.prog 46 #[.slice (some ⟨b, off, none⟩) n c] w fun e w' => ∃ v', e = .returned v' ∧ w'.ownsRow w.heap.size 3 size v' n news ∧ v' ≠ .slice none 0 0 ∧ Below w.heap.size w w' := AnyE.slices_Clone Try.laysSlE041_f46 i0 z size bytes hi hz0 hz1 hz2 hzs hsz z23 b off n c news w hl hn hbig hc h1
open Go.RowKit Go.Lib in
theorem Try.slices_Clone_nil (n c : Nat) (w : World) :
    Calls Try.prog 46 #[.slice none n c] w fun e w' => e = .returned (.slice none 0 0) ∧ w' = w := AnyE.slices_Clone_nil Try.laysSlE041_f46 n c w
end Go.Proofs
namespace Go
open Go.RowKit
theorem drewN_heap (w : World) (q : Nat) : (w.drewN q).heap = w.heap := by
  induction q with
  | zero => rfl
  | succ q ih => exact ih
theorem keep_drewN {S : List Nat} {w w' : World} (h : Keep S w w') (q : Nat) : Keep S w (w'.drewN q) := by
  induction q with
  | zero => exact h
  | succ q ih => exact ih.drew
theorem keep_setCells {S : List Nat} {w : World} {b : Nat} (hb : b ∈ S) : ∀ (vs : List Value) (o : Nat) (w' : World), Keep S w w' → Keep S w (w'.setCells b o vs) := by
  intro vs
  induction vs with
  | nil => intro o w' h; exact h
  | cons v vs ih => intro o w' h; exact ih (o + 1) _ (h.setCell (.inl hb) v)
theorem blk_setCells {b : Nat} {e : TypeId} {f : Nat × Nat} : ∀ (vs : List Value) (o : Nat) (w : World) (cur : Array Value), w.heap[b]? = some (.cells cur e f) → o + vs.length ≤ cur.size →
    (w.setCells b o vs).heap[b]? = some (.cells (cur.toList.take o ++ vs ++ cur.toList.drop (o + vs.length)).toArray e f) := by
  intro vs
  induction vs with
  | nil => intro o w cur h _; simp [World.setCells, h]
  | cons v vs ih =>
    intro o w cur h hl
    simp only [List.length_cons] at hl
    have h1 : (w.setCell ⟨b, o, none⟩ v).heap[b]? = some (.cells (cur.setIfInBounds o v) e f) := by rw [blk_setCell, if_pos rfl, h]; rfl
    have h2 := ih (o + 1) _ _ h1 (by simpa using by omega)
    rw [World.setCells, h2]
    congr 3
    simp only [Array.toList_setIfInBounds]
    have hlen : o < cur.toList.length := by simpa using by omega
    rw [List.take_set, List.drop_set_of_lt (by omega), List.take_succ_eq_append_getElem hlen, List.set_append_right _ _ (by simp only [List.length_take]; omega)]
    simp only [List.length_take, List.length_cons]
    rw [show o - min o cur.toList.length = 0 by omega, show o + 1 + vs.length = o + (vs.length + 1) by omega]
    simp
end Go
namespace Go.Proofs.Ytkhchfjhmplaiaa
open Go.RowKit
/-- One element is taken out of a row of one's own. -/
theorem delete_own {B n g cap i : Nat} {I J : Int} {zs : List Int} {w : World} (h : w.ownsRow B 3 1 (.slice (some ⟨g, 0, none⟩) n cap) n (zs.map (Value.int .i64))) (hi : i < n) (hI : Hid (I = i)) (hJ : Hid (J = (i + 1 : Nat))) :
    Calls Try.prog 60 #[.slice (some ⟨g, 0, none⟩) n cap, .int .i64 I, .int .i64 J] w fun e w' => e = .returned (.slice (some ⟨g, 0, none⟩) (n - 1) cap) ∧ Keep [g] w w' ∧ w'.ownsRow B 3 1 (.slice (some ⟨g, 0, none⟩) (n - 1) cap) (n - 1) ((zs.eraseIdx i).map (Value.int .i64)) := by
  obtain rfl := hI.out
  obtain rfl := hJ.out
  have hlen : zs.length = n := by have := h.1; simpa using this
  obtain ⟨g', cap', hv, hB, hlt, hnc, hcm, hcell, hfz⟩ := own_form h (by omega)
  cases hv
  refine (Try.slices_Delete_int_cells g 0 n cap i (i + 1) zs w (by omega) hnc (by unfold maxLen at hcm; omega) (by omega) (by omega) (fun j hj => by rw [Nat.zero_add]; exact hcell j (by omega)) (fun j _ => hfz _)).mono fun e w' ⟨he, q, hw⟩ => ?_
  subst hw
  refine ⟨by rw [he, show n - (i + 1 - i) = n - 1 by omega], keep_setCells (by simp) _ _ _ (keep_drewN (Keep.refl _ _) q), ?_⟩
  rcases h.2 with ⟨h0, _⟩ | ⟨g', cap', cur, hv, hB', hg, hnc', hcm', hcs, ht⟩
  · cases h0
  · cases hv
    have hg' : (w.drewN q).heap[g]? = some (.cells cur 3 (0, 0)) := by rw [drewN_heap]; exact hg
    have hvl : (((zs.take n).take i ++ (zs.take n).drop (i + 1) ++ List.replicate (i + 1 - i) 0).map (Value.int .i64)).length = n := by simp; omega
    have hb := blk_setCells (((zs.take n).take i ++ (zs.take n).drop (i + 1) ++ List.replicate (i + 1 - i) 0).map (Value.int .i64)) 0 (w.drewN q) cur hg' (by rw [hvl]; omega)
    have he2 : zs.eraseIdx i = zs.take i ++ zs.drop (i + 1) := List.eraseIdx_eq_take_drop_succ zs i
    refine ⟨by simp [he2]; omega, .inr ⟨g, cap, _, rfl, hB', hb, by omega, hcm', ?_, ?_⟩⟩
    · simp only [List.size_toArray, List.length_append, hvl]
      simp; omega
    · rw [List.take_of_length_le (show zs.length ≤ n by omega)]
      simp only [List.take_zero, List.nil_append, he2, Nat.mul_one]
      rw [List.take_append_of_le_length (by simp; omega), List.map_append, List.take_append_of_le_length (by simp; omega), List.take_of_length_le (by simp; omega)]
end Go.Proofs.Ytkhchfjhmplaiaa
namespace Go
open Go.RowKit
theorem lat_snoc (h : List Ln) (e : Ln) (i : Nat) : lat (h ++ [e]) i = if i = h.length then e else lat h i := by
  simp only [lat, List.getD_eq_getElem?_getD]
  by_cases h1 : i < h.length
  · rw [if_neg (by omega), List.getElem?_append_left h1]
  · by_cases h2 : i = h.length
    · subst h2; simp
    · rw [if_neg h2, List.getElem?_eq_none (by simp; omega), List.getElem?_eq_none (by omega)]
/-- One number of the plan: the next event, and the messages on the way. -/
def histStep (s : List Ln × List Int) (x : Int) : List Ln × List Int :=
  if restI x 8 ≤ 2 then (s.1 ++ [⟨restI (wrap64 (x.tdiv 8)) 4, 2, s.1.length⟩], s.2 ++ [(s.1.length : Int)])
  else if restI x 8 ≤ 6 ∧ 0 < s.2.length then (s.1 ++ [⟨restI (wrap64 (x.tdiv 8)) 4, 3, s.2.getD (restI (wrap64 (x.tdiv 32)) s.2.length).toNat 0⟩], s.2.eraseIdx (restI (wrap64 (x.tdiv 32)) s.2.length).toNat)
  else (s.1 ++ [⟨restI (wrap64 (x.tdiv 8)) 4, 1, 0⟩], s.2)
def histS (xs : List Int) : List Ln × List Int := xs.foldl histStep ([], [])
def hist (xs : List Int) : List Ln := (histS (xs.take 60)).1
structure HInv (s : List Ln × List Int) : Prop where
  ok : HOk s.1
  own : ∀ i, i < s.1.length → (lat s.1 i).g = 2 → (lat s.1 i).u = i
  nodup : s.2.Nodup
  way : ∀ m ∈ s.2, ∃ j : Nat, m = j ∧ j < s.1.length ∧ (lat s.1 j).g = 2 ∧ ∀ i, i < s.1.length → (lat s.1 i).g = 3 → (lat s.1 i).u ≠ m
theorem HInv.nil : HInv ([], []) := ⟨⟨by simp, fun i h => by simp at h, fun i j _ h => by simp at h, fun i j _ h => by simp at h, fun i h => by simp at h⟩, fun i h => by simp at h, by simp, by simp⟩
/-- An event is added. -/
theorem HOk.snoc {h : List Ln} (hk : HOk h) {e : Ln} (hl : h.length < 200) (he : 0 ≤ e.q ∧ e.q < 8 ∧ 1 ≤ e.g ∧ e.g ≤ 3 ∧ 0 ≤ e.u ∧ e.u ≤ 999)
    (hs : e.g = 2 → ∀ i, i < h.length → (lat h i).g = 2 → (lat h i).u ≠ e.u) (ht : e.g = 3 → (∀ i, i < h.length → (lat h i).g = 3 → (lat h i).u ≠ e.u) ∧ ∃ j, j < h.length ∧ (lat h j).g = 2 ∧ (lat h j).u = e.u) : HOk (h ++ [e]) := by
  refine ⟨by simp; omega, fun i hi => ?_, fun i j hij hj h1 h2 => ?_, fun i j hij hj h1 h2 => ?_, fun i hi h1 => ?_⟩
  · rw [lat_snoc]
    by_cases e1 : i = h.length
    · rw [if_pos e1]; exact he
    · rw [if_neg e1]; exact hk.ev i (by simp at hi; omega)
  · simp at hj
    rw [lat_snoc, if_neg (by omega)] at h1 ⊢
    rw [lat_snoc] at h2 ⊢
    by_cases e1 : j = h.length
    · rw [if_pos e1] at h2 ⊢; exact hs h2 i (by omega) h1
    · rw [if_neg e1] at h2 ⊢; exact hk.sends i j hij (by omega) h1 h2
  · simp at hj
    rw [lat_snoc, if_neg (by omega)] at h1 ⊢
    rw [lat_snoc] at h2 ⊢
    by_cases e1 : j = h.length
    · rw [if_pos e1] at h2 ⊢; exact (ht h2).1 i (by omega) h1
    · rw [if_neg e1] at h2 ⊢; exact hk.takes i j hij (by omega) h1 h2
  · rw [lat_snoc] at h1
    by_cases e1 : i = h.length
    · rw [if_pos e1] at h1
      obtain ⟨j, h2, h3, h4⟩ := (ht h1).2
      refine ⟨j, by omega, ?_⟩
      rw [lat_snoc, if_neg (by omega), lat_snoc, if_pos e1]; exact ⟨h3, h4⟩
    · rw [if_neg e1] at h1
      obtain ⟨j, h2, h3, h4⟩ := hk.sent i (by simp at hi; omega) h1
      refine ⟨j, h2, ?_⟩
      rw [lat_snoc, if_neg (by simp at hi; omega), lat_snoc, if_neg e1]; exact ⟨h3, h4⟩
theorem restI4 (x : Int) : 0 ≤ restI x 4 ∧ restI x 4 < 8 := ⟨restI_lo x (by omega), by have := restI_hi x (show (0 : Int) < 4 by omega); omega⟩
theorem at_nat (x : Int) {n : Nat} (h : 0 < n) : ∃ q : Nat, restI x n = q ∧ q < n := by
  have h0 := restI_lo x (show (0 : Int) < n by omega)
  have h1 := restI_hi x (show (0 : Int) < n by omega)
  exact ⟨(restI x n).toNat, by omega, by omega⟩
theorem HInv.step {s : List Ln × List Int} (h : HInv s) (hl : s.1.length < 200) (x : Int) : HInv (histStep s x) := by
  obtain ⟨evs, way⟩ := s
  obtain ⟨h0, h1⟩ := restI4 (wrap64 (x.tdiv 8))
  unfold histStep
  dsimp only at hl ⊢
  generalize restI (wrap64 (x.tdiv 8)) 4 = pl at *
  by_cases c1 : restI x 8 ≤ 2
  · rw [if_pos c1]
    refine ⟨h.ok.snoc hl ⟨h0, h1, by dsimp only; omega, by dsimp only; omega, by dsimp only; omega, by dsimp only; omega⟩ (fun _ i hi hg => ?_) (fun hg => by simp at hg), fun i hi hg => ?_, ?_, fun m hm => ?_⟩
    · have := h.own i hi hg; dsimp only at this hi ⊢; omega
    · dsimp only at hi hg ⊢
      rw [lat_snoc] at hg ⊢
      by_cases e1 : i = evs.length
      · rw [if_pos e1]; dsimp only; omega
      · rw [if_neg e1] at hg ⊢; exact h.own i (by simp at hi; dsimp only; omega) hg
    · refine List.nodup_append.2 ⟨h.nodup, by simp, fun a ha b hb => ?_⟩
      simp at hb
      obtain ⟨j, e1, e2, _⟩ := h.way a ha
      dsimp only at e2
      omega
    · dsimp only at hm ⊢
      rcases List.mem_append.1 hm with hm | hm
      · obtain ⟨j, e1, e2, e3, e4⟩ := h.way m hm
        dsimp only at e2 e3 e4
        refine ⟨j, e1, by simp; omega, by rw [lat_snoc, if_neg (by omega)]; exact e3, fun i hi hg => ?_⟩
        rw [lat_snoc] at hg ⊢
        by_cases e5 : i = evs.length
        · rw [if_pos e5] at hg; simp at hg
        · rw [if_neg e5] at hg ⊢; exact e4 i (by simp at hi; omega) hg
      · simp at hm
        refine ⟨evs.length, hm, by simp, by rw [lat_snoc, if_pos rfl], fun i hi hg => ?_⟩
        rw [lat_snoc] at hg ⊢
        by_cases e5 : i = evs.length
        · rw [if_pos e5] at hg; simp at hg
        · rw [if_neg e5] at hg ⊢
          have hlt : i < evs.length := by simp at hi; omega
          obtain ⟨j, e1, e2, e3⟩ := h.ok.sent i hlt hg
          have := h.own j (by dsimp only at e1 ⊢; omega) e2
          dsimp only at this e3
          omega
  · rw [if_neg c1]
    by_cases c2 : restI x 8 ≤ 6 ∧ 0 < way.length
    · rw [if_pos c2]
      obtain ⟨q, hq, hql⟩ := at_nat (wrap64 (x.tdiv 32)) c2.2
      rw [hq, show (q : Int).toNat = q from rfl]
      have hmem : way.getD q 0 ∈ way := by rw [List.getD_eq_getElem?_getD, List.getElem?_eq_getElem hql]; exact List.getElem_mem hql
      have hget : way.getD q 0 = way[q] := by rw [List.getD_eq_getElem?_getD, List.getElem?_eq_getElem hql]; rfl
      obtain ⟨j, e1, e2, e3, e4⟩ := h.way _ hmem
      dsimp only at e2 e3 e4
      have hu := h.own j e2 e3
      dsimp only at hu
      refine ⟨h.ok.snoc hl ⟨h0, h1, by dsimp only; omega, by dsimp only; omega, by dsimp only; omega, by dsimp only; omega⟩ (fun hg => by simp at hg) (fun _ => ⟨e4, j, e2, e3, by rw [hu, e1]⟩), fun i hi hg => ?_, (List.eraseIdx_sublist way q).nodup h.nodup, fun m hm => ?_⟩
      · dsimp only at hi hg ⊢
        rw [lat_snoc] at hg ⊢
        by_cases e1 : i = evs.length
        · rw [if_pos e1] at hg; simp at hg
        · rw [if_neg e1] at hg ⊢; exact h.own i (by simp at hi; dsimp only; omega) hg
      · dsimp only at hm ⊢
        have hne : way.getD q 0 ≠ m := by
          rw [hget]
          rintro rfl
          obtain ⟨i, hi, hne, hge⟩ := List.mem_eraseIdx_iff_getElem.1 hm
          exact hne ((List.getElem_inj h.nodup).1 hge)
        obtain ⟨j', e1', e2', e3', e4'⟩ := h.way m (List.mem_of_mem_eraseIdx hm)
        dsimp only at e2' e3' e4'
        refine ⟨j', e1', by simp; omega, by rw [lat_snoc, if_neg (by omega)]; exact e3', fun i hi hg => ?_⟩
        rw [lat_snoc] at hg ⊢
        by_cases e5 : i = evs.length
        · rw [if_pos e5]; exact hne
        · rw [if_neg e5] at hg ⊢; exact e4' i (by simp at hi; omega) hg
    · rw [if_neg c2]
      refine ⟨h.ok.snoc hl ⟨h0, h1, by dsimp only; omega, by dsimp only; omega, by dsimp only; omega, by dsimp only; omega⟩ (fun hg => by simp at hg) (fun hg => by simp at hg), fun i hi hg => ?_, h.nodup, fun m hm => ?_⟩
      · dsimp only at hi hg ⊢
        rw [lat_snoc] at hg ⊢
        by_cases e1 : i = evs.length
        · rw [if_pos e1] at hg; simp at hg
        · rw [if_neg e1] at hg ⊢; exact h.own i (by simp at hi; dsimp only; omega) hg
      · obtain ⟨j, e1, e2, e3, e4⟩ := h.way m hm
        dsimp only at e2 e3 e4 ⊢
        refine ⟨j, e1, by simp; omega, by rw [lat_snoc, if_neg (by omega)]; exact e3, fun i hi hg => ?_⟩
        rw [lat_snoc] at hg ⊢
        by_cases e5 : i = evs.length
        · rw [if_pos e5] at hg; simp at hg
        · rw [if_neg e5] at hg ⊢; exact e4 i (by simp at hi; omega) hg
theorem snocInd {α : Type _} {P : List α → Prop} (xs : List α) (nil : P []) (snoc : ∀ xs x, P xs → P (xs ++ [x])) : P xs := by
  have : ∀ ys : List α, P ys.reverse := fun ys => by
    induction ys with
    | nil => exact nil
    | cons y ys ih => rw [List.reverse_cons]; exact snoc _ _ ih
  have := this xs.reverse
  rwa [List.reverse_reverse] at this
theorem histStep_len (s : List Ln × List Int) (x : Int) : (histStep s x).1.length = s.1.length + 1 := by
  unfold histStep; split
  · simp
  · split <;> simp
theorem histStep_way (s : List Ln × List Int) (x : Int) : (histStep s x).2.length ≤ s.2.length + 1 := by
  unfold histStep; split
  · simp
  · split
    · dsimp only; have := List.length_eraseIdx_le s.2 (restI (wrap64 (x.tdiv 32)) s.2.length).toNat; omega
    · simp
theorem histS_snoc (xs : List Int) (x : Int) : histS (xs ++ [x]) = histStep (histS xs) x := by simp [histS, List.foldl_append]
theorem histS_len (xs : List Int) : (histS xs).1.length = xs.length ∧ (histS xs).2.length ≤ xs.length := by
  induction xs using snocInd with
  | nil => exact ⟨rfl, Nat.le_refl _⟩
  | snoc xs x ih => rw [histS_snoc, histStep_len]; have := histStep_way (histS xs) x; simp; omega
theorem histS_inv (xs : List Int) (hl : xs.length ≤ 60) : HInv (histS xs) := by
  induction xs using snocInd with
  | nil => exact HInv.nil
  | snoc xs x ih =>
    simp at hl
    rw [histS_snoc]
    exact (ih (by omega)).step (by rw [(histS_len xs).1]; omega) x
theorem hist_len (xs : List Int) : (hist xs).length = min 60 xs.length := by rw [hist, (histS_len _).1]; simp
theorem hist_inv (xs : List Int) : HInv (histS (xs.take 60)) := histS_inv _ (by simp; omega)
end Go
