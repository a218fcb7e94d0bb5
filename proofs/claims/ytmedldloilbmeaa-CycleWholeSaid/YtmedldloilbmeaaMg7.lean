/- Texts laid together: Y15. -/
import Derived.Test.YtmedldloilbmeaaMg6
/- CycleWhole: the walk. -/
namespace Go
open Go.RowKit
theorem KnList.sorted {ks : List Kn} (h : KnList ks) : (ks.map Kn.ref).Pairwise (· ≤ ·) := by
  rw [List.pairwise_iff_getElem]
  intro i j hi hj hlt
  rw [List.length_map] at hi hj
  rw [List.getElem_map, List.getElem_map, h.nums i _ (List.getElem?_eq_getElem hi), h.nums j _ (List.getElem?_eq_getElem hj)]
  omega
/-- All are in a level, or garbage. -/
theorem whole_all {ks : List Kn} {g F : List Int} (hg : IsGarb ks g) (hgn : g.Nodup) (hF : F.Nodup) (hm : ∀ x, x ∈ F ↔ Rch (refsR ks) (fun x => x ∈ firsts ks) x) : (g ++ F).Nodup ∧ ∀ x, x ∈ g ++ F ↔ x ∈ ks.map Kn.ref := by
  refine ⟨?_, fun x => ?_⟩
  · rw [List.nodup_append]
    refine ⟨hgn, hF, fun a ha b hb e => ?_⟩
    subst e
    exact ((hg a).1 ha).2 ((hm a).1 hb)
  · rw [List.mem_append, List.mem_map]
    constructor
    · rintro (h | h)
      · obtain ⟨k, h1, h2⟩ := refsR_some.1 ((hg x).1 h).1
        exact ⟨k, h1, h2⟩
      · obtain ⟨k, h1, h2⟩ := refsR_some.1 ((hm x).1 h).own
        exact ⟨k, h1, h2⟩
    · rintro ⟨k, h1, rfl⟩
      by_cases hr : Rch (refsR ks) (fun x => x ∈ firsts ks) k.ref
      · exact .inr ((hm _).2 hr)
      · exact .inl ((hg _).2 ⟨refsR_some.2 ⟨k, h1, rfl⟩, hr⟩)
theorem flat_take {l : List (List Int)} {i : Nat} {x : List Int} (h : l[i]? = some x) : (l.take (i + 1)).flatten = (l.take i).flatten ++ x := by
  rw [take_snoc l i x h, List.flatten_append, List.flatten_singleton]
theorem whole_pre {LV : List (List Int)} {g : List Int} {i : Nat} {l : List Int} (h : LV[i]? = some l) (j : Nat) : ∃ rest, g ++ LV.flatten = (g ++ (LV.take i).flatten ++ l.take j) ++ rest := by
  refine ⟨l.drop j ++ (LV.drop (i + 1)).flatten, ?_⟩
  have h1 : LV = LV.take (i + 1) ++ LV.drop (i + 1) := (List.take_append_drop _ _).symm
  have h2 := flat_take h
  have h3 : LV.flatten = (LV.take i).flatten ++ l ++ (LV.drop (i + 1)).flatten := by
    have h4 := congrArg List.flatten h1
    rw [List.flatten_append, h2] at h4
    exact h4
  rw [h3]
  simp only [List.append_assoc]
  rw [← List.append_assoc (l.take j), List.take_append_drop]
/-- What the statement asks of one of a level. -/
theorem chn_at {ks : List Kn} {LV : List (List Int)} (hk : KnList ks) (h : Chn (refsR ks) (fun x => x ∈ firsts ks) LV) {i : Nat} {l : List Int} {r : Int} (hl : LV[i]? = some l) (hr : r ∈ l) : ∃ (k : Nat) (x : Kn), ks[k]? = some x ∧ x.ref = r ∧ (∀ (j : Nat) (y : Kn), ks[j]? = some y → (y.ref == r) = true → j = k) ∧ (i = 0 → x.root = true ∨ x.awake = true) ∧ (0 < i → x.root = false ∧ x.awake = false) := by
  obtain ⟨h1, h2, h3⟩ := h i l hl r hr
  obtain ⟨x, hx, rfl⟩ := refsR_some.1 h1
  obtain ⟨k, hkl, rfl⟩ := List.getElem_of_mem hx
  refine ⟨k, _, List.getElem?_eq_getElem hkl, rfl, fun j y hj he => ?_, fun h0 => ?_, fun h0 => ?_⟩
  · have e1 := hk.nums j y hj
    have e2 := hk.nums k _ (List.getElem?_eq_getElem hkl)
    have e3 : y.ref = ks[k].ref := by simpa using he
    omega
  · obtain ⟨y, hy, he, hl⟩ := firsts_mem.1 (h2 h0)
    obtain ⟨j, hj, rfl⟩ := List.getElem_of_mem hy
    have e1 := hk.nums j _ (List.getElem?_eq_getElem hj)
    have e2 := hk.nums k _ (List.getElem?_eq_getElem hkl)
    obtain rfl : j = k := by omega
    exact hl
  · have hn := (h3 h0).1
    constructor
    · cases hr : ks[k].root with
      | false => rfl
      | true => exact absurd (firsts_mem.2 ⟨_, hx, rfl, .inl hr⟩) hn
    · cases hr : ks[k].awake with
      | false => rfl
      | true => exact absurd (firsts_mem.2 ⟨_, hx, rfl, .inr hr⟩) hn
theorem chn_prev {ks : List Kn} {LV : List (List Int)} (hk : KnList ks) (h : Chn (refsR ks) (fun x => x ∈ firsts ks) LV) {i : Nat} {l : List Int} {r : Int} (hl : LV[i + 1]? = some l) (hr : r ∈ l) {l' : List Int} (hl' : LV[i]? = some l') : ∃ x ∈ ks, (decide (x.ref ∈ l') && decide (r ∈ x.refs)) = true := by
  obtain ⟨_, _, h3⟩ := h (i + 1) l hl r hr
  obtain ⟨_, l2, r', xs, h4, h5, h6, h7⟩ := h3 (by omega)
  rw [Nat.add_sub_cancel, hl'] at h4
  injection h4 with h4
  subst h4
  have hs : (refsR ks r').isSome = true := by rw [h6]; rfl
  obtain ⟨x, hx, rfl⟩ := refsR_some.1 hs
  rw [refsR_of hk.nodup hx] at h6
  injection h6 with h6
  subst h6
  exact ⟨x, hx, by simp [h5, h7]⟩
end Go
namespace Go.Proofs.Ytmedldloilbmeaa
open Go.RowKit
theorem row_cell {w : World} {B L co go i : Nat} {rows : List Rw} {r : Rw} (hR : w.ownsRow B 22 1 (.slice (some ⟨go, 0, none⟩) L co) L (rows.map Rw.val)) (hi : i < L) (hr : rows[i]? = some r) : w.cell? ⟨go, i, none⟩ = some r.val := by
  rcases hR.2 with ⟨h1, _⟩ | ⟨g', cap', cur', he, hb', hg', _, _, _, ht'⟩
  · cases h1
  · injection he with h1 _ _
    injection h1 with h1
    injection h1 with h1 _ _
    subst h1
    rw [cell_of_row w go i cur' 22 (0, 0) hg']
    have h2 : (cur'.toList.take (L * 1))[i]? = (rows.map Rw.val)[i]? := by rw [ht']
    rw [List.getElem?_take, if_pos (by omega), List.getElem?_map, hr] at h2
    simpa using h2
theorem prev36 {WB w0 : World} {B n c2 bp go L co i bi br : Nat} {a2 : Option Addr} {ks : List Kn} {rows : List Rw} {LV : List (List Int)} {l : List Int} {r : Int} (hk : Keep [] WB w0) (hV : KnsV WB a2 n c2 ks) (hn : n ≤ 1000) (hP : WB.heap[bp]? = some (.cells #[.slice (some ⟨go, 0, none⟩) L co] 54 (0, 0))) (hR : WB.ownsRow B 22 1 (.slice (some ⟨go, 0, none⟩) L co) L (rows.map Rw.val)) (hRok : ∀ r ∈ rows, r.ok WB) (hrl : rows.length = L) (hLV : rows.map Rw.xs = LV) (hkl : KnList ks) (hch : Chn (refsR ks) (fun x => x ∈ firsts ks) LV) (hi : 0 < i) (hLVi : LV[i]? = some l) (hr : r ∈ l) (hbi : w0.heap[bi]? = some (.cells #[.int .i64 (i : Int)] 3 (0, 0))) (hbr : w0.heap[br]? = some (.cells #[.int .i64 r] 3 (0, 0))) (hL : L ≤ 400) :
    Calls Try.prog 36 #[.slice a2 n c2, .func (.func 37) #[] #[.pointer (some ⟨bp, 0, none⟩), .pointer (some ⟨bi, 0, none⟩), .pointer (some ⟨br, 0, none⟩)]] w0 fun e w' => e = .returned (.bool true) ∧ Keep [] w0 w' := by
  obtain ⟨i', rfl⟩ : ∃ i', i = i' + 1 := ⟨i - 1, by omega⟩
  have hil : i' + 1 < L := by
    have := (List.getElem?_eq_some_iff.1 hLVi).1
    rw [← hLV, List.length_map, hrl] at this
    exact this
  obtain ⟨rp, hrp⟩ : ∃ rp, rows[i']? = some rp := ⟨_, List.getElem?_eq_getElem (by omega)⟩
  have hLVp : LV[i']? = some rp.xs := by rw [← hLV, List.getElem?_map, hrp]; rfl
  obtain ⟨y, hy, hpy⟩ := chn_prev hkl hch hLVi hr hLVp
  have hbi' : w0.heap[bi]? = some (.cells #[.int .i64 ((i' : Int) + 1)] 3 (0, 0)) := by rw [hbi]; rfl
  refine contains36_found (p := fun x => decide (x.ref ∈ rp.xs) && decide (r ∈ x.refs)) (fun x hx w' hk' => ?_) (hV.keep0 hk) hn hy hpy
  have hk2 := hk.trans hk'
  exact whole37 (hk2.at hP (by simp)) (hk'.at hbi' (by simp)) (hk'.at hbr (by simp)) (hk2.cell (row_cell hR (by omega) hrp) (by simp)) (by omega) hL ((hRok _ (List.mem_of_getElem? hrp)).keep hk2 (fun _ _ => by simp)) ((hV.keep0 hk2).rows x hx)
set_option maxRecDepth 100000 in
set_option maxHeartbeats 8000000 in
theorem cycleWhole_walk (ap : Option Addr) (len cap : Nat) (zs : List Int) (w : World) (hz : IntsV w ap len cap zs) :
    Calls Try.prog 8 #[.slice ap len cap] w fun e w' => e = .returned (.bool true) ∧ Keep [] w w' := by
  have HZ := Lib.hid hz
  obtain ⟨i3, hi3, hy0, hy1, hy2⟩ := infoY info3
  clear hz
  go_enter Try.func8, Try.ntmps8
  go_wp2_with (first | (with_reducible refine Txt.wp_region_text mixed quiet (by decide +kernel) ?_) | (with_reducible refine Txt.text_done (by kernel_rfl) ?_) | (go_at_call 19; (with_reducible refine begun19_any.mono ?_); rintro e w1 ⟨rfl, hk1⟩; have HK1 := Lib.hid hk1; clear hk1) | (go_at_call 20; (with_reducible refine (knows20_any (HZ.out.keep HK1.out (by simp))).mono ?_); rintro e w2 ⟨v, ks, rfl, ho2, hi2, hl2, hk2⟩; obtain ⟨a2, c2, rfl, hv2, -⟩ := KnsV.ofOwn ho2 (fun x hx => (hi2 x hx).1); have HV2 := Lib.hid hv2; have HL2 := Lib.hid hl2; have HK2 := Lib.hid (HK1.out.trans hk2); have hc2 := hv2.room; have hm2 := hv2.most; unfold maxLen at hm2; have hf2 := hl2.few; clear ho2 hi2 hl2 hk2 hv2) | (go_at_call 21; (with_reducible refine (garbage21_any HV2.out (by omega) (fun k hk => Nat.le_trans (HL2.out.small k hk) (by decide)) HL2.out.nodup).mono ?_); rintro e w3 ⟨out, v3, rfl, h1, h2, h3, h4, h5, h6⟩; obtain ⟨a3, c3, rfl, hv3, -⟩ := IntsV.ofOwn h1 h5; have HV3 := Lib.hid hv3; have HG3 : Hid (IsGarb ks out) := Lib.hid h6; have HN3 := Lib.hid h3; have HK3 := Lib.hid (HK2.out.trans h2); have HV23 := Lib.hid (HV2.out.keep0 h2); have hN3 : out.length ≤ 40 := (by have := nodup_len out (ks.map Kn.ref) h3 (fun x hx => refsR_univ x ((h6 x).1 hx).1); rw [List.length_map] at this; omega); clear h1 h2 h3 h4 h5 h6 hv3) | (go_at_call 33; (with_reducible refine (passes33_any HV23.out (by omega) (fun k hk => Nat.le_trans (HL2.out.small k hk) (by decide)) HL2.out.nodup).mono ?_); rintro e w4 ⟨rows, vo, rfl, h1, h2, h3, h4, h5, h6, h7⟩; obtain ⟨ao, co, rfl, hco1, hco2, hco3⟩ := ownSlice h1; unfold maxLen at hco2; have HR4 := Lib.hid h1; have HRK4 := Lib.hid h2; have HK34 := Lib.hid h3; have HCH := Lib.hid h4; have HFN := Lib.hid h5; have HFM := Lib.hid h6; have hL4 := h7; have HC3 := Lib.hid hco3; clear h1 h2 h3 h4 h5 h6 h7 hco3) | (go_at_call 15; (with_reducible refine (clone15_any (HV3.out.keep (HK34.out.alloc _) (by simp)) (by omega)).mono ?_); rintro e w5 ⟨v5, rfl, hk5, ho5⟩; obtain ⟨p0, -⟩ := row1 (hk5.at (blk_new w4 _) (by simp)); have HK5 := Lib.hid hk5; have HO5 := Lib.hid ho5; clear hk5 ho5))
  obtain ⟨WB, hWB⟩ : ∃ WB, w4.alloc (.cells #[.slice ao rows.length co] 54) = WB := ⟨_, rfl⟩
  have hk4B : Keep [] w4 WB := by rw [← hWB]; exact (Keep.refl [] w4).alloc _
  have hbox := blk_new w4 (.cells #[.slice ao rows.length co] 54)
  obtain ⟨bp, hbp⟩ : ∃ bp, w4.heap.size = bp := ⟨_, rfl⟩
  rw [hWB, hbp] at hbox
  rw [hWB] at HK5 HO5
  rw [hbp] at p0 ⊢
  have HBP := Lib.hid hbox
  have HVB := Lib.hid (HV23.out.keep0 (HK34.out.trans hk4B))
  have HRB := Lib.hid (own_keep HR4.out hk4B (by simp))
  have HRKB : Hid (∀ r ∈ rows, r.ok WB) := Lib.hid (fun r hr => (HRK4.out r hr).keep hk4B (fun _ _ => by simp))
  have HKB := Lib.hid ((HK3.out.trans HK34.out).trans hk4B)
  have HWA := Lib.hid (whole_all HG3.out HN3.out HFN.out HFM.out)
  obtain ⟨n, hn⟩ : ∃ n, ks.length = n := ⟨_, rfl⟩
  have HN := Lib.hid hn
  obtain ⟨L, hL⟩ : ∃ L, rows.length = L := ⟨_, rfl⟩
  have HL := Lib.hid hL
  obtain ⟨LV, hLV⟩ : ∃ LV, rows.map Rw.xs = LV := ⟨_, rfl⟩
  have HLV := Lib.hid hLV
  rw [hn] at HVB hc2 hf2 ⊢
  rw [hL] at HRB HBP hco1 hL4 HC3 p0 ⊢
  rw [hLV] at HCH HFN HFM HWA
  have HTW : Hid (∀ x ∈ out ++ LV.flatten, (Lit.int .i64 x).wf = true ∧ (out ++ LV.flatten).length ≤ 40) := Lib.hid (fun x hx => by
    refine ⟨?_, ?_⟩
    · obtain ⟨k, hk, rfl⟩ := List.mem_map.1 ((HWA.out.2 x).1 hx)
      obtain ⟨j, hj, rfl⟩ := List.getElem_of_mem hk
      have := HL2.out.nums j _ (List.getElem?_eq_getElem hj)
      exact wf_small (by omega) (by omega)
    · have := nodup_len _ _ HWA.out.1 (fun x hx => (HWA.out.2 x).1 hx)
      rw [List.length_map, HN.out] at this
      omega)
  clear hWB hk4B hbox hbp hn hL hLV HV2 HV23 HV3 HK2 HK3 HK34 HR4 HRK4
  go_wp2_with (first | (with_reducible refine Txt.wp_region_text mixed quiet (by decide +kernel) ?_) | (with_reducible refine Txt.text_done (by kernel_rfl) ?_))
  go_loopw [40, 8] (fun j v wr => ∃ (i : Nat) (T : List Int), i ≤ L ∧ j = .int .i64 i ∧ Hid (T = out ++ (LV.take i).flatten) ∧ Hid (wr.ownsRow WB.heap.size 3 1 v T.length (T.map (Value.int .i64))) ∧ Hid (Keep [] WB wr)) (fun j _ _ => L - (intOf j).toNat)
  case atStart => exact ⟨0, out, by omega, rfl, Lib.hid (by simp), HO5, HK5⟩
  case round =>
    obtain ⟨i, T, hi, rfl, HT, HO, HK⟩ := hrel
    by_cases hlt : i < L
    · obtain ⟨rw', hrw⟩ : ∃ r, rows[i]? = some r := ⟨_, List.getElem?_eq_getElem (by have := HL.out; omega)⟩
      have hLVi : LV[i]? = some rw'.xs := by rw [← HLV.out, List.getElem?_map, hrw]; rfl
      have HLVI := Lib.hid hLVi
      have HPRE : Hid (∀ j, (out ++ (LV.take i).flatten ++ rw'.xs.take j).length ≤ 40 ∧ ∀ x ∈ out ++ (LV.take i).flatten ++ rw'.xs.take j, (Lit.int .i64 x).wf = true) := Lib.hid (fun j => by
        obtain ⟨rest, hre⟩ := whole_pre (g := out) hLVi j
        refine ⟨?_, fun x hx => (HTW.out x (by rw [hre]; exact List.mem_append_left _ hx)).1⟩
        by_cases h0 : out ++ LV.flatten = []
        · rw [h0] at hre
          have := congrArg List.length hre
          simp only [List.length_nil, List.length_append] at this
          simp only [List.length_append]; omega
        · obtain ⟨y, hy⟩ := List.exists_mem_of_ne_nil _ h0
          have h1 := (HTW.out y hy).2
          rw [hre, List.length_append] at h1
          omega)
      have hm40 : rw'.xs.length ≤ 40 := by
        have h := (HPRE.out rw'.xs.length).1
        rw [List.take_length, List.length_append] at h
        omega
      have HRW : Hid (rw'.ok WB) := Lib.hid (HRKB.out _ (List.mem_of_getElem? hrw))
      obtain ⟨go, hgo⟩ : ∃ go, ao = some ⟨go, 0, none⟩ := by
        rcases HRB.out.2 with ⟨_, h1⟩ | ⟨g', cap', cur', he, _⟩
        · omega
        · injection he with h1 _ _
          exact ⟨g', h1⟩
      have hcell : WB.cell? ⟨go, i, none⟩ = some (.slice rw'.a rw'.xs.length rw'.c) := by
        rcases HRB.out.2 with ⟨_, h1⟩ | ⟨g', cap', cur', he, hb', hg', _, _, _, ht'⟩
        · omega
        · injection he with h1 _ _
          rw [hgo] at h1
          injection h1 with h1
          injection h1 with h1 _ _
          subst h1
          rw [cell_of_row WB go i cur' 22 (0, 0) hg']
          have h2 : (cur'.toList.take (L * 1))[i]? = (rows.map Rw.val)[i]? := by rw [ht']
          rw [List.getElem?_take, if_pos (by omega), List.getElem?_map, hrw] at h2
          simpa [Rw.val] using h2
      subst hgo
      have hcr := HK.out.cell hcell (by simp)
      have HCELL := Lib.hid hcell
      obtain ⟨m, hm⟩ : ∃ m, rw'.xs.length = m := ⟨_, rfl⟩
      have HM := Lib.hid hm
      rw [hm] at hcr hm40
      obtain ⟨av, cv, hve, -, -, -⟩ := ownSlice HO.out
      subst hve
      have HTE := HT.out
      have hdec : decide ((i : Int) < (L : Int)) = true := by simp; omega
      have HBOX : Hid ((wr.alloc (.cells #[.int .i64 (i : Int)] 3)).heap[wr.heap.size]? = some (.cells #[.int .i64 (i : Int)] 3 (0, 0))) := Lib.hid (blk_new wr _)
      have HST : Hid ((wr.alloc (.cells #[.int .i64 (i : Int)] 3)).ownsRow WB.heap.size 3 1 (.slice av T.length cv) T.length (T.map (Value.int .i64))) := Lib.hid (own_keep HO.out ((Keep.refl [] wr).alloc _) (by simp))
      have HKT : Hid (Keep [] WB (wr.alloc (.cells #[.int .i64 (i : Int)] 3))) := Lib.hid (HK.out.alloc _)
      have HNB : Hid ((Value.slice av T.length cv).ownBlock ≠ some wr.heap.size) := Lib.hid (fun he => by have := (ownLt HO.out _ he).2.1; omega)
      have HBG : Hid (WB.heap.size ≤ wr.heap.size) := Lib.hid HK.out.size
      obtain ⟨bi, hbi⟩ : ∃ bi, wr.heap.size = bi := ⟨_, rfl⟩
      rw [hbi] at HBOX HNB HBG
      have HBIE := Lib.hid hbi
      clear hrw hLVi hcell hm hbi HTE
      go_wp2_with (first | (with_reducible refine Txt.wp_region_text mixed quiet (by decide +kernel) ?_) | (with_reducible refine Txt.text_done (by kernel_rfl) ?_))
      rw [HBIE.out]
      go_loopw [47, 8] (fun j v wr => ∃ (jn : Nat) (T2 : List Int), jn ≤ m ∧ j = .int .i64 jn ∧ Hid (T2 = out ++ (LV.take i).flatten ++ rw'.xs.take jn) ∧ Hid (wr.ownsRow WB.heap.size 3 1 v T2.length (T2.map (Value.int .i64))) ∧ Hid (Keep [] WB wr) ∧ Hid (wr.heap[bi]? = some (.cells #[.int .i64 (i : Int)] 3 (0, 0))) ∧ Hid (v.ownBlock ≠ some bi)) (fun j _ _ => m - (intOf j).toNat)
      case atStart => exact ⟨0, T, by omega, rfl, Lib.hid (by rw [HT.out]; simp), HST, HKT, HBOX, HNB⟩
      case round =>
        obtain ⟨jn, T2, hj, rfl, HT2, HO2, HK2, HB2, HNB2⟩ := hrel
        clear HBOX HST HKT HNB HO HK
        by_cases hlt2 : jn < m
        · obtain ⟨r, hr⟩ : ∃ r, rw'.xs[jn]? = some r := ⟨_, List.getElem?_eq_getElem (by have := HM.out; omega)⟩
          have hiv := HRW.out.1.keep HK2.out (by simp)
          obtain ⟨b4, o4, hab4, hc4⟩ := hiv.cells (by have := HM.out; omega)
          have hcj := hc4 jn (by have := HM.out; omega)
          have hgr : rw'.xs.getD jn 0 = r := by rw [List.getD_eq_getElem?_getD, hr]; rfl
          rw [hgr] at hcj
          have HRR := Lib.hid hr
          rw [hab4] at *
          obtain ⟨av2, cv2, hve2, hcv1, hcv2, -⟩ := ownSlice HO2.out
          subst hve2
          unfold maxLen at hcv2
          obtain ⟨M2, hM2⟩ : ∃ M2, T2.length = M2 := ⟨_, rfl⟩
          have hM40 : M2 ≤ 40 := by rw [← hM2, HT2.out]; exact (HPRE.out jn).1
          rw [hM2] at HO2 HNB2 hcv1 ⊢
          have HM2 := Lib.hid hM2
          obtain ⟨k, x, hkx, hxr, huq, hz0, hz1⟩ := chn_at HL2.out HCH.out HLVI.out (List.mem_of_getElem? hr)
          have HKX := Lib.hid hkx
          have HUQ := Lib.hid huq
          have HPX : Hid ((x.ref == r) = true) := Lib.hid (by rw [hxr]; exact beq_self_eq_true r)
          have hkn : k < n := by have := (List.getElem?_eq_some_iff.1 hkx).1; have := HN.out; omega
          obtain ⟨b2, off2, hab2, -⟩ := HVB.out.cells (by omega)
          subst hab2
          obtain ⟨rt, hrt⟩ : ∃ rt, x.root = rt := ⟨_, rfl⟩
          obtain ⟨aw, haw⟩ : ∃ aw, x.awake = aw := ⟨_, rfl⟩
          have hcase : (((i : Int) == 0) = true ∧ rt = true) ∨ (((i : Int) == 0) = true ∧ rt = false ∧ aw = true) ∨ (0 < i ∧ ((i : Int) == 0) = false ∧ rt = false ∧ aw = false) := by
            rw [hrt, haw] at hz0 hz1
            rcases Nat.eq_zero_or_pos i with h0 | h0
            · have hb : ((i : Int) == 0) = true := by rw [h0]; rfl
              cases rt with
              | true => exact .inl ⟨hb, rfl⟩
              | false => exact .inr (.inl ⟨hb, rfl, (hz0 h0).resolve_left (by decide)⟩)
            · exact .inr (.inr ⟨h0, beq_eq_false_iff_ne.2 (by omega), (hz1 h0).1, (hz1 h0).2⟩)
          have HRT := Lib.hid hrt
          have HAW := Lib.hid haw
          have HOA : Hid (((wr.alloc (.cells #[.int .i64 r] 3)).alloc (.cells #[.int .i64 r] 3)).ownsRow WB.heap.size 3 1 (.slice av2 M2 cv2) M2 (T2.map (Value.int .i64))) := Lib.hid (own_keep HO2.out (((Keep.refl [] wr).alloc _).alloc _) (by simp))
          have HONE : Hid (∀ u ∈ [Value.int .i64 r], u.oneCell' = true) := Lib.hid (fun u hu => by rw [List.mem_singleton.1 hu]; rfl)
          have HSA : Hid (WB.heap.size ≤ ((wr.alloc (.cells #[.int .i64 r] 3)).alloc (.cells #[.int .i64 r] 3)).heap.size) := Lib.hid (Nat.le_trans HK2.out.size (((Keep.refl [] wr).alloc _).alloc _).size)
          have hbr : ((wr.alloc (.cells #[.int .i64 r] 3)).alloc (.cells #[.int .i64 r] 3)).heap[wr.heap.size]? = some (.cells #[.int .i64 r] 3 (0, 0)) := ((Keep.refl [] _).alloc _).at (blk_new wr _) (by simp)
          have HBR := Lib.hid hbr
          have hob : ∀ g, (Value.slice av2 M2 cv2).ownBlock = some g → g < wr.heap.size := fun g hg => (ownLt HO2.out g hg).2.1
          have HOB := Lib.hid hob
          have hbiw := lt_of_blk HB2.out
          have hkal : Keep [] wr ((wr.alloc (.cells #[.int .i64 r] 3)).alloc (.cells #[.int .i64 r] 3)) := ((Keep.refl [] wr).alloc _).alloc _
          have HKAL := Lib.hid hkal
          obtain ⟨br, hbre⟩ : ∃ br, wr.heap.size = br := ⟨_, rfl⟩
          have HBRE := Lib.hid hbre
          rw [hbre] at HBR HOB hbiw
          have hszr : ((wr.alloc (.cells #[.int .i64 r] 3)).alloc (.cells #[.int .i64 r] 3)).heap.size = br + 2 := by simp [hbre]
          have HSZR := Lib.hid hszr
          have HRIN := Lib.hid (List.mem_of_getElem? hr)
          clear hiv hc4 hgr hr hM2 hkx huq hz0 hz1 hrt haw hbr hob hkal hbre hszr
          rcases hcase with ⟨hb0, rfl⟩ | ⟨hb0, rfl, rfl⟩ | ⟨hipos, hb0, rfl, rfl⟩
          · have hgt : ¬ (0 : Int) < (i : Int) := by have := eq_of_beq hb0; omega
            have tok1 : True := trivial
            go_wp2_with (first | (with_reducible refine Txt.wp_region_text mixed quiet (by decide +kernel) ?_) | (with_reducible refine Txt.text_done (by kernel_rfl) ?_) | (at_builtin; have _t := tok1; refine wpList_append_lies _ rfl _ _ 22 rfl WB.heap.size 3 i3 (.int .i64 0) 1 8 Try.underlying22 hi3 hy0 hy1 hy2 rfl (by decide) (.slice av2 M2 cv2) M2 (T2.map (Value.int .i64)) rfl HOA.out ⟨wr.heap.size + 1, 0, none⟩ 1 1 [.int .i64 r] rfl rfl (cells_new2 wr _ [.int .i64 r] 3) HONE.out (by decide) (by unfold maxLen; omega) (by omega) HSA.out _ rfl ?_; intro g9 c9 w9 hown9 hgr9 hat9 hlt9; clear tok1 _t; have hk9 : Keep (Value.slice av2 M2 cv2).ownBlock.toList ((wr.alloc (.cells #[.int .i64 r] 3)).alloc (.cells #[.int .i64 r] 3)) w9 := Keep.ofGrown hgr9 (fun x hx => by simp [hx]); have HK9 : Hid (Keep [] WB w9) := Lib.hid ((HK2.out.trans HKAL.out).call hk9 (fun g hg => .inr (ownLt HOA.out g (by simpa using hg)).1)); have HO9 := Lib.hid hown9; have HBR9 := Lib.hid (hk9.at HBR.out (fun hm => by have := HOB.out br (by simpa using hm); omega)); have HBI9 := Lib.hid (hk9.at (HKAL.out.at HB2.out (by simp)) (fun hm => HNB2.out (by simpa using hm))); have HNE9 : Hid ((Value.slice (some ⟨g9, 0, none⟩) (M2 + 1) c9).ownBlock ≠ some bi) := Lib.hid (fun he => by have hg : g9 = bi := (by simpa [Value.ownBlock] using he); rcases hat9 with h | h; (exact HNB2.out (by rw [h, hg])); (rw [HSZR.out] at h; omega)); have HCL : Hid (∀ x ∈ ks, ∀ w', Keep [] w9 w' → Calls Try.prog 35 #[.agg #[.int .i64 x.ref, .bool x.awake, .bool x.root, .slice x.ra x.refs.length x.rc], .pointer (some ⟨br, 0, none⟩)] w' fun e w2 => e = .returned (.bool (x.ref == r)) ∧ Keep [] w' w2) := Lib.hid (fun x _ w' hk => whole35 (hk.at HBR9.out (by simp))); have HV9 := Lib.hid (HVB.out.keep0 HK9.out); rw [HBRE.out]; clear hown9 hgr9 hat9 hk9) | (go_at_call 34; (with_reducible refine (index34_at HCL.out HV9.out (by omega) HKX.out HPX.out HUQ.out).mono ?_); rintro e10 w10 ⟨rfl, hk10⟩; have HK10 := Lib.hid (HK9.out.trans hk10); have HBR10 := Lib.hid (hk10.at HBR9.out (by simp)); have HBI10 := Lib.hid (hk10.at HBI9.out (by simp)); obtain ⟨b5, o5, hab5, d0, d1, d2, d3⟩ := (HV9.out.keep0 hk10).at_ HKX.out; obtain ⟨rfl, rfl⟩ : b2 = b5 ∧ off2 = o5 := (by injection hab5 with h; injection h with h1 h2 _; exact ⟨h1, h2⟩); clear hab5; rw [HAW.out] at d1; rw [HRT.out] at d2; obtain ⟨i0, -⟩ := row1 (hk10.at HBI9.out (by simp)); obtain ⟨r0, -⟩ := row1 (hk10.at HBR9.out (by simp)); have HO10 := Lib.hid (own_keep HO9.out hk10 (by simp)); clear hk10))
            exact ⟨⟨jn + 1, T2 ++ [r], hlt2, by go_num, Lib.hid (by rw [HT2.out, take_snoc _ _ _ HRR.out]; simp), Lib.hid (by have h := own_keep HO10.out (Keep.refl [] _).drew (by simp); simpa [HM2.out] using h), Lib.hid (HK10.out.drew), Lib.hid (HBI10.out), HNE9⟩, by simp [intOf]; omega⟩
          · have hgt : ¬ (0 : Int) < (i : Int) := by have := eq_of_beq hb0; omega
            have tok1 : True := trivial
            go_wp2_with (first | (with_reducible refine Txt.wp_region_text mixed quiet (by decide +kernel) ?_) | (with_reducible refine Txt.text_done (by kernel_rfl) ?_) | (at_builtin; have _t := tok1; refine wpList_append_lies _ rfl _ _ 22 rfl WB.heap.size 3 i3 (.int .i64 0) 1 8 Try.underlying22 hi3 hy0 hy1 hy2 rfl (by decide) (.slice av2 M2 cv2) M2 (T2.map (Value.int .i64)) rfl HOA.out ⟨wr.heap.size + 1, 0, none⟩ 1 1 [.int .i64 r] rfl rfl (cells_new2 wr _ [.int .i64 r] 3) HONE.out (by decide) (by unfold maxLen; omega) (by omega) HSA.out _ rfl ?_; intro g9 c9 w9 hown9 hgr9 hat9 hlt9; clear tok1 _t; have hk9 : Keep (Value.slice av2 M2 cv2).ownBlock.toList ((wr.alloc (.cells #[.int .i64 r] 3)).alloc (.cells #[.int .i64 r] 3)) w9 := Keep.ofGrown hgr9 (fun x hx => by simp [hx]); have HK9 : Hid (Keep [] WB w9) := Lib.hid ((HK2.out.trans HKAL.out).call hk9 (fun g hg => .inr (ownLt HOA.out g (by simpa using hg)).1)); have HO9 := Lib.hid hown9; have HBR9 := Lib.hid (hk9.at HBR.out (fun hm => by have := HOB.out br (by simpa using hm); omega)); have HBI9 := Lib.hid (hk9.at (HKAL.out.at HB2.out (by simp)) (fun hm => HNB2.out (by simpa using hm))); have HNE9 : Hid ((Value.slice (some ⟨g9, 0, none⟩) (M2 + 1) c9).ownBlock ≠ some bi) := Lib.hid (fun he => by have hg : g9 = bi := (by simpa [Value.ownBlock] using he); rcases hat9 with h | h; (exact HNB2.out (by rw [h, hg])); (rw [HSZR.out] at h; omega)); have HCL : Hid (∀ x ∈ ks, ∀ w', Keep [] w9 w' → Calls Try.prog 35 #[.agg #[.int .i64 x.ref, .bool x.awake, .bool x.root, .slice x.ra x.refs.length x.rc], .pointer (some ⟨br, 0, none⟩)] w' fun e w2 => e = .returned (.bool (x.ref == r)) ∧ Keep [] w' w2) := Lib.hid (fun x _ w' hk => whole35 (hk.at HBR9.out (by simp))); have HV9 := Lib.hid (HVB.out.keep0 HK9.out); rw [HBRE.out]; clear hown9 hgr9 hat9 hk9) | (go_at_call 34; (with_reducible refine (index34_at HCL.out HV9.out (by omega) HKX.out HPX.out HUQ.out).mono ?_); rintro e10 w10 ⟨rfl, hk10⟩; have HK10 := Lib.hid (HK9.out.trans hk10); have HBR10 := Lib.hid (hk10.at HBR9.out (by simp)); have HBI10 := Lib.hid (hk10.at HBI9.out (by simp)); obtain ⟨b5, o5, hab5, d0, d1, d2, d3⟩ := (HV9.out.keep0 hk10).at_ HKX.out; obtain ⟨rfl, rfl⟩ : b2 = b5 ∧ off2 = o5 := (by injection hab5 with h; injection h with h1 h2 _; exact ⟨h1, h2⟩); clear hab5; rw [HAW.out] at d1; rw [HRT.out] at d2; obtain ⟨i0, -⟩ := row1 (hk10.at HBI9.out (by simp)); obtain ⟨r0, -⟩ := row1 (hk10.at HBR9.out (by simp)); have HO10 := Lib.hid (own_keep HO9.out hk10 (by simp)); clear hk10))
            exact ⟨⟨jn + 1, T2 ++ [r], hlt2, by go_num, Lib.hid (by rw [HT2.out, take_snoc _ _ _ HRR.out]; simp), Lib.hid (by have h := own_keep HO10.out (Keep.refl [] _).drew (by simp); simpa [HM2.out] using h), Lib.hid (HK10.out.drew), Lib.hid (HBI10.out), HNE9⟩, by simp [intOf]; omega⟩
          · have hgt : (0 : Int) < (i : Int) := by omega
            have tok1 : True := trivial
            go_wp2_with (first | (with_reducible refine Txt.wp_region_text mixed quiet (by decide +kernel) ?_) | (with_reducible refine Txt.text_done (by kernel_rfl) ?_) | (at_builtin; have _t := tok1; refine wpList_append_lies _ rfl _ _ 22 rfl WB.heap.size 3 i3 (.int .i64 0) 1 8 Try.underlying22 hi3 hy0 hy1 hy2 rfl (by decide) (.slice av2 M2 cv2) M2 (T2.map (Value.int .i64)) rfl HOA.out ⟨wr.heap.size + 1, 0, none⟩ 1 1 [.int .i64 r] rfl rfl (cells_new2 wr _ [.int .i64 r] 3) HONE.out (by decide) (by unfold maxLen; omega) (by omega) HSA.out _ rfl ?_; intro g9 c9 w9 hown9 hgr9 hat9 hlt9; clear tok1 _t; have hk9 : Keep (Value.slice av2 M2 cv2).ownBlock.toList ((wr.alloc (.cells #[.int .i64 r] 3)).alloc (.cells #[.int .i64 r] 3)) w9 := Keep.ofGrown hgr9 (fun x hx => by simp [hx]); have HK9 : Hid (Keep [] WB w9) := Lib.hid ((HK2.out.trans HKAL.out).call hk9 (fun g hg => .inr (ownLt HOA.out g (by simpa using hg)).1)); have HO9 := Lib.hid hown9; have HBR9 := Lib.hid (hk9.at HBR.out (fun hm => by have := HOB.out br (by simpa using hm); omega)); have HBI9 := Lib.hid (hk9.at (HKAL.out.at HB2.out (by simp)) (fun hm => HNB2.out (by simpa using hm))); have HNE9 : Hid ((Value.slice (some ⟨g9, 0, none⟩) (M2 + 1) c9).ownBlock ≠ some bi) := Lib.hid (fun he => by have hg : g9 = bi := (by simpa [Value.ownBlock] using he); rcases hat9 with h | h; (exact HNB2.out (by rw [h, hg])); (rw [HSZR.out] at h; omega)); have HCL : Hid (∀ x ∈ ks, ∀ w', Keep [] w9 w' → Calls Try.prog 35 #[.agg #[.int .i64 x.ref, .bool x.awake, .bool x.root, .slice x.ra x.refs.length x.rc], .pointer (some ⟨br, 0, none⟩)] w' fun e w2 => e = .returned (.bool (x.ref == r)) ∧ Keep [] w' w2) := Lib.hid (fun x _ w' hk => whole35 (hk.at HBR9.out (by simp))); have HV9 := Lib.hid (HVB.out.keep0 HK9.out); rw [HBRE.out]; clear hown9 hgr9 hat9 hk9) | (go_at_call 34; (with_reducible refine (index34_at HCL.out HV9.out (by omega) HKX.out HPX.out HUQ.out).mono ?_); rintro e10 w10 ⟨rfl, hk10⟩; have HK10 := Lib.hid (HK9.out.trans hk10); have HBR10 := Lib.hid (hk10.at HBR9.out (by simp)); have HBI10 := Lib.hid (hk10.at HBI9.out (by simp)); obtain ⟨b5, o5, hab5, d0, d1, d2, d3⟩ := (HV9.out.keep0 hk10).at_ HKX.out; obtain ⟨rfl, rfl⟩ : b2 = b5 ∧ off2 = o5 := (by injection hab5 with h; injection h with h1 h2 _; exact ⟨h1, h2⟩); clear hab5; rw [HAW.out] at d1; rw [HRT.out] at d2; obtain ⟨i0, -⟩ := row1 (hk10.at HBI9.out (by simp)); obtain ⟨r0, -⟩ := row1 (hk10.at HBR9.out (by simp)); have HO10 := Lib.hid (own_keep HO9.out hk10 (by simp)); clear hk10) | (go_at_call 36; (with_reducible refine (prev36 HK10.out.drew HVB.out (by omega) HBP.out HRB.out HRKB.out HL.out HLV.out HL2.out HCH.out hipos HLVI.out HRIN.out HBI10.out HBR10.out hL4).mono ?_); rintro e11 w11 ⟨rfl, hk11⟩; have HK11 := Lib.hid hk11; clear hk11))
            exact ⟨⟨jn + 1, T2 ++ [r], hlt2, by go_num, Lib.hid (by rw [HT2.out, take_snoc _ _ _ HRR.out]; simp), Lib.hid (by have h := own_keep HO10.out ((Keep.refl [] _).drew.trans HK11.out) (by simp); simpa [HM2.out] using h), Lib.hid (HK10.out.drew.trans HK11.out), Lib.hid (HK11.out.at (show w10.drew.heap[bi]? = _ from HBI10.out) (by simp)), HNE9⟩, by simp [intOf]; omega⟩
        · obtain rfl : jn = m := by omega
          have hdec2 : decide ((jn : Int) < (jn : Int)) = false := by simp
          have HT3 : Hid (T2 = out ++ (LV.take (i + 1)).flatten) := Lib.hid (by rw [HT2.out, flat_take HLVI.out, ← HM.out, List.take_length, List.append_assoc])
          go_wp2_with (first | (with_reducible refine Txt.wp_region_text mixed quiet (by decide +kernel) ?_) | (with_reducible refine Txt.text_done (by kernel_rfl) ?_))
          exact ⟨⟨i + 1, T2, hlt, by simp, HT3, HO2, HK2⟩, by simp [intOf]; omega⟩
    · obtain rfl : i = L := by omega
      have HT3 : Hid (T = out ++ LV.flatten) := Lib.hid (by rw [HT.out, List.take_of_length_le (by rw [← HLV.out, List.length_map, HL.out]; exact Nat.le_refl _)])
      have hTl : T.length = n := by
        have h := (List.perm_ext_iff_of_nodup HWA.out.1 HL2.out.nodup).2 HWA.out.2
        rw [HT3.out, h.length_eq, List.length_map, HN.out]
      have hTS : sortI T = ks.map Kn.ref := by
        refine sorted_ext ((sortI_perm T).nodup_iff.2 (by rw [HT3.out]; exact HWA.out.1)) HL2.out.nodup (sortI_sorted T) HL2.out.sorted (fun x => ?_)
        rw [(sortI_perm T).mem_iff, HT3.out]
        exact HWA.out.2 x
      obtain ⟨iv, icp, hve, hicp, -, hIV⟩ := ownSlice HO.out
      subst hve
      rw [hTl] at hicp hIV
      have hdec3 : decide ((i : Int) < (i : Int)) = false := by simp
      have h16 := sort16_any HO.out (by omega)
      rw [hTl, hTS] at h16
      have H16 := Lib.hid h16
      have HOW : Hid (∀ g, (Value.slice iv n icp).ownBlock = some g → WB.heap.size ≤ g) := Lib.hid (fun g hg => (ownLt HO.out g (by rw [hTl]; exact hg)).1)
      have HTL := Lib.hid hTl
      clear HO hTS h16 hIV
      rw [hTl]
      clear hTl
      go_wp2_with (first | (with_reducible refine Txt.wp_region_text mixed quiet (by decide +kernel) ?_) | (with_reducible refine Txt.text_done (by kernel_rfl) ?_) | (go_at_call 16; (with_reducible refine H16.out.mono ?_); rintro e w16 ⟨rfl, hso, hk16⟩; have HKS : Hid (Keep [] WB w16) := Lib.hid (HK.out.call hk16 (fun g hg => .inr (HOW.out g (by simpa using hg)))); have HSO := Lib.hid hso; clear hso hk16))
      have hIW : IntsV w16 iv n icp (ks.map Kn.ref) := by
        obtain ⟨a', c', he, h⟩ := IntsV.ofOwn HSO.out (fun x hx => (HTW.out x ((HWA.out.2 x).2 hx)).1)
        injection he with h1 _ h2
        subst h1; subst h2
        exact h.1
      have HIW := Lib.hid hIW
      clear hIW
      obtain ⟨W1, hW1⟩ : ∃ W1, W1 = w16 := ⟨_, rfl⟩
      subst hW1
      go_loopw [91] (fun j wr => ∃ (q : Nat), q ≤ n ∧ j = .int .i64 q ∧ Hid (Keep [] W1 wr)) (fun j _ => n - (intOf j).toNat)
      case atStart => exact ⟨0, by omega, rfl, Lib.hid (Keep.refl [] _)⟩
      case round =>
        obtain ⟨q, hq, rfl, HKQ⟩ := hrel
        by_cases hlt3 : q < n
        · have hv := HVB.out.keep0 (HKS.out.trans HKQ.out)
          obtain ⟨x, hx⟩ : ∃ x, ks[q]? = some x := ⟨_, List.getElem?_eq_getElem (by have := HN.out; omega)⟩
          obtain ⟨b2, off2, hab2, d0, d1, d2, d3⟩ := hv.at_ hx
          subst hab2
          obtain ⟨bt, ot, habt, hct⟩ := (HIW.out.keep HKQ.out (by simp)).cells (by omega)
          subst habt
          have hcq := hct q hlt3
          have hgx : (ks.map Kn.ref).getD q 0 = x.ref := by rw [List.getD_eq_getElem?_getD, List.getElem?_map, hx]; rfl
          rw [hgx] at hcq
          have hdec4 : decide ((q : Int) < (n : Int)) = true := by simp; omega
          have hdec5 : decide ((q : Int) ≥ (n : Int)) = false := by simp; omega
          have hne : (x.ref != x.ref) = false := by simp
          have hcq2 := ((Keep.refl [] wr).alloc (.cells #[.int .i64 x.ref, .bool x.awake, .bool x.root, .slice x.ra x.refs.length x.rc] 38)).cell hcq (by simp)
          clear hv hct hgx hx
          go_wp2_with (first | (with_reducible refine Txt.wp_region_text mixed quiet (by decide +kernel) ?_) | (with_reducible refine Txt.text_done (by kernel_rfl) ?_))
          exact ⟨⟨q + 1, hlt3, by go_num, Lib.hid ((HKQ.out.alloc _).drew)⟩, by simp [intOf]; omega⟩
        · obtain rfl : q = n := by omega
          have hdec4 : decide ((q : Int) < (q : Int)) = false := by simp
          go_wp2_with (first | (with_reducible refine Txt.wp_region_text mixed quiet (by decide +kernel) ?_) | (with_reducible refine Txt.text_done (by kernel_rfl) ?_))
          go_ret
          exact ⟨rfl, (HKB.out.trans HKS.out).trans HKQ.out⟩
end Go.Proofs.Ytmedldloilbmeaa
