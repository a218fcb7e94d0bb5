/- Texts laid together: Y17 YS3 R7 R9 R10 R11 Y18 Y19. -/
import Derived.Test.YtmedldloilbmeaaMg6
import Derived.Ground.Names2Prog
import Derived.Shelf.Slices.Delete
import Derived.Shelf.Slices.Cells
import Derived.Shelf.Slices.Empties
import Derived.Shelf.Bytes.SlEqualAll
import Derived.Deep.AppendLies
import Derived.Laws.AppendOwnNone
/- CycleNodes: Come. -/
namespace Go
open Go.RowKit
/-- The count of what came is raised. -/
theorem NodeAt.came' {w : World} {P : Program} {H b bR bM bT N : Nat} {f : Int → Option Value} {R : Int → Option (List Int)} {mk tl : Int → Bool} {came c2 : Int} (h : NodeAt w P H b bR bM bT N f R mk tl [] came (.slice none 0 0)) : NodeAt (w.setCell ⟨b, 4, none⟩ (.int .i64 c2)) P H b bR bM bT N f R mk tl [] c2 (.slice none 0 0) := by
  have hk : Keep [b] w (w.setCell ⟨b, 4, none⟩ (.int .i64 c2)) := (Keep.refl _ _).setCell (.inl (by simp)) _
  refine ⟨by rw [blk_setCell, if_pos rfl, h.blk]; rfl, h.mr.keep hk (fun hm => h.mr.notCells h.blk (List.mem_singleton.1 hm)), h.rf.keep hk (fun g hg => h.noR g (by simp only [List.mem_singleton] at hg; simp [ndS, hg])), h.mm.keep hk (fun hm => h.mm.notCells h.blk (List.mem_singleton.1 hm)), h.mt.keep hk (fun hm => h.mt.notCells h.blk (List.mem_singleton.1 hm)), World.ownsRow_nil _ _ _ _, by simp, h.ne⟩
theorem own_one {w : World} {x : Value} : (w.alloc (.cells #[x] 3)).ownsRow w.heap.size 3 1 (.slice (some ⟨w.heap.size, 0, none⟩) 1 1) 1 [x] :=
  ⟨rfl, .inr ⟨w.heap.size, 1, #[x], rfl, Nat.le_refl _, blk_new w _, Nat.le_refl _, by decide, rfl, rfl⟩⟩
end Go
namespace Go.Proofs.Ytmedldloilbmeaa
open Go.RowKit
set_option maxRecDepth 100000 in
set_option maxHeartbeats 4000000 in
theorem come28_any {w : World} {H b bR bM bT N0 : Nat} {f : Int → Option Value} {R : Int → Option (List Int)} {S : Int → Prop} {mk0 tl0 : Int → Bool} {came r : Int} {U : List Int} (h : NodeAt w Try.prog H b bR bM bT N0 f R mk0 tl0 [] came (.slice none 0 0)) (hi : LvInv R S mk0 tl0 []) (ho : (R r).isSome = true) (hw : (Lit.int .i64 r).wf = true) (hU : ∀ x, (R x).isSome = true → x ∈ U) (hU4 : U.length ≤ 400) (hN0 : N0 ≤ 100000000000000) (hc0 : 0 ≤ came) (hc1 : came ≤ 1000000) (hH : H ≤ w.heap.size) :
    Calls Try.prog 28 #[.pointer (some ⟨b, 0, none⟩), .int .i64 r] w fun e w' => ∃ N mk tl due vd, e = .returned (.int .i64 0) ∧ N ≤ N0 + 80000000 ∧ NodeAt w' Try.prog H b bR bM bT N f R mk tl due (came + 1) vd ∧ LvInv R (fun x => S x ∨ x = r) mk tl [] ∧ DueInv tl0 tl due ∧ due.length ≤ 40000000 ∧ Keep [b, bM, bT] w w' := by
  have HN0 := Lib.hid h
  have HI := Lib.hid hi
  have HW := Lib.hid hw
  have HU := Lib.hid hU
  have HO := Lib.hid ho
  have hsf : (f r).isSome = true := by rw [h.rf.some_]; exact ho
  have HSF := Lib.hid hsf
  obtain ⟨c0, c1, c2, c3, c4, hz⟩ := row5Y h.blk
  have hw1 : wrap64 (came + 1) = came + 1 := by unfold wrap64; omega
  have HN1 := Lib.hid (h.came' (c2 := came + 1))
  have hkS : Keep [b, bM, bT] w (w.setCell ⟨b, 4, none⟩ (.int .i64 (came + 1))) := (Keep.refl _ _).setCell (.inl (by simp)) _
  have HKS := Lib.hid hkS
  clear h hi hw hU ho hsf hkS
  go_enter Try.func28, Try.ntmps28
  go_wp2_with (first | (with_reducible refine Txt.wp_region_text mixed quiet (by decide +kernel) ?_) | (with_reducible refine Txt.text_done (by kernel_rfl) ?_) | (at_lookup; refine wpList_lookup_f2 _ rfl _ _ 70 rfl 3 22 Try.underlying70 Try.underlying3 _ (zero22 _) bR _ f rfl HN0.out.mr r rfl HW.out ?_; rw [HSF.out]))
  obtain ⟨WS, hWS⟩ : ∃ WS, w.setCell ⟨b, 4, none⟩ (.int .i64 (came + 1)) = WS := ⟨_, rfl⟩
  rw [hWS] at HN1 HKS ⊢
  have hsz : WS.heap.size = w.heap.size := by rw [← hWS]; simp
  clear hWS c0 c1 c2 c3 c4 hz HN0
  have hown := own_one (w := WS) (x := .int .i64 r)
  have hcell := cellAt (blk_new WS (.cells #[.int .i64 r] 3)) 0
  rw [hsz] at hown hcell
  have HOW := Lib.hid hown
  have HN2 := Lib.hid (HN1.out.keep0 ((Keep.refl [] WS).alloc (.cells #[.int .i64 r] 3)))
  have HKA := Lib.hid (HKS.out.alloc (.cells #[.int .i64 r] 3))
  obtain ⟨WA, hWA⟩ : ∃ WA, WS.alloc (.cells #[.int .i64 r] 3) = WA := ⟨_, rfl⟩
  rw [hWA] at HOW HN2 HKA hcell ⊢
  clear hWA hown HN1 HKS
  obtain ⟨bz, hbz⟩ : ∃ bz, mk0 r = bz := ⟨_, rfl⟩
  cases bz with
  | true =>
    have HBZ := Lib.hid hbz
    have hlk : ∀ q, (Instr.lookup 71 (.map (some bM)) (.int .i64 r) false).run Try.prog (WA.drewN q) = .ok (.bool true) (WA.drewN q) := fun q => by
      have := lookup_run_b (w := WA.drewN q) Try.underlying71 Try.underlying3 (zero4 _) (MapF.keep HN2.out.mm (drewN_keep WA q) (by simp)) HW.out
      rw [HBZ.out] at this
      exact this
    have hlk0 := hlk 0
    have hlk1 : (Instr.lookup 71 (.map (some bM)) (.int .i64 r) false).run Try.prog WA.drew = .ok (.bool true) WA.drew := hlk 1
    obtain ⟨c0, c1, c2, c3, c4, hz⟩ := row5Y HN2.out.blk
    clear hlk
    obtain ⟨W1, hW1⟩ : ∃ W1, W1 = WA := ⟨_, rfl⟩
    subst hW1
    go_loopw [7] (fun v wr => v = .slice (some ⟨w.heap.size, 0, none⟩) 1 1 ∧ wr = W1) (fun _ _ => 0)
    case atStart => exact ⟨rfl, rfl⟩
    case round =>
      obtain ⟨rfl, rfl⟩ := hrel
      go_wp2_with (first | (with_reducible refine Txt.wp_region_text mixed quiet (by decide +kernel) ?_) | (with_reducible refine Txt.text_done (by kernel_rfl) ?_))
      go_ret
      have hN : ∀ q, NodeAt (wr.drewN q) Try.prog H b bR bM bT N0 f R mk0 tl0 [] (came + 1) (.slice none 0 0) := fun q => HN2.out.keep0 (drewN_keep wr q)
      exact ⟨N0, mk0, tl0, [], .slice none 0 0, rfl, by omega, by first | exact hN 0 | exact hN 1, HI.out.same HBZ.out, DueInv.start _, by simp, by first | exact HKA.out | exact HKA.out.drew⟩
  | false =>
    obtain ⟨K, hK⟩ : ∃ K, unm U mk0 = K := ⟨_, rfl⟩
    have hK4 : K ≤ 400 := by
      have := unm_le U mk0
      omega
    have HST : Hid (NwSt w WA H b bR bM bT f R (fun x => S x ∨ x = r) tl0 U (came + 1) N0 K K (.slice (some ⟨w.heap.size, 0, none⟩) 1 1) [r]) := Lib.hid ⟨mk0, tl0, [], .slice none 0 0, N0, HN2.out, HI.out.more HO.out hbz, DueInv.start _, by omega, by simp, hK.symm, Nat.le_refl _, HOW.out, fun x hx => (by rw [List.mem_singleton.1 hx]; exact HW.out), fun g hg => by simp [Value.ownBlock] at hg, HKA.out⟩
    have HHW : Hid (H ≤ WA.heap.size) := Lib.hid (Nat.le_trans hH HKA.out.size)
    clear HN2 HOW HKA hbz hK hcell
    go_loopg [7] K (fun k v wr => ∃ Fr, Hid (NwSt w wr H b bR bM bT f R (fun x => S x ∨ x = r) tl0 U (came + 1) N0 K k v Fr) ∧ Hid (H ≤ wr.heap.size))
    case atStart => exact ⟨[r], HST, HHW⟩
    case round =>
      obtain ⟨Fr, HP, HHR⟩ := hrel
      obtain ⟨mk, tl, due, vd, N, h1, h2, h3, h4, h5, h6, h7, h8, h9, h10, h11⟩ := HP.out
      obtain ⟨av, cv, rfl, hiv, hbv⟩ := IntsV.ofOwnB h8 h9
      by_cases h0 : Fr = []
      · subst h0
        have HFIN : Hid (N ≤ N0 + 80000000 ∧ NodeAt wr Try.prog H b bR bM bT N f R mk tl due (came + 1) vd ∧ LvInv R (fun x => S x ∨ x = r) mk tl [] ∧ DueInv tl0 tl due ∧ due.length ≤ 40000000 ∧ Keep [b, bM, bT] w wr) := Lib.hid ⟨by omega, h1, h2, h3, by omega, h11⟩
        clear HP h1 h2 h3 h4 h5 h6 h8 h9 h10 h11 hiv hbv
        go_wp2_with (first | (with_reducible refine Txt.wp_region_text mixed quiet (by decide +kernel) ?_) | (with_reducible refine Txt.text_done (by kernel_rfl) ?_))
        go_ret
        obtain ⟨f0, f1, f2, f3, f4, f5⟩ := HFIN.out
        exact ⟨N, mk, tl, due, vd, rfl, f0, by first | exact f1 | exact f1.keep0 ((Keep.refl [] wr).drew), f2, f3, f4, by first | exact f5 | exact f5.drew⟩
      · have hpos : 0 < Fr.length := List.length_pos_iff.2 h0
        have hFl : Fr.length ≤ 400 := Nat.le_trans (nodup_len Fr U h2.nodup (fun x hx => HU.out x (h2.fr x hx).1.own)) hU4
        obtain ⟨bv, ov, rfl, hcs⟩ := hiv.cells hpos
        have hc0' := hcs 0 hpos
        obtain ⟨x, hx⟩ : ∃ x, Fr[0]? = some x := ⟨_, List.getElem?_eq_getElem hpos⟩
        have hgx : Fr.getD 0 0 = x := by rw [List.getD_eq_getElem?_getD, hx]; rfl
        rw [hgx, Nat.add_zero] at hc0'
        have hxm := List.mem_of_getElem? hx
        have hmkx := (h2.fr x hxm).2
        have hlk : ∀ q, (Instr.lookup 71 (.map (some bM)) (.int .i64 x) false).run Try.prog (wr.drewN q) = .ok (.bool false) (wr.drewN q) := fun q => by
          have := lookup_run_b (w := wr.drewN q) Try.underlying71 Try.underlying3 (zero4 _) (MapF.keep h1.mm (drewN_keep wr q) (by simp)) (h9 x hxm)
          rw [hmkx] at this
          exact this
        have hlk0 := hlk 0
        have hlk1 : (Instr.lookup 71 (.map (some bM)) (.int .i64 x) false).run Try.prog wr.drew = .ok (.bool false) wr.drew := hlk 1
        obtain ⟨d0, d1, d2, d3, d4, hz⟩ := row5Y h1.blk
        have hdec : decide (0 < (Fr.length : Int)) = true := by simp; omega
        have H1 := Lib.hid h1
        have H2 := Lib.hid h2
        have H3 := Lib.hid h3
        have H4 := Lib.hid h4
        have H5 := Lib.hid h5
        have H6 := Lib.hid h6
        have H8 := Lib.hid h8
        have H9 := Lib.hid h9
        have H10 := Lib.hid h10
        have H11 := Lib.hid h11
        have HIV := Lib.hid hiv
        have HAP : Hid (∀ ad, (some ⟨bv, ov, none⟩ : Option Addr) = some ad → ad.block ∉ ndS b bM bT vd) := Lib.hid (fun ad he hm => by
          have hob := hbv ad he
          obtain ⟨hge, _, cs, hc⟩ := ownLt h8 _ hob
          simp only [ndS, List.mem_cons, Option.mem_toList] at hm
          rcases hm with hm | hm | hm | hm
          · exact neTypeY hc h1.blk (by decide) hm
          · exact h1.mm.notCells hc hm.symm
          · exact h1.mt.notCells hc hm.symm
          · exact (h10 _ hm).1 hob)
        have HF0 := Lib.hid h0
        obtain ⟨F, hF⟩ : ∃ F, Fr.length = F := ⟨_, rfl⟩
        have HFE := Lib.hid hF
        clear HP h1 h2 h3 h4 h5 h6 h8 h9 h10 h11 hiv hbv h0 hcs hx hgx hxm hmkx hlk hF
        go_wp2_with (first | (with_reducible refine Txt.wp_region_text mixed quiet (by decide +kernel) ?_) | (with_reducible refine Txt.text_done (by kernel_rfl) ?_) | (go_at_call 46; (refine (level46_any (H1.out.keep0 ((Keep.refl [] wr).drew)) (HIV.out.keep ((Keep.refl [] wr).drew) (by simp)) HAP.out (by omega) (by have := H4.out; omega) (by have := H5.out; omega) HHR.out).mono ?_); rintro e9 w9 ⟨mk9, tl9, due9, vd9, out9, v9, rfl, k1, k2, k3, k4, k5, k6, k7, k8⟩; obtain ⟨hlt9, hst9⟩ := NwSt.level HU.out HF0.out H2.out H3.out H4.out H5.out H6.out h7 (H11.out.drew) (fun g hg => (H10.out g hg).2) k1 k2 k3 k4 k5 k6 k7 k8; have HST9 := Lib.hid hst9; have HH9 := Lib.hid (Nat.le_trans HHR.out k5.size); clear hst9 k1 k2 k3 k4 k5 k6 k7 k8))
        go_roundg (unm U mk9)
        case measure => exact hlt9
        case rel => exact ⟨out9, HST9, HH9⟩
end Go.Proofs.Ytmedldloilbmeaa
/- The contract of slices.Delete at this program. -/
namespace Go.Proofs
open Go.Shelf
def Try.laysNm223_ren : Go.Shelf.Ren := ⟨fun | 23 => 27 | n => n, fun | 22 => 22 | 3 => 3 | 4 => 4 | 0 => 0 | n => n, fun | n => n⟩
theorem Try.laysNm223 : Go.Proofs.Lays2.n23 Try.prog Try.laysNm223_ren := {
  mixed := by kernel_rfl
  f23 := Try.func27.trans (congrArg some (by kernel_rfl))
  t0 := Try.underlying0
  a0 := Try.isAgg0
  z0 := Try.sizeOf0
  v0 := Try.zeroValue0
  t3 := Try.underlying3
  a3 := Try.isAgg3
  z3 := Try.sizeOf3
  v3 := Try.zeroValue3
  t4 := Try.underlying4
  a4 := Try.isAgg4
  z4 := Try.sizeOf4
  v4 := Try.zeroValue4
  t22 := Try.underlying22
  a22 := Try.isAgg22
  z22 := Try.sizeOf22
  v22 := Try.zeroValue22
  i3 := by kernel_rfl }
open Go.RowKit Go.Lib Go.Sort in
theorem Try.slices_Delete_int_cells (b off n c i j : Nat) (zs : List Int) (w : World) (hz : n ≤ zs.length) (hcap : n ≤ c) (hm : c ≤ 9223372036854775807) (hij : i ≤ j) (hj : j ≤ n) (hc : ∀ j, j < zs.length → w.cell? ⟨b, off + j, none⟩ = some (.int .i64 (zs.getD j 0))) (hf : ∀ j, j < n → w.frozen? ⟨b, off + j, none⟩ = false) :
    Calls Try.prog 27 #[.slice (some ⟨b, off, none⟩) n c, .int .i64 i, .int .i64 j] w fun e w' => e = .returned (.slice (some ⟨b, off, none⟩) (n - (j - i)) c) ∧ ∃ q, w' = (w.drewN q).setCells b off (((zs.take n).take i ++ (zs.take n).drop j ++ List.replicate (j - i) 0).map (Value.int .i64)) := Any.slices_Delete_int_cells Try.laysNm223 b off n c i j zs w hz hcap hm hij hj hc hf
open Go.RowKit Go.Lib in
theorem Try.slices_Delete_int_empty (a : Option Addr) (c : Nat) (w : World) :
    Calls Try.prog 27 #[.slice a 0 c, .int .i64 0, .int .i64 0] w fun e w' => e = .returned (.slice a 0 c) ∧ w' = w := Any.slices_Delete_int_empty Try.laysNm223 a c w
end Go.Proofs
namespace Go
open Go.ChangeShapes Go.WideShapes Go.ChangeAt Go.RowKit Go.Deep
/-- A slice of bytes in memory. -/
structure BytesV (w : World) (a : Option Addr) (n c : Nat) (bs : List Int) : Prop where
  len : bs.length = n
  room : n ≤ c
  most : c ≤ maxLen
  wf : ∀ z ∈ bs, 0 ≤ z ∧ z < 256
  cells : Lib.BytesIn w a n bs
  onNil : a = none → c = 0
theorem byte_wf {z : Int} (h : (Lit.int .u8 z).wf = true) : 0 ≤ z ∧ z < 256 := by
  have h2 : IntKind.u8.min = 0 := by decide
  have h3 : IntKind.u8.max = 255 := by decide
  simp [Lit.wf, h2, h3] at h
  omega
theorem BytesV.keep {S : List Nat} {w w' : World} {a : Option Addr} {n c : Nat} {bs : List Int} (h : BytesV w a n c bs) (hk : Keep S w w') (hS : ∀ x, a = some x → x.block ∉ S) : BytesV w' a n c bs :=
  ⟨h.len, h.room, h.most, h.wf, fun hn =>
    let ⟨b, o, h1, h2⟩ := h.cells hn
    ⟨b, o, h1, fun i hi => hk.cell (h2 i hi) (hS ⟨b, o, none⟩ h1)⟩, h.onNil⟩
section
variable {H : Type} {enc : TypeId × Value → H} {P : Program} {W : World}
theorem BytesV.empty (W : World) : BytesV W none 0 0 [] := ⟨rfl, Nat.le_refl _, Nat.zero_le _, by simp, Lib.BytesIn.nil _ _ _, fun _ => rfl⟩
theorem BytesV.ofRow {x : Addr} {n c : Nat} {zs : List Int} (hl : n ≤ c) (hm : c ≤ maxLen) (hz : zs.length = c) (hc : ∀ i, i < zs.length → W.cell? (x.add i) = some (.int .u8 (zs.getD i 0))) (hw : ∀ z ∈ zs, (Lit.int .u8 z).wf = true) :
    BytesV W (some x) n c (zs.take n) := by
  refine ⟨by simp; omega, hl, hm, fun z hz => byte_wf (hw z (List.mem_of_mem_take hz)), fun hn => ?_, fun h => by cases h⟩
  obtain ⟨b, off, spot⟩ := x
  have hspot : spot = none := by simpa [Addr.add] using World.cell?_spot (hc 0 (by omega))
  subst hspot
  refine ⟨b, off, rfl, fun i hi => ?_⟩
  have := hc i (by omega)
  rw [add_plain] at this
  rw [this]
  congr 2
  simp [List.getD_eq_getElem?_getD, hi]
theorem bytes_of {t e : TypeId} {a : Option Addr} {n c : Nat} {d : DataW H} {ps : List MemPlace} (ht : P.underlying t = some (.slice e)) (he : P.underlying e = some (.int .u8)) (ce : P.cellsOf e = 1)
    (h : DataW.Trod enc P W 0 (fun _ => true) true t (.slice a n c) d ps) : ∃ bs, BytesV W a n c bs := by
  obtain ⟨fuel, hf⟩ := h
  rcases open_ints ht he ce hf with ⟨hcs, _⟩ | ⟨x, l, c', zs, hcs, _, hl, hm, hz, _, hcell, hwz⟩
  · simp [Value.cells] at hcs
    obtain ⟨rfl, rfl, rfl⟩ := hcs
    exact ⟨[], BytesV.empty W⟩
  · simp [Value.cells] at hcs
    obtain ⟨rfl, rfl, rfl⟩ := hcs
    exact ⟨_, BytesV.ofRow hl hm (by simpa using hz) hcell hwz⟩
theorem bytes_room {ts : List TypeId} {ds : List (DataW H)} {j : Nat} {t e : TypeId} {a : Option Addr} {n c : Nat} {d : DataW H} {ps : List MemPlace} (ht : P.underlying t = some (.slice e)) (he : P.underlying e = some (.int .u8)) (ce : P.cellsOf e = 1) (be : P.bytesOf e = 1)
    (hs : (DataW.weightsEach P ts ds).all (· ≤ reachBytes) = true) (htj : ts[j]? = some t) (hdj : ds[j]? = some d)
    (h : DataW.Trod enc P W 0 (fun _ => true) true t (.slice a n c) d ps) : n ≤ 140737488351232 := by
  obtain ⟨fuel, hf⟩ := h
  rcases open_ints ht he ce hf with ⟨hcs, _⟩ | ⟨x, l, c', zs, hcs, _, hl, hm, hz, hx, hcell, hwz⟩
  · simp [Value.cells] at hcs
    omega
  · simp [Value.cells] at hcs
    obtain ⟨rfl, rfl, rfl⟩ := hcs
    simp only [Prod.mk.injEq] at hx
    obtain ⟨rfl, _⟩ := hx
    have := sized_slice hs htj hdj ht
    rw [be] at this
    simp only [lits, List.length_map, List.length_take, List.length_drop, reachBytes] at this
    simp only [if_true] at hz
    omega
end
end Go
/- Rows of bytes, as an argument. -/
namespace Go
open Go.ChangeShapes Go.WideShapes Go.ChangeAt Go.RowKit Go.Deep
/-- A slice of slices of bytes. -/
structure BRowsV (w : World) (a : Option Addr) (n c : Nat) (A : Nat → Option Addr) (L C : Nat → Nat) (Z : Nat → List Int) : Prop where
  room : n ≤ c
  most : c ≤ maxLen
  onNil : a = none → c = 0
  cells : 0 < n → ∃ b off, a = some ⟨b, off, none⟩ ∧ ∀ i, i < n → w.cell? ⟨b, off + i, none⟩ = some (.slice (A i) (L i) (C i))
  rows : ∀ i, i < n → BytesV w (A i) (L i) (C i) (Z i)
section
variable {H : Type} {enc : TypeId × Value → H} {P : Program} {W : World}
theorem byterows_of {t e q : TypeId} {a : Option Addr} {n c : Nat} {d : DataW H} {ps : List MemPlace} (ht : P.underlying t = some (.slice e)) (he : P.underlying e = some (.slice q)) (hq : P.underlying q = some (.int .u8)) (ce : P.cellsOf e = 1) (cq : P.cellsOf q = 1)
    (h : DataW.Trod enc P W 0 (fun _ => true) true t (.slice a n c) d ps) : ∃ A L C Z, BRowsV W a n c A L C Z := by
  obtain ⟨fuel, hf⟩ := h
  rcases open_int_rows ht he hq ce cq hf with ⟨hcs, _⟩ | ⟨x, l, c', A, L, C, Z, hcs, _, hl, hm, _, hr⟩
  · simp [Value.cells] at hcs
    obtain ⟨rfl, rfl, rfl⟩ := hcs
    exact ⟨fun _ => none, fun _ => 0, fun _ => 0, fun _ => [], Nat.le_refl _, Nat.zero_le _, fun _ => rfl, fun h => absurd h (by decide), fun i hi => absurd hi (by omega)⟩
  · simp [Value.cells] at hcs
    obtain ⟨rfl, rfl, rfl⟩ := hcs
    refine ⟨A, L, C, fun i => (Z i).take (L i), hl, hm, fun h => (by cases h), fun hn => ?_, fun i hi => ?_⟩
    · obtain ⟨b, off, spot⟩ := x
      have hspot : spot = none := by simpa [Addr.add] using World.cell?_spot (hr 0 (by omega)).1
      subst hspot
      exact ⟨b, off, rfl, fun i hi => by rw [← add_plain]; exact (hr i (by omega)).1⟩
    · obtain ⟨_, h1, h2, h3, h4, h5, h6⟩ := hr i (by omega)
      cases hA : A i with
      | none =>
        have hc := h5 hA
        have hl0 : L i = 0 := by omega
        have hz0 : (Z i).take (L i) = [] := by rw [hl0]; rfl
        (try dsimp only)
        rw [hz0, hl0, hc]
        exact BytesV.empty W
      | some y => exact BytesV.ofRow h1 h2 h3 (fun j hj => (h6 y hA).2 j (by omega)) h4
end
end Go
/- append(s, l...) of one's own row, l of whatever length. -/
namespace Go
theorem World.grownBy.same (w : World) (r : Option Nat) : w.grownBy w r := ⟨rfl, rfl, rfl, Nat.le_refl _, fun _ _ _ => rfl⟩
section
variable {P : Program} {w : World}
theorem run_append_any (t ty : TypeId) (base : Nat) (e : TypeId) (i : TypeInfo) (z : Value) (size bytes : Nat) (ht : P.underlying t = some (.slice e)) (hi : P.info? e = some i) (hz : i.zero = some z)
    (hsize : i.size = size) (hby : i.bytes = bytes) (hzs : z.cells.size = size) (hsz : 0 < size)
    (v : Value) (n : Nat) (xs : List Value) (hown : w.ownsRow base e size v n xs)
    (xa : Option Addr) (m c : Nat) (news : List Value) (hl : news.length = m * size) (hnews : 0 < m → ∃ ad, xa = some ad ∧ ∀ j u, news[j]? = some u → w.cell? (ad.add j) = some u) (h1 : ∀ u ∈ news, u.oneCell' = true)
    (h63 : n + m ≤ maxLen) (hbytes : (n + m) * bytes ≤ 140737488355328) (hbase : base ≤ w.heap.size) :
    ∃ v' w', (Builtin.append_ #[t, t] ty #[v, .slice xa m c]).run P w = .ok v' w' ∧ w'.ownsRow base e size v' (n + m) (xs ++ news) ∧ w.grownBy w' v.ownBlock ∧ (v'.ownBlock = v.ownBlock ∨ v'.ownBlock = some w.heap.size) ∧ ∃ a' c', v' = .slice a' (n + m) c' := by
  rcases Nat.eq_zero_or_pos m with h0 | h0
  · subst h0
    have hnil : news = [] := List.eq_nil_of_length_eq_zero (by omega)
    subst hnil
    have hr : (Builtin.append_ #[t, t] ty #[v, .slice xa 0 c]).run P w = .ok v w := by
      rcases hown.2 with ⟨rfl, rfl⟩ | ⟨g, cap, cur, rfl, _, _, hnc, _⟩
      · cases xa <;> simp [Builtin.append_, run_underlying ht, sizeOf, typeInfo, hi, Builtin.lenOf, Builtin.firstCells, loadCells, loadCellsFrom]
      · cases xa <;> simp [Builtin.append_, run_underlying ht, sizeOf, typeInfo, hi, Builtin.lenOf, Builtin.firstCells, hnc, storeCells, loadCells, loadCellsFrom]
    refine ⟨v, w, hr, by rw [List.append_nil]; exact hown, World.grownBy.same w _, .inl rfl, ?_⟩
    rcases hown.2 with ⟨rfl, rfl⟩ | ⟨g, cap, cur, rfl, _, _, hnc, _⟩
    · exact ⟨_, _, rfl⟩
    · exact ⟨_, _, rfl⟩
  · obtain ⟨ad, rfl, hc⟩ := hnews h0
    obtain ⟨g, cap, w', hr, h2, h3, h4, _⟩ := run_append_lies (P := P) (w := w) t ty base e i z size bytes ht hi hz hsize hby hzs hsz v n xs hown ad m c news hl hc h1 h0 h63 hbytes hbase _ rfl
    exact ⟨_, w', hr, h2, h3, h4.imp (fun h => h.symm) (fun h => by rw [h]; rfl), _, _, rfl⟩
theorem step_append_any {ops : Array Oper} {o : Oper} {a : Act} {K : Act → World → Prop} {Q : Exit → Act → World → Prop} {E : Prop} (hgd : o.guard = none) (s x : Operand) (t : TypeId)
    (ho : o.op = .call { callee := .builtin .append, args := #[s, x], argTypes := #[t, t] })
    (base : Nat) (e : TypeId) (i : TypeInfo) (z : Value) (size bytes : Nat) (ht : P.underlying t = some (.slice e)) (hi : P.info? e = some i) (hz : i.zero = some z)
    (hsize : i.size = size) (hby : i.bytes = bytes) (hzs : z.cells.size = size) (hsz : 0 < size)
    (v : Value) (n : Nat) (xs : List Value) (hs : a.eval s = v) (hown : w.ownsRow base e size v n xs)
    (xa : Option Addr) (m c : Nat) (news : List Value) (hx : a.eval x = .slice xa m c) (hl : news.length = m * size) (hnews : 0 < m → ∃ ad, xa = some ad ∧ ∀ j u, news[j]? = some u → w.cell? (ad.add j) = some u) (h1 : ∀ u ∈ news, u.oneCell' = true)
    (h63 : n + m ≤ maxLen) (hbytes : (n + m) * bytes ≤ 140737488355328) (hbase : base ≤ w.heap.size)
    (h : ∀ a' c' w', w'.ownsRow base e size (.slice a' (n + m) c') (n + m) (xs ++ news) → w.grownBy w' v.ownBlock → ((Value.slice a' (n + m) c').ownBlock = v.ownBlock ∨ (Value.slice a' (n + m) c').ownBlock = some w.heap.size) → K (a.put o.dst (.slice a' (n + m) c')) w') :
    if Region.wanted o (yielded ops a.tmps) = true then Oper.wp P o a w K Q else E := by
  have hw : Region.wanted o (yielded ops a.tmps) = true := by simp [Region.wanted, hgd]
  rw [if_pos hw]
  obtain ⟨v', w', hr, h2, h3, h4, a', c', rfl⟩ := run_append_any (P := P) (w := w) t o.type base e i z size bytes ht hi hz hsize hby hzs hsz v n xs hown xa m c news hl hnews h1 h63 hbytes hbase
  unfold Oper.wp execOp
  simp only [ho, resolve, invoke, builtin, Sem.run_bind, Sem.run_pure, Result.andThen_ok, List.map_toArray, List.map_cons, List.map_nil, hs, hx, hr]
  exact h a' c' w' h2 h3 h4
end
end Go
/- append(s, l...) of one's own row, l of whatever length, in a plain region. -/
namespace Go
theorem wpList_append_any {P : Program} {w : World} {ops : Array Oper} {rest : List Oper} {o : Oper} {a : Act} {Q : Exit → Act → World → Prop} (hgd : o.guard = none) (s x : Operand) (t : TypeId)
    (ho : o.op = .call { callee := .builtin .append, args := #[s, x], argTypes := #[t, t] })
    (base : Nat) (e : TypeId) (i : TypeInfo) (z : Value) (size bytes : Nat) (ht : P.underlying t = some (.slice e)) (hi : P.info? e = some i) (hz : i.zero = some z)
    (hsize : i.size = size) (hby : i.bytes = bytes) (hzs : z.cells.size = size) (hsz : 0 < size)
    (v : Value) (n : Nat) (xs : List Value) (hs : a.eval s = v) (hown : w.ownsRow base e size v n xs)
    (xa : Option Addr) (m c : Nat) (news : List Value) (hx : a.eval x = .slice xa m c) (hl : news.length = m * size) (hnews : 0 < m → ∃ ad, xa = some ad ∧ ∀ j u, news[j]? = some u → w.cell? (ad.add j) = some u) (h1 : ∀ u ∈ news, u.oneCell' = true)
    (h63 : n + m ≤ maxLen) (hbytes : (n + m) * bytes ≤ 140737488355328) (hbase : base ≤ w.heap.size)
    (h : ∀ a' c' w', w'.ownsRow base e size (.slice a' (n + m) c') (n + m) (xs ++ news) → w.grownBy w' v.ownBlock → ((Value.slice a' (n + m) c').ownBlock = v.ownBlock ∨ (Value.slice a' (n + m) c').ownBlock = some w.heap.size) → wpList P ops Q rest (a.put o.dst (.slice a' (n + m) c')) w') : wpList P ops Q (o :: rest) a w := by
  refine wpList_plain hgd fun K hK => ?_
  obtain ⟨v', w', hr, h2, h3, h4, a', c', rfl⟩ := run_append_any (P := P) (w := w) t o.type base e i z size bytes ht hi hz hsize hby hzs hsz v n xs hown xa m c news hl hnews h1 h63 hbytes hbase
  unfold Oper.wp execOp
  simp only [ho, resolve, invoke, builtin, Sem.run_bind, Sem.run_pure, Result.andThen_ok, List.map_toArray, List.map_cons, List.map_nil, hs, hx, hr]
  exact hK _ _ (h a' c' w' h2 h3 h4)
end Go
/- CycleNodes: the nodes and the messages in memory. -/
namespace Go
open Go.RowKit
theorem own_cellN {w : World} {B e n : Nat} {v : Value} {vs : List Value} (h : w.ownsRow B e 1 v n vs) (hn : 0 < n) : ∃ g cap, v = .slice (some ⟨g, 0, none⟩) n cap ∧ B ≤ g ∧ g < w.heap.size ∧ n ≤ cap ∧ cap ≤ maxLen ∧ (∀ i x, vs[i]? = some x → w.cell? ⟨g, i, none⟩ = some x) ∧ ∀ i, w.frozen? ⟨g, i, none⟩ = false := by
  obtain ⟨hl, h⟩ := h
  rcases h with ⟨_, h0⟩ | ⟨g, cap, cur, rfl, hb, hg, hnc, hcm, hcs, ht⟩
  · omega
  · refine ⟨g, cap, rfl, hb, (Array.getElem?_eq_some_iff.1 hg).1, hnc, hcm, fun i x hx => ?_, thaw hg⟩
    rw [cell_of_row w g i cur e (0, 0) hg]
    have hi := (List.getElem?_eq_some_iff.1 hx).1
    have : (cur.toList.take (n * 1))[i]? = vs[i]? := by rw [ht]
    rw [List.getElem?_take, if_pos (by omega)] at this
    simp only [Array.getElem?_toList] at this
    rw [this, hx]
theorem drewN_heapN (w : World) (q : Nat) : (w.drewN q).heap = w.heap := by
  induction q with
  | zero => rfl
  | succ q ih => exact ih
theorem keep_setCellsN {S : List Nat} {w : World} {b : Nat} (hb : b ∈ S) : ∀ (vs : List Value) (o : Nat) (w' : World), Keep S w w' → Keep S w (w'.setCells b o vs) := by
  intro vs
  induction vs with
  | nil => intro o w' h; exact h
  | cons v vs ih => intro o w' h; exact ih (o + 1) _ (h.setCell (.inl hb) v)
theorem blk_setCellsN {b : Nat} {e : TypeId} {f : Nat × Nat} : ∀ (vs : List Value) (o : Nat) (w : World) (cur : Array Value), w.heap[b]? = some (.cells cur e f) → o + vs.length ≤ cur.size →
    (w.setCells b o vs).heap[b]? = some (.cells (cur.toList.take o ++ vs ++ cur.toList.drop (o + vs.length)).toArray e f) := by
  intro vs
  induction vs with
  | nil => intro o w cur h _; simp [World.setCells, h]
  | cons v vs ih =>
    intro o w cur h hl
    simp only [List.length_cons] at hl
    have h1 : (w.setCell ⟨b, o, none⟩ v).heap[b]? = some (.cells (cur.setIfInBounds o v) e f) := by rw [blk_setCell, if_pos rfl, h]; rfl
    have h2 := ih (o + 1) _ _ h1 (by simpa using by omega)
    rw [World.setCells, h2]
    congr 3
    simp only [Array.toList_setIfInBounds]
    have hlen : o < cur.toList.length := by simpa using by omega
    rw [List.take_set, List.drop_set_of_lt (by omega), List.take_succ_eq_append_getElem hlen, List.set_append_right _ _ (by simp only [List.length_take]; omega)]
    simp only [List.length_take, List.length_cons]
    rw [show o - min o cur.toList.length = 0 by omega, show o + 1 + vs.length = o + (vs.length + 1) by omega]
    simp
def Nd.bl (d : Nd) : List Nat := [d.b, d.bR, d.bM, d.bT]
theorem NodeAt.lift {w : World} {P : Program} {H H' b bR bM bT N : Nat} {f : Int → Option Value} {R : Int → Option (List Int)} {mk tl : Int → Bool} {came : Int} (h : NodeAt w P H b bR bM bT N f R mk tl [] came (.slice none 0 0)) (hH : H ≤ H') : NodeAt w P H' b bR bM bT N f R mk tl [] came (.slice none 0 0) :=
  ⟨h.blk, h.mr, h.rf.grow hH, h.mm, h.mt, World.ownsRow_nil _ _ _ _, h.dwf, h.ne⟩
def NdOk (P : Program) (w : World) (i : Nat) (d : Nd) : Prop := ∃ (N : Nat) (came : Int), N ≤ 100000000 + i * 80000000 ∧ 0 ≤ came ∧ came ≤ i ∧ NodeAt w P w.heap.size d.b d.bR d.bM d.bT N d.f d.R d.mk d.tl [] came (.slice none 0 0)
theorem NdOk.lt {P : Program} {w : World} {i : Nat} {d : Nd} (h : NdOk P w i d) : ∀ g ∈ d.bl, g < w.heap.size := by
  obtain ⟨N, came, _, _, _, h⟩ := h
  intro g hg
  simp only [Nd.bl, List.mem_cons, List.not_mem_nil, or_false] at hg
  rcases hg with rfl | rfl | rfl | rfl
  · exact lt_of_blk h.blk
  · exact h.mr.lt
  · exact MapF.lt h.mm
  · exact MapF.lt h.mt
theorem NdOk.notCells {P : Program} {w : World} {i : Nat} {d : Nd} (h : NdOk P w i d) {g : Nat} {cs : Array Value} {T : TypeId} {fr : Nat × Nat} (hc : w.heap[g]? = some (.cells cs T fr)) (hT : T ≠ 73) : g ∉ d.bl := by
  obtain ⟨N, came, _, _, _, h⟩ := h
  intro hg
  simp only [Nd.bl, List.mem_cons, List.not_mem_nil, or_false] at hg
  rcases hg with rfl | rfl | rfl | rfl
  · exact neTypeY hc h.blk hT rfl
  · exact h.mr.notCells hc rfl
  · exact h.mm.notCells hc rfl
  · exact h.mt.notCells hc rfl
/-- A node is kept, if its rows are. -/
theorem NdOk.keepR {P : Program} {S : List Nat} {w w' : World} {i i' : Nat} {d : Nd} (h : NdOk P w i d) (hk : Keep S w w') (hb : ∀ g ∈ d.bl, g ∉ S) (hr : ∀ x a n c ad, d.f x = some (.slice a n c) → a = some ad → ad.block ∉ S) (hi : i ≤ i') : NdOk P w' i' d := by
  obtain ⟨N, came, h1, h2, h3, h⟩ := h
  have hi2 : i * 80000000 ≤ i' * 80000000 := Nat.mul_le_mul_right _ hi
  refine ⟨N, came, Nat.le_trans h1 (Nat.add_le_add_left hi2 _), h2, by omega, ⟨hk.at h.blk (hb _ (by simp [Nd.bl])), h.mr.keep hk (hb _ (by simp [Nd.bl])), fun x => ?_, h.mm.keep hk (hb _ (by simp [Nd.bl])), h.mt.keep hk (hb _ (by simp [Nd.bl])), World.ownsRow_nil _ _ _ _, h.dwf, h.ne⟩⟩
  rcases h.rf x with h5 | ⟨xs, a, c, h5, h6, h7, h8, h9⟩
  · exact .inl h5
  · have hn : ∀ ad, a = some ad → ad.block ∉ S := fun ad he => hr x a _ c ad h6 he
    exact .inr ⟨xs, a, c, h5, h6, h7.keep hk hn, h8, fun ad he => by obtain ⟨h10, cs, hc⟩ := h9 ad he; exact ⟨Nat.lt_of_lt_of_le h10 hk.size, cs, hk.at hc (hn ad he)⟩⟩
theorem NdOk.rowLt {P : Program} {w : World} {i : Nat} {d : Nd} (h : NdOk P w i d) {x : Int} {a : Option Addr} {n c : Nat} {ad : Addr} (hf : d.f x = some (.slice a n c)) (he : a = some ad) : ad.block < w.heap.size ∧ ∃ cs, w.heap[ad.block]? = some (.cells cs 3 (0, 0)) := by
  obtain ⟨N, came, _, _, _, h⟩ := h
  rcases h.rf x with ⟨_, h5⟩ | ⟨xs, a', c', _, h6, _, _, h9⟩
  · rw [h5] at hf; cases hf
  · rw [hf] at h6
    injection h6 with h6
    injection h6 with h6 _ _
    subst h6
    exact h9 ad he
structure DsAt (P : Program) (w0 w : World) (i : Nat) (ds : List Nd) (way : List Int) (v : Value) : Prop where
  ok : ∀ d ∈ ds, NdOk P w i d
  apart : ds.Pairwise (fun d e => ∀ g ∈ d.bl, g ∉ e.bl)
  young : ∀ d ∈ ds, ∀ g ∈ d.bl, w0.heap.size ≤ g
  row : w.ownsRow w0.heap.size 3 1 v way.length (way.map (Value.int .i64))
  far : ∀ d ∈ ds, ApartF d.f v
  keep : Keep [] w0 w
section
variable {P : Program} {w0 w w' : World} {i : Nat} {ds : List Nd} {way way' : List Int} {v v' : Value} {S : List Nat}
theorem DsAt.start (P : Program) (w : World) : DsAt P w w 0 [] [] (.slice none 0 0) :=
  ⟨fun d h => (by cases h), List.Pairwise.nil, fun d h => (by cases h), World.ownsRow_nil _ _ _ _, fun d h => (by cases h), Keep.refl _ _⟩
/-- Other rows are written. -/
theorem DsAt.keepT (h : DsAt P w0 w i ds way v) (hk : Keep S w w') (hS : ∀ g ∈ S, w0.heap.size ≤ g ∧ (w.heap.size ≤ g ∨ ∃ cs T fr, w.heap[g]? = some (.cells cs T fr) ∧ T ≠ 73 ∧ T ≠ 3)) : DsAt P w0 w' i ds way v := by
  refine ⟨fun d hd => (h.ok d hd).keepR hk (fun g hg hm => ?_) (fun x a n c ad hf he hm => ?_) (Nat.le_refl _), h.apart, h.young, own_keep h.row hk (fun g hg hm => ?_), h.far, h.keep.call hk (fun g hg => .inr (hS g hg).1)⟩
  · rcases (hS g hm).2 with h1 | ⟨cs, T, fr, h1, h2, _⟩
    · have := (h.ok d hd).lt g hg; omega
    · exact (h.ok d hd).notCells h1 h2 hg
  · obtain ⟨h3, cs, h4⟩ := (h.ok d hd).rowLt hf he
    rcases (hS _ hm).2 with h1 | ⟨cs, T, fr, h1, _, h2⟩
    · omega
    · exact neTypeY h1 h4 h2 rfl
  · obtain ⟨h3, h4, cs, h5⟩ := ownLt h.row g hg
    rcases (hS g hm).2 with h1 | ⟨cs, T, fr, h1, _, h2⟩
    · omega
    · exact neTypeY h1 h5 h2 rfl
theorem DsAt.keep0 (h : DsAt P w0 w i ds way v) (hk : Keep [] w w') : DsAt P w0 w' i ds way v := h.keepT hk (fun g hg => by cases hg)
/-- The row of messages is written. -/
theorem DsAt.turn (h : DsAt P w0 w i ds way v) (hk : Keep v.ownBlock.toList w w') (ho : w'.ownsRow w0.heap.size 3 1 v' way'.length (way'.map (Value.int .i64))) (hv : v'.ownBlock = v.ownBlock ∨ v'.ownBlock = some w.heap.size) : DsAt P w0 w' i ds way' v' := by
  refine ⟨fun d hd => (h.ok d hd).keepR hk (fun g hg hm => ?_) (fun x a n c ad hf he hm => ?_) (Nat.le_refl _), h.apart, h.young, ho, fun d hd x a n c ad hf he hm => ?_, h.keep.call hk (fun g hg => .inr (ownLt h.row g (by simpa using hg)).1)⟩
  · obtain ⟨_, _, cs, hc⟩ := ownLt h.row g (by simpa using hm)
    exact (h.ok d hd).notCells hc (by decide) hg
  · exact h.far d hd x a n c ad hf he (by simpa using hm)
  · rcases hv with hv | hv
    · exact h.far d hd x a n c ad hf he (hv ▸ hm)
    · rw [hv] at hm
      injection hm with hm
      have := ((h.ok d hd).rowLt hf he).1
      omega
/-- One more node. -/
theorem DsAt.new {d : Nd} {wa : World} (h : DsAt P w0 w i ds way v) (hlt : ∀ e ∈ ds, ∀ g ∈ e.bl, g < wa.heap.size) (hvl : ∀ g, v.ownBlock = some g → g < wa.heap.size) (h0 : w0.heap.size ≤ wa.heap.size) (hd : NdOk P w i d) (hb : ∀ g ∈ d.bl, wa.heap.size ≤ g) (hf : ∀ x a n c ad, d.f x = some (.slice a n c) → a = some ad → wa.heap.size ≤ ad.block) : DsAt P w0 w i (ds ++ [d]) way v := by
  refine ⟨fun e he => ?_, ?_, fun e he => ?_, h.row, fun e he => ?_, h.keep⟩
  · rcases List.mem_append.1 he with he | he
    · exact h.ok e he
    · rw [List.mem_singleton.1 he]; exact hd
  · rw [List.pairwise_append]
    refine ⟨h.apart, List.pairwise_singleton _ _, fun a ha b hb2 g hg hm => ?_⟩
    rw [List.mem_singleton.1 hb2] at hm
    have h1 := hlt a ha g hg
    have h2 := hb g hm
    omega
  · rcases List.mem_append.1 he with he | he
    · exact h.young e he
    · rw [List.mem_singleton.1 he]; exact fun g hg => Nat.le_trans h0 (hb g hg)
  · rcases List.mem_append.1 he with he | he
    · exact h.far e he
    · rw [List.mem_singleton.1 he]
      intro x a n c ad h1 h2 h3
      have h4 := hf x a n c ad h1 h2
      have h5 := hvl _ h3
      omega
theorem pair_at {ds : List Nd} (h : ds.Pairwise (fun d e => ∀ g ∈ d.bl, g ∉ e.bl)) {j k : Nat} {d e : Nd} (hj : ds[j]? = some d) (hk : ds[k]? = some e) (hne : j ≠ k) : ∀ g ∈ d.bl, g ∉ e.bl := by
  rw [List.pairwise_iff_getElem] at h
  obtain ⟨hj2, he1⟩ := List.getElem?_eq_some_iff.1 hj
  obtain ⟨hk2, he2⟩ := List.getElem?_eq_some_iff.1 hk
  rw [← he1, ← he2]
  rcases Nat.lt_or_ge j k with hlt | hge
  · exact h j k hj2 hk2 hlt
  · intro g h1 h2
    exact h k j hk2 hj2 (by omega) g h2 h1
/-- One node is turned. -/
theorem DsAt.came {d d' : Nd} {j : Nat} (h : DsAt P w0 w i ds way v) (hd : ds[j]? = some d) (hk : Keep [d.b, d.bM, d.bT] w w') (hd' : NdOk P w' (i + 1) d') (hbl : d'.bl = d.bl) (hf : d'.f = d.f) : DsAt P w0 w' (i + 1) (ds.set j d') way v := by
  have hdm := List.mem_of_getElem? hd
  obtain ⟨hjl, hje⟩ := List.getElem?_eq_some_iff.1 hd
  have hS : ∀ g ∈ [d.b, d.bM, d.bT], g ∈ d.bl := fun g hg => by
    simp only [List.mem_cons, List.not_mem_nil, or_false] at hg
    rcases hg with rfl | rfl | rfl <;> simp [Nd.bl]
  have hset : ∀ k e, (ds.set j d')[k]? = some e → (k = j ∧ e = d') ∨ (k ≠ j ∧ ds[k]? = some e) := fun k e he => by
    by_cases hj : j = k
    · subst hj
      rw [List.getElem?_set_self hjl] at he
      injection he with he
      exact .inl ⟨rfl, he.symm⟩
    · rw [List.getElem?_set_ne hj] at he
      exact .inr ⟨fun e => hj e.symm, he⟩
  have hrow : ∀ g, (∃ cs, w.heap[g]? = some (.cells cs 3 (0, 0))) → g ∉ [d.b, d.bM, d.bT] := fun g ⟨cs, hc⟩ hm => (h.ok d hdm).notCells hc (by decide) (hS g hm)
  refine ⟨fun e he => ?_, ?_, fun e he => ?_, own_keep h.row hk (fun g hg => hrow g (ownLt h.row g hg).2.2), fun e he => ?_, h.keep.call hk (fun g hg => .inr (h.young d hdm g (hS g hg)))⟩
  · obtain ⟨k, hk1⟩ := List.getElem?_of_mem he
    rcases hset k e hk1 with ⟨_, rfl⟩ | ⟨hne, hk2⟩
    · exact hd'
    · have hem := List.mem_of_getElem? hk2
      exact (h.ok e hem).keepR hk (fun g hg hm => pair_at h.apart hd hk2 (fun e => hne e.symm) g (hS g hm) hg) (fun x a n c ad h1 h2 => hrow _ ((h.ok e hem).rowLt h1 h2).2) (by omega)
  · rw [List.pairwise_iff_getElem]
    intro a b ha hb hab
    have h1 := hset a _ (List.getElem?_eq_getElem ha)
    have h2 := hset b _ (List.getElem?_eq_getElem hb)
    rcases h1 with ⟨e1, e2⟩ | ⟨e1, e2⟩ <;> rcases h2 with ⟨e3, e4⟩ | ⟨e3, e4⟩
    · omega
    · rw [e2, hbl]; exact pair_at h.apart (e1 ▸ hd) e4 (by omega)
    · rw [e4, hbl]; exact pair_at h.apart e2 (e3 ▸ hd) (by omega)
    · exact pair_at h.apart e2 e4 (by omega)
  · obtain ⟨k, hk1⟩ := List.getElem?_of_mem he
    rcases hset k e hk1 with ⟨_, rfl⟩ | ⟨hne, hk2⟩
    · rw [hbl]; exact h.young d hdm
    · exact h.young e (List.mem_of_getElem? hk2)
  · obtain ⟨k, hk1⟩ := List.getElem?_of_mem he
    rcases hset k e hk1 with ⟨_, rfl⟩ | ⟨hne, hk2⟩
    · rw [hf]; exact h.far d hdm
    · exact h.far e (List.mem_of_getElem? hk2)
end
/-- The parts under way: what is whose, and where everybody is. -/
def homeF (hm : Int → Nat) (l : List Kn) : Int → Option Value := fun x => if x ∈ l.map Kn.ref then some (.int .i64 (hm x)) else none
structure PartsAt (P : Program) (w0 w : World) (bp bH m : Nat) (ks : List Kn) (i : Nat) (hm : Int → Nat) (vs : List Value) : Prop where
  len : vs.length = m
  blk : w.heap[bp]? = some (.cells vs.toArray 34 (0, 0))
  own : ∀ (j : Nat) (v : Value), vs[j]? = some v → w.ownsRow w0.heap.size 38 4 v (pf hm j (ks.take i)).length (knsC (pf hm j (ks.take i)))
  apart : ∀ (j k : Nat) (u v : Value) (g : Nat), vs[j]? = some u → vs[k]? = some v → u.ownBlock = some g → v.ownBlock = some g → j = k
  map : MapF w P 3 bH i (homeF hm (ks.take i))
  home : ∀ k ∈ ks.take i, hm k.ref < m
  keep : Keep [] w0 w
section
variable {P : Program} {w0 w wa w9 w' : World} {bp bH m i n : Nat} {ks : List Kn} {hm : Int → Nat} {vs : List Value} {x : Kn} {v v9 : Value}
theorem PartsAt.step (hk : KnList ks) (h : PartsAt P w0 w bp bH m ks i hm vs) (hx : ks[i]? = some x) (hv : vs[n]? = some v) (h0 : w0.heap.size ≤ bp ∧ w0.heap.size ≤ bH)
    (hka : Keep [] w wa) (hk9 : Keep v.ownBlock.toList wa w9) (ho9 : w9.ownsRow w0.heap.size 38 4 v9 ((pf hm n (ks.take i)).length + 1) (knsC (pf hm n (ks.take i)) ++ x.cells)) (hv9 : v9.ownBlock = v.ownBlock ∨ v9.ownBlock = some wa.heap.size)
    (hk' : Keep [bH] (w9.setCell ⟨bp, n, none⟩ v9) w') (hm' : MapF w' P 3 bH (i + 1) (fun y => if y = x.ref then some (.int .i64 n) else homeF hm (ks.take i) y)) : PartsAt P w0 w' bp bH m ks (i + 1) (upH hm x.ref n) (vs.set n v9) := by
  have hnl := (List.getElem?_eq_some_iff.1 hv).1
  have hnb : ∀ k ∈ ks.take i, k.ref ≠ x.ref := fun k hkm he => by
    obtain ⟨j, hj⟩ := List.getElem?_of_mem hkm
    rw [List.getElem?_take] at hj
    split at hj
    · have h1 := hk.nums j k hj
      have h2 := hk.nums i x hx
      omega
    · cases hj
  have hpf := pf_snoc (hm := hm) (n := n) hnb
  have hts := take_snoc ks i x hx
  have hbv : bp ∉ v.ownBlock.toList := fun hm => by
    obtain ⟨_, _, cs, hc⟩ := ownLt (h.own n v hv) bp (by simpa using hm)
    exact neTypeY hc h.blk (by decide) rfl
  have hb9 := hk9.at (hka.at h.blk (by simp)) hbv
  have hmw : bH ≠ bp := h.map.notCells h.blk
  have hbp : (w9.setCell ⟨bp, n, none⟩ v9).heap[bp]? = some (.cells (vs.set n v9).toArray 34 (0, 0)) := by
    rw [blk_setCell, if_pos rfl, hb9, Option.map_some, Obj.put_cells]
    congr 2
    rw [List.setIfInBounds_toArray]
  have hset : ∀ (j : Nat) (u : Value), (vs.set n v9)[j]? = some u → (j = n ∧ u = v9) ∨ (j ≠ n ∧ vs[j]? = some u) := fun j u hu => by
    by_cases hj : n = j
    · subst hj
      rw [List.getElem?_set_self hnl] at hu
      injection hu with hu
      exact .inl ⟨rfl, hu.symm⟩
    · rw [List.getElem?_set_ne hj] at hu
      exact .inr ⟨fun e => hj e.symm, hu⟩
  have hkS : Keep [bp, bH] w9 w' := ((Keep.refl [bp, bH] w9).setCell (.inl (by simp)) v9).trans (hk'.more (by simp))
  have hwa : w0.heap.size ≤ wa.heap.size := Nat.le_trans h.keep.size hka.size
  have hcell : ∀ {u : Value} {q : Nat} {l : List Value}, w9.ownsRow w0.heap.size 38 4 u q l → w'.ownsRow w0.heap.size 38 4 u q l := fun {u q l} ho => own_keep ho hkS (fun g hg hm2 => by
    obtain ⟨_, _, cs, hc⟩ := ownLt ho g hg
    simp only [List.mem_cons, List.not_mem_nil, or_false] at hm2
    rcases hm2 with rfl | rfl
    · exact neTypeY hc hb9 (by decide) rfl
    · have := h.map.keep hka (by simp)
      have hbH : g ∉ v.ownBlock.toList := fun hm3 => by
        obtain ⟨_, _, cs', hc'⟩ := ownLt (h.own n v hv) g (by simpa using hm3)
        exact h.map.notCells hc' rfl
      exact (this.keep hk9 hbH).notCells hc rfl)
  refine ⟨by rw [List.length_set]; exact h.len, hk'.at hbp (by simpa using fun e : bp = bH => hmw e.symm), fun j u hu => ?_, fun j k u u' g hj hkk h1 h2 => ?_, ?_, fun k hkm => ?_, ((h.keep.trans hka).call hk9 (fun g hg => .inr (ownLt (h.own n v hv) g (by simpa using hg)).1)).call hkS (fun g hg => .inr ?_)⟩
  · rcases hset j u hu with ⟨rfl, rfl⟩ | ⟨hne, hu⟩
    · rw [hts, hpf, if_pos rfl]
      rw [knsC_snoc, List.length_append, List.length_singleton]
      exact hcell ho9
    · rw [hts, hpf, if_neg (fun e => hne e.symm)]
      exact hcell (own_keep (own_keep (h.own j u hu) hka (by simp)) hk9 (fun g hg hm2 => hne (h.apart j n u v g hu hv hg (by simpa using hm2))))
  · have hlt9 : ∀ (j : Nat) (u : Value) (g : Nat), vs[j]? = some u → u.ownBlock = some g → g < wa.heap.size := fun j u g h3 h4 => Nat.lt_of_lt_of_le (ownLt (h.own j u h3) g h4).2.1 hka.size
    rcases hset j u hj with ⟨e1, e2⟩ | ⟨hne, hj⟩ <;> rcases hset k u' hkk with ⟨e3, e4⟩ | ⟨hne2, hkk⟩
    · rw [e1, e3]
    · rw [e1]
      rw [e2] at h1
      rcases hv9 with h3 | h3
      · exact h.apart _ _ _ _ g hv hkk (h3 ▸ h1) h2
      · rw [h3] at h1
        injection h1 with h1
        have := hlt9 _ _ _ hkk h2
        omega
    · rw [e3]
      rw [e4] at h2
      rcases hv9 with h3 | h3
      · exact h.apart _ _ _ _ g hj hv h1 (h3 ▸ h2)
      · rw [h3] at h2
        injection h2 with h2
        have := hlt9 _ _ _ hj h1
        omega
    · exact h.apart j k u u' g hj hkk h1 h2
  · have he : (fun y => if y = x.ref then some (.int .i64 n) else homeF hm (ks.take i) y) = homeF (upH hm x.ref n) (ks.take (i + 1)) := by
      funext y
      unfold homeF upH
      rw [hts]
      by_cases hy : y = x.ref
      · simp [hy]
      · simp [hy]
    rw [← he]
    exact hm'
  · rw [hts] at hkm
    unfold upH
    rcases List.mem_append.1 hkm with hkm | hkm
    · rw [if_neg (hnb k hkm)]; exact h.home k hkm
    · rw [List.mem_singleton.1 hkm, if_pos rfl, ← h.len]; exact hnl
  · simp only [List.mem_cons, List.not_mem_nil, or_false] at hg
    rcases hg with rfl | rfl
    · exact h0.1
    · exact h0.2
end
end Go
/- CycleNodes: slices.Delete of the messages, and what is left of a node. -/
namespace Go
theorem MapR.own {w : World} {P : Program} {k : TypeId} {b r n cnt : Nat} {f : Int → Option Value} {ss : List Int} (h : MapR w P k b r n f ss cnt) : ∀ x ∈ ss, (f x).isSome = true := by
  obtain ⟨D, left, _, _, _, _, _, _, h1⟩ := h
  exact fun x hx => (h1 x hx).1
end Go
namespace Go.Proofs.Ytmedldloilbmeaa
open Go.RowKit
theorem delete27_own {B n g cap i : Nat} {I J : Int} {zs : List Int} {w : World} (h : w.ownsRow B 3 1 (.slice (some ⟨g, 0, none⟩) n cap) n (zs.map (Value.int .i64))) (hi : i < n) (hI : Hid (I = i)) (hJ : Hid (J = (i + 1 : Nat))) :
    Calls Try.prog 27 #[.slice (some ⟨g, 0, none⟩) n cap, .int .i64 I, .int .i64 J] w fun e w' => e = .returned (.slice (some ⟨g, 0, none⟩) (n - 1) cap) ∧ Keep [g] w w' ∧ w'.ownsRow B 3 1 (.slice (some ⟨g, 0, none⟩) (n - 1) cap) (n - 1) ((zs.eraseIdx i).map (Value.int .i64)) := by
  obtain rfl := hI.out
  obtain rfl := hJ.out
  have hlen : zs.length = n := by have := h.1; simpa using this
  obtain ⟨g', cap', hv, hB, hlt, hnc, hcm, hcell, hfz⟩ := own_cellN h (by omega)
  cases hv
  refine (Try.slices_Delete_int_cells g 0 n cap i (i + 1) zs w (by omega) hnc (by unfold maxLen at hcm; omega) (by omega) (by omega) (fun j hj => by rw [Nat.zero_add]; exact hcell j _ (by rw [List.getElem?_map, List.getD_eq_getElem?_getD, List.getElem?_eq_getElem hj]; rfl)) (fun j _ => hfz _)).mono fun e w' ⟨he, q, hw⟩ => ?_
  subst hw
  refine ⟨by rw [he, show n - (i + 1 - i) = n - 1 by omega], keep_setCellsN (by simp) _ _ _ ((drewN_keep w q).more (by simp)), ?_⟩
  rcases h.2 with ⟨h0, _⟩ | ⟨g', cap', cur, hv, hB', hg, hnc', hcm', hcs, ht⟩
  · cases h0
  · cases hv
    have hg' : (w.drewN q).heap[g]? = some (.cells cur 3 (0, 0)) := by rw [drewN_heapN]; exact hg
    have hvl : (((zs.take n).take i ++ (zs.take n).drop (i + 1) ++ List.replicate (i + 1 - i) 0).map (Value.int .i64)).length = n := by simp; omega
    have hb := blk_setCellsN (((zs.take n).take i ++ (zs.take n).drop (i + 1) ++ List.replicate (i + 1 - i) 0).map (Value.int .i64)) 0 (w.drewN q) cur hg' (by rw [hvl]; omega)
    have he2 : zs.eraseIdx i = zs.take i ++ zs.drop (i + 1) := List.eraseIdx_eq_take_drop_succ zs i
    refine ⟨by simp [he2]; omega, .inr ⟨g, cap, _, rfl, hB', hb, by omega, hcm', ?_, ?_⟩⟩
    · simp only [List.size_toArray, List.length_append, hvl]
      simp; omega
    · rw [List.take_of_length_le (show zs.length ≤ n by omega)]
      simp only [List.take_zero, List.nil_append, he2, Nat.mul_one]
      rw [List.take_append_of_le_length (by simp; omega), List.map_append, List.take_append_of_le_length (by simp; omega), List.take_of_length_le (by simp; omega)]
theorem left29_few {w : World} {H b bR bM bT N : Nat} {f : Int → Option Value} {R : Int → Option (List Int)} {mk tl : Int → Bool} {due : List Int} {came : Int} {vd : Value} (h : NodeAt w Try.prog H b bR bM bT N f R mk tl due came vd) {U : List Int} (hU : ∀ x, (R x).isSome = true → x ∈ U) (hU4 : U.length ≤ 400) :
    Calls Try.prog 29 #[.pointer (some ⟨b, 0, none⟩)] w fun e w' => ∃ (out : List Int) (v : Value), e = .returned v ∧ w'.ownsRow w.heap.size 3 1 v out.length (out.map (Value.int .i64)) ∧ Keep [] w w' ∧ out.length ≤ 400 ∧ out.Nodup ∧ out.Pairwise (· ≤ ·) ∧ (∀ x ∈ out, (Lit.int .i64 x).wf = true) ∧ ∀ x, x ∈ out ↔ ((R x).isSome = true ∧ mk x = false) := by
  have HN := Lib.hid h
  have HU := Lib.hid hU
  obtain ⟨c0, c1, c2, c3, c4, hz⟩ := row5Y h.blk
  obtain ⟨i3, hi3, hy0, hy1, hy2⟩ := infoY info3
  clear h hU
  go_enter Try.func29, Try.ntmps29
  go_wp2_with (first | (with_reducible refine Txt.wp_region_text mixed quiet (by decide +kernel) ?_) | (with_reducible refine Txt.text_done (by kernel_rfl) ?_) | (at_range; refine wpList_range_f _ rfl _ 70 rfl 3 22 Try.underlying70 Try.underlying3 bR _ _ rfl HN.out.mr ?_; intro w6 cnt6 hr6 hk6 hs6; have HR6 := Lib.hid hr6; have HK6 := Lib.hid hk6; clear hr6 hk6 hs6))
  go_frame
  obtain ⟨r6, hr6⟩ : ∃ r6, w.heap.size = r6 := ⟨_, rfl⟩
  have HRE := Lib.hid hr6
  rw [hr6] at HR6 ⊢
  have HC6 := Lib.hid HR6.out.cnt_le
  clear hr6
  go_loopw [3] (fun v wr => ∃ (ss : List Int) (cnt : Nat) (av : Option Addr) (cv : Nat), v = .slice av (ss.filter (fun x => !mk x)).length cv ∧ Hid (MapR wr Try.prog 3 bR r6 N f ss cnt) ∧ Hid (wr.ownsRow w.heap.size 3 1 (.slice av (ss.filter (fun x => !mk x)).length cv) (ss.filter (fun x => !mk x)).length ((ss.filter (fun x => !mk x)).map (Value.int .i64))) ∧ Hid (Keep [] w wr) ∧ Hid (ss.length + cnt ≤ N) ∧ cv ≤ 2 ^ 63 - 1) (fun _ wr => wr.rangeLeft bR r6)
  case atStart => exact ⟨[], cnt6, none, 0, rfl, HR6, Lib.hid (World.ownsRow_nil _ _ _ _), HK6, Lib.hid (by simpa using HC6.out), by omega⟩
  case round =>
    obtain ⟨ss, cnt, av, cv, rfl, HR7, HO7, HK7, HL7, hcv2⟩ := hrel
    clear HR6 HK6 HC6
    obtain ⟨L, hL⟩ : ∃ L, (ss.filter (fun x => !mk x)).length = L := ⟨_, rfl⟩
    have hLb : L ≤ 400 := by have h1 := List.length_filter_le (fun x => !mk x) ss; have h2 := nodup_len ss U HR7.out.nodup (fun x hx => HU.out x (by rw [← HN.out.rf.some_]; exact HR7.out.own x hx)); omega
    have HLE := Lib.hid hL
    rw [hL] at HO7 ⊢
    have hcv1 : L ≤ cv := by obtain ⟨a', c', he, h1, _, _⟩ := ownSlice HO7.out; injection he with _ _ h3; rw [h3]; exact h1
    clear hL
    go_wp2_with (first | (at_next; refine wpList_next_f _ rfl _ rfl 3 Try.underlying3 bR r6 N _ ss cnt rfl HR7.out ?_ ?_))
    · intro hdone
      have HDN := Lib.hid hdone
      clear hdone
      go_wp2_with (first | (with_reducible refine Txt.wp_region_text mixed quiet (by decide +kernel) ?_) | (with_reducible refine Txt.text_done (by kernel_rfl) ?_) | (go_at_call 16; (with_reducible refine (sort16_any HO7.out (by omega)).mono ?_); rintro e9 w9 ⟨rfl, ho9, hk9⟩; have HO9 := Lib.hid ho9; have HK9 := Lib.hid hk9; clear ho9 hk9))
      go_ret
      have hp := sortI_perm (ss.filter (fun x => !mk x))
      have hl : (sortI (ss.filter (fun x => !mk x))).length = L := by rw [sortI_len, HLE.out]
      refine ⟨sortI (ss.filter (fun x => !mk x)), _, rfl, by rw [hl]; exact HO9.out, HK7.out.call HK9.out (fun g hg => .inr (ownLt HO7.out g (by simpa using hg)).1), by rw [hl]; exact hLb, hp.nodup_iff.2 (HR7.out.nodup.filter _), sortI_sorted _, fun x hx => HR7.out.wf x (List.mem_filter.1 (hp.mem_iff.1 hx)).1, fun x => ?_⟩
      rw [hp.mem_iff, List.mem_filter, HDN.out, HN.out.rf.some_]
      simp
    · intro x v w8 cnt8 hfx hns hxw hr8 hlt8 hk8 hs8 hen
      have HR8 := Lib.hid hr8
      have HK8 := Lib.hid hk8
      have HLT := Lib.hid hlt8
      have hO8 := own_keep HO7.out hk8 (fun g hg hm => by obtain ⟨_, _, cs, hc⟩ := ownLt HO7.out g hg; exact (HR7.out.notCells hc).1 (List.mem_singleton.1 hm).symm)
      have HO8 := Lib.hid hO8
      have HXW := Lib.hid hxw
      have hkw8 : Keep [] w w8 := HK7.out.call hk8 (fun g hg => .inr (by rw [List.mem_singleton.1 hg]; have := HRE.out; omega))
      have HKW := Lib.hid hkw8
      have hB8 := hkw8.at HN.out.blk (by simp)
      obtain ⟨d0, d1, d2, d3, d4, hz8⟩ := row5Y hB8
      have HM8 := Lib.hid (MapF.keep HN.out.mm hkw8 (by simp))
      obtain ⟨bv, hbv⟩ : ∃ bv, mk x = bv := ⟨_, rfl⟩
      have HBV := Lib.hid hbv
      clear hfx hns hxw hr8 hlt8 hk8 hs8 hO8 hkw8 hB8 hbv
      cases bv with
      | true =>
        go_wp2_with (first | (with_reducible refine Txt.wp_region_text mixed quiet (by decide +kernel) ?_) | (with_reducible refine Txt.text_done (by kernel_rfl) ?_) | (at_lookup; refine wpList_lookup_b _ rfl _ _ 71 rfl 3 4 Try.underlying71 Try.underlying3 (zero4 _) bM _ _ rfl HM8.out x rfl HXW.out ?_; rw [HBV.out]))
        have hf9 : (ss ++ [x]).filter (fun x => !mk x) = ss.filter (fun x => !mk x) := by rw [List.filter_append]; simp [HBV.out]
        refine ⟨⟨ss ++ [x], cnt8, av, cv, by rw [hf9, HLE.out], HR8, Lib.hid (by rw [hf9, HLE.out]; exact HO8.out), HKW, Lib.hid (by have := HL7.out; have := HLT.out; rw [List.length_append, List.length_singleton]; omega), hcv2⟩, ?_⟩
        rw [HR8.out.left_eq, HR7.out.left_eq]
        exact HLT.out
      | false =>
        go_wp2_with (first | (with_reducible refine Txt.wp_region_text mixed quiet (by decide +kernel) ?_) | (with_reducible refine Txt.text_done (by kernel_rfl) ?_) | (at_lookup; refine wpList_lookup_b _ rfl _ _ 71 rfl 3 4 Try.underlying71 Try.underlying3 (zero4 _) bM _ _ rfl HM8.out x rfl HXW.out ?_; rw [HBV.out]) | (at_builtin; refine wpList_append_lies _ rfl _ _ 22 rfl w.heap.size 3 i3 (.int .i64 0) 1 8 Try.underlying22 hi3 hy0 hy1 hy2 rfl (by decide) (.slice av L cv) L ((ss.filter (fun x => !mk x)).map (Value.int .i64)) rfl (own_keep HO8.out ((Keep.refl [] w8).alloc _) (by simp)) ⟨w8.heap.size, 0, none⟩ 1 1 [.int .i64 x] rfl rfl (cells_new w8 [.int .i64 x] 3 (0, 0)) (by intro u hu; rw [List.mem_singleton.1 hu]; rfl) (by decide) (by unfold maxLen; omega) (by omega) (by have := HKW.out.size; simp; omega) _ rfl ?_; intro g9 c9 w9 hown9 hgr9 hat9 hlt9; have hk9 : Keep (Value.slice av L cv).ownBlock.toList (w8.alloc (.cells #[.int .i64 x] 3)) w9 := Keep.ofGrown hgr9 (fun x hx => by simp [hx]); have HK9 := Lib.hid hk9; have HO9 := Lib.hid hown9; clear hown9 hgr9 hat9 hk9))
        have hf9 : (ss ++ [x]).filter (fun x => !mk x) = ss.filter (fun x => !mk x) ++ [x] := by rw [List.filter_append]; simp [HBV.out]
        have hl9 : ((ss ++ [x]).filter (fun x => !mk x)).length = L + 1 := by rw [hf9, List.length_append, List.length_singleton, HLE.out]
        have hr9 := (HR8.out.keep ((Keep.refl [] w8).alloc (.cells #[.int .i64 x] 3)) (by simp) (by simp)).keep HK9.out (fun hm => by obtain ⟨_, _, cs, hc⟩ := ownLt HO8.out bR (by simpa using hm); exact (HR8.out.notCells hc).2 rfl) (fun hm => by obtain ⟨_, _, cs, hc⟩ := ownLt HO8.out r6 (by simpa using hm); exact (HR8.out.notCells hc).1 rfl)
        obtain ⟨a9, c9', he9, hc91, hc92, _⟩ := ownSlice HO9.out
        have hcc : c9 = c9' := by injection he9
        subst hcc
        refine ⟨⟨ss ++ [x], cnt8, some ⟨g9, 0, none⟩, c9, by rw [hl9], Lib.hid hr9, Lib.hid (by rw [hl9, hf9, List.map_append]; exact HO9.out), Lib.hid ((HKW.out.alloc _).call HK9.out (fun g hg => .inr (ownLt HO8.out g (by simpa using hg)).1)), Lib.hid (by have := HL7.out; have := HLT.out; rw [List.length_append, List.length_singleton]; omega), by unfold maxLen at hc92; exact hc92⟩, ?_⟩
        rw [hr9.left_eq, HR7.out.left_eq]
        exact HLT.out
end Go.Proofs.Ytmedldloilbmeaa
