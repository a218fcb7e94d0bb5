/- Texts laid together: DA7. -/
import Derived.Test.YtfcellgjbbfobaaDoorMg18
/- Explore: Orders. -/
namespace Go.Proofs.YtfcellgjbbfobaaDoor
open Go.RowKit Go.Ex Go.WideMaps
theorem own_roomE {w : World} {B e m n c : Nat} {a : Option Addr} {xs : List Value} (h : w.ownsRow B e m (.slice a n c) n xs) : n ≤ c ∧ c ≤ 9223372036854775807 := by
  rcases h.2 with ⟨h0, _⟩ | ⟨g', cap, cur, hv, hb, hg, hnc, hcm, _⟩
  · cases h0; omega
  · cases hv; exact ⟨hnc, hcm⟩
theorem whoI_wf {ps : List (List Ln)} (hp : PsOk ps) {s t : List Int} {l : List Ln} (h : Ex.Way ps s l t) : ∀ z ∈ whoI l, (Lit.int .i64 z).wf = true := fun z hz => by
  unfold whoI who at hz
  obtain ⟨k, hk, rfl⟩ := List.mem_map.1 hz
  obtain ⟨x, hx, rfl⟩ := List.mem_map.1 hk
  obtain ⟨h1, h2⟩ := h.w4 hp x hx
  exact wf_small (by omega) (by omega)
theorem whoI_len (l : List Ln) : (whoI l).length = l.length := by simp [whoI, who]
theorem whoI_snoc (l : List Ln) (j : Nat) (d : Ln) : whoI (l ++ [stepOf j d]) = whoI l ++ [(j : Int)] := by simp [whoI, who, stepOf]
theorem cls_len {ps : List (List Ln)} (hp : PsOk ps) {t : List Int} {l : List Ln} (h : Ex.Way ps s0 l t) : (cls l).length ≤ maxLen := by
  unfold cls
  rw [rowB_len]
  have h1 := eqv_len (flat_way hp (SOk.start ps) h).1
  have h2 : (Tr.rnds dep Ln.q l).length = Tr.nr dep l := by simp [Tr.rnds]
  have h3 := nr_le l
  have h4 := way_12 hp h
  unfold maxLen
  omega
theorem rowL_len (ps : List (List Ln)) (p : PF) (L : List PF) : ∀ j, (rowL ps p j L).length ≤ L.length + j
  | 0 => Nat.le_refl _
  | j + 1 => by
    rw [rowL_next]
    have h := rowL_len ps p L j
    have h2 : ∀ (L : List PF) (o : Option PF), (addO L o).length ≤ L.length + 1 := fun L o => by
      cases o with
      | none => simp [addO]
      | some c => simp only [addO, addC]; split <;> simp
    have h3 := h2 (rowL ps p j L) (cand ps p j)
    omega
theorem nextL_len {ps : List (List Ln)} (hp : PsOk ps) (lev : List PF) : (nextL ps lev).length ≤ lev.length * 4 := by
  rw [nextL_all]
  have h1 := fold_len (cs := allC ps lev) (L := [])
  have h2 : (allC ps lev).length ≤ lev.length * 4 := flatMap_len (fun p _ => by rw [List.length_map, List.length_range]; exact hp.few)
  simp only [List.length_nil] at h1
  omega
theorem outs_len {ps : List (List Ln)} (hp : PsOk ps) (m : Nat) : (outs ps m).length ≤ m * 16777216 := by
  unfold outs
  have := flatMap_len (f := fun i => fins ps (lvN ps i)) (m := 16777216) (l := List.range m) (fun i _ => by
    have h1 := (lvN_ok hp i).few
    have h2 : (fins ps (lvN ps i)).length ≤ (lvN ps i).length := List.length_filter_le _ _
    by_cases hi : i ≤ 12
    · have h3 : 4 ^ i ≤ 4 ^ 12 := Nat.pow_le_pow_right (by omega) hi
      omega
    · rw [lvN_end hp (by omega)]; simp [fins])
  rwa [List.length_range] at this
theorem ord_ints {w : World} {B : Nat} {ps : List (List Ln)} (hp : PsOk ps) {s t : List Int} {l : List Ln} (h : Ex.Way ps s l t) {v : Value} (ho : w.ownsRow B 3 1 v l.length ((whoI l).map (Value.int .i64))) : ∃ a c, v = .slice a l.length c ∧ IntsV w a l.length c (whoI l) := by
  obtain ⟨a, c, he, hv⟩ := IntsV.ofOwn ho (whoI_wf hp h)
  exact ⟨a, c, he, hv.1⟩
set_option maxRecDepth 100000 in
set_option maxHeartbeats 16000000 in
theorem orders9_any {w : World} {a : Option Addr} {n c : Nat} {ps : List (List Ln)} (hv : RowsL w a n c ps) (hp : PsOk ps) :
    Calls Tryd.prog 9 #[.slice a n c] w fun e w' => ∃ (v : Value) (os : List EN), e = .returned (.tuple #[v, .int .i64 0]) ∧ OutOk ps (os.map (·.2)) ∧ Keep [] w w' ∧ w'.ownsRow w.heap.size 22 1 v os.length (os.map (·.1)) ∧ OrdV w' w.heap.size 3 os := by
  have HV := Lib.hid hv
  have HP := Lib.hid hp
  have HN := Lib.hid hv.len
  have hn4 : n ≤ 4 := by rw [← hv.len]; exact hp.few
  have hi65 := info65
  obtain ⟨i65, hi65, hz0, hz1, hz2⟩ := infoE hi65
  have hi22 := info22
  obtain ⟨i22, hi22, hy0, hy1, hy2⟩ := infoE hi22
  have hi3 := info3
  obtain ⟨i3, hi3, hw0, hw1, hw2⟩ := infoE hi3
  clear hv hp
  go_enter Tryd.func9, Tryd.ntmps9
  go_wp2_with (first | (go_at_call 19; (with_reducible refine (check39_ok HV.out HP.out).mono ?_); rintro e w1 ⟨rfl, hk1⟩; have HK1 := Lib.hid hk1; clear hk1))
  have HO0 : Hid ((w1.alloc (.cells #[.slice none 0 0, .int .i64 0, .int .i64 0, .int .i64 0, .int .i64 0, .int .i64 0, .int .i64 0, .int .i64 0, .int .i64 0, .int .i64 0, .int .i64 0, .int .i64 0, .int .i64 0] 65)).ownsRow w1.heap.size 65 13 (.slice (some ⟨w1.heap.size, 0, none⟩) 1 1) 1 (([(.slice none 0 0, ([], s0))] : List EN).flatMap encE)) := Lib.hid (own_new w1 65 13 [.slice none 0 0, .int .i64 0, .int .i64 0, .int .i64 0, .int .i64 0, .int .i64 0, .int .i64 0, .int .i64 0, .int .i64 0, .int .i64 0, .int .i64 0, .int .i64 0, .int .i64 0] 1 rfl (by decide))
  have HK0 := Lib.hid ((Keep.refl [] w1).alloc (.cells #[.slice none 0 0, .int .i64 0, .int .i64 0, .int .i64 0, .int .i64 0, .int .i64 0, .int .i64 0, .int .i64 0, .int .i64 0, .int .i64 0, .int .i64 0, .int .i64 0, .int .i64 0] 65))
  obtain ⟨B, hB⟩ : ∃ B, w1.heap.size = B := ⟨_, rfl⟩
  have HWB : Hid (w.heap.size ≤ B) := Lib.hid (by have := HK1.out.size; omega)
  have HBS1 : Hid (B = w1.heap.size) := Lib.hid hB.symm
  obtain ⟨W0, hW0⟩ : ∃ W0, w1.alloc (.cells #[.slice none 0 0, .int .i64 0, .int .i64 0, .int .i64 0, .int .i64 0, .int .i64 0, .int .i64 0, .int .i64 0, .int .i64 0, .int .i64 0, .int .i64 0, .int .i64 0, .int .i64 0] 65) = W0 := ⟨_, rfl⟩
  rw [hW0] at HO0 HK0 ⊢
  rw [hB] at HO0 ⊢
  clear hW0 hB
  go_loopg [5, 6] 13 (fun k9 ov lv wr => ∃ (k : Nat) (os es : List EN), k9 + k = 13 ∧ Hid (os.map (·.2) = outs ps k) ∧ Hid (es.map (·.2) = lvN ps k) ∧ Hid (wr.ownsRow B 22 1 ov os.length (os.map (·.1))) ∧ Hid (OrdV wr B 3 os) ∧ Hid (wr.ownsRow B 65 13 lv es.length (es.flatMap encE)) ∧ Hid (OrdV wr B 3 es) ∧ Hid (Keep [] w1 wr))
  case atStart => exact ⟨0, [], [(.slice none 0 0, ([], s0))], by omega, Lib.hid rfl, Lib.hid rfl, Lib.hid (World.ownsRow_nil _ _ _ _), Lib.hid (fun e he => by cases he), HO0, Lib.hid (fun e he => by rw [List.mem_singleton] at he; subst he; exact World.ownsRow_nil _ _ _ _), HK0⟩
  case round =>
    obtain ⟨k, os, es, hk9, HOS, HES, HO, HOO, HL, HLO, HK⟩ := hrel
    obtain ⟨la, lc, hle⟩ := own_sliceE HL.out
    obtain ⟨m, hm⟩ : ∃ m, es.length = m := ⟨_, rfl⟩
    rw [hm] at hle
    subst hle
    have HL2 : Hid (wr.ownsRow B 65 13 (.slice la m lc) m (es.flatMap encE)) := Lib.hid (hm ▸ HL.out)
    have hlr := own_roomE HL2.out
    have HM := Lib.hid hm
    clear hm
    by_cases hlt : 0 < m
    · have hdec : decide (0 < (m : Int)) = true := by simp; omega
      have hk12 : k < 13 := by
        refine Classical.byContradiction fun hn => ?_
        have h1 := lvN_end HP.out (k := k) (by omega)
        have h2 := HES.out
        rw [h1] at h2
        have h3 := congrArg List.length h2
        rw [List.length_map, HM.out] at h3
        simp at h3
        omega
      have HLV := Lib.hid (lvN_ok HP.out k)
      have hmm := @run_makeMap Tryd.prog
      have HOM0 : Hid (OM (wr.alloc (.map #[] 0)) B wr.heap.size u5 os (.slice la m lc) es (.slice none 0 0) []) := Lib.hid ⟨own_keep HO.out ((Keep.refl [] wr).alloc _) (by simp), HOO.out.keep ((Keep.refl [] wr).alloc _) (fun g hg => by cases hg), own_keep HL.out ((Keep.refl [] wr).alloc _) (by simp), HLO.out.keep ((Keep.refl [] wr).alloc _) (fun g hg => by cases hg), World.ownsRow_nil _ _ _ _, (fun e he => by cases he), (fun b hb => by cases hb), Seen.made KB wr⟩
      have HKM := Lib.hid (HK.out.alloc (.map #[] 0))
      have HMB : Hid (w1.heap.size ≤ wr.heap.size) := Lib.hid HK.out.size
      obtain ⟨mb, hmb⟩ : ∃ mb, wr.heap.size = mb := ⟨_, rfl⟩
      go_wp2_with fail
      rw [hmb] at HOM0 HMB
      obtain ⟨W1, hW1⟩ : ∃ W1, wr.alloc (.map #[] 0) = W1 := ⟨_, rfl⟩
      rw [hW1] at HOM0 HKM ⊢
      clear hW1 hmb hmm
      go_loopw [30, 5, 7] (fun iv ov nv wr2 => ∃ (i : Nat) (os2 ns : List EN), i ≤ m ∧ iv = .int .i64 i ∧ Hid (os2.map (·.2) = outs ps k ++ fins ps ((lvN ps k).take i)) ∧ Hid (ns.map (·.2) = nextL ps ((lvN ps k).take i)) ∧ Hid (OM wr2 B mb ov os2 (.slice la m lc) es nv ns) ∧ Hid (Keep [] w1 wr2)) (fun iv _ _ _ => m - (intOf iv).toNat)
      case atStart => exact ⟨0, os, [], by omega, rfl, Lib.hid (by rw [HOS.out]; simp [fins]), Lib.hid rfl, HOM0, HKM⟩
      case round =>
        obtain ⟨i, os2, ns, hi, rfl, HOS2, HNS, HOM, HK2⟩ := hrel
        by_cases hlt2 : i < m
        · obtain ⟨⟨pv, pl, px⟩, hpe⟩ : ∃ e, es[i]? = some e := ⟨_, List.getElem?_eq_getElem (by rw [HM.out]; exact hlt2)⟩
          have hpl : (lvN ps k)[i]? = some (pl, px) := by rw [← HES.out, List.getElem?_map, hpe]; rfl
          obtain ⟨hpw, hpk⟩ := HLV.out.way _ (List.mem_of_getElem? hpl)
          simp only at hpw hpk
          have HPW := Lib.hid hpw
          have hsok := (hpw.ok HP.out (SOk.start ps)).1
          have HSOK := Lib.hid hsok
          have H12 : Hid (∀ e ∈ es, e.2.2.length = 12) := Lib.hid (fun e he => by
            have h1 : e.2 ∈ lvN ps k := by rw [← HES.out]; exact List.mem_map.2 ⟨e, he, rfl⟩
            exact ((HLV.out.way _ h1).1.ok HP.out (SOk.start ps)).1.len)
          have hpo := HOM.out.ordl _ (List.mem_of_getElem? hpe)
          simp only at hpo
          obtain ⟨pa, pc, hpv⟩ := own_sliceE hpo
          subst hpv
          obtain ⟨gl, cl, hll, hl1, hl2, hl3, hl4, hlc⟩ := own_at HOM.out.lev (by rw [HM.out]; omega)
          have hpl12 : k ≤ 12 := by omega
          rw [hpk] at hpo
          have HPK := Lib.hid hpk
          injection hll with hll1 hll2 hll3
          subst hll1 hll3
          clear hll2
          rw [HM.out] at hl1
          obtain ⟨x0, x1, x2, x3, x4, x5, x6, x7, x8, x9, xa, xb, hxe⟩ := list12 hsok.len
          subst hxe
          have HFR : Hid (∀ j u, ([.slice pa k pc, .int .i64 x0, .int .i64 x1, .int .i64 x2, .int .i64 x3, .int .i64 x4, .int .i64 x5, .int .i64 x6, .int .i64 x7, .int .i64 x8, .int .i64 x9, .int .i64 xa, .int .i64 xb] : List Value)[j]? = some u → wr.cell? ((⟨gl, i * 13, none⟩ : Addr).add j) = some u) := Lib.hid (fun j u hu => by
            rw [Addr.add_mid]
            exact hlc _ _ (encE_at H12.out hpe (by rw [← HPK.out] at hu; exact hu)))
          have HSZ : Hid ((Tryd.prog.info? 65).map (·.size) = some ([.slice pa k pc, .int .i64 x0, .int .i64 x1, .int .i64 x2, .int .i64 x3, .int .i64 x4, .int .i64 x5, .int .i64 x6, .int .i64 x7, .int .i64 x8, .int .i64 x9, .int .i64 xa, .int .i64 xb] : List Value).length) := Lib.hid (by kernel_rfl)
          have HPE : Hid (es[i]? = some (.slice pa k pc, (pl, [x0, x1, x2, x3, x4, x5, x6, x7, x8, x9, xa, xb]))) := Lib.hid (by rw [hpe, hpk])
          have HPL := Lib.hid hpl
          have hdec2 : decide ((i : Int) < (m : Int)) = true := by simp; omega
          have HB10 := Lib.hid (blk_new wr (.cells #[.slice pa k pc, .int .i64 x0, .int .i64 x1, .int .i64 x2, .int .i64 x3, .int .i64 x4, .int .i64 x5, .int .i64 x6, .int .i64 x7, .int .i64 x8, .int .i64 x9, .int .i64 xa, .int .i64 xb] 65))
          have HOMA := Lib.hid (HOM.out.keep ((Keep.refl [] wr).alloc (.cells #[.slice pa k pc, .int .i64 x0, .int .i64 x1, .int .i64 x2, .int .i64 x3, .int .i64 x4, .int .i64 x5, .int .i64 x6, .int .i64 x7, .int .i64 x8, .int .i64 x9, .int .i64 xa, .int .i64 xb] 65)))
          have HKA := Lib.hid (HK2.out.alloc (.cells #[.slice pa k pc, .int .i64 x0, .int .i64 x1, .int .i64 x2, .int .i64 x3, .int .i64 x4, .int .i64 x5, .int .i64 x6, .int .i64 x7, .int .i64 x8, .int .i64 x9, .int .i64 xa, .int .i64 xb] 65))
          have HPO := Lib.hid hpo
          clear hpe hpl hpw hpk hsok hpo hlc
          go_wp2_with (first | (with_reducible refine wpList_load_at rfl 65 _ rfl ⟨gl, i * 13, none⟩ rfl [.slice pa k pc, .int .i64 x0, .int .i64 x1, .int .i64 x2, .int .i64 x3, .int .i64 x4, .int .i64 x5, .int .i64 x6, .int .i64 x7, .int .i64 x8, .int .i64 x9, .int .i64 xa, .int .i64 xb] _ HFR.out Tryd.underlying65 rfl HSZ.out ?_))
          obtain ⟨b10, hb10⟩ : ∃ b10, wr.heap.size = b10 := ⟨_, rfl⟩
          rw [hb10] at HB10 ⊢
          obtain ⟨WA, hWA⟩ : ∃ WA, wr.alloc (.cells #[.slice pa k pc, .int .i64 x0, .int .i64 x1, .int .i64 x2, .int .i64 x3, .int .i64 x4, .int .i64 x5, .int .i64 x6, .int .i64 x7, .int .i64 x8, .int .i64 x9, .int .i64 xa, .int .i64 xb] 65) = WA := ⟨_, rfl⟩
          rw [hWA] at HB10 HOMA HKA ⊢
          have HNB : Hid (u7.ownBlock ≠ some b10) := Lib.hid (fun e => by have := (HOM.out.nxt.lt b10 e).2; omega)
          have HMB2 : Hid (mb < b10) := Lib.hid (by rw [← hb10]; exact HOM.out.lt)
          clear hWA hb10
          go_loopw [36, 11, 7] (fun jv fv nv wr3 => ∃ (j : Nat) (ns3 : List EN), j ≤ n ∧ jv = .int .i64 j ∧ fv = .bool (finTo ps j [x0, x1, x2, x3, x4, x5, x6, x7, x8, x9, xa, xb]) ∧ Hid (ns3.map (·.2) = rowL ps (pl, [x0, x1, x2, x3, x4, x5, x6, x7, x8, x9, xa, xb]) j (nextL ps ((lvN ps k).take i))) ∧ Hid (OM wr3 B mb u5 os2 (.slice (some ⟨gl, 0, none⟩) m lc) es nv ns3) ∧ Hid (wr3.heap[b10]? = some (.cells #[.slice pa k pc, .int .i64 x0, .int .i64 x1, .int .i64 x2, .int .i64 x3, .int .i64 x4, .int .i64 x5, .int .i64 x6, .int .i64 x7, .int .i64 x8, .int .i64 x9, .int .i64 xa, .int .i64 xb] 65 (0, 0))) ∧ Hid (nv.ownBlock ≠ some b10) ∧ Hid (Keep [] w1 wr3)) (fun jv _ _ _ => n - (intOf jv).toNat)
          case atStart => exact ⟨0, ns, by omega, rfl, rfl, Lib.hid (by rw [HNS.out]; rfl), HOMA, HB10, HNB, HKA⟩
          case round =>
            obtain ⟨j, ns3, hj, rfl, rfl, HNS3, HOM3, HB3, HNB3, HK3⟩ := hrel
            obtain ⟨F, hF⟩ : ∃ F, finTo ps j [x0, x1, x2, x3, x4, x5, x6, x7, x8, x9, xa, xb] = F := ⟨_, rfl⟩
            have HF := Lib.hid hF
            rw [hF]
            by_cases hlt3 : j < n
            · have hdec3 : decide ((j : Int) < (n : Int)) = true := by simp; omega
              have hg40 := next40_any (HV.out.keep (HK1.out.trans HK3.out)) HP.out HSOK.out hlt3
              have HFR : Hid (∀ q u, ([.int .i64 x0, .int .i64 x1, .int .i64 x2, .int .i64 x3, .int .i64 x4, .int .i64 x5, .int .i64 x6, .int .i64 x7, .int .i64 x8, .int .i64 x9, .int .i64 xa, .int .i64 xb] : List Value)[q]? = some u → wr.cell? ((⟨b10, 1, none⟩ : Addr).add q) = some u) := Lib.hid (fun q u hu => by
                rw [Addr.add_mid, cell_of_row wr b10 _ _ _ _ HB3.out]
                have h1 : ([.slice pa k pc, .int .i64 x0, .int .i64 x1, .int .i64 x2, .int .i64 x3, .int .i64 x4, .int .i64 x5, .int .i64 x6, .int .i64 x7, .int .i64 x8, .int .i64 x9, .int .i64 xa, .int .i64 xb] : List Value)[1 + q]? = some u := by rw [Nat.add_comm]; exact hu
                simpa using h1)
              have HSZ : Hid ((Tryd.prog.info? 41).map (·.size) = some ([.int .i64 x0, .int .i64 x1, .int .i64 x2, .int .i64 x3, .int .i64 x4, .int .i64 x5, .int .i64 x6, .int .i64 x7, .int .i64 x8, .int .i64 x9, .int .i64 xa, .int .i64 xb] : List Value).length) := Lib.hid info62
              have hb10l : b10 < wr.heap.size := lt_of_blk HB3.out
              clear hF
              cases hnx : nx ps j [x0, x1, x2, x3, x4, x5, x6, x7, x8, x9, xa, xb] with
              | none =>
                have HG : Hid (Calls Tryd.prog 20 #[.slice a n c, .agg #[.int .i64 x0, .int .i64 x1, .int .i64 x2, .int .i64 x3, .int .i64 x4, .int .i64 x5, .int .i64 x6, .int .i64 x7, .int .i64 x8, .int .i64 x9, .int .i64 xa, .int .i64 xb], .int .i64 j] wr fun e w' => Keep [] wr w' ∧ e = .returned (.tuple #[.agg #[.int .i64 x0, .int .i64 x1, .int .i64 x2, .int .i64 x3, .int .i64 x4, .int .i64 x5, .int .i64 x6, .int .i64 x7, .int .i64 x8, .int .i64 x9, .int .i64 xa, .int .i64 xb], .bool false])) := Lib.hid (by
                  have h0 := hg40
                  rw [show aggI [x0, x1, x2, x3, x4, x5, x6, x7, x8, x9, xa, xb] = .agg #[.int .i64 x0, .int .i64 x1, .int .i64 x2, .int .i64 x3, .int .i64 x4, .int .i64 x5, .int .i64 x6, .int .i64 x7, .int .i64 x8, .int .i64 x9, .int .i64 xa, .int .i64 xb] from rfl] at h0
                  refine h0.mono ?_
                  rintro e w' ⟨h1, ⟨_, rfl⟩ | ⟨C', h2, rfl⟩⟩
                  · exact ⟨h1, rfl⟩
                  · rw [hnx] at h2; cases h2)
                have HFN : Hid (finTo ps (j + 1) [x0, x1, x2, x3, x4, x5, x6, x7, x8, x9, xa, xb] = F) := Lib.hid (by rw [finTo_next, HF.out, hnx]; simp)
                have HNX : Hid (ns3.map (·.2) = rowL ps (pl, [x0, x1, x2, x3, x4, x5, x6, x7, x8, x9, xa, xb]) (j + 1) (nextL ps ((lvN ps k).take i))) := Lib.hid (by rw [rowL_next, ← HNS3.out, show cand ps (pl, [x0, x1, x2, x3, x4, x5, x6, x7, x8, x9, xa, xb]) j = none by unfold cand; rw [hnx]; rfl]; rfl)
                clear hg40 hnx
                go_wp2_with (first | (with_reducible refine wpList_load_at rfl 41 _ rfl ⟨b10, 1, none⟩ rfl [.int .i64 x0, .int .i64 x1, .int .i64 x2, .int .i64 x3, .int .i64 x4, .int .i64 x5, .int .i64 x6, .int .i64 x7, .int .i64 x8, .int .i64 x9, .int .i64 xa, .int .i64 xb] _ HFR.out Tryd.underlying41 rfl HSZ.out ?_) | (go_at_call 20; refine HG.out.mono ?_; rintro e3 w3 ⟨hk3, rfl⟩; have HK4 := Lib.hid hk3; clear hk3))
                exact ⟨⟨j + 1, ns3, hlt3, by go_num, by rw [HFN.out], HNX, Lib.hid (HOM3.out.keep (HK4.out.alloc _)), Lib.hid ((HK4.out.alloc _).at HB3.out (by simp)), HNB3, Lib.hid (HK3.out.trans (HK4.out.alloc _))⟩, by simp [intOf]; omega⟩
              | some t =>
                obtain ⟨d, hd, -, -⟩ := nx_some hnx
                have hsy : SOk ps t := (HSOK.out.next HP.out hnx).1
                obtain ⟨y0, y1, y2, y3, y4, y5, y6, y7, y8, y9, ya, yb, hye⟩ := list12 hsy.len
                subst hye
                obtain ⟨l', hl'⟩ : ∃ l', pl ++ [stepOf j d] = l' := ⟨_, rfl⟩
                have HW' : Hid (Ex.Way ps s0 l' [y0, y1, y2, y3, y4, y5, y6, y7, y8, y9, ya, yb]) := Lib.hid (by rw [← hl']; exact HPW.out.snoc hd hnx)
                have HLL : Hid (l'.length = k + 1) := Lib.hid (by rw [← hl', List.length_append, HPK.out]; rfl)
                have HWI : Hid (whoI l' = whoI pl ++ [(j : Int)]) := Lib.hid (by rw [← hl', whoI_snoc])
                have HCD : Hid (cand ps (pl, [x0, x1, x2, x3, x4, x5, x6, x7, x8, x9, xa, xb]) j = some (l', [y0, y1, y2, y3, y4, y5, y6, y7, y8, y9, ya, yb])) := Lib.hid (by unfold cand; simp only; rw [hnx, hd, ← hl']; rfl)
                have HG : Hid (Calls Tryd.prog 20 #[.slice a n c, .agg #[.int .i64 x0, .int .i64 x1, .int .i64 x2, .int .i64 x3, .int .i64 x4, .int .i64 x5, .int .i64 x6, .int .i64 x7, .int .i64 x8, .int .i64 x9, .int .i64 xa, .int .i64 xb], .int .i64 j] wr fun e w' => Keep [] wr w' ∧ e = .returned (.tuple #[.agg #[.int .i64 y0, .int .i64 y1, .int .i64 y2, .int .i64 y3, .int .i64 y4, .int .i64 y5, .int .i64 y6, .int .i64 y7, .int .i64 y8, .int .i64 y9, .int .i64 ya, .int .i64 yb], .bool true])) := Lib.hid (by
                  have h0 := hg40
                  rw [show aggI [x0, x1, x2, x3, x4, x5, x6, x7, x8, x9, xa, xb] = .agg #[.int .i64 x0, .int .i64 x1, .int .i64 x2, .int .i64 x3, .int .i64 x4, .int .i64 x5, .int .i64 x6, .int .i64 x7, .int .i64 x8, .int .i64 x9, .int .i64 xa, .int .i64 xb] from rfl] at h0
                  refine h0.mono ?_
                  rintro e w' ⟨h1, ⟨h2, _⟩ | ⟨C2, h2, rfl⟩⟩
                  · rw [hnx] at h2; cases h2
                  · rw [hnx] at h2; injection h2 with h2; subst h2; exact ⟨h1, rfl⟩)
                have HCLN : Hid (∀ w9, Keep [] wr w9 → Calls Tryd.prog 23 #[.slice pa k pc] w9 fun e w' => ∃ v, e = .returned v ∧ Keep [] w9 w' ∧ w'.ownsRow w9.heap.size 3 1 v k ((whoI pl).map (Value.int .i64))) := Lib.hid (fun w9 h9 => by
                  have h1 := HOM3.out.ordl _ (List.mem_of_getElem? HPE.out)
                  obtain ⟨a9, c9, he, hiv⟩ := ord_ints HP.out HPW.out h1
                  injection he with e1 e2 e3
                  subst e1 e3
                  rw [← e2] at hiv
                  exact clone23_any (hiv.keep h9 (by simp)) (by omega))
                have HIVF : Hid (∀ (w9 : World) B9 g9 c9, w9.ownsRow B9 3 1 (.slice (some ⟨g9, 0, none⟩) (k + 1) c9) (k + 1) ((whoI pl).map (Value.int .i64) ++ [.int .i64 j]) → w9.ownsRow B9 3 1 (.slice (some ⟨g9, 0, none⟩) (k + 1) c9) l'.length ((whoI l').map (Value.int .i64)) ∧ IntsV w9 (some ⟨g9, 0, none⟩) (k + 1) c9 (whoI l')) := Lib.hid (fun w9 B9 g9 c9 h9 => by
                  have h1 : w9.ownsRow B9 3 1 (.slice (some ⟨g9, 0, none⟩) (k + 1) c9) l'.length ((whoI l').map (Value.int .i64)) := by rw [HLL.out, HWI.out, List.map_append]; exact h9
                  obtain ⟨a9, c8, he, hiv⟩ := ord_ints HP.out HW'.out h1
                  injection he with e1 e2 e3
                  subst e1 e3
                  rw [← e2] at hiv
                  exact ⟨h1, hiv⟩)
                have HCLS : Hid (∀ w9 a9 c9, Keep [] wr w9 → IntsV w9 a9 (k + 1) c9 (whoI l') → Calls Tryd.prog 24 #[.slice a n c, .slice a9 (k + 1) c9] w9 fun e w' => e = .returned (strV (cls l')) ∧ Keep [] w9 w') := Lib.hid (fun w9 a9 c9 h9 hiv => class24_any (HV.out.keep ((HK1.out.trans HK3.out).trans h9)) HP.out HW'.out hiv)
                obtain ⟨A, hA⟩ : ∃ A, decide (cls l' ∈ ns3.map fun e => cls e.2.1) = A := ⟨_, rfl⟩
                have hkok := cls_len HP.out HW'.out
                have HLK : Hid (∀ w9, Keep [] wr w9 → (Instr.lookup 67 (.map (some mb)) (strV (cls l')) false).run Tryd.prog w9 = .ok (.bool A) w9) := Lib.hid (fun w9 h9 => by
                  have h1 := Seen.look (C := KB) (P := Tryd.prog) (w := w9) Tryd.underlying67 (Tryd.zeroValue4 _) (HOM3.out.seen.keep h9 (by simp)) hkok
                  exact h1.trans (congrArg (fun b => Result.ok (Value.bool b) _) (by rw [← hA]; exact decide_eq_decide.2 Iff.rfl)))
                have HOKY : Hid (KB.ok (cls l')) := Lib.hid hkok
                have HKV : Hid (strV (cls l') = KB.val (cls l')) := Lib.hid rfl
                have HFN : Hid (finTo ps (j + 1) [x0, x1, x2, x3, x4, x5, x6, x7, x8, x9, xa, xb] = false) := Lib.hid (by rw [finTo_next, hnx]; simp)
                have HLS : Hid (ns3.map (fun e => cls e.2.1) = (ns3.map (·.2)).map (fun p => cls p.1)) := Lib.hid (by rw [List.map_map]; rfl)
                have HRN : Hid (rowL ps (pl, [x0, x1, x2, x3, x4, x5, x6, x7, x8, x9, xa, xb]) (j + 1) (nextL ps ((lvN ps k).take i)) = addC (ns3.map (·.2)) (l', [y0, y1, y2, y3, y4, y5, y6, y7, y8, y9, ya, yb])) := Lib.hid (by rw [rowL_next, ← HNS3.out, HCD.out]; rfl)
                have HONJ : Hid (∀ u ∈ ([.int .i64 j] : List Value), u.oneCell' = true) := Lib.hid (by simp [Value.oneCell'])
                have HJ63 : Hid (k + 1 ≤ maxLen) := Lib.hid (by unfold maxLen; omega)
                have HJBY : Hid ((k + 1) * 8 ≤ 140737488355328) := Lib.hid (by omega)
                have HC10 : Hid (∀ w9, Keep [] wr w9 → w9.cell? ⟨b10, 0, none⟩ = some (.slice pa k pc)) := Lib.hid (fun w9 h9 => h9.cell ((cell_of_row wr b10 _ _ _ _ HB3.out).trans rfl) (by simp))
                clear hg40 hnx hd hsy hl' hkok
                cases A with
                | true =>
                  have HRN2 : Hid (ns3.map (·.2) = rowL ps (pl, [x0, x1, x2, x3, x4, x5, x6, x7, x8, x9, xa, xb]) (j + 1) (nextL ps ((lvN ps k).take i))) := Lib.hid (by
                    rw [HRN.out]
                    unfold addC
                    rw [if_pos (by rw [← HLS.out]; exact of_decide_eq_true hA)])
                  clear hA
                  go_wp2_with (first | (with_reducible refine wpList_load_at rfl 41 _ rfl ⟨b10, 1, none⟩ rfl [.int .i64 x0, .int .i64 x1, .int .i64 x2, .int .i64 x3, .int .i64 x4, .int .i64 x5, .int .i64 x6, .int .i64 x7, .int .i64 x8, .int .i64 x9, .int .i64 xa, .int .i64 xb] _ HFR.out Tryd.underlying41 rfl HSZ.out ?_) | (go_at_call 20; refine HG.out.mono ?_; rintro e3 w3 ⟨hk3, rfl⟩; have HK4 := Lib.hid hk3; have HCC := Lib.hid (HCLN.out _ (hk3.alloc (.cells #[.int .i64 y0, .int .i64 y1, .int .i64 y2, .int .i64 y3, .int .i64 y4, .int .i64 y5, .int .i64 y6, .int .i64 y7, .int .i64 y8, .int .i64 y9, .int .i64 ya, .int .i64 yb] 41))); have hc10 := HC10.out w3 hk3; have hsz3 := hk3.size; have hb3l : b10 < w3.heap.size := (by omega); clear hk3) | (go_at_call 23; refine HCC.out.mono ?_; rintro e4 w4 ⟨v4, rfl, hk4, ho4⟩; obtain ⟨a4, c4, hv4⟩ := own_sliceE ho4; subst hv4; have HK5 := Lib.hid hk4; have HO4 := Lib.hid ho4; have HOA4 := Lib.hid (own_keep ho4 ((Keep.refl [] w4).alloc (.cells #[.int .i64 j] 3)) (by simp)); have HBS4 := Lib.hid (Nat.le_trans hk4.size ((Keep.refl [] w4).alloc (.cells #[.int .i64 j] 3)).size); clear hk4 ho4) | (at_builtin; refine wpList_append_lies _ rfl _ _ 22 rfl (w3.alloc (.cells #[.int .i64 y0, .int .i64 y1, .int .i64 y2, .int .i64 y3, .int .i64 y4, .int .i64 y5, .int .i64 y6, .int .i64 y7, .int .i64 y8, .int .i64 y9, .int .i64 ya, .int .i64 yb] 41)).heap.size 3 i3 (.int .i64 0) 1 8 Tryd.underlying22 hi3 hw0 hw1 hw2 rfl (by decide) (.slice a4 k c4) k ((whoI pl).map (Value.int .i64)) rfl HOA4.out ⟨w4.heap.size, 0, none⟩ 1 1 [.int .i64 j] rfl rfl (cells_new w4 [.int .i64 j] 3 (0, 0)) HONJ.out (by decide) HJ63.out HJBY.out HBS4.out _ rfl ?_; intro g5 c5 w5 hown5 hgr5 hat5 hlt5; have hk5 := Keep.ofGrown (S := (Value.slice a4 k c4).ownBlock.toList) hgr5 (fun x hx => by simp [hx]); have HK6 := Lib.hid ((HK5.out.alloc (.cells #[.int .i64 j] 3)).call hk5 (fun b hb => .inr (HO4.out.lt b (by simpa using hb)).1)); have HIV5 := Lib.hid (HIVF.out w5 _ g5 c5 hown5); have HKW5 := Lib.hid ((HK4.out.alloc (.cells #[.int .i64 y0, .int .i64 y1, .int .i64 y2, .int .i64 y3, .int .i64 y4, .int .i64 y5, .int .i64 y6, .int .i64 y7, .int .i64 y8, .int .i64 y9, .int .i64 ya, .int .i64 yb] 41)).trans HK6.out); have HCS5 := Lib.hid (HCLS.out w5 (some ⟨g5, 0, none⟩) c5 HKW5.out HIV5.out.2); clear hown5 hgr5 hat5 hk5) | (go_at_call 24; refine HCS5.out.mono ?_; rintro e6 w6 ⟨rfl, hk6⟩; have HK7 := Lib.hid hk6; have HKW6 := Lib.hid (HKW5.out.trans hk6); have hlk := HLK.out w6 HKW6.out; clear hk6))
                  exact ⟨⟨j + 1, ns3, hlt3, by go_num, by rw [HFN.out], HRN2, Lib.hid (HOM3.out.keep HKW6.out), Lib.hid (HKW6.out.at HB3.out (by simp)), HNB3, Lib.hid (HK3.out.trans HKW6.out)⟩, by simp [intOf]; omega⟩
                | false =>
                  have HRN2 : Hid (ns3.map (·.2) ++ [(l', [y0, y1, y2, y3, y4, y5, y6, y7, y8, y9, ya, yb])] = rowL ps (pl, [x0, x1, x2, x3, x4, x5, x6, x7, x8, x9, xa, xb]) (j + 1) (nextL ps ((lvN ps k).take i))) := Lib.hid (by
                    rw [HRN.out]
                    unfold addC
                    rw [if_neg (by rw [← HLS.out]; exact of_decide_eq_false hA)])
                  have HNM : Hid (cls l' ∉ ns3.map fun e => cls e.2.1) := Lib.hid (of_decide_eq_false hA)
                  clear hA
                  have hnl : ns3.length ≤ 67108868 := by
                    have h1 := congrArg List.length HNS3.out
                    rw [List.length_map] at h1
                    have h2 := rowL_len ps (pl, [x0, x1, x2, x3, x4, x5, x6, x7, x8, x9, xa, xb]) (nextL ps ((lvN ps k).take i)) j
                    have h3 := nextL_len HP.out ((lvN ps k).take i)
                    rw [List.length_take] at h3
                    have h4 := HLV.out.few
                    have h5 : 4 ^ k ≤ 4 ^ 12 := Nat.pow_le_pow_right (by omega) hpl12
                    omega
                  have HLT : Hid ((ns3.map fun e => cls e.2.1).length < maxLen) := Lib.hid (by rw [List.length_map]; unfold maxLen; omega)
                  have H63 : Hid (ns3.length + 1 ≤ maxLen) := Lib.hid (by unfold maxLen; omega)
                  have HBY : Hid ((ns3.length + 1) * 120 ≤ 140737488355328) := Lib.hid (by omega)
                  have hmlt : mb < wr.heap.size := HOM3.out.lt
                  have HSA : Hid (∀ w9, Keep [] wr w9 → Seen KB w9 mb (ns3.map fun e => cls e.2.1)) := Lib.hid (fun w9 h9 => HOM3.out.seen.keep h9 (by simp))
                  have HONF : Hid (∀ w9 w10 o, Keep [] wr w9 → Keep [mb] w9 w10 → (w10.alloc o).ownsRow B 65 13 u7 ns3.length (ns3.flatMap encE)) := Lib.hid (fun w9 w10 o h9 h10 => own_keep (own_keepT (HOM3.out.keep h9).nxt h10 (not_map (HOM3.out.keep h9).seen)) ((Keep.refl [] w10).alloc o) (by simp))
                  have HBSF : Hid (∀ w9 w10 o, Keep [] wr w9 → Keep [mb] w9 w10 → B ≤ (w10.alloc o).heap.size) := Lib.hid (fun w9 w10 o h9 h10 => Nat.le_trans (Nat.le_of_eq HBS1.out) (Nat.le_trans HK3.out.size (Nat.le_trans h9.size (Nat.le_trans h10.size ((Keep.refl [] w10).alloc o).size))))
                  have HONE : Hid (∀ g5 c5 : Nat, ∀ u ∈ ([.slice (some ⟨g5, 0, none⟩) (k + 1) c5, .int .i64 y0, .int .i64 y1, .int .i64 y2, .int .i64 y3, .int .i64 y4, .int .i64 y5, .int .i64 y6, .int .i64 y7, .int .i64 y8, .int .i64 y9, .int .i64 ya, .int .i64 yb] : List Value), u.oneCell' = true) := Lib.hid (fun _ _ => by simp [Value.oneCell'])
                  have HI41 : Hid ((Tryd.prog.info? 41).map (·.size) = some (#[.int .i64 y0, .int .i64 y1, .int .i64 y2, .int .i64 y3, .int .i64 y4, .int .i64 y5, .int .i64 y6, .int .i64 y7, .int .i64 y8, .int .i64 y9, .int .i64 ya, .int .i64 yb] : Array Value).size) := Lib.hid info62
                  go_wp2_with (first | (with_reducible refine wpList_load_at rfl 41 _ rfl ⟨b10, 1, none⟩ rfl [.int .i64 x0, .int .i64 x1, .int .i64 x2, .int .i64 x3, .int .i64 x4, .int .i64 x5, .int .i64 x6, .int .i64 x7, .int .i64 x8, .int .i64 x9, .int .i64 xa, .int .i64 xb] _ HFR.out Tryd.underlying41 rfl HSZ.out ?_) | (go_at_call 20; refine HG.out.mono ?_; rintro e3 w3 ⟨hk3, rfl⟩; have HK4 := Lib.hid hk3; have HCC := Lib.hid (HCLN.out _ (hk3.alloc (.cells #[.int .i64 y0, .int .i64 y1, .int .i64 y2, .int .i64 y3, .int .i64 y4, .int .i64 y5, .int .i64 y6, .int .i64 y7, .int .i64 y8, .int .i64 y9, .int .i64 ya, .int .i64 yb] 41))); have hc10 := HC10.out w3 hk3; have hsz3 := hk3.size; have hb3l : b10 < w3.heap.size := (by omega); clear hk3) | (go_at_call 23; refine HCC.out.mono ?_; rintro e4 w4 ⟨v4, rfl, hk4, ho4⟩; obtain ⟨a4, c4, hv4⟩ := own_sliceE ho4; subst hv4; have HK5 := Lib.hid hk4; have HO4 := Lib.hid ho4; have HOA4 := Lib.hid (own_keep ho4 ((Keep.refl [] w4).alloc (.cells #[.int .i64 j] 3)) (by simp)); have HBS4 := Lib.hid (Nat.le_trans hk4.size ((Keep.refl [] w4).alloc (.cells #[.int .i64 j] 3)).size); clear hk4 ho4) | (at_builtin; refine wpList_append_lies _ rfl _ _ 22 rfl (w3.alloc (.cells #[.int .i64 y0, .int .i64 y1, .int .i64 y2, .int .i64 y3, .int .i64 y4, .int .i64 y5, .int .i64 y6, .int .i64 y7, .int .i64 y8, .int .i64 y9, .int .i64 ya, .int .i64 yb] 41)).heap.size 3 i3 (.int .i64 0) 1 8 Tryd.underlying22 hi3 hw0 hw1 hw2 rfl (by decide) (.slice a4 k c4) k ((whoI pl).map (Value.int .i64)) rfl HOA4.out ⟨w4.heap.size, 0, none⟩ 1 1 [.int .i64 j] rfl rfl (cells_new w4 [.int .i64 j] 3 (0, 0)) HONJ.out (by decide) HJ63.out HJBY.out HBS4.out _ rfl ?_; intro g5 c5 w5 hown5 hgr5 hat5 hlt5; have hk5 := Keep.ofGrown (S := (Value.slice a4 k c4).ownBlock.toList) hgr5 (fun x hx => by simp [hx]); have HK6 := Lib.hid ((HK5.out.alloc (.cells #[.int .i64 j] 3)).call hk5 (fun b hb => .inr (HO4.out.lt b (by simpa using hb)).1)); have HIV5 := Lib.hid (HIVF.out w5 _ g5 c5 hown5); have HKW5 := Lib.hid ((HK4.out.alloc (.cells #[.int .i64 y0, .int .i64 y1, .int .i64 y2, .int .i64 y3, .int .i64 y4, .int .i64 y5, .int .i64 y6, .int .i64 y7, .int .i64 y8, .int .i64 y9, .int .i64 ya, .int .i64 yb] 41)).trans HK6.out); have HCS5 := Lib.hid (HCLS.out w5 (some ⟨g5, 0, none⟩) c5 HKW5.out HIV5.out.2); clear hown5 hgr5 hat5 hk5) | (go_at_call 24; refine HCS5.out.mono ?_; rintro e6 w6 ⟨rfl, hk6⟩; have HK7 := Lib.hid hk6; have HKW6 := Lib.hid (HKW5.out.trans hk6); have hlk := HLK.out w6 HKW6.out; have HS6 := Lib.hid (HSA.out w6 HKW6.out); have HB6 := Lib.hid ((HK6.out.trans hk6).at (blk_new w3 (.cells #[.int .i64 y0, .int .i64 y1, .int .i64 y2, .int .i64 y3, .int .i64 y4, .int .i64 y5, .int .i64 y6, .int .i64 y7, .int .i64 y8, .int .i64 y9, .int .i64 ya, .int .i64 yb] 41)) (by simp)); clear hk6) | (with_reducible refine wpList_seen_add KB _ rfl _ _ _ 67 (.inl rfl) 4 Tryd.underlying67 mb (ns3.map fun e => cls e.2.1) rfl HS6.out HLT.out (cls l') _ HKV.out rfl rfl HOKY.out HNM.out ?_; intro w7 hs7 hk7; have HS7 := Lib.hid hs7; have HK8 := Lib.hid hk7; have HB7 : Hid (w7.heap[w3.heap.size]? = some (.cells #[.int .i64 y0, .int .i64 y1, .int .i64 y2, .int .i64 y3, .int .i64 y4, .int .i64 y5, .int .i64 y6, .int .i64 y7, .int .i64 y8, .int .i64 y9, .int .i64 ya, .int .i64 yb] 41 (0, 0))) := Lib.hid (hk7.at HB6.out (by simp; omega)); have HON := Lib.hid (HONF.out w6 w7 (.cells #[.slice (some ⟨g5, 0, none⟩) (k + 1) c5, .int .i64 y0, .int .i64 y1, .int .i64 y2, .int .i64 y3, .int .i64 y4, .int .i64 y5, .int .i64 y6, .int .i64 y7, .int .i64 y8, .int .i64 y9, .int .i64 ya, .int .i64 yb] 65) HKW6.out hk7); have HBS7 := Lib.hid (HBSF.out w6 w7 (.cells #[.slice (some ⟨g5, 0, none⟩) (k + 1) c5, .int .i64 y0, .int .i64 y1, .int .i64 y2, .int .i64 y3, .int .i64 y4, .int .i64 y5, .int .i64 y6, .int .i64 y7, .int .i64 y8, .int .i64 y9, .int .i64 ya, .int .i64 yb] 65) HKW6.out hk7); clear hs7 hk7) | (with_reducible refine wpList_load_row rfl 41 _ rfl w3.heap.size rfl 41 #[.int .i64 y0, .int .i64 y1, .int .i64 y2, .int .i64 y3, .int .i64 y4, .int .i64 y5, .int .i64 y6, .int .i64 y7, .int .i64 y8, .int .i64 y9, .int .i64 ya, .int .i64 yb] (0, 0) _ HB7.out Tryd.underlying41 rfl HI41.out ?_) | (at_builtin; refine wpList_append_lies _ rfl _ _ 66 rfl B 65 i65 (.agg #[.slice none 0 0, .int .i64 0, .int .i64 0, .int .i64 0, .int .i64 0, .int .i64 0, .int .i64 0, .int .i64 0, .int .i64 0, .int .i64 0, .int .i64 0, .int .i64 0, .int .i64 0]) 13 120 Tryd.underlying66 hi65 hz0 hz1 hz2 rfl (by decide) u7 ns3.length (ns3.flatMap encE) rfl HON.out ⟨w7.heap.size, 0, none⟩ 1 1 [.slice (some ⟨g5, 0, none⟩) (k + 1) c5, .int .i64 y0, .int .i64 y1, .int .i64 y2, .int .i64 y3, .int .i64 y4, .int .i64 y5, .int .i64 y6, .int .i64 y7, .int .i64 y8, .int .i64 y9, .int .i64 ya, .int .i64 yb] rfl rfl (cells_new w7 [.slice (some ⟨g5, 0, none⟩) (k + 1) c5, .int .i64 y0, .int .i64 y1, .int .i64 y2, .int .i64 y3, .int .i64 y4, .int .i64 y5, .int .i64 y6, .int .i64 y7, .int .i64 y8, .int .i64 y9, .int .i64 ya, .int .i64 yb] 65 (0, 0)) (HONE.out g5 c5) (by decide) H63.out HBY.out HBS7.out _ rfl ?_; intro g8 c8 w8 hown8 hgr8 hat8 hlt8; have HO8 := Lib.hid hown8; have HG8 := Lib.hid hgr8; have HAT8 := Lib.hid hat8; clear hown8 hgr8 hat8))
                  have hk9 := Keep.ofGrown (S := u7.ownBlock.toList) HG8.out (fun x hx => by simp [hx])
                  have hB3 : B ≤ (w3.alloc (.cells #[.int .i64 y0, .int .i64 y1, .int .i64 y2, .int .i64 y3, .int .i64 y4, .int .i64 y5, .int .i64 y6, .int .i64 y7, .int .i64 y8, .int .i64 y9, .int .i64 ya, .int .i64 yb] 41)).heap.size := Nat.le_trans (Nat.le_of_eq HBS1.out) (Nat.le_trans HK3.out.size (HK4.out.alloc (.cells #[.int .i64 y0, .int .i64 y1, .int .i64 y2, .int .i64 y3, .int .i64 y4, .int .i64 y5, .int .i64 y6, .int .i64 y7, .int .i64 y8, .int .i64 y9, .int .i64 ya, .int .i64 yb] 41)).size)
                  have hat8 : u7.ownBlock = some g8 ∨ w7.heap.size ≤ g8 := HAT8.out.imp id (fun e => by rw [e]; exact ((Keep.refl [] w7).alloc _).size)
                  have HOM8 := Lib.hid (HOM3.out.push HKW6.out HK8.out (e := (.slice (some ⟨g5, 0, none⟩) (k + 1) c5, (l', [y0, y1, y2, y3, y4, y5, y6, y7, y8, y9, ya, yb]))) HS7.out (.cells #[.slice (some ⟨g5, 0, none⟩) (k + 1) c5, .int .i64 y0, .int .i64 y1, .int .i64 y2, .int .i64 y3, .int .i64 y4, .int .i64 y5, .int .i64 y6, .int .i64 y7, .int .i64 y8, .int .i64 y9, .int .i64 ya, .int .i64 yb] 65) hk9 HO8.out hat8 (own_keep (ownBaseE HIV5.out.1 hB3) HK7.out (by simp)))
                  have hb7 := ((Keep.refl [] w7).alloc (.cells #[.slice (some ⟨g5, 0, none⟩) (k + 1) c5, .int .i64 y0, .int .i64 y1, .int .i64 y2, .int .i64 y3, .int .i64 y4, .int .i64 y5, .int .i64 y6, .int .i64 y7, .int .i64 y8, .int .i64 y9, .int .i64 ya, .int .i64 yb] 65)).at (HK8.out.at (HKW6.out.at HB3.out (by simp)) (by have := HMB2.out; simp; omega)) (by simp)
                  have HB8 := Lib.hid (hk9.at hb7 (fun hm => HNB3.out (by simpa using hm)))
                  have hszw : wr.heap.size ≤ w7.heap.size := Nat.le_trans HKW6.out.size HK8.out.size
                  have HNB8 : Hid ((Value.slice (some ⟨g8, 0, none⟩) (ns3.length + 1) c8).ownBlock ≠ some b10) := Lib.hid (fun e => by
                    have e1 : g8 = b10 := by injection e
                    rcases hat8 with h | h
                    · exact HNB3.out (by rw [h, e1])
                    · omega)
                  have HKE := Lib.hid ((((HK3.out.trans HKW6.out).call HK8.out (fun b hb => by rw [List.mem_singleton] at hb; subst hb; exact .inr HMB.out)).alloc (.cells #[.slice (some ⟨g5, 0, none⟩) (k + 1) c5, .int .i64 y0, .int .i64 y1, .int .i64 y2, .int .i64 y3, .int .i64 y4, .int .i64 y5, .int .i64 y6, .int .i64 y7, .int .i64 y8, .int .i64 y9, .int .i64 ya, .int .i64 yb] 65)).call hk9 (fun b hb => .inr (Nat.le_trans (Nat.le_of_eq HBS1.out.symm) (HOM3.out.nxt.lt b (by simpa using hb)).1)))
                  exact ⟨⟨j + 1, ns3 ++ [(.slice (some ⟨g5, 0, none⟩) (k + 1) c5, (l', [y0, y1, y2, y3, y4, y5, y6, y7, y8, y9, ya, yb]))], hlt3, by go_num, by rw [HFN.out], Lib.hid (by rw [List.map_append]; exact HRN2.out), HOM8, HB8, HNB8, HKE⟩, by simp [intOf]; omega⟩
            · have hjn : j = n := by omega
              have hdec3 : decide ((j : Int) < (n : Int)) = false := by simp; omega
              have HFN : Hid (fin ps [x0, x1, x2, x3, x4, x5, x6, x7, x8, x9, xa, xb] = F) := Lib.hid (by rw [← hF, hjn, ← HN.out]; rfl)
              have HFX : Hid (fins ps ((lvN ps k).take (i + 1)) = if F = true then fins ps ((lvN ps k).take i) ++ [(pl, [x0, x1, x2, x3, x4, x5, x6, x7, x8, x9, xa, xb])] else fins ps ((lvN ps k).take i)) := Lib.hid (by rw [fins_next ps _ HPL.out, HFN.out])
              have HNX : Hid (ns3.map (·.2) = nextL ps ((lvN ps k).take (i + 1))) := Lib.hid (by rw [HNS3.out, nextL_next ps _ HPL.out, HN.out, hjn])
              clear hF hjn
              cases F with
              | false =>
                go_wp2_with fail
                exact ⟨⟨i + 1, os2, ns3, hlt2, by go_num, Lib.hid (by rw [HOS2.out, HFX.out]; simp), HNX, HOM3, HK3⟩, by simp [intOf]; omega⟩
              | true =>
                have hc10 : wr.cell? ⟨b10, 0, none⟩ = some (.slice pa k pc) := (cell_of_row wr b10 _ _ _ _ HB3.out).trans rfl
                have HOA := Lib.hid (own_keep HOM3.out.out ((Keep.refl [] wr).alloc (.cells #[.slice pa k pc] 22)) (by simp))
                have HON1 : Hid (∀ u ∈ ([.slice pa k pc] : List Value), u.oneCell' = true) := Lib.hid (by simp [Value.oneCell'])
                have hol : os2.length ≤ 234881024 := by
                  have h1 := congrArg List.length HOS2.out
                  rw [List.length_map, List.length_append] at h1
                  have h2 := outs_len HP.out k
                  have h3 : (fins ps ((lvN ps k).take i)).length ≤ ((lvN ps k).take i).length := List.length_filter_le _ _
                  rw [List.length_take] at h3
                  have h4 := HLV.out.few
                  have h5 : 4 ^ k ≤ 4 ^ 12 := Nat.pow_le_pow_right (by omega) hpl12
                  omega
                have H63 : Hid (os2.length + 1 ≤ maxLen) := Lib.hid (by unfold maxLen; omega)
                have HBY : Hid ((os2.length + 1) * 24 ≤ 140737488355328) := Lib.hid (by omega)
                have HBS : Hid (B ≤ (wr.alloc (.cells #[.slice pa k pc] 22)).heap.size) := Lib.hid (Nat.le_trans (Nat.le_of_eq HBS1.out) (HK3.out.alloc (.cells #[.slice pa k pc] 22)).size)
                go_wp2_with (first | (at_builtin; refine wpList_append_lies _ rfl _ _ 34 rfl B 22 i22 (.slice none 0 0) 1 24 Tryd.underlying34 hi22 hy0 hy1 hy2 rfl (by decide) u5 os2.length (os2.map (·.1)) rfl HOA.out ⟨wr.heap.size, 0, none⟩ 1 1 [.slice pa k pc] rfl rfl (cells_new wr [.slice pa k pc] 22 (0, 0)) HON1.out (by decide) H63.out HBY.out HBS.out _ rfl ?_; intro g8 c8 w8 hown8 hgr8 hat8 hlt8; have HO8 := Lib.hid hown8; have HG8 := Lib.hid hgr8; clear hown8 hgr8 hat8))
                have hk8 := Keep.ofGrown (S := u5.ownBlock.toList) HG8.out (fun x hx => by simp [hx])
                have HOM8 := Lib.hid (HOM3.out.done (.cells #[.slice pa k pc] 22) hk8 (e := (.slice pa k pc, (pl, [x0, x1, x2, x3, x4, x5, x6, x7, x8, x9, xa, xb]))) HO8.out (HOM3.out.ordl _ (List.mem_of_getElem? HPE.out)))
                have HK8 := Lib.hid ((HK3.out.alloc (.cells #[.slice pa k pc] 22)).call hk8 (fun b hb => .inr (Nat.le_trans (Nat.le_of_eq HBS1.out.symm) (HOM3.out.out.lt b (by simpa using hb)).1)))
                exact ⟨⟨i + 1, os2 ++ [(.slice pa k pc, (pl, [x0, x1, x2, x3, x4, x5, x6, x7, x8, x9, xa, xb]))], ns3, hlt2, by go_num, Lib.hid (by rw [List.map_append, HOS2.out, HFX.out, if_pos rfl, List.append_assoc]; rfl), HNX, HOM8, HK8⟩, by simp [intOf]; omega⟩
        · obtain rfl : i = m := by omega
          have hdec2 : decide ((i : Int) < (i : Int)) = false := by simp
          have HTK : Hid ((lvN ps k).take i = lvN ps k) := Lib.hid (List.take_of_length_le (by rw [← HES.out, List.length_map, HM.out]; exact Nat.le_refl _))
          go_wp2_with fail
          go_roundg (gk - 1)
          case measure => omega
          case rel => exact ⟨k + 1, os2, ns, by omega, Lib.hid (by rw [HOS2.out, HTK.out, outs_next]), Lib.hid (by rw [HNS.out, HTK.out]; rfl), Lib.hid HOM.out.out, Lib.hid HOM.out.ordo, Lib.hid HOM.out.nxt, Lib.hid HOM.out.ordn, HK2⟩
    · obtain rfl : m = 0 := by omega
      have hdec : decide (0 < ((0 : Nat) : Int)) = false := by simp
      have hnil : lvN ps k = [] := by
        rw [← HES.out, List.length_eq_zero_iff.1 HM.out]; rfl
      have HOK := Lib.hid (outs_ok HP.out hnil)
      clear hnil
      go_wp2_with fail
      go_ret2
      refine ⟨_, rfl, os, by rw [HOS.out]; exact HOK.out, HK1.out.trans HK.out, ownBaseE HO.out HWB.out, fun e he => ownBaseE (HOO.out e he) HWB.out⟩
end Go.Proofs.YtfcellgjbbfobaaDoor
