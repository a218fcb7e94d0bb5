/- Texts laid together: H43 HP21 H44. -/
import Derived.Test.YtkhchfjhmplaiaaMg15
/- CutMany: All. -/
namespace Go.Proofs.Ytkhchfjhmplaiaa
open Go.RowKit Go.Bf Go.WideMaps
theorem arrK : ArrKey Try.prog 76 3 8 := ⟨Try.underlying76, by kernel_rfl, by kernel_rfl, by kernel_rfl⟩
noncomputable def K8 : KeyT Try.prog 76 (List Int) := Key8 arrK Try.underlying3 ⟨_, rfl⟩
def encC (x : List Int) : List Value := x.map (Value.int .i64)
theorem key_ok {h : List Ln} (hn : h.length ≤ 200) {x : List Int} (hx : x ∈ boxL (Ns h)) : K8.ok x := by
  rw [mem_boxL] at hx
  have hl : x.length = 8 := by rw [hx.1]; simp [Ns]
  refine ⟨hl, fun z hz => ?_⟩
  obtain ⟨p, hp, rfl⟩ := List.getElem_of_mem hz
  have h1 := hx.2 p (by simp [Ns]; omega)
  rw [Ns_at h (by omega), List.getD_eq_getElem?_getD, List.getElem?_eq_getElem hp] at h1
  have h2 := rk_le (plQ h p) h.length
  simp only [Option.getD_some] at h1
  exact wf_small (by omega) (by omega)
theorem box_cut {h : List Ln} {x : List Int} (hx : x ∈ boxL (Ns h)) : CutOk h x := by
  rw [mem_boxL] at hx
  have hl : x.length = 8 := by rw [hx.1]; simp [Ns]
  exact ⟨hl, fun p hp => by
    have h1 := hx.2 p (by simpa [Ns] using hp)
    rw [Ns_at h hp] at h1
    exact h1⟩
def BfC (base mb : Nat) := BfAt K8 encC 76 8 base mb
theorem flat8 : ∀ {L : List (List Int)}, (∀ x ∈ L, x.length = 8) → (L.flatMap encC).length = L.length * 8
  | [], _ => rfl
  | x :: L, h => by
    rw [List.flatMap_cons, List.length_append, flat8 (fun y hy => h y (List.mem_cons_of_mem _ hy)), List.length_cons]
    have := h x (List.mem_cons_self ..)
    simp only [encC, List.length_map]
    omega
theorem front8 {base mb d : Nat} {w : World} {L : List (List Int)} {q : Value} {x : List Int} (hb : BfC base mb w L d q) (hx : L[d]? = some x) : ∃ g off c, q = .slice (some ⟨g, off, none⟩) (L.length - d) c ∧ base ≤ g ∧ g < w.heap.size ∧ L.length - d ≤ c ∧ c ≤ maxLen ∧ ∀ j u, (encC x)[j]? = some u → w.cell? ⟨g, off + j, none⟩ = some u := by
  obtain ⟨g, off, c, hq, h1, h2, h3, h4, _, h5⟩ := tail_form hb.queue
  refine ⟨g, off, c, hq, h1, h2, h3, h4, fun j u hu => h5 j u ?_⟩
  obtain ⟨hd, hd2⟩ := List.getElem?_eq_some_iff.1 hx
  rw [List.drop_eq_getElem_cons hd, hd2, List.flatMap_cons, List.getElem?_append_left (List.getElem?_eq_some_iff.1 hu).1]
  exact hu
theorem start8 (w : World) {w' : World} {mb : Nat} (hs : Seen K8 w' mb [zeros8]) (hmb : mb < w'.heap.size) : BfC w'.heap.size mb (w'.alloc (.cells #[.int .i64 0, .int .i64 0, .int .i64 0, .int .i64 0, .int .i64 0, .int .i64 0, .int .i64 0, .int .i64 0] 76)) [zeros8] 0 (.slice (some ⟨w'.heap.size, 0, none⟩) 1 1) :=
  ⟨hs.keep ((Keep.refl [] _).alloc _) (by simp), tail_new w' 76 8 (encC zeros8) 1 rfl (by unfold maxLen; omega), hmb⟩
set_option maxRecDepth 100000 in
set_option maxHeartbeats 4000000 in
theorem all19_any {w : World} {a : Option Addr} {n c : Nat} {h : List Ln} (hv : LnsV w a n c h) (hk : HOk h) (hp : prodL (Ns h) ≤ 5000) :
    Calls Try.prog 19 #[.slice a n c] w fun e w' => Keep [] w w' ∧ ∃ L : List (List Int), L.Nodup ∧ (∀ x, Rc 8 (nxC h) zeros8 x ↔ x ∈ L) ∧ e = .returned (.tuple #[.int .i64 L.length, .int .i64 0]) := by
  have HV := Lib.hid hv
  have HK := Lib.hid hk
  have HN := Lib.hid hv.len
  have HC0 : Hid (CutsV w none 0 h (fun _ => zeros8)) := Lib.hid (fun j hj => absurd hj (Nat.not_lt_zero _))
  obtain ⟨M, hM⟩ : ∃ M, (boxL (Ns h)).length = M := ⟨_, rfl⟩
  have hM5 : M ≤ 5000 := by rw [← hM, boxL_len]; exact hp
  have HM := Lib.hid hM
  clear hv hk hp hM
  have hmm := @run_makeMap Try.prog
  go_enter Try.func19, Try.ntmps19
  go_upto_region 4 with (first | (go_at_call 58; refine (begin_walkE HV.out HK.out HC0.out (by omega) (by omega) (by unfold maxLen; omega)).mono ?_; rintro e w1 ⟨H, S, T, V, v, rfl, hk1, _, _, _, hst, ho⟩; obtain ⟨av, cv, hve⟩ := own_slice ho; subst hve; have HK1 := Lib.hid hk1; have HST := Lib.hid hst; clear hk1 hst ho))
  have hz8 : K8.ok zeros8 := ⟨rfl, fun z hz => wf_small (by simp [zeros8] at hz; omega) (by simp [zeros8] at hz; omega)⟩
  have HZ8 := Lib.hid hz8
  have HZV : Hid (Value.agg #[.int .i64 0, .int .i64 0, .int .i64 0, .int .i64 0, .int .i64 0, .int .i64 0, .int .i64 0, .int .i64 0] = K8.val zeros8) := Lib.hid rfl
  have HSM := Lib.hid (Seen.made K8 w1)
  have HL0 : Hid (([] : List (List Int)).length < maxLen) := Lib.hid (by unfold maxLen; simp)
  have HNN : Hid (zeros8 ∉ ([] : List (List Int))) := Lib.hid (by simp)
  clear hz8
  go_upto_region 6 with (first | (with_reducible refine wpList_seen_add K8 _ rfl _ _ _ 77 (.inr rfl) 4 Try.underlying77 w1.heap.size [] rfl HSM.out HL0.out zeros8 _ HZV.out rfl rfl HZ8.out HNN.out ?_; intro w2 hs2 hk2; have HS2 := Lib.hid hs2; have HK2 := Lib.hid hk2; clear hs2 hk2))
  have hkA : Keep [] w1 w2 := ((Keep.refl [] w1).alloc _).call HK2.out (fun b hb => by rw [List.mem_singleton] at hb; subst hb; exact .inr (Nat.le_refl _))
  have hmb : w1.heap.size < w2.heap.size := Nat.lt_of_lt_of_le (by simp) HK2.out.size
  have HBA := Lib.hid (start8 w HS2.out hmb)
  have HKA := Lib.hid (hkA.alloc (.cells #[.int .i64 0, .int .i64 0, .int .i64 0, .int .i64 0, .int .i64 0, .int .i64 0, .int .i64 0, .int .i64 0] 76))
  have HB0 := Lib.hid (BF.start 8 (nxC h) zeros8)
  have HKL := Lib.hid hkA.size
  obtain ⟨Bq, hBq⟩ : ∃ Bq, w2.heap.size = Bq := ⟨_, rfl⟩
  obtain ⟨mb, hmbe⟩ : ∃ mb, w1.heap.size = mb := ⟨_, rfl⟩
  rw [hBq, hmbe] at HBA
  rw [hBq] at HKL ⊢
  have HMB : Hid (w1.heap.size ≤ mb) := Lib.hid (by omega)
  rw [hmbe] at ⊢
  clear HS2 HK2 HSM HL0 HNN HZV HZ8 hmm hkA hmb hBq hmbe
  have hi76 := info76
  obtain ⟨i76, hi76, hz0, hz1, hz2⟩ := info_parts hi76
  go_loopg [8] M (fun k q wr => ∃ (L : List (List Int)) (d : Nat), Hid (BF 8 (nxC h) zeros8 L d 0) ∧ Hid (BfC Bq mb wr L d q) ∧ Hid (Keep [] w1 wr) ∧ k + d = M ∧ d ≤ L.length ∧ L.length ≤ M)
  case atStart =>
    have hle : ([zeros8] : List (List Int)).length ≤ M := by rw [← HM.out]; exact HB0.out.le (fun x hx => reach_box hx)
    exact ⟨[zeros8], 0, HB0, HBA, HKA, by omega, by simp, hle⟩
  case round =>
    obtain ⟨L, d, HB, HA, HKR, hkd, hdL, hLM⟩ := hrel
    obtain ⟨g, off, cq, hq, hg1, hg2, hg3, hg4, _, hg5⟩ := tail_form HA.out.queue
    unfold maxLen at hg4
    obtain ⟨r, hr⟩ : ∃ r, L.length - d = r := ⟨_, rfl⟩
    rw [hr] at hq hg3
    subst hq
    by_cases hlt : d < L.length
    · obtain ⟨x, hx⟩ : ∃ x, L[d]? = some x := ⟨_, List.getElem?_eq_getElem hlt⟩
      have hdec : decide (0 < r) = true := by simp; omega
      have HX := Lib.hid hx
      have HR := Lib.hid hr
      clear hg5 hr hx
      go_wp2_with fail
      go_loopw [31, 8] (fun iv q2 wr2 => ∃ (i : Nat) (L2 : List (List Int)), i ≤ 8 ∧ iv = .int .i64 i ∧ Hid (BF 8 (nxC h) zeros8 L2 d i) ∧ Hid (BfC Bq mb wr2 L2 d q2) ∧ Hid (Keep [] w1 wr2) ∧ Hid (L2[d]? = some x) ∧ L2.length ≤ M) (fun iv _ _ => 8 - (intOf iv).toNat)
      case atStart => exact ⟨0, L, by omega, rfl, HB, HA, HKR, HX, hLM⟩
      case round =>
        obtain ⟨i, L2, hi, rfl, HB2, HA2, HKR2, HX2, hLM2⟩ := hrel
        have hd2 : d < L2.length := (List.getElem?_eq_some_iff.1 HX2.out).1
        have hxb : x ∈ boxL (Ns h) := reach_box (HB2.out.reach x (List.mem_of_getElem? HX2.out))
        obtain ⟨g2, off2, c2, hq2, hb1, hb2, hb3, hb4, hb5⟩ := front8 HA2.out HX2.out
        obtain ⟨r2, hr2⟩ : ∃ r2, L2.length - d = r2 := ⟨_, rfl⟩
        rw [hr2] at hq2 hb3
        subst hq2
        unfold maxLen at hb4
        have hr20 : 0 < r2 := by omega
        have HR2 := Lib.hid hr2
        by_cases hlt2 : i < 8
        · have hdec2 : decide ((i : Int) < 8) = true := by simp; omega
          have hcut := box_cut hxb
          have hgr := fun (x0 x1 x2 x3 x4 x5 x6 x7 : Int) (he : x = [x0, x1, x2, x3, x4, x5, x6, x7]) => grown59_any (x0 := x0) (x1 := x1) (x2 := x2) (x3 := x3) (x4 := x4) (x5 := x5) (x6 := x6) (x7 := x7) (HST.out.keep HKR2.out) HN.out HK.out (he ▸ hcut) hlt2
          obtain ⟨x0, x1, x2, x3, x4, x5, x6, x7, hxe⟩ := list8 hcut.len
          have hg59 := hgr x0 x1 x2 x3 x4 x5 x6 x7 hxe
          rw [← hxe] at hg59
          have HFR : Hid (∀ j u, ([.int .i64 x0, .int .i64 x1, .int .i64 x2, .int .i64 x3, .int .i64 x4, .int .i64 x5, .int .i64 x6, .int .i64 x7] : List Value)[j]? = some u → wr.cell? ((⟨g2, off2, none⟩ : Addr).add j) = some u) := Lib.hid (fun j u hu => by
            rw [Addr.add_mid]
            exact hb5 j u (by rw [hxe]; exact hu))
          have HSZ : Hid ((Try.prog.info? 76).map (·.size) = some ([.int .i64 x0, .int .i64 x1, .int .i64 x2, .int .i64 x3, .int .i64 x4, .int .i64 x5, .int .i64 x6, .int .i64 x7] : List Value).length) := Lib.hid size76
          clear hgr hcut hb5 hr2
          cases hnx : nxC h i x with
          | none =>
            have HG : Hid (Calls Try.prog 59 #[.pointer (some ⟨H, 0, none⟩), .agg #[.int .i64 x0, .int .i64 x1, .int .i64 x2, .int .i64 x3, .int .i64 x4, .int .i64 x5, .int .i64 x6, .int .i64 x7], .int .i64 i] wr fun e w' => Keep [] wr w' ∧ e = .returned (.tuple #[.agg #[.int .i64 x0, .int .i64 x1, .int .i64 x2, .int .i64 x3, .int .i64 x4, .int .i64 x5, .int .i64 x6, .int .i64 x7], .bool false])) := Lib.hid (hg59.mono (by
              rintro e w' ⟨h1, ⟨_, rfl⟩ | ⟨C', h2, rfl⟩⟩
              · exact ⟨h1, by rw [hxe]; rfl⟩
              · rw [hnx] at h2; cases h2))
            have HBN := Lib.hid (HB2.out.skip HX2.out (fun s hs => by rw [hnx] at hs; cases hs))
            clear hg59 hnx hxe hxb
            go_wp2_with (first | (with_reducible refine wpList_load_at rfl 76 _ rfl ⟨g2, off2, none⟩ rfl [.int .i64 x0, .int .i64 x1, .int .i64 x2, .int .i64 x3, .int .i64 x4, .int .i64 x5, .int .i64 x6, .int .i64 x7] _ HFR.out Try.underlying76 rfl HSZ.out ?_) | (go_at_call 59; refine HG.out.mono ?_; rintro e3 w3 ⟨hk3, rfl⟩; have HK3 := Lib.hid hk3; clear hk3))
            exact ⟨⟨i + 1, L2, hlt2, by go_num, HBN, Lib.hid (BfAt.keep HA2.out (HK3.out.alloc _)), Lib.hid (HKR2.out.trans (HK3.out.alloc _)), HX2, hLM2⟩, by simp [intOf]; omega⟩
          | some C' =>
            have hbx : C' ∈ boxL (Ns h) := reach_box (.step (HB2.out.reach x (List.mem_of_getElem? HX2.out)) hlt2 hnx)
            obtain ⟨y0, y1, y2, y3, y4, y5, y6, y7, hye⟩ := list8 (box_cut hbx).len
            have HG : Hid (Calls Try.prog 59 #[.pointer (some ⟨H, 0, none⟩), .agg #[.int .i64 x0, .int .i64 x1, .int .i64 x2, .int .i64 x3, .int .i64 x4, .int .i64 x5, .int .i64 x6, .int .i64 x7], .int .i64 i] wr fun e w' => Keep [] wr w' ∧ e = .returned (.tuple #[.agg #[.int .i64 y0, .int .i64 y1, .int .i64 y2, .int .i64 y3, .int .i64 y4, .int .i64 y5, .int .i64 y6, .int .i64 y7], .bool true])) := Lib.hid (hg59.mono (by
              rintro e w' ⟨h1, ⟨h2, _⟩ | ⟨C2, h2, rfl⟩⟩
              · rw [hnx] at h2; cases h2
              · rw [hnx] at h2; injection h2 with h2; subst h2; exact ⟨h1, by rw [hye]; rfl⟩))
            have hkok := key_ok (by have := HK.out.len; omega) hbx
            obtain ⟨A, hA⟩ : ∃ A, decide (C' ∈ L2) = A := ⟨_, rfl⟩
            have HLK : Hid (∀ w3, Keep [] wr w3 → (Instr.lookup 77 (.map (some mb)) (.agg #[.int .i64 y0, .int .i64 y1, .int .i64 y2, .int .i64 y3, .int .i64 y4, .int .i64 y5, .int .i64 y6, .int .i64 y7]) false).run Try.prog (w3.alloc (.cells #[.int .i64 y0, .int .i64 y1, .int .i64 y2, .int .i64 y3, .int .i64 y4, .int .i64 y5, .int .i64 y6, .int .i64 y7] 76)) = .ok (.bool A) (w3.alloc (.cells #[.int .i64 y0, .int .i64 y1, .int .i64 y2, .int .i64 y3, .int .i64 y4, .int .i64 y5, .int .i64 y6, .int .i64 y7] 76))) := Lib.hid (fun w3 hk3 => by
              have h1 := Seen.look (C := K8) (P := Try.prog) (w := w3.alloc (.cells #[.int .i64 y0, .int .i64 y1, .int .i64 y2, .int .i64 y3, .int .i64 y4, .int .i64 y5, .int .i64 y6, .int .i64 y7] 76)) Try.underlying77 (Try.zeroValue4 _) (HA2.out.seen.keep (hk3.alloc _) (by simp)) hkok
              rw [show K8.val C' = .agg #[.int .i64 y0, .int .i64 y1, .int .i64 y2, .int .i64 y3, .int .i64 y4, .int .i64 y5, .int .i64 y6, .int .i64 y7] by rw [hye]; rfl] at h1
              exact h1.trans (congrArg (fun b => Result.ok (Value.bool b) _) (by rw [← hA]; exact decide_eq_decide.2 Iff.rfl)))
            have HNX := Lib.hid hnx
            have HYE := Lib.hid hye
            have HOKY := Lib.hid hkok
            cases A with
            | true =>
              have hmem : C' ∈ L2 := of_decide_eq_true hA
              have HBN := Lib.hid (HB2.out.skip HX2.out (fun s hs => by rw [hnx] at hs; injection hs with hs; exact hs ▸ hmem))
              clear hg59 hnx hxe hxb hye hbx hkok hA hmem
              go_wp2_with (first | (with_reducible refine wpList_load_at rfl 76 _ rfl ⟨g2, off2, none⟩ rfl [.int .i64 x0, .int .i64 x1, .int .i64 x2, .int .i64 x3, .int .i64 x4, .int .i64 x5, .int .i64 x6, .int .i64 x7] _ HFR.out Try.underlying76 rfl HSZ.out ?_) | (go_at_call 59; refine HG.out.mono ?_; rintro e3 w3 ⟨hk3, rfl⟩; have HK3 := Lib.hid hk3; have hlk := HLK.out w3 hk3; clear hk3))
              exact ⟨⟨i + 1, L2, hlt2, by go_num, HBN, Lib.hid (BfAt.keep HA2.out (HK3.out.alloc _)), Lib.hid (HKR2.out.trans (HK3.out.alloc _)), HX2, hLM2⟩, by simp [intOf]; omega⟩
            | false =>
              have hmem : C' ∉ L2 := of_decide_eq_false hA
              have HBN := Lib.hid (HB2.out.add HX2.out hlt2 hnx hmem)
              have hLM3 : (L2 ++ [C']).length ≤ M := by rw [← HM.out]; exact HBN.out.le (fun x hx => reach_box hx)
              have HX3 : Hid ((L2 ++ [C'])[d]? = some x) := Lib.hid (by rw [List.getElem?_append_left hd2]; exact HX2.out)
              have HNM := Lib.hid hmem
              have HLT : Hid (L2.length < maxLen) := Lib.hid (by unfold maxLen; omega)
              have HKV : Hid (Value.agg #[.int .i64 y0, .int .i64 y1, .int .i64 y2, .int .i64 y3, .int .i64 y4, .int .i64 y5, .int .i64 y6, .int .i64 y7] = K8.val C') := Lib.hid (by rw [hye]; rfl)
              have HEN : Hid (encC C' = [.int .i64 y0, .int .i64 y1, .int .i64 y2, .int .i64 y3, .int .i64 y4, .int .i64 y5, .int .i64 y6, .int .i64 y7]) := Lib.hid (by rw [hye]; rfl)
              have HONE : Hid (∀ u ∈ ([.int .i64 y0, .int .i64 y1, .int .i64 y2, .int .i64 y3, .int .i64 y4, .int .i64 y5, .int .i64 y6, .int .i64 y7] : List Value), u.oneCell' = true) := Lib.hid (by simp [Value.oneCell'])
              have HSA : Hid (∀ w3, Keep [] wr w3 → Seen K8 (w3.alloc (.cells #[.int .i64 y0, .int .i64 y1, .int .i64 y2, .int .i64 y3, .int .i64 y4, .int .i64 y5, .int .i64 y6, .int .i64 y7] 76)) mb L2) := Lib.hid (fun w3 hk3 => HA2.out.seen.keep (hk3.alloc _) (by simp))
              have HLOW := Lib.hid HA2.out.low
              have hmlt : mb < wr.heap.size := HA2.out.seen.lt
              have HTQ : Hid (∀ w3 w5, Keep [] wr w3 → Keep [mb] (w3.alloc (.cells #[.int .i64 y0, .int .i64 y1, .int .i64 y2, .int .i64 y3, .int .i64 y4, .int .i64 y5, .int .i64 y6, .int .i64 y7] 76)) w5 → (w5.alloc (.cells #[.int .i64 y0, .int .i64 y1, .int .i64 y2, .int .i64 y3, .int .i64 y4, .int .i64 y5, .int .i64 y6, .int .i64 y7] 76)).ownsTail Bq 76 8 (.slice (some ⟨g2, off2, none⟩) r2 c2) r2 ((L2.drop d).flatMap encC)) := Lib.hid (fun w3 w5 h3 h5 => by
                have h6 := BfAt.row (BfAt.keep HA2.out (h3.alloc _)) h5
                rw [HR2.out] at h6
                exact tail_keep h6 ((Keep.refl [] w5).alloc _) (fun g hg => by cases hg))
              have hr5 : r2 ≤ 5000 := by have := HR2.out; omega
              have H63 : Hid (r2 + 1 ≤ maxLen) := Lib.hid (by unfold maxLen; omega)
              have HBY : Hid ((r2 + 1) * 64 ≤ 140737488355328) := Lib.hid (by omega)
              have HBQ : Hid (Bq ≤ wr.heap.size) := Lib.hid (Nat.le_of_lt (Nat.lt_of_le_of_lt hb1 hb2))
              clear hg59 hnx hxe hxb hye hbx hkok hA hmem
              go_wp2_with (first | (with_reducible refine wpList_load_at rfl 76 _ rfl ⟨g2, off2, none⟩ rfl [.int .i64 x0, .int .i64 x1, .int .i64 x2, .int .i64 x3, .int .i64 x4, .int .i64 x5, .int .i64 x6, .int .i64 x7] _ HFR.out Try.underlying76 rfl HSZ.out ?_) | (go_at_call 59; refine HG.out.mono ?_; rintro e3 w3 ⟨hk3, rfl⟩; have HK3 := Lib.hid hk3; have hlk := HLK.out w3 hk3; have HS3 := Lib.hid (HSA.out w3 hk3); clear hk3) | (with_reducible refine wpList_seen_add K8 _ rfl _ _ _ 77 (.inl rfl) 4 Try.underlying77 mb L2 rfl HS3.out HLT.out C' _ HKV.out rfl rfl HOKY.out HNM.out ?_; intro w5 hs5 hk5; have HS5 := Lib.hid hs5; have HK5 := Lib.hid hk5; have hsz3 := HK3.out.size; obtain ⟨r0, r1, r2', r3, r4, r5, r6, r7⟩ := row8 (hk5.at (blk_new w3 (.cells #[.int .i64 y0, .int .i64 y1, .int .i64 y2, .int .i64 y3, .int .i64 y4, .int .i64 y5, .int .i64 y6, .int .i64 y7] 76)) (by simp; omega)); have HT5 := Lib.hid (HTQ.out w3 w5 HK3.out hk5); have HK15 := Lib.hid ((((HKR2.out.trans HK3.out).alloc (.cells #[.int .i64 y0, .int .i64 y1, .int .i64 y2, .int .i64 y3, .int .i64 y4, .int .i64 y5, .int .i64 y6, .int .i64 y7] 76)).call hk5 (fun b hb => by rw [List.mem_singleton] at hb; subst hb; exact .inr HMB.out)).alloc (.cells #[.int .i64 y0, .int .i64 y1, .int .i64 y2, .int .i64 y3, .int .i64 y4, .int .i64 y5, .int .i64 y6, .int .i64 y7] 76)); have HB5 := Lib.hid (Nat.le_trans HBQ.out (Nat.le_trans (Nat.le_trans HK3.out.size (Nat.le_trans ((Keep.refl [] w3).alloc (.cells #[.int .i64 y0, .int .i64 y1, .int .i64 y2, .int .i64 y3, .int .i64 y4, .int .i64 y5, .int .i64 y6, .int .i64 y7] 76)).size hk5.size)) ((Keep.refl [] w5).alloc (.cells #[.int .i64 y0, .int .i64 y1, .int .i64 y2, .int .i64 y3, .int .i64 y4, .int .i64 y5, .int .i64 y6, .int .i64 y7] 76)).size)); clear hs5 hk5) | (at_builtin; refine wpList_append_tail rfl _ _ 73 rfl Bq 76 i76 (.agg #[.int .i64 0, .int .i64 0, .int .i64 0, .int .i64 0, .int .i64 0, .int .i64 0, .int .i64 0, .int .i64 0]) 8 64 Try.underlying73 hi76 hz0 hz1 hz2 rfl (.slice (some ⟨g2, off2, none⟩) r2 c2) r2 ((L2.drop d).flatMap encC) rfl HT5.out ⟨w5.heap.size, 0, none⟩ 1 1 [.int .i64 y0, .int .i64 y1, .int .i64 y2, .int .i64 y3, .int .i64 y4, .int .i64 y5, .int .i64 y6, .int .i64 y7] rfl rfl (cells_new w5 [.int .i64 y0, .int .i64 y1, .int .i64 y2, .int .i64 y3, .int .i64 y4, .int .i64 y5, .int .i64 y6, .int .i64 y7] 76 (0, 0)) HONE.out H63.out HBY.out HB5.out ?_; intro g9 o9 c9 w9 hown9 hk9 hb9; have HO9 := Lib.hid hown9; have HK9 := Lib.hid (hk9 [] w1 HK15.out HKL.out); have HB9 := Lib.hid hb9; clear hown9 hk9 hb9))
              have HBA9 : Hid (BfC Bq mb w9 (L2 ++ [C']) d (.slice (some ⟨g9, o9, none⟩) (r2 + 1) c9)) := Lib.hid (BfAt.push (Nat.le_of_lt hd2) HR2.out HLOW.out (HS5.out.keep ((Keep.refl [] w5).alloc _) (by simp)) (by rw [HEN.out]; exact HO9.out) HB9.out)
              exact ⟨⟨i + 1, L2 ++ [C'], hlt2, by go_num, HBN, HBA9, HK9, HX3, hLM3⟩, by simp [intOf]; omega⟩
        · have hi8 : i = 8 := by omega
          subst hi8
          have hBF := Lib.hid (HB2.out.next HX2.out (Nat.le_refl 8))
          obtain ⟨N, hN⟩ : ∃ N, L2.length = N := ⟨_, rfl⟩
          have hlen : (Builtin.len_ #[77] 3 #[.map (some mb)]).run Try.prog wr = .ok (.int .i64 N) wr := by
            rw [HA2.out.seen.len Try.underlying77 3, hN]
          have hN5 : N ≤ 5000 := by omega
          have hde : decide ((N : Int) > 5000) = false := by simp; omega
          have hde2 : decide (5000 < N) = false := by simp; omega
          obtain ⟨r3, rfl⟩ : ∃ r3, r2 = r3 + 1 := ⟨r2 - 1, by omega⟩
          have HQ := Lib.hid HA2.out.queue
          have HNL := Lib.hid hN
          have hcl : (encC x).length = 8 := by unfold encC; rw [List.length_map]; exact (box_cut hxb).len
          have HCL := Lib.hid hcl
          have hkk : gk - 1 + (d + 1) = M := by omega
          have hdl3 : d + 1 ≤ L2.length := by omega
          rw [HR2.out] at HQ
          clear hN hb5 hxb hr2 hcl
          go_wp2_with (first | (with_reducible refine wpList_slice_tail rfl _ 73 rfl i76 Try.underlying73 hi76 hz1 rfl HQ.out ?_; intro g9 o9 c9 hown9; have HO9 := Lib.hid hown9; clear hown9))
          have HBA9 : Hid (BfC Bq mb wr L2 (d + 1) (.slice (some ⟨g9, o9, none⟩) r3 c9)) := Lib.hid (BfAt.next HA2.out HX2.out HCL.out (by have := HR2.out; omega) HO9.out)
          go_roundg (gk - 1)
          case measure => omega
          case rel => exact ⟨L2, d + 1, hBF, HBA9, HKR2, hkk, hdl3, hLM2⟩
    · have hdec : decide (0 < r) = false := by simp; omega
      have HALL := Lib.hid (HB.out.all (show L.length ≤ d by omega))
      have HND := Lib.hid HB.out.nodup
      obtain ⟨N, hN⟩ : ∃ N, L.length = N := ⟨_, rfl⟩
      have HNL := Lib.hid hN
      have hlen : (Builtin.len_ #[77] 3 #[.map (some mb)]).run Try.prog wr = .ok (.int .i64 N) wr := by
        rw [HA.out.seen.len Try.underlying77 3, hN]
      clear hg5 hr hN
      go_wp2_with fail
      go_ret2
      exact ⟨HK1.out.trans HKR.out, L, HND.out, HALL.out, by rw [HNL.out]; rfl⟩
end Go.Proofs.Ytkhchfjhmplaiaa
/- CutMany: quiet histories, and how many cuts a history has at most; plain. -/
namespace Go
open Go.Bf
/-- a events of place 2, then b of place 5. -/
def quietH (a b : Nat) : Nat → List Ln
  | 0 => []
  | k + 1 => quietH a b k ++ [⟨if k < a then 2 else 5, 1, 0⟩]
theorem quietH_len (a b : Nat) : ∀ k, (quietH a b k).length = k
  | 0 => rfl
  | k + 1 => by simp [quietH, quietH_len a b k]
theorem quietH_mem {a b : Nat} : ∀ {k : Nat} {x : Ln}, x ∈ quietH a b k → (x.q = 2 ∨ x.q = 5) ∧ x.g = 1 ∧ x.u = 0
  | 0, x, h => by simp [quietH] at h
  | k + 1, x, h => by
    simp only [quietH, List.mem_append, List.mem_singleton] at h
    rcases h with h | h
    · exact quietH_mem h
    · subst h
      by_cases e : k < a
      · simp [e]
      · simp [e]
theorem quiet_ok {h : List Ln} (hn : h.length ≤ 200) (hq : ∀ x ∈ h, (0 ≤ x.q ∧ x.q < 8) ∧ x.g = 1 ∧ x.u = 0) : HOk h := by
  have at_ : ∀ i, i < h.length → (0 ≤ (lat h i).q ∧ (lat h i).q < 8) ∧ (lat h i).g = 1 ∧ (lat h i).u = 0 := fun i hi => hq _ (lat_mem hi)
  exact ⟨hn, fun i hi => by have := at_ i hi; omega, fun i j _ hj hi2 => by have := at_ i (by omega); omega, fun i j _ hj hi2 => by have := at_ i (by omega); omega, fun i hi hi2 => by have := at_ i hi; omega⟩
theorem quietH_ok {a b k : Nat} (hk : k ≤ 200) : HOk (quietH a b k) :=
  quiet_ok (by rw [quietH_len]; exact hk) (fun x hx => by have := quietH_mem hx; omega)
theorem quietH_none {a b k : Nat} : ∀ j, j < (quietH a b k).length → (lat (quietH a b k) j).g ≠ 3 := fun j hj => by
  have := quietH_mem (lat_mem hj)
  omega
def twoH : List Ln := [⟨0, 1, 0⟩, ⟨1, 1, 0⟩]
theorem twoH_ok : HOk twoH := quiet_ok (by decide) (by decide)
theorem twoH_none : ∀ j, j < twoH.length → (lat twoH j).g ≠ 3 := by decide
theorem twoH_prod : prodL (Ns twoH) = 4 := by decide
theorem quiet_prod : ∀ a b : Fin 20, prodL (Ns (quietH a.val b.val (a.val + b.val))) = (a.val + 1) * (b.val + 1) := by decide +kernel
theorem sum8_le (h : List Ln) : ∀ k, rk (plQ h (0 : Nat)) k + rk (plQ h (1 : Nat)) k + rk (plQ h (2 : Nat)) k + rk (plQ h (3 : Nat)) k + rk (plQ h (4 : Nat)) k + rk (plQ h (5 : Nat)) k + rk (plQ h (6 : Nat)) k + rk (plQ h (7 : Nat)) k ≤ k
  | 0 => by simp [rk]
  | k + 1 => by
    have ih := sum8_le h k
    have hp : ∀ p : Nat, plQ h p k = decide ((lat h k).q = (p : Int)) := fun _ => rfl
    simp only [rk_succ, hp, decide_eq_true_eq]
    generalize (lat h k).q = q
    by_cases h0 : q = 0
    · subst h0; simp at ih ⊢; omega
    by_cases h1 : q = 1
    · subst h1; simp at ih ⊢; omega
    by_cases h2 : q = 2
    · subst h2; simp at ih ⊢; omega
    by_cases h3 : q = 3
    · subst h3; simp at ih ⊢; omega
    by_cases h4 : q = 4
    · subst h4; simp at ih ⊢; omega
    by_cases h5 : q = 5
    · subst h5; simp at ih ⊢; omega
    by_cases h6 : q = 6
    · subst h6; simp at ih ⊢; omega
    by_cases h7 : q = 7
    · subst h7; simp at ih ⊢; omega
    simp [h0, h1, h2, h3, h4, h5, h6, h7] at ih ⊢
    omega
theorem sumNs_le (h : List Ln) : sumL (Ns h) ≤ h.length := by
  have := sum8_le h h.length
  show sumL [_, _, _, _, _, _, _, _] ≤ _
  simp only [sumL]
  omega
theorem few_cuts {h : List Ln} (hl : h.length ≤ 12) : prodL (Ns h) ≤ 5000 := by
  have h1 := prodL_le (Ns h)
  have h2 := sumNs_le h
  have h3 : 2 ^ sumL (Ns h) ≤ 2 ^ 12 := Nat.pow_le_pow_right (by omega) (by omega)
  omega
end Go
/- CutMany: the walk. -/
namespace Go
theorem IntsV.takeN {w : World} {a : Option Addr} {n c N : Nat} {zs : List Int} (h : IntsV w a n c zs) (hN : N ≤ n) : IntsV w a N c (zs.take N) :=
  ⟨by rw [List.length_take, h.len]; omega, Nat.le_trans hN h.room, h.most, fun z hz => h.wf z (List.mem_of_mem_take hz), fun h0 => by
    obtain ⟨b, off, rfl, hc⟩ := h.cells (by omega)
    refine ⟨b, off, rfl, fun i hi => ?_⟩
    rw [hc i (by omega), List.getD_eq_getElem?_getD, List.getD_eq_getElem?_getD, List.getElem?_take_of_lt hi]⟩
theorem lnsTwoC {w : World} {b : Nat} {x y : Ln} {T : TypeId} (h : w.heap[b]? = some (.cells (x.cells ++ y.cells).toArray T (0, 0))) : LnsV w (some ⟨b, 0, none⟩) 2 2 [x, y] :=
  ⟨rfl, Nat.le_refl _, by decide, fun _ => ⟨b, 0, rfl, fun j hj => by
    rw [Nat.zero_add, cellAt h j]
    simp [lanesC]⟩⟩
end Go
namespace Go.Proofs.Ytkhchfjhmplaiaa
open Go.RowKit Go.Bf
theorem all19_quiet {w : World} {a : Option Addr} {n c N : Nat} {h : List Ln} (hv : LnsV w a n c h) (hk : HOk h) (hq : ∀ k, k < h.length → (lat h k).g ≠ 3) (hN : prodL (Ns h) = N) (hp : N ≤ 5000) :
    Calls Try.prog 19 #[.slice a n c] w fun e w' => e = .returned (.tuple #[.int .i64 N, .int .i64 0]) ∧ Keep [] w w' :=
  (all19_any hv hk (by omega)).mono (by
    rintro e w' ⟨h1, L, h2, h3, rfl⟩
    exact ⟨by rw [← hN, ← quiet_count hq h2 h3], h1⟩)
theorem all19_many {w : World} {a : Option Addr} {n c : Nat} {h : List Ln} (hv : LnsV w a n c h) (hk : HOk h) (hn : n ≤ 12) :
    Calls Try.prog 19 #[.slice a n c] w fun e w' => ∃ N : Nat, e = .returned (.tuple #[.int .i64 N, .int .i64 0]) ∧ n + 1 ≤ N ∧ N ≤ 5000 ∧ Keep [] w w' :=
  (all19_any hv hk (few_cuts (by rw [hv.len]; exact hn))).mono (by
    rintro e w' ⟨h1, L, h2, h3, rfl⟩
    refine ⟨L.length, rfl, by rw [← hv.len]; exact many_le hk h3, ?_, h1⟩
    exact Nat.le_trans (nodup_le h2 (fun x hx => reach_box ((h3 x).2 hx))) (by rw [boxL_len]; exact few_cuts (by rw [hv.len]; exact hn)))
set_option maxRecDepth 100000 in
set_option maxHeartbeats 4000000 in
theorem cutMany_walk (ap : Option Addr) (len cap : Nat) (zs : List Int) (a0 b0 : Int) (w : World) (hz : IntsV w ap len cap zs) :
    Calls Try.prog 3 #[.slice ap len cap, .int .i64 a0, .int .i64 b0] w fun e w' => e = .returned (.bool true) ∧ Keep [] w w' := by
  have hroom := hz.room
  have hmost := hz.most
  unfold maxLen at hmost
  obtain ⟨N, hN, hNl, hN1⟩ : ∃ N : Nat, min (len : Int) 12 = (N : Int) ∧ N ≤ len ∧ N ≤ 12 :=
    ⟨min 12 len, by omega, by omega, by omega⟩
  have HZ := Lib.hid (hz.takeN hNl)
  have HHN : Hid ((hist (zs.take N)).length = N) := Lib.hid (by rw [hist_len, List.length_take, hz.len]; omega)
  have HOK : Hid (HOk (hist (zs.take N))) := Lib.hid (hist_inv _).ok
  have HK0 := Lib.hid ((Keep.refl [] w).alloc (.cells #[.int .i64 0, .int .i64 1, .int .i64 0, .int .i64 1, .int .i64 1, .int .i64 0] 27))
  have HT0 : Hid (LnsV (w.alloc (.cells #[.int .i64 0, .int .i64 1, .int .i64 0, .int .i64 1, .int .i64 1, .int .i64 0] 27)) (some ⟨w.heap.size, 0, none⟩) 2 2 twoH) := Lib.hid (lnsTwoC (blk_new w _))
  obtain ⟨A, hA, hA20⟩ := rest_nat a0 20 (by omega)
  obtain ⟨B, hB, hB20⟩ := rest_nat b0 20 (by omega)
  have HA := Lib.hid hA
  have HB := Lib.hid hB
  obtain ⟨i0, hi0, hz0, hz1, hz2⟩ := info_parts info27
  clear hz hA hB
  go_enter Try.func3, Try.ntmps3
  go_upto_region 11 with (first | (go_at_call 19; (with_reducible refine (all19_quiet HT0.out twoH_ok twoH_none twoH_prod (by omega)).mono ?_); rintro e1 w1 ⟨rfl, hk1⟩; have HK1 := Lib.hid (HK0.out.trans hk1); have HZ1 := Lib.hid (HZ.out.keep HK1.out (by simp)); clear hk1) | (go_at_call 20; (with_reducible refine (history_at HZ1.out HHN).mono ?_); rintro e2 w2 ⟨a2, c2, rfl, hk2, hv2⟩; have HK2 := Lib.hid (HK1.out.trans hk2); have HV2 := Lib.hid hv2; clear hk2 hv2) | (go_at_call 19; (with_reducible refine (all19_many HV2.out HOK.out hN1).mono ?_); rintro e3 w3 ⟨M, rfl, hM1, hM2, hk3⟩; have HK3 := Lib.hid (HK2.out.trans hk3); clear hk3) | (go_at_call 21; (with_reducible refine (rest_at HA (by omega) (by omega)).mono ?_); rintro e4 w4 ⟨rfl, rfl⟩) | (go_at_call 21; (with_reducible refine (rest_at HB (by omega) (by omega)).mono ?_); rintro e5 w5 ⟨rfl, rfl⟩))
  clear HZ HHN HOK HT0 HK0 HK1 HZ1 HK2 HV2 hM1 hM2 hN hNl hN1
  go_loopw [56, 12] (fun j v wr => ∃ k : Nat, k ≤ A + B ∧ j = .int .i64 k ∧ Hid (wr.ownsRow w3.heap.size 27 3 v k (lanesC (quietH A B k))) ∧ Hid (Keep [] w3 wr)) (fun j _ _ => (A + B) - (intOf j).toNat)
  case atStart => exact ⟨0, by omega, rfl, Lib.hid (World.ownsRow_nil _ _ _ _), Lib.hid (Keep.refl _ _)⟩
  case round =>
    obtain ⟨k, hk, rfl, HO, HKW⟩ := hrel
    by_cases hlt : k < A + B
    · have hdec : decide ((k : Int) < (A : Int) + (B : Int)) = true := by simp; omega
      by_cases hka : k < A
      · skip
        have hd2 : decide ((k : Int) < (A : Int)) = true := by simp; omega
        have hd3 : decide (k < A) = true := by simp; omega
        have hkb : Keep [] wr ((wr.alloc (.cells #[.int .i64 2, .int .i64 1, .int .i64 0] 27)).alloc (.cells #[.int .i64 2, .int .i64 1, .int .i64 0] 27)) := ((Keep.refl [] wr).alloc _).alloc _
        have HKB := Lib.hid hkb
        have HO2 := Lib.hid (own_keep HO.out hkb (by simp))
        have HSB := Lib.hid (Nat.le_trans HKW.out.size hkb.size)
        have HQ : Hid (lanesC (quietH A B (k + 1)) = lanesC (quietH A B k) ++ [.int .i64 2, .int .i64 1, .int .i64 0]) := Lib.hid (by
          show lanesC (quietH A B k ++ [⟨if k < A then 2 else 5, 1, 0⟩]) = _
          rw [lanesC_snoc, if_pos hka]; rfl)
        clear hkb
        go_wp2_with (first | (at_builtin; refine wpList_append_own _ rfl _ _ 28 rfl w3.heap.size 27 i0 (.agg #[.int .i64 0, .int .i64 0, .int .i64 0]) 3 24 Try.underlying28 hi0 hz0 hz1 hz2 rfl (by decide) u12 k (lanesC (quietH A B k)) rfl HO2.out ⟨wr.heap.size + 1, 0, none⟩ 1 1 [.int .i64 2, .int .i64 1, .int .i64 0] rfl rfl (cells_new2 wr _ _ 27) (by intro u hu; simp at hu; rcases hu with rfl | rfl | rfl <;> rfl) (by unfold maxLen; omega) (by omega) HSB.out ?_; intro v6 w6 hown6 hgr6 _; have HO6 := Lib.hid hown6; have HG6 := Lib.hid hgr6; clear hown6 hgr6))
        refine ⟨⟨k + 1, hlt, by go_num, Lib.hid (by rw [HQ.out]; exact HO6.out), Lib.hid ?_⟩, by simp [intOf]; omega⟩
        exact (HKW.out.trans HKB.out).grown HG6.out (fun g hg => .inr (HO2.out.lt g hg).1)
      · skip
        have hd2 : decide ((k : Int) < (A : Int)) = false := by simp; omega
        have hd3 : decide (k < A) = false := by simp; omega
        have hkb : Keep [] wr ((wr.alloc (.cells #[.int .i64 5, .int .i64 1, .int .i64 0] 27)).alloc (.cells #[.int .i64 5, .int .i64 1, .int .i64 0] 27)) := ((Keep.refl [] wr).alloc _).alloc _
        have HKB := Lib.hid hkb
        have HO2 := Lib.hid (own_keep HO.out hkb (by simp))
        have HSB := Lib.hid (Nat.le_trans HKW.out.size hkb.size)
        have HQ : Hid (lanesC (quietH A B (k + 1)) = lanesC (quietH A B k) ++ [.int .i64 5, .int .i64 1, .int .i64 0]) := Lib.hid (by
          show lanesC (quietH A B k ++ [⟨if k < A then 2 else 5, 1, 0⟩]) = _
          rw [lanesC_snoc, if_neg hka]; rfl)
        clear hkb
        go_wp2_with (first | (at_builtin; refine wpList_append_own _ rfl _ _ 28 rfl w3.heap.size 27 i0 (.agg #[.int .i64 0, .int .i64 0, .int .i64 0]) 3 24 Try.underlying28 hi0 hz0 hz1 hz2 rfl (by decide) u12 k (lanesC (quietH A B k)) rfl HO2.out ⟨wr.heap.size + 1, 0, none⟩ 1 1 [.int .i64 5, .int .i64 1, .int .i64 0] rfl rfl (cells_new2 wr _ _ 27) (by intro u hu; simp at hu; rcases hu with rfl | rfl | rfl <;> rfl) (by unfold maxLen; omega) (by omega) HSB.out ?_; intro v6 w6 hown6 hgr6 _; have HO6 := Lib.hid hown6; have HG6 := Lib.hid hgr6; clear hown6 hgr6))
        refine ⟨⟨k + 1, hlt, by go_num, Lib.hid (by rw [HQ.out]; exact HO6.out), Lib.hid ?_⟩, by simp [intOf]; omega⟩
        exact (HKW.out.trans HKB.out).grown HG6.out (fun g hg => .inr (HO2.out.lt g hg).1)
    · have hkk : k = A + B := by omega
      subst hkk
      have hdec : decide (((A + B : Nat) : Int) < (A : Int) + (B : Int)) = false := by simp
      obtain ⟨av, cv, hve, hlv, -⟩ := LnsV.ofOwn HO.out
      have HLV := Lib.hid hlv
      subst hve
      have HQP : Hid (prodL (Ns (quietH A B (A + B))) = (A + 1) * (B + 1)) := Lib.hid (quiet_prod ⟨A, by omega⟩ ⟨B, by omega⟩)
      obtain ⟨P, hP⟩ : ∃ P, (A + 1) * (B + 1) = P := ⟨_, rfl⟩
      have hP5 : P ≤ 5000 := by
        rw [← hP]
        exact Nat.le_trans (Nat.mul_le_mul (show A + 1 ≤ 20 by omega) (show B + 1 ≤ 20 by omega)) (by decide)
      have hPI : ((A : Int) + 1) * ((B : Int) + 1) = (P : Int) := by rw [← hP]; push_cast; rfl
      rw [hP] at HQP
      have HQO : Hid (HOk (quietH A B (A + B))) := Lib.hid (quietH_ok (by omega))
      clear hlv hP
      go_wp2_with (first | (go_at_call 19; (with_reducible refine (all19_quiet HLV.out HQO.out quietH_none HQP.out (by omega)).mono ?_); rintro e1 w7 ⟨rfl, hk7⟩; have HK7 := Lib.hid hk7; clear hk7))
      go_ret
      exact ⟨rfl, (HK3.out.trans HKW.out).trans HK7.out⟩
end Go.Proofs.Ytkhchfjhmplaiaa
