/- Texts laid together: DE7 DA4. -/
import Derived.Test.YtfcellgjbbfobaaDoorMg14
/- Explore: Ends. -/
namespace Go.Proofs.YtfcellgjbbfobaaDoor
open Go.RowKit Go.Ex Go.WideMaps Go.Bf
theorem info62f : (Tryd.prog.info? 41).map (fun i => (i.zero, i.size, i.bytes)) = some (some (.agg #[.int .i64 0, .int .i64 0, .int .i64 0, .int .i64 0, .int .i64 0, .int .i64 0, .int .i64 0, .int .i64 0, .int .i64 0, .int .i64 0, .int .i64 0, .int .i64 0]), 12, 96) := by kernel_rfl
theorem ownBaseE {w : World} {b b' e m n : Nat} {v : Value} {xs : List Value} (h : w.ownsRow b e m v n xs) (hb : b' ≤ b) : w.ownsRow b' e m v n xs :=
  ⟨h.1, h.2.imp id (fun ⟨g, cap, cur, h1, h2, h3⟩ => ⟨g, cap, cur, h1, Nat.le_trans hb h2, h3⟩)⟩
theorem infoE {o : Option TypeInfo} {z : Option Value} {s b : Nat} (h : o.map (fun i => (i.zero, i.size, i.bytes)) = some (z, s, b)) : ∃ i, o = some i ∧ i.zero = z ∧ i.size = s ∧ i.bytes = b := by
  obtain ⟨i, hi, he⟩ := Option.map_eq_some_iff.1 h
  simp only [Prod.mk.injEq] at he
  exact ⟨i, hi, he.1, he.2.1, he.2.2⟩
def finTo (ps : List (List Ln)) (i : Nat) (x : List Int) : Bool := (List.range i).all fun j => (nx ps j x).isNone
theorem finTo_next (ps : List (List Ln)) (i : Nat) (x : List Int) : finTo ps (i + 1) x = (finTo ps i x && (nx ps i x).isNone) := by
  unfold finTo
  rw [List.range_succ, List.all_append]; simp
theorem list12 {l : List Int} (h : l.length = 12) : ∃ x0 x1 x2 x3 x4 x5 x6 x7 x8 x9 xa xb, l = [x0, x1, x2, x3, x4, x5, x6, x7, x8, x9, xa, xb] := by
  match l, h with
  | [x0, x1, x2, x3, x4, x5, x6, x7, x8, x9, xa, xb], _ => exact ⟨_, _, _, _, _, _, _, _, _, _, _, _, rfl⟩
theorem sok_key {ps : List (List Ln)} (hp : PsOk ps) {x : List Int} (hx : SOk ps x) : KS.ok x := by
  refine ⟨hx.len, fun z hz => ?_⟩
  obtain ⟨i, hi, rfl⟩ := List.getElem_of_mem hz
  have hl := hx.len
  have hst := steps_le hp hx
  have ht := hp.tot
  have he : x[i] = x.getD i 0 := by rw [List.getD_eq_getElem?_getD, List.getElem?_eq_getElem hi]; rfl
  rw [he]
  by_cases h8 : i < 8
  · have := hx.bd i h8
    exact wf_small (by omega) (by omega)
  · have h1 := hx.at_ (i - 8) (by omega)
    rw [show 8 + (i - 8) = i by omega] at h1
    have h2 := sum4_le ps hp.few
    have h3 : (ps.getD (i - 8) []).length ≤ 12 := by
      obtain h | h | h | h : i - 8 = 0 ∨ i - 8 = 1 ∨ i - 8 = 2 ∨ i - 8 = 3 := by omega
      all_goals (rw [h]; omega)
    exact wf_small (by omega) (by omega)
def BfS (base mb : Nat) := BfAt KS encS 41 12 base mb
theorem front12 {base mb d : Nat} {w : World} {L : List (List Int)} {q : Value} {x : List Int} (hb : BfS base mb w L d q) (hx : L[d]? = some x) : ∃ g off c, q = .slice (some ⟨g, off, none⟩) (L.length - d) c ∧ base ≤ g ∧ g < w.heap.size ∧ L.length - d ≤ c ∧ c ≤ maxLen ∧ ∀ j u, (encS x)[j]? = some u → w.cell? ⟨g, off + j, none⟩ = some u := by
  obtain ⟨g, off, c, hq, h1, h2, h3, h4, _, h5⟩ := tail_form hb.queue
  refine ⟨g, off, c, hq, h1, h2, h3, h4, fun j u hu => h5 j u ?_⟩
  obtain ⟨hd, hd2⟩ := List.getElem?_eq_some_iff.1 hx
  rw [List.drop_eq_getElem_cons hd, hd2, List.flatMap_cons, List.getElem?_append_left (List.getElem?_eq_some_iff.1 hu).1]
  exact hu
theorem start12 {w' : World} {mb : Nat} (hs : Seen KS w' mb [s0]) (hmb : mb < w'.heap.size) : BfS w'.heap.size mb (w'.alloc (.cells #[.int .i64 0, .int .i64 0, .int .i64 0, .int .i64 0, .int .i64 0, .int .i64 0, .int .i64 0, .int .i64 0, .int .i64 0, .int .i64 0, .int .i64 0, .int .i64 0] 41)) [s0] 0 (.slice (some ⟨w'.heap.size, 0, none⟩) 1 1) :=
  ⟨hs.keep ((Keep.refl [] _).alloc _) (by simp), tail_new w' 41 12 (encS s0) 1 rfl (by unfold maxLen; omega), hmb⟩
/-- Two rows that do not lie in one block. -/
def Apart2 (v q : Value) : Prop := ∀ b, v.ownBlock = some b → q.ownBlock ≠ some b
theorem flat12 : ∀ {L : List (List Int)}, (∀ x ∈ L, x.length = 12) → (L.flatMap encS).length = L.length * 12
  | [], _ => rfl
  | x :: L, h => by
    rw [List.flatMap_cons, List.length_append, flat12 (fun y hy => h y (List.mem_cons_of_mem _ hy)), List.length_cons]
    have := h x (List.mem_cons_self ..)
    simp only [encS, List.length_map]
    omega
theorem ends_perm {ps : List (List Ln)} {L E : List (List Int)} (hn : L.Nodup) (ha : ∀ x, Rc ps.length (nx ps) s0 x ↔ x ∈ L) (he : E.Perm (L.filter (fin ps))) : EndsOf ps E :=
  ⟨he.nodup_iff.2 (hn.filter _), fun s => by rw [he.mem_iff, List.mem_filter, ← ha s]⟩
theorem ends_pos {ps : List (List Ln)} (hp : PsOk ps) {L : List (List Int)} (ha : ∀ x, Rc ps.length (nx ps) s0 x ↔ x ∈ L) : 0 < (L.filter (fin ps)).length := by
  obtain ⟨t, h1, h2⟩ := fin_ex hp 12 s0 .start (by decide)
  exact List.length_pos_of_mem (List.mem_filter.2 ⟨(ha t).1 h1, h2⟩)
theorem filt_next {ps : List (List Ln)} {L : List (List Int)} {d : Nat} {x : List Int} (hx : L[d]? = some x) : (L.take (d + 1)).filter (fin ps) = (L.take d).filter (fin ps) ++ if fin ps x = true then [x] else [] := by
  rw [List.take_add_one, hx, List.filter_append]
  congr 1
  show List.filter (fin ps) [x] = _
  rw [List.filter_cons]; rfl
set_option maxRecDepth 100000 in
set_option maxHeartbeats 8000000 in
theorem ends27_any {w : World} {a : Option Addr} {n c : Nat} {ps : List (List Ln)} (hv : RowsL w a n c ps) (hp : PsOk ps) :
    Calls Tryd.prog 8 #[.slice a n c] w fun e w' => ∃ v E, e = .returned (.tuple #[v, .int .i64 0]) ∧ EndsOf ps E ∧ E.length ≤ 218103808 ∧ Keep [] w w' ∧ w'.ownsRow w.heap.size 41 12 v E.length (E.flatMap encS) := by
  have HV := Lib.hid hv
  have HP := Lib.hid hp
  have HN := Lib.hid hv.len
  have hn4 : n ≤ 4 := by rw [← hv.len]; exact hp.few
  obtain ⟨M, hM⟩ : ∃ M, (allS ps).length = M := ⟨_, rfl⟩
  have hM5 : M ≤ 218103808 := by rw [← hM]; exact allS_len hp
  have HM := Lib.hid hM
  clear hv hp hM
  have hmm := @run_makeMap Tryd.prog
  go_enter Tryd.func8, Tryd.ntmps8
  go_upto_region 5 with (first | (go_at_call 19; (with_reducible refine (check39_ok HV.out HP.out).mono ?_); rintro e w1 ⟨rfl, hk1⟩; have HK1 := Lib.hid hk1; clear hk1))
  have hz8 : KS.ok s0 := sok_key HP.out (SOk.start ps)
  have HZ8 := Lib.hid hz8
  have HZV : Hid (Value.agg #[.int .i64 0, .int .i64 0, .int .i64 0, .int .i64 0, .int .i64 0, .int .i64 0, .int .i64 0, .int .i64 0, .int .i64 0, .int .i64 0, .int .i64 0, .int .i64 0] = KS.val s0) := Lib.hid rfl
  have HSM := Lib.hid (Seen.made KS w1)
  have HL0 : Hid (([] : List (List Int)).length < maxLen) := Lib.hid (by unfold maxLen; simp)
  have HNN : Hid (s0 ∉ ([] : List (List Int))) := Lib.hid (by simp)
  clear hz8
  go_upto_region 7 with (first | (with_reducible refine wpList_seen_add KS _ rfl _ _ _ 59 (.inr rfl) 4 Tryd.underlying59 w1.heap.size [] rfl HSM.out HL0.out s0 _ HZV.out rfl rfl HZ8.out HNN.out ?_; intro w2 hs2 hk2; have HS2 := Lib.hid hs2; have HK2 := Lib.hid hk2; clear hs2 hk2))
  have hkA : Keep [] w1 w2 := ((Keep.refl [] w1).alloc _).call HK2.out (fun b hb => by rw [List.mem_singleton] at hb; subst hb; exact .inr (Nat.le_refl _))
  have hmb : w1.heap.size < w2.heap.size := Nat.lt_of_lt_of_le (by simp) HK2.out.size
  have HBA := Lib.hid (start12 HS2.out hmb)
  have HKA := Lib.hid (hkA.alloc (.cells #[.int .i64 0, .int .i64 0, .int .i64 0, .int .i64 0, .int .i64 0, .int .i64 0, .int .i64 0, .int .i64 0, .int .i64 0, .int .i64 0, .int .i64 0, .int .i64 0] 41))
  have HB0 := Lib.hid (BF.start n (nx ps) s0)
  have HKL := Lib.hid hkA.size
  have HWB : Hid (w.heap.size ≤ w2.heap.size) := Lib.hid (Nat.le_trans HK1.out.size HKL.out)
  have HU : Hid (∀ x, Rc n (nx ps) s0 x → x ∈ allS ps) := Lib.hid (fun x hx => reach_all HP.out (by rw [HN.out]; exact hx))
  obtain ⟨Bq, hBq⟩ : ∃ Bq, w2.heap.size = Bq := ⟨_, rfl⟩
  obtain ⟨mb, hmbe⟩ : ∃ mb, w1.heap.size = mb := ⟨_, rfl⟩
  rw [hBq, hmbe] at HBA
  rw [hBq] at HKL HWB ⊢
  have HMB : Hid (w1.heap.size ≤ mb) := Lib.hid (by omega)
  rw [hmbe] at ⊢
  clear HS2 HK2 HSM HL0 HNN HZV HZ8 hmm hkA hmb hBq hmbe
  have hi62 := info62f
  obtain ⟨i62, hi62, hz0, hz1, hz2⟩ := infoE hi62
  go_loopg [5, 7] M (fun k out q wr => ∃ (L : List (List Int)) (d : Nat) (Es : List (List Int)), Hid (BF n (nx ps) s0 L d 0) ∧ Hid (BfS Bq mb wr L d q) ∧ Hid (Keep [] w1 wr) ∧ Hid (wr.ownsRow Bq 41 12 out Es.length (Es.flatMap encS)) ∧ Hid (Apart2 out q) ∧ Hid ((L.take d).filter (fin ps) = Es) ∧ k + d = M ∧ d ≤ L.length ∧ L.length ≤ M)
  case atStart =>
    have hle : ([s0] : List (List Int)).length ≤ M := by rw [← HM.out]; exact HB0.out.le HU.out
    exact ⟨[s0], 0, [], HB0, HBA, HKA, Lib.hid (World.ownsRow_nil _ _ _ _), Lib.hid (fun b hb => by cases hb), Lib.hid rfl, by omega, by simp, hle⟩
  case round =>
    obtain ⟨L, d, Es, HB, HA, HKR, HO, HAP, HES, hkd, hdL, hLM⟩ := hrel
    obtain ⟨g, off, cq, hq, hg1, hg2, hg3, hg4, _, hg5⟩ := tail_form HA.out.queue
    unfold maxLen at hg4
    obtain ⟨r, hr⟩ : ∃ r, L.length - d = r := ⟨_, rfl⟩
    rw [hr] at hq hg3
    subst hq
    by_cases hlt : d < L.length
    · obtain ⟨x, hx⟩ : ∃ x, L[d]? = some x := ⟨_, List.getElem?_eq_getElem hlt⟩
      have hdec : decide (0 < r) = true := by simp; omega
      have HX := Lib.hid hx
      have HR := Lib.hid hr
      clear hg5 hr hx
      go_wp2_with fail
      go_loopw [29, 8, 7] (fun iv fv q2 wr2 => ∃ (i : Nat) (L2 : List (List Int)), i ≤ n ∧ iv = .int .i64 i ∧ fv = .bool (finTo ps i x) ∧ Hid (BF n (nx ps) s0 L2 d i) ∧ Hid (BfS Bq mb wr2 L2 d q2) ∧ Hid (Keep [] w1 wr2) ∧ Hid (wr2.ownsRow Bq 41 12 u5 Es.length (Es.flatMap encS)) ∧ Hid (Apart2 u5 q2) ∧ Hid ((L2.take d).filter (fin ps) = Es) ∧ Hid (L2[d]? = some x) ∧ L2.length ≤ M) (fun iv _ _ _ => n - (intOf iv).toNat)
      case atStart => exact ⟨0, L, by omega, rfl, rfl, HB, HA, HKR, HO, HAP, HES, HX, hLM⟩
      case round =>
        obtain ⟨i, L2, hi, rfl, rfl, HB2, HA2, HKR2, HO2, HAP2, HES2, HX2, hLM2⟩ := hrel
        have hd2 : d < L2.length := (List.getElem?_eq_some_iff.1 HX2.out).1
        have hrc : Rc ps.length (nx ps) s0 x := by rw [HN.out]; exact HB2.out.reach x (List.mem_of_getElem? HX2.out)
        have hsok : SOk ps x := reach_ok HP.out hrc
        obtain ⟨g2, off2, c2, hq2, hb1, hb2, hb3, hb4, hb5⟩ := front12 HA2.out HX2.out
        obtain ⟨r2, hr2⟩ : ∃ r2, L2.length - d = r2 := ⟨_, rfl⟩
        rw [hr2] at hq2 hb3
        subst hq2
        unfold maxLen at hb4
        have hr20 : 0 < r2 := by omega
        have HR2 := Lib.hid hr2
        obtain ⟨F, hF⟩ : ∃ F, finTo ps i x = F := ⟨_, rfl⟩
        have HF := Lib.hid hF
        rw [hF]
        have hlen12 := hsok.len
        by_cases hlt2 : i < n
        · have hdec2 : decide ((i : Int) < (n : Int)) = true := by simp; omega
          have hg40 := next40_any (HV.out.keep (HK1.out.trans HKR2.out)) HP.out hsok hlt2
          obtain ⟨x0, x1, x2, x3, x4, x5, x6, x7, x8, x9, xa, xb, hxe⟩ := list12 hlen12
          have HFR : Hid (∀ j u, ([.int .i64 x0, .int .i64 x1, .int .i64 x2, .int .i64 x3, .int .i64 x4, .int .i64 x5, .int .i64 x6, .int .i64 x7, .int .i64 x8, .int .i64 x9, .int .i64 xa, .int .i64 xb] : List Value)[j]? = some u → wr.cell? ((⟨g2, off2, none⟩ : Addr).add j) = some u) := Lib.hid (fun j u hu => by
            rw [Addr.add_mid]
            exact hb5 j u (by rw [hxe]; exact hu))
          have HSZ : Hid ((Tryd.prog.info? 41).map (·.size) = some ([.int .i64 x0, .int .i64 x1, .int .i64 x2, .int .i64 x3, .int .i64 x4, .int .i64 x5, .int .i64 x6, .int .i64 x7, .int .i64 x8, .int .i64 x9, .int .i64 xa, .int .i64 xb] : List Value).length) := Lib.hid info62
          clear hb5 hr2 hF
          cases hnx : nx ps i x with
          | none =>
            have HG : Hid (Calls Tryd.prog 20 #[.slice a n c, .agg #[.int .i64 x0, .int .i64 x1, .int .i64 x2, .int .i64 x3, .int .i64 x4, .int .i64 x5, .int .i64 x6, .int .i64 x7, .int .i64 x8, .int .i64 x9, .int .i64 xa, .int .i64 xb], .int .i64 i] wr fun e w' => Keep [] wr w' ∧ e = .returned (.tuple #[.agg #[.int .i64 x0, .int .i64 x1, .int .i64 x2, .int .i64 x3, .int .i64 x4, .int .i64 x5, .int .i64 x6, .int .i64 x7, .int .i64 x8, .int .i64 x9, .int .i64 xa, .int .i64 xb], .bool false])) := Lib.hid (by
              have h0 := hg40
              rw [show aggI x = .agg #[.int .i64 x0, .int .i64 x1, .int .i64 x2, .int .i64 x3, .int .i64 x4, .int .i64 x5, .int .i64 x6, .int .i64 x7, .int .i64 x8, .int .i64 x9, .int .i64 xa, .int .i64 xb] by rw [hxe]; rfl] at h0
              refine h0.mono ?_
              rintro e w' ⟨h1, ⟨_, rfl⟩ | ⟨C', h2, rfl⟩⟩
              · exact ⟨h1, rfl⟩
              · rw [hnx] at h2; cases h2)
            have HBN := Lib.hid (HB2.out.skip HX2.out (fun s hs => by rw [hnx] at hs; cases hs))
            have HFN : Hid (finTo ps (i + 1) x = F) := Lib.hid (by rw [finTo_next, HF.out, hnx]; simp)
            clear hg40 hnx hxe hrc hsok hlen12
            go_wp2_with (first | (with_reducible refine wpList_load_at rfl 41 _ rfl ⟨g2, off2, none⟩ rfl [.int .i64 x0, .int .i64 x1, .int .i64 x2, .int .i64 x3, .int .i64 x4, .int .i64 x5, .int .i64 x6, .int .i64 x7, .int .i64 x8, .int .i64 x9, .int .i64 xa, .int .i64 xb] _ HFR.out Tryd.underlying41 rfl HSZ.out ?_) | (go_at_call 20; refine HG.out.mono ?_; rintro e3 w3 ⟨hk3, rfl⟩; have HK3 := Lib.hid hk3; clear hk3))
            exact ⟨⟨i + 1, L2, hlt2, by go_num, by rw [HFN.out], HBN, Lib.hid (BfAt.keep HA2.out (HK3.out.alloc _)), Lib.hid (HKR2.out.trans (HK3.out.alloc _)), Lib.hid (own_keep HO2.out (HK3.out.alloc _) (by simp)), HAP2, HES2, HX2, hLM2⟩, by simp [intOf]; omega⟩
          | some C' =>
            have hsy : SOk ps C' := (hsok.next HP.out hnx).1
            obtain ⟨y0, y1, y2, y3, y4, y5, y6, y7, y8, y9, ya, yb, hye⟩ := list12 hsy.len
            have HG : Hid (Calls Tryd.prog 20 #[.slice a n c, .agg #[.int .i64 x0, .int .i64 x1, .int .i64 x2, .int .i64 x3, .int .i64 x4, .int .i64 x5, .int .i64 x6, .int .i64 x7, .int .i64 x8, .int .i64 x9, .int .i64 xa, .int .i64 xb], .int .i64 i] wr fun e w' => Keep [] wr w' ∧ e = .returned (.tuple #[.agg #[.int .i64 y0, .int .i64 y1, .int .i64 y2, .int .i64 y3, .int .i64 y4, .int .i64 y5, .int .i64 y6, .int .i64 y7, .int .i64 y8, .int .i64 y9, .int .i64 ya, .int .i64 yb], .bool true])) := Lib.hid (by
              have h0 := hg40
              rw [show aggI x = .agg #[.int .i64 x0, .int .i64 x1, .int .i64 x2, .int .i64 x3, .int .i64 x4, .int .i64 x5, .int .i64 x6, .int .i64 x7, .int .i64 x8, .int .i64 x9, .int .i64 xa, .int .i64 xb] by rw [hxe]; rfl] at h0
              refine h0.mono ?_
              rintro e w' ⟨h1, ⟨h2, _⟩ | ⟨C2, h2, rfl⟩⟩
              · rw [hnx] at h2; cases h2
              · rw [hnx] at h2; injection h2 with h2; subst h2; exact ⟨h1, by rw [hye]; rfl⟩)
            have hkok := sok_key HP.out hsy
            obtain ⟨A, hA⟩ : ∃ A, decide (C' ∈ L2) = A := ⟨_, rfl⟩
            have HLK : Hid (∀ w3, Keep [] wr w3 → (Instr.lookup 59 (.map (some mb)) (.agg #[.int .i64 y0, .int .i64 y1, .int .i64 y2, .int .i64 y3, .int .i64 y4, .int .i64 y5, .int .i64 y6, .int .i64 y7, .int .i64 y8, .int .i64 y9, .int .i64 ya, .int .i64 yb]) false).run Tryd.prog (w3.alloc (.cells #[.int .i64 y0, .int .i64 y1, .int .i64 y2, .int .i64 y3, .int .i64 y4, .int .i64 y5, .int .i64 y6, .int .i64 y7, .int .i64 y8, .int .i64 y9, .int .i64 ya, .int .i64 yb] 41)) = .ok (.bool A) (w3.alloc (.cells #[.int .i64 y0, .int .i64 y1, .int .i64 y2, .int .i64 y3, .int .i64 y4, .int .i64 y5, .int .i64 y6, .int .i64 y7, .int .i64 y8, .int .i64 y9, .int .i64 ya, .int .i64 yb] 41))) := Lib.hid (fun w3 hk3 => by
              have h1 := Seen.look (C := KS) (P := Tryd.prog) (w := w3.alloc (.cells #[.int .i64 y0, .int .i64 y1, .int .i64 y2, .int .i64 y3, .int .i64 y4, .int .i64 y5, .int .i64 y6, .int .i64 y7, .int .i64 y8, .int .i64 y9, .int .i64 ya, .int .i64 yb] 41)) Tryd.underlying59 (Tryd.zeroValue4 _) (HA2.out.seen.keep (hk3.alloc _) (by simp)) hkok
              rw [show KS.val C' = .agg #[.int .i64 y0, .int .i64 y1, .int .i64 y2, .int .i64 y3, .int .i64 y4, .int .i64 y5, .int .i64 y6, .int .i64 y7, .int .i64 y8, .int .i64 y9, .int .i64 ya, .int .i64 yb] by rw [hye]; rfl] at h1
              exact h1.trans (congrArg (fun b => Result.ok (Value.bool b) _) (by rw [← hA]; exact decide_eq_decide.2 Iff.rfl)))
            have HOKY := Lib.hid hkok
            have HFN : Hid (finTo ps (i + 1) x = false) := Lib.hid (by rw [finTo_next, hnx]; simp)
            cases A with
            | true =>
              have hmem : C' ∈ L2 := of_decide_eq_true hA
              have HBN := Lib.hid (HB2.out.skip HX2.out (fun s hs => by rw [hnx] at hs; injection hs with hs; exact hs ▸ hmem))
              clear hg40 hnx hxe hrc hsok hlen12 hye hsy hkok hA hmem
              go_wp2_with (first | (with_reducible refine wpList_load_at rfl 41 _ rfl ⟨g2, off2, none⟩ rfl [.int .i64 x0, .int .i64 x1, .int .i64 x2, .int .i64 x3, .int .i64 x4, .int .i64 x5, .int .i64 x6, .int .i64 x7, .int .i64 x8, .int .i64 x9, .int .i64 xa, .int .i64 xb] _ HFR.out Tryd.underlying41 rfl HSZ.out ?_) | (go_at_call 20; refine HG.out.mono ?_; rintro e3 w3 ⟨hk3, rfl⟩; have HK3 := Lib.hid hk3; have hlk := HLK.out w3 hk3; clear hk3))
              exact ⟨⟨i + 1, L2, hlt2, by go_num, by rw [HFN.out], HBN, Lib.hid (BfAt.keep HA2.out (HK3.out.alloc _)), Lib.hid (HKR2.out.trans (HK3.out.alloc _)), Lib.hid (own_keep HO2.out (HK3.out.alloc _) (by simp)), HAP2, HES2, HX2, hLM2⟩, by simp [intOf]; omega⟩
            | false =>
              have hmem : C' ∉ L2 := of_decide_eq_false hA
              have HBN := Lib.hid (HB2.out.add HX2.out hlt2 hnx hmem)
              have hLM3 : (L2 ++ [C']).length ≤ M := by rw [← HM.out]; exact HBN.out.le HU.out
              have HX3 : Hid ((L2 ++ [C'])[d]? = some x) := Lib.hid (by rw [List.getElem?_append_left hd2]; exact HX2.out)
              have HES3 : Hid (((L2 ++ [C']).take d).filter (fin ps) = Es) := Lib.hid (by rw [List.take_append_of_le_length (Nat.le_of_lt hd2)]; exact HES2.out)
              have HNM := Lib.hid hmem
              have HLT : Hid (L2.length < maxLen) := Lib.hid (by unfold maxLen; omega)
              have HKV : Hid (Value.agg #[.int .i64 y0, .int .i64 y1, .int .i64 y2, .int .i64 y3, .int .i64 y4, .int .i64 y5, .int .i64 y6, .int .i64 y7, .int .i64 y8, .int .i64 y9, .int .i64 ya, .int .i64 yb] = KS.val C') := Lib.hid (by rw [hye]; rfl)
              have HEN : Hid (encS C' = [.int .i64 y0, .int .i64 y1, .int .i64 y2, .int .i64 y3, .int .i64 y4, .int .i64 y5, .int .i64 y6, .int .i64 y7, .int .i64 y8, .int .i64 y9, .int .i64 ya, .int .i64 yb]) := Lib.hid (by rw [hye]; rfl)
              have HONE : Hid (∀ u ∈ ([.int .i64 y0, .int .i64 y1, .int .i64 y2, .int .i64 y3, .int .i64 y4, .int .i64 y5, .int .i64 y6, .int .i64 y7, .int .i64 y8, .int .i64 y9, .int .i64 ya, .int .i64 yb] : List Value), u.oneCell' = true) := Lib.hid (by simp [Value.oneCell'])
              have HSA : Hid (∀ w3, Keep [] wr w3 → Seen KS (w3.alloc (.cells #[.int .i64 y0, .int .i64 y1, .int .i64 y2, .int .i64 y3, .int .i64 y4, .int .i64 y5, .int .i64 y6, .int .i64 y7, .int .i64 y8, .int .i64 y9, .int .i64 ya, .int .i64 yb] 41)) mb L2) := Lib.hid (fun w3 hk3 => HA2.out.seen.keep (hk3.alloc _) (by simp))
              have HLOW := Lib.hid HA2.out.low
              have hmlt : mb < wr.heap.size := HA2.out.seen.lt
              have HTQ : Hid (∀ w3 w5, Keep [] wr w3 → Keep [mb] (w3.alloc (.cells #[.int .i64 y0, .int .i64 y1, .int .i64 y2, .int .i64 y3, .int .i64 y4, .int .i64 y5, .int .i64 y6, .int .i64 y7, .int .i64 y8, .int .i64 y9, .int .i64 ya, .int .i64 yb] 41)) w5 → (w5.alloc (.cells #[.int .i64 y0, .int .i64 y1, .int .i64 y2, .int .i64 y3, .int .i64 y4, .int .i64 y5, .int .i64 y6, .int .i64 y7, .int .i64 y8, .int .i64 y9, .int .i64 ya, .int .i64 yb] 41)).ownsTail Bq 41 12 (.slice (some ⟨g2, off2, none⟩) r2 c2) r2 ((L2.drop d).flatMap encS)) := Lib.hid (fun w3 w5 h3 h5 => by
                have h6 := BfAt.row (BfAt.keep HA2.out (h3.alloc _)) h5
                rw [HR2.out] at h6
                exact tail_keep h6 ((Keep.refl [] w5).alloc _) (fun g hg => by cases hg))
              have hr5 : r2 ≤ M := by have := HR2.out; omega
              have H63 : Hid (r2 + 1 ≤ maxLen) := Lib.hid (by unfold maxLen; omega)
              have HBY : Hid ((r2 + 1) * 96 ≤ 140737488355328) := Lib.hid (by omega)
              have HBQ : Hid (Bq ≤ wr.heap.size) := Lib.hid (Nat.le_of_lt (Nat.lt_of_le_of_lt hb1 hb2))
              have HI62 : Hid ((Tryd.prog.info? 41).map (·.size) = some (#[.int .i64 y0, .int .i64 y1, .int .i64 y2, .int .i64 y3, .int .i64 y4, .int .i64 y5, .int .i64 y6, .int .i64 y7, .int .i64 y8, .int .i64 y9, .int .i64 ya, .int .i64 yb] : Array Value).size) := Lib.hid info62
              clear hg40 hnx hxe hrc hsok hlen12 hye hsy hkok hA hmem
              go_wp2_with (first | (with_reducible refine wpList_load_at rfl 41 _ rfl ⟨g2, off2, none⟩ rfl [.int .i64 x0, .int .i64 x1, .int .i64 x2, .int .i64 x3, .int .i64 x4, .int .i64 x5, .int .i64 x6, .int .i64 x7, .int .i64 x8, .int .i64 x9, .int .i64 xa, .int .i64 xb] _ HFR.out Tryd.underlying41 rfl HSZ.out ?_) | (go_at_call 20; refine HG.out.mono ?_; rintro e3 w3 ⟨hk3, rfl⟩; have HK3 := Lib.hid hk3; have hlk := HLK.out w3 hk3; have HS3 := Lib.hid (HSA.out w3 hk3); clear hk3) | (with_reducible refine wpList_seen_add KS _ rfl _ _ _ 59 (.inl rfl) 4 Tryd.underlying59 mb L2 rfl HS3.out HLT.out C' _ HKV.out rfl rfl HOKY.out HNM.out ?_; intro w5 hs5 hk5; have HS5 := Lib.hid hs5; have hsz3 := HK3.out.size; have HB5 : Hid (w5.heap[w3.heap.size]? = some (.cells #[.int .i64 y0, .int .i64 y1, .int .i64 y2, .int .i64 y3, .int .i64 y4, .int .i64 y5, .int .i64 y6, .int .i64 y7, .int .i64 y8, .int .i64 y9, .int .i64 ya, .int .i64 yb] 41 (0, 0))) := Lib.hid (hk5.at (blk_new w3 (.cells #[.int .i64 y0, .int .i64 y1, .int .i64 y2, .int .i64 y3, .int .i64 y4, .int .i64 y5, .int .i64 y6, .int .i64 y7, .int .i64 y8, .int .i64 y9, .int .i64 ya, .int .i64 yb] 41)) (by simp; omega)); have HT5 := Lib.hid (HTQ.out w3 w5 HK3.out hk5); have HK35 := Lib.hid ((HK3.out.alloc (.cells #[.int .i64 y0, .int .i64 y1, .int .i64 y2, .int .i64 y3, .int .i64 y4, .int .i64 y5, .int .i64 y6, .int .i64 y7, .int .i64 y8, .int .i64 y9, .int .i64 ya, .int .i64 yb] 41)).more (by simp) |>.trans hk5); have HBS := Lib.hid (Nat.le_trans HBQ.out (Nat.le_trans (Nat.le_trans HK3.out.size (Nat.le_trans ((Keep.refl [] w3).alloc (.cells #[.int .i64 y0, .int .i64 y1, .int .i64 y2, .int .i64 y3, .int .i64 y4, .int .i64 y5, .int .i64 y6, .int .i64 y7, .int .i64 y8, .int .i64 y9, .int .i64 ya, .int .i64 yb] 41)).size hk5.size)) ((Keep.refl [] w5).alloc (.cells #[.int .i64 y0, .int .i64 y1, .int .i64 y2, .int .i64 y3, .int .i64 y4, .int .i64 y5, .int .i64 y6, .int .i64 y7, .int .i64 y8, .int .i64 y9, .int .i64 ya, .int .i64 yb] 41)).size)); clear hs5 hk5) | (with_reducible refine wpList_load_row rfl 41 _ rfl w3.heap.size rfl 41 #[.int .i64 y0, .int .i64 y1, .int .i64 y2, .int .i64 y3, .int .i64 y4, .int .i64 y5, .int .i64 y6, .int .i64 y7, .int .i64 y8, .int .i64 y9, .int .i64 ya, .int .i64 yb] (0, 0) _ HB5.out Tryd.underlying41 rfl HI62.out ?_) | (at_builtin; refine wpList_append_tail2 rfl _ _ 30 rfl Bq 41 i62 (.agg #[.int .i64 0, .int .i64 0, .int .i64 0, .int .i64 0, .int .i64 0, .int .i64 0, .int .i64 0, .int .i64 0, .int .i64 0, .int .i64 0, .int .i64 0, .int .i64 0]) 12 96 Tryd.underlying30 hi62 hz0 hz1 hz2 rfl g2 off2 c2 r2 ((L2.drop d).flatMap encS) rfl HT5.out ⟨w5.heap.size, 0, none⟩ 1 1 [.int .i64 y0, .int .i64 y1, .int .i64 y2, .int .i64 y3, .int .i64 y4, .int .i64 y5, .int .i64 y6, .int .i64 y7, .int .i64 y8, .int .i64 y9, .int .i64 ya, .int .i64 yb] rfl rfl (cells_new w5 [.int .i64 y0, .int .i64 y1, .int .i64 y2, .int .i64 y3, .int .i64 y4, .int .i64 y5, .int .i64 y6, .int .i64 y7, .int .i64 y8, .int .i64 y9, .int .i64 ya, .int .i64 yb] 41 (0, 0)) HONE.out H63.out HBY.out HBS.out ?_; intro g9 o9 c9 w9 hown9 hk9 hat9; have HO9 := Lib.hid hown9; have HK9 := Lib.hid hk9; have HAT9 := Lib.hid hat9; clear hown9 hk9 hat9))
              have hb5lt : ∀ b, u5.ownBlock = some b → Bq ≤ b ∧ b < wr.heap.size := fun b hb => ⟨(HO2.out.lt b hb).1, (HO2.out.lt b hb).2⟩
              have HK5A := Lib.hid (HK35.out.trans (((Keep.refl [] w5).alloc (.cells #[.int .i64 y0, .int .i64 y1, .int .i64 y2, .int .i64 y3, .int .i64 y4, .int .i64 y5, .int .i64 y6, .int .i64 y7, .int .i64 y8, .int .i64 y9, .int .i64 ya, .int .i64 yb] 41)).more (by simp)))
              have hsz5 := HK5A.out.size
              have HOA9 : Hid (w9.ownsRow Bq 41 12 u5 Es.length (Es.flatMap encS)) := Lib.hid (own_keep (own_keep HO2.out HK5A.out (fun b hb hm => by rw [List.mem_singleton] at hm; have := (hb5lt b hb).1; have := HLOW.out; omega)) HK9.out (fun b hb hm => by rw [List.mem_singleton] at hm; subst hm; exact HAP2.out _ hb rfl))
              have HAP9 : Hid (Apart2 u5 (.slice (some ⟨g9, o9, none⟩) (r2 + 1) c9)) := Lib.hid (fun b hb hq => by
                rcases HAT9.out with e | e
                · subst e; exact HAP2.out b hb hq
                · have hq2 : g9 = b := by injection hq
                  have := (hb5lt b hb).2
                  omega)
              have HBA9 : Hid (BfS Bq mb w9 (L2 ++ [C']) d (.slice (some ⟨g9, o9, none⟩) (r2 + 1) c9)) := Lib.hid (BfAt.push (Nat.le_of_lt hd2) HR2.out HLOW.out (HS5.out.keep ((Keep.refl [] w5).alloc _) (by simp)) (by rw [HEN.out]; exact HO9.out) (fun b hb => HK9.out.block b (by have := HBS.out; omega) (by simp; omega)))
              have HKR9 : Hid (Keep [] w1 w9) := Lib.hid ((HKR2.out.call HK5A.out (fun b hb => by rw [List.mem_singleton] at hb; subst hb; exact .inr HMB.out)).call HK9.out (fun b hb => by rw [List.mem_singleton] at hb; subst hb; exact .inr (Nat.le_trans HKL.out hb1)))
              exact ⟨⟨i + 1, L2 ++ [C'], hlt2, by go_num, by rw [HFN.out], HBN, HBA9, HKR9, HOA9, HAP9, HES3, HX3, hLM3⟩, by simp [intOf]; omega⟩
        · have hin : i = n := by omega
          have hFF : fin ps x = F := by rw [← hF, hin, ← HN.out]; rfl
          have hBF : BF n (nx ps) s0 L2 (d + 1) 0 := HB2.out.next HX2.out (by omega)
          have HBF := Lib.hid hBF
          obtain ⟨r3, rfl⟩ : ∃ r3, r2 = r3 + 1 := ⟨r2 - 1, by omega⟩
          have hE2 := filt_next (ps := ps) HX2.out
          rw [HES2.out, hFF] at hE2
          have HE2 := Lib.hid hE2
          have hEl : Es.length ≤ M := by
            rw [← HES2.out]
            exact Nat.le_trans (List.length_filter_le _ _) (by rw [List.length_take]; omega)
          have HQ := Lib.hid HA2.out.queue
          have hcl : (encS x).length = 12 := by unfold encS; rw [List.length_map]; exact hlen12
          have HCL := Lib.hid hcl
          have hkk : gk - 1 + (d + 1) = M := by omega
          have hdl3 : d + 1 ≤ L2.length := by omega
          have hr3 : L2.length - (d + 1) = r3 := by omega
          have HR3 := Lib.hid hr3
          rw [HR2.out] at HQ
          obtain ⟨x0, x1, x2, x3, x4, x5, x6, x7, x8, x9, xa, xb, hxe⟩ := list12 hlen12
          have HFR : Hid (∀ j u, ([.int .i64 x0, .int .i64 x1, .int .i64 x2, .int .i64 x3, .int .i64 x4, .int .i64 x5, .int .i64 x6, .int .i64 x7, .int .i64 x8, .int .i64 x9, .int .i64 xa, .int .i64 xb] : List Value)[j]? = some u → wr.cell? ((⟨g2, off2, none⟩ : Addr).add j) = some u) := Lib.hid (fun j u hu => by
            rw [Addr.add_mid]
            exact hb5 j u (by rw [hxe]; exact hu))
          have HSZ : Hid ((Tryd.prog.info? 41).map (·.size) = some ([.int .i64 x0, .int .i64 x1, .int .i64 x2, .int .i64 x3, .int .i64 x4, .int .i64 x5, .int .i64 x6, .int .i64 x7, .int .i64 x8, .int .i64 x9, .int .i64 xa, .int .i64 xb] : List Value).length) := Lib.hid info62
          have HXE : Hid (encS x = [.int .i64 x0, .int .i64 x1, .int .i64 x2, .int .i64 x3, .int .i64 x4, .int .i64 x5, .int .i64 x6, .int .i64 x7, .int .i64 x8, .int .i64 x9, .int .i64 xa, .int .i64 xb]) := Lib.hid (by rw [hxe]; rfl)
          subst hin
          clear hb5 hr2 hF hFF hBF hE2 hcl hrc hsok hlen12 hxe hr3
          cases F with
          | false =>
            go_wp2_with (first | (with_reducible refine wpList_slice_tail2 rfl _ 30 rfl i62 Tryd.underlying30 hi62 hz1 g2 off2 c2 rfl HQ.out ?_; intro o9 c9 hown9; have HO9 := Lib.hid hown9; clear hown9))
            have HBA9 : Hid (BfS Bq mb wr L2 (d + 1) (.slice (some ⟨g2, o9, none⟩) r3 c9)) := Lib.hid (BfAt.next HA2.out HX2.out HCL.out HR3.out HO9.out)
            have HAP9 : Hid (Apart2 u5 (.slice (some ⟨g2, o9, none⟩) r3 c9)) := Lib.hid (fun b hb hq => HAP2.out b hb hq)
            go_roundg (gk - 1)
            case measure => omega
            case rel => exact ⟨L2, d + 1, Es, HBF, HBA9, HKR2, HO2, HAP9, Lib.hid (by rw [HE2.out]; simp), hkk, hdl3, hLM2⟩
          | true =>
            have HONE : Hid (∀ u ∈ ([.int .i64 x0, .int .i64 x1, .int .i64 x2, .int .i64 x3, .int .i64 x4, .int .i64 x5, .int .i64 x6, .int .i64 x7, .int .i64 x8, .int .i64 x9, .int .i64 xa, .int .i64 xb] : List Value), u.oneCell' = true) := Lib.hid (by simp [Value.oneCell'])
            have HOA := Lib.hid (own_keep HO2.out ((Keep.refl [] wr).alloc (.cells #[.int .i64 x0, .int .i64 x1, .int .i64 x2, .int .i64 x3, .int .i64 x4, .int .i64 x5, .int .i64 x6, .int .i64 x7, .int .i64 x8, .int .i64 x9, .int .i64 xa, .int .i64 xb] 41)) (by simp))
            have H63 : Hid (Es.length + 1 ≤ maxLen) := Lib.hid (by unfold maxLen; omega)
            have HBY : Hid ((Es.length + 1) * 96 ≤ 140737488355328) := Lib.hid (by omega)
            have HBS : Hid (Bq ≤ (wr.alloc (.cells #[.int .i64 x0, .int .i64 x1, .int .i64 x2, .int .i64 x3, .int .i64 x4, .int .i64 x5, .int .i64 x6, .int .i64 x7, .int .i64 x8, .int .i64 x9, .int .i64 xa, .int .i64 xb] 41)).heap.size) := Lib.hid (Nat.le_trans (Nat.le_of_lt (Nat.lt_of_le_of_lt hb1 hb2)) ((Keep.refl [] wr).alloc _).size)
            have HQA : Hid (∀ w5, Keep u5.ownBlock.toList (wr.alloc (.cells #[.int .i64 x0, .int .i64 x1, .int .i64 x2, .int .i64 x3, .int .i64 x4, .int .i64 x5, .int .i64 x6, .int .i64 x7, .int .i64 x8, .int .i64 x9, .int .i64 xa, .int .i64 xb] 41)) w5 → w5.ownsTail Bq 41 12 (.slice (some ⟨g2, off2, none⟩) (r3 + 1) c2) (r3 + 1) ((L2.drop d).flatMap encS)) := Lib.hid (fun w5 h5 => (tail_keep HQ.out ((Keep.refl [] wr).alloc _) (fun g hg => by cases hg)).keep h5 (fun a c he hm => by
              injection he with he _ _
              injection he with he
              subst he
              exact HAP2.out g2 (by simpa using hm) rfl))
            have hg2b : g2 < (wr.alloc (.cells #[.int .i64 x0, .int .i64 x1, .int .i64 x2, .int .i64 x3, .int .i64 x4, .int .i64 x5, .int .i64 x6, .int .i64 x7, .int .i64 x8, .int .i64 x9, .int .i64 xa, .int .i64 xb] 41)).heap.size := Nat.lt_of_lt_of_le hb2 ((Keep.refl [] wr).alloc _).size
            go_wp2_with (first | (with_reducible refine wpList_load_at rfl 41 _ rfl ⟨g2, off2, none⟩ rfl [.int .i64 x0, .int .i64 x1, .int .i64 x2, .int .i64 x3, .int .i64 x4, .int .i64 x5, .int .i64 x6, .int .i64 x7, .int .i64 x8, .int .i64 x9, .int .i64 xa, .int .i64 xb] _ HFR.out Tryd.underlying41 rfl HSZ.out ?_)               | (at_builtin; refine wpList_append_lies _ rfl _ _ 30 rfl Bq 41 i62 (.agg #[.int .i64 0, .int .i64 0, .int .i64 0, .int .i64 0, .int .i64 0, .int .i64 0, .int .i64 0, .int .i64 0, .int .i64 0, .int .i64 0, .int .i64 0, .int .i64 0]) 12 96 Tryd.underlying30 hi62 hz0 hz1 hz2 rfl (by decide) u5 Es.length (Es.flatMap encS) rfl HOA.out ⟨wr.heap.size, 0, none⟩ 1 1 [.int .i64 x0, .int .i64 x1, .int .i64 x2, .int .i64 x3, .int .i64 x4, .int .i64 x5, .int .i64 x6, .int .i64 x7, .int .i64 x8, .int .i64 x9, .int .i64 xa, .int .i64 xb] rfl rfl (cells_new wr [.int .i64 x0, .int .i64 x1, .int .i64 x2, .int .i64 x3, .int .i64 x4, .int .i64 x5, .int .i64 x6, .int .i64 x7, .int .i64 x8, .int .i64 x9, .int .i64 xa, .int .i64 xb] 41 (0, 0)) HONE.out (by decide) H63.out HBY.out HBS.out _ rfl ?_; intro g9 c9 w5 hown9 hgr9 hat9 hlt9; have hk5 : Keep u5.ownBlock.toList (wr.alloc (.cells #[.int .i64 x0, .int .i64 x1, .int .i64 x2, .int .i64 x3, .int .i64 x4, .int .i64 x5, .int .i64 x6, .int .i64 x7, .int .i64 x8, .int .i64 x9, .int .i64 xa, .int .i64 xb] 41)) w5 := Keep.ofGrown hgr9 (fun x hx => by simp [hx]); have HK5 := Lib.hid hk5; have HO9 := Lib.hid hown9; have HAT9 := Lib.hid hat9; have HQ5 := Lib.hid (HQA.out w5 hk5); clear hown9 hgr9 hat9 hk5)               | (with_reducible refine wpList_slice_tail2 rfl _ 30 rfl i62 Tryd.underlying30 hi62 hz1 g2 off2 c2 rfl HQ5.out ?_; intro o8 c8 hown8; have HO8 := Lib.hid hown8; clear hown8))
            have hb5lt : ∀ b, u5.ownBlock = some b → Bq ≤ b ∧ b < wr.heap.size := fun b hb => ⟨(HO2.out.lt b hb).1, (HO2.out.lt b hb).2⟩
            have hmlt : mb < (wr.alloc (.cells #[.int .i64 x0, .int .i64 x1, .int .i64 x2, .int .i64 x3, .int .i64 x4, .int .i64 x5, .int .i64 x6, .int .i64 x7, .int .i64 x8, .int .i64 x9, .int .i64 xa, .int .i64 xb] 41)).heap.size := Nat.lt_of_lt_of_le HA2.out.seen.lt ((Keep.refl [] wr).alloc _).size
            have hlow := HA2.out.low
            have HBA9 : Hid (BfS Bq mb w5 L2 (d + 1) (.slice (some ⟨g2, o8, none⟩) r3 c8)) := Lib.hid (BfAt.next (q := .slice (some ⟨g2, off2, none⟩) (r3 + 1) c2) ⟨(HA2.out.seen.keep ((Keep.refl [] wr).alloc _) (by simp)).keep HK5.out (fun hm => by have := (hb5lt mb (by simpa using hm)).1; omega), by rw [HR2.out]; exact HQ5.out, hlow⟩ HX2.out HCL.out HR3.out HO8.out)
            have HAP9 : Hid (Apart2 (.slice (some ⟨g9, 0, none⟩) (Es.length + 1) c9) (.slice (some ⟨g2, o8, none⟩) r3 c8)) := Lib.hid (fun b hb hq => by
              have e1 : g9 = b := by injection hb
              have e2 : g2 = b := by injection hq
              rcases HAT9.out with e | e
              · exact HAP2.out g9 e (by show some g2 = some g9; rw [e1, e2])
              · omega)
            have HKR9 : Hid (Keep [] w1 w5) := Lib.hid ((HKR2.out.alloc (.cells #[.int .i64 x0, .int .i64 x1, .int .i64 x2, .int .i64 x3, .int .i64 x4, .int .i64 x5, .int .i64 x6, .int .i64 x7, .int .i64 x8, .int .i64 x9, .int .i64 xa, .int .i64 xb] 41)).call HK5.out (fun b hb => .inr (Nat.le_trans HKL.out (hb5lt b (by simpa using hb)).1)))
            have HO10 : Hid (w5.ownsRow Bq 41 12 (.slice (some ⟨g9, 0, none⟩) (Es.length + 1) c9) (Es ++ [x]).length ((Es ++ [x]).flatMap encS)) := Lib.hid (by
              rw [List.flatMap_append, List.length_append]
              simp only [List.flatMap_cons, List.flatMap_nil, List.append_nil, HXE.out]
              exact HO9.out)
            go_roundg (gk - 1)
            case measure => omega
            case rel => exact ⟨L2, d + 1, Es ++ [x], HBF, HBA9, HKR9, HO10, HAP9, Lib.hid (by rw [HE2.out]; simp), hkk, hdl3, hLM2⟩
    · have hdec : decide (0 < r) = false := by simp; omega
      have hLd : L.take d = L := List.take_of_length_le (by omega)
      have hEs := HES.out
      rw [hLd] at hEs
      have hALL : ∀ x, Rc ps.length (nx ps) s0 x ↔ x ∈ L := fun x => by rw [HN.out]; exact HB.out.all (show L.length ≤ d by omega) x
      have hpos := ends_pos HP.out hALL
      rw [hEs] at hpos
      have hel : Es.length ≤ M := by rw [← hEs]; exact Nat.le_trans (List.length_filter_le _ _) hLM
      have HSO := Lib.hid (sort41_own HO.out hpos (fun x hx => (reach_ok HP.out ((hALL x).2 (by rw [← hEs] at hx; exact (List.mem_filter.1 hx).1))).len) (by omega))
      have HPR : Hid (∀ E : List (List Int), E.Perm Es → EndsOf ps E ∧ E.length = Es.length) := Lib.hid (fun E he => ⟨ends_perm HB.out.nodup hALL (by rw [hEs]; exact he), he.length_eq⟩)
      have hb5lt : ∀ b, u5.ownBlock = some b → Bq ≤ b := fun b hb => (HO.out.lt b hb).1
      have HB5 := Lib.hid hb5lt
      clear hg5 hr hLd hEs hALL hpos hb5lt
      go_wp2_with (first | (go_at_call 21; refine HSO.out.mono ?_; rintro e9 w9 ⟨rfl, ⟨E, hE, ho9⟩, hk9⟩; have HE9 := Lib.hid hE; have HO9 := Lib.hid ho9; have HK9 := Lib.hid hk9; clear hE ho9 hk9))
      go_ret2
      obtain ⟨h1, h2⟩ := HPR.out E HE9.out
      refine ⟨_, E, rfl, h1, by rw [h2]; omega, (HK1.out.trans HKR.out).call HK9.out (fun b hb => .inr (Nat.le_trans HWB.out (HB5.out b (by simpa using hb)))), ?_⟩
      rw [h2]
      exact ownBaseE HO9.out HWB.out
end Go.Proofs.YtfcellgjbbfobaaDoor
/- Explore: strings as keys; Clone of numbers. -/
namespace Go.Proofs.YtfcellgjbbfobaaDoor
open Go.RowKit Go.Ex Go.WideMaps
theorem law9 : KeyLaw Tryd.prog 9 := string_law Tryd.underlying9
noncomputable def KB : KeyT Tryd.prog 9 (List UInt8) where
  val := strV
  lit x := .string x
  ok x := x.length ≤ maxLen
  keyed := Go.Maps.Keyed.of_law law9
  key x hx := by
    unfold strV
    rw [keyOf_string_mk Tryd.underlying9 (by simpa [ByteArray.size] using hx)]
  inj x y _ _ h := by injection h
theorem intsNews {w : World} {a : Option Addr} {n c : Nat} {zs : List Int} (h : IntsV w a n c zs) : 0 < n → ∃ ad, a = some ad ∧ ∀ j u, (zs.map (Value.int .i64))[j]? = some u → w.cell? (ad.add j) = some u := fun hn => by
  obtain ⟨b, off, rfl, hc⟩ := h.cells hn
  refine ⟨_, rfl, fun j u hu => ?_⟩
  rw [List.getElem?_map] at hu
  obtain ⟨z, hz, rfl⟩ := Option.map_eq_some_iff.1 hu
  have hj : j < n := by rw [← h.len]; exact (List.getElem?_eq_some_iff.1 hz).1
  rw [Addr.add_mid, hc j hj, List.getD_eq_getElem?_getD, hz]
  rfl
theorem intsOne {zs : List Int} : ∀ u ∈ zs.map (Value.int .i64), u.oneCell' = true := fun u hu => by
  obtain ⟨z, _, rfl⟩ := List.mem_map.1 hu
  rfl
set_option maxHeartbeats 1000000 in
theorem clone23_any {w : World} {a : Option Addr} {n c : Nat} {zs : List Int} (hv : IntsV w a n c zs) (hn : n ≤ 1000) :
    Calls Tryd.prog 23 #[.slice a n c] w fun e w' => ∃ v, e = .returned v ∧ Keep [] w w' ∧ w'.ownsRow w.heap.size 3 1 v n (zs.map (Value.int .i64)) := by
  have hi3 := info3
  obtain ⟨i3, hi, hz0, hz1, hz2⟩ := infoE hi3
  cases a with
  | none =>
    have h0 : n = 0 := by
      by_cases h : 0 < n
      · obtain ⟨b, off, he, _⟩ := hv.cells h; cases he
      · omega
    subst h0
    have hnil : zs = [] := List.eq_nil_of_length_eq_zero hv.len
    subst hnil
    clear hv hi3
    have hb1 : (binOp BinOp.eql 22 (.slice none 0 c) (.slice none 0 0)).run Tryd.prog w = .ok (.bool true) w := by kernel_rfl
    go_enter Tryd.func23, Tryd.ntmps23
    go_wp2_with (first | (with_reducible refine Txt.wp_region_text mixed quiet (by decide +kernel) ?_) | (with_reducible refine Txt.text_done (by kernel_rfl) ?_))
    go_ret
    exact ⟨_, rfl, Keep.refl _ _, World.ownsRow_nil _ _ _ _⟩
  | some ad =>
    have hk : Keep [] w (w.alloc (.cells #[] 3)) := (Keep.refl [] w).alloc _
    have HN := Lib.hid (intsNews (hv.keep hk (by simp)))
    have HLN : Hid ((zs.map (Value.int .i64)).length = n * 1) := Lib.hid (by rw [List.length_map, hv.len, Nat.mul_one])
    have HO : Hid ((w.alloc (.cells #[] 3)).ownsRow w.heap.size 3 1 (.slice (some ⟨w.heap.size, 0, none⟩) 0 0) 0 []) := Lib.hid (own_empty w 3 1)
    have HK := Lib.hid hk
    have hr := hv.room
    have hm := hv.most
    have h9 : maxLen = 9223372036854775807 := rfl
    rw [h9] at hm
    clear hv hk h9 hi3
    have hb1 : (binOp BinOp.eql 22 (.slice (some ad) n c) (.slice none 0 0)).run Tryd.prog w = .ok (.bool false) w := by kernel_rfl
    go_enter Tryd.func23, Tryd.ntmps23
    go_wp2_with (first | (with_reducible refine Txt.wp_region_text mixed quiet (by decide +kernel) ?_) | (with_reducible refine Txt.text_done (by kernel_rfl) ?_) | (at_builtin; refine wpList_append_any rfl _ _ 22 rfl w.heap.size 3 i3 (.int .i64 0) 1 8 Tryd.underlying22 hi hz0 hz1 hz2 rfl (by decide) (.slice (some ⟨w.heap.size, 0, none⟩) 0 0) 0 [] rfl HO.out (some ad) n c (zs.map (Value.int .i64)) rfl HLN.out HN.out intsOne (by unfold maxLen; omega) (by omega) (by simp) ?_; intro a8 c8 w8 hown8 hgr8 hat8; have HO8 := Lib.hid hown8; have HG8 := Lib.hid hgr8; clear hown8 hgr8 hat8))
    go_ret
    have h := HO8.out
    rw [Nat.zero_add, List.nil_append] at h
    have hk8 : Keep [w.heap.size] (w.alloc (.cells #[] 3)) w8 := Keep.ofGrown HG8.out (fun x hx => by simp [Value.ownBlock] at hx; simp [hx])
    exact ⟨_, by first | rfl | (rw [Nat.zero_add]; done) | simp, HK.out.call hk8 (fun g hg => .inr (by rw [List.mem_singleton.1 hg]; exact Nat.le_refl _)), h⟩
end Go.Proofs.YtfcellgjbbfobaaDoor
