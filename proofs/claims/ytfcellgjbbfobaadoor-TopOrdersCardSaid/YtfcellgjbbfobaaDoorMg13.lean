/- Texts laid together: DA3 DE3 DE4 DES DE5 R12. -/
import Derived.Test.YtfcellgjbbfobaaDoorMg12
import Derived.StillTailTactics
import Derived.Shelf.SlSortCmp.WholeK
import Derived.Ground.SlsfProg
import Derived.Below
import Derived.WalkKit
import Derived.Deep.AppendLies
import Derived.Laws.AppendOwnNone
/- Explore: class. -/
namespace Go.Proofs.YtfcellgjbbfobaaDoor
open Go.RowKit Go.Ex
def strV (bs : List UInt8) : Value := .string ⟨bs.toArray⟩
theorem add_str {P : Program} (t : TypeId) {x y z : List UInt8} (hx : x.length ≤ 1000) (hy : y.length ≤ 1000) (hz : x ++ y = z) (w : World) : (binOp .add t (strV x) (strV y)).run P w = .ok (strV z) w := by
  unfold strV
  rw [binOp_string_add, run_string_add_sum w _ _ (by simp [ByteArray.size]; omega), ByteArray.mk_append_mk, ← hz]
theorem rowB_len : ∀ R : List (List Ln), (R.flatMap rowB).length = R.flatten.length + R.length
  | [] => rfl
  | r :: R => by
    rw [List.flatMap_cons, List.length_append, rowB_len R, List.flatten_cons, List.length_append, List.length_cons]
    simp only [rowB, List.length_append, List.length_map, List.length_singleton]
    omega
theorem flat_take_le (rs : List (List Ln)) (k : Nat) : (rs.take k).flatten.length ≤ rs.flatten.length := by
  have h : rs.flatten = (rs.take k).flatten ++ (rs.drop k).flatten := by rw [← List.flatten_append, List.take_append_drop]
  rw [h, List.length_append]
  omega
theorem row_le {rs : List (List Ln)} {k : Nat} {r : List Ln} (h : rs[k]? = some r) : r.length ≤ rs.flatten.length := by
  have h1 : (rs.take (k + 1)).flatten = (rs.take k).flatten ++ r := by rw [List.take_add_one, h, List.flatten_append]; simp
  have h2 := flat_take_le rs (k + 1)
  rw [h1, List.length_append] at h2
  omega
theorem stOk_step {w : Nat} {d : Ln} (hd : DoOk d) (hw : w < 4) : StOk (stepOf w d) := by
  obtain ⟨q, g, u⟩ := d
  obtain ⟨⟨h1, h2⟩, ⟨h3, h4⟩, _⟩ := hd
  simp only at h1 h2 h3 h4
  unfold StOk stepOf
  obtain rfl | rfl | rfl | rfl : g = 0 ∨ g = 1 ∨ g = 2 ∨ g = 3 := by omega
  all_goals
    obtain rfl | rfl | rfl | rfl : q = 1 ∨ q = 2 ∨ q = 3 ∨ q = 4 := by omega
    all_goals (refine ⟨⟨?_, ?_⟩, ⟨?_, ?_⟩, ?_, ?_⟩ <;> simp <;> omega)
theorem way_st {ps : List (List Ln)} (hp : PsOk ps) {s t : List Int} {l : List Ln} (h : Ex.Way ps s l t) : ∀ x ∈ l, StOk x := by
  induction h with
  | nil => intro x hx; cases hx
  | cons h1 h2 _ ih =>
    intro x hx
    rcases List.mem_cons.1 hx with rfl | hx
    · exact stOk_step (opAt_ok hp h1).1 (opAt_ok hp h1).2
    · exact ih x hx
theorem way_12 {ps : List (List Ln)} (hp : PsOk ps) {t : List Int} {l : List Ln} (h : Ex.Way ps s0 l t) : l.length ≤ 12 := by
  obtain ⟨h1, h2⟩ := h.ok hp (SOk.start ps)
  have h3 := steps_le hp h1
  have h4 := hp.tot
  have h5 : steps s0 = 0 := by decide
  omega
set_option maxRecDepth 100000 in
set_option maxHeartbeats 4000000 in
theorem class24_any {w : World} {a : Option Addr} {n c : Nat} {ps : List (List Ln)} (hv : RowsL w a n c ps) (hp : PsOk ps) {ao : Option Addr} {m co : Nat} {l : List Ln} {t : List Int} (hw : Ex.Way ps s0 l t) (ho : IntsV w ao m co ((who l).map fun k : Nat => (k : Int))) :
    Calls Tryd.prog 24 #[.slice a n c, .slice ao m co] w fun e w' => e = .returned (strV (cls l)) ∧ Keep [] w w' := by
  have HST := Lib.hid (steps11_any hv hp hw ho)
  have h12 := way_12 hp hw
  have HOK := Lib.hid (way_st hp hw)
  have HW4 : Hid (∀ r ∈ Tr.rnds dep Ln.q l, ∀ x ∈ r, W4 x) := Lib.hid (fun r hr x hx => (flat_way hp (SOk.start ps) hw).2.w4 hp x (List.mem_flatten.2 ⟨r, hr, hx⟩))
  have HFL : Hid ((Tr.rnds dep Ln.q l).flatten.length = l.length) := Lib.hid (eqv_len (flat_way hp (SOk.start ps) hw).1).symm
  obtain ⟨rs, hrs⟩ : ∃ rs, Tr.rnds dep Ln.q l = rs := ⟨_, rfl⟩
  have HCL : Hid (cls l = rs.flatMap rowB) := Lib.hid (by unfold cls; rw [hrs])
  rw [HCL.out]
  have hnr : rs.length ≤ 12 := by
    rw [← hrs]
    have := Tr.nr_perm (D := dep) (List.Perm.refl (Tr.lv dep l))
    have h2 : (Tr.rnds dep Ln.q l).length = Tr.nr dep l := by simp [Tr.rnds]
    have h3 := nr_le l
    omega
  have HRS := Lib.hid hrs
  rw [hrs] at HW4 HFL
  clear hv hp hw ho hrs
  obtain ⟨nr, hnr0⟩ : ∃ nr, rs.length = nr := ⟨_, rfl⟩
  have HNR := Lib.hid hnr0
  rw [hnr0] at hnr
  clear hnr0
  go_enter Tryd.func24, Tryd.ntmps24
  go_wp2_with (first | (with_reducible refine Txt.wp_region_text mixed quiet (by decide +kernel) ?_) | (with_reducible refine Txt.text_done (by kernel_rfl) ?_) | (go_at_call 11; (with_reducible refine HST.out.mono ?_); rintro e1 w1 ⟨v1, rfl, ho1, hk1⟩; obtain ⟨a1, c1, rfl, hl1, -⟩ := LnsV.ofOwn ho1; have HL1 := Lib.hid hl1; have HK1 := Lib.hid hk1; clear ho1 hl1 hk1) | (go_at_call 33; (with_reducible refine (rounds15_any HL1.out (Nat.le_trans h12 (by decide)) HOK.out).mono ?_); rw [HRS.out]; rintro e2 w2 ⟨v2, vals2, rfl, hr2, hk2⟩; obtain ⟨a2, c2, rfl, hrr⟩ := hr2.rows; have HRR := Lib.hid hrr; have HK2 := Lib.hid (HK1.out.trans hk2); clear hr2 hrr hk2))
  rw [HNR.out] at HRR ⊢
  have hr2 := HRR.out.room
  have hm2 := HRR.out.most
  go_loopw [27, 9] (fun jv sv wr => ∃ k : Nat, k ≤ nr ∧ jv = .int .i64 k ∧ sv = strV ((rs.take k).flatMap rowB) ∧ Hid (Keep [] w2 wr)) (fun jv _ _ => nr - (intOf jv).toNat)
  case atStart => exact ⟨0, by omega, rfl, rfl, Lib.hid (Keep.refl _ _)⟩
  case round =>
    obtain ⟨k, hk, rfl, rfl, HK⟩ := hrel
    by_cases hlt : k < nr
    · obtain ⟨r, hr⟩ : ∃ r, rs[k]? = some r := ⟨_, List.getElem?_eq_getElem (by rw [HNR.out]; exact hlt)⟩
      obtain ⟨b, off, ar, cr, hab, hc, hlv⟩ := (HRR.out.keep HK.out).at_ k r hr
      subst hab
      have HLV := Lib.hid hlv
      have hcr := hlv.room
      have hcm := hlv.most
      rw [show maxLen = 9223372036854775807 from rfl] at hcm
      have HR := Lib.hid hr
      have hln : r.length ≤ 12 := by
        have h2 := row_le hr
        have h3 := HFL.out
        omega
      obtain ⟨nl, hnl⟩ : ∃ nl, r.length = nl := ⟨_, rfl⟩
      rw [hnl] at hc hcr hln HLV
      have HNL := Lib.hid hnl
      clear hlv hnl
      obtain ⟨B, hB⟩ : ∃ B, (rs.take k).flatMap rowB = B := ⟨_, rfl⟩
      have HB := Lib.hid hB
      have hbl : B.length ≤ 24 := by
        rw [← hB, rowB_len, List.length_take]
        have h1 := flat_take_le rs k
        have h2 := HFL.out
        omega
      have HNX : Hid ((rs.take (k + 1)).flatMap rowB = B ++ (List.map digB r ++ [46])) := Lib.hid (by rw [List.take_add_one, hr, List.flatMap_append, hB]; simp [rowB])
      rw [hB]
      clear hB hr
      have hdec : decide ((k : Int) < (nr : Int)) = true := by simp; omega
      go_wp2_with (first | (with_reducible refine Txt.wp_region_text mixed quiet (by decide +kernel) ?_) | (with_reducible refine Txt.text_done (by kernel_rfl) ?_))
      go_loopw [33, 9] (fun jv sv wx => ∃ i : Nat, i ≤ nl ∧ jv = .int .i64 i ∧ sv = strV (B ++ List.take i (List.map digB r)) ∧ Hid (Keep [] wr wx)) (fun jv _ _ => nl - (intOf jv).toNat)
      case atStart => exact ⟨0, by omega, rfl, by simp, Lib.hid (Keep.refl _ _)⟩
      case round =>
        obtain ⟨i, hi, rfl, rfl, HKX⟩ := hrel
        by_cases hl2 : i < nl
        · obtain ⟨x, hx⟩ : ∃ x, r[i]? = some x := ⟨_, List.getElem?_eq_getElem (by rw [HNL.out]; exact hl2)⟩
          obtain ⟨b3, off3, hab3, e0, e1, e2⟩ := lnsAt (HLV.out.keep HKX.out (by simp)) hx
          subst hab3
          have hw4 := HW4.out r (List.mem_of_getElem? HR.out) x (List.mem_of_getElem? hx)
          obtain ⟨q, g, u⟩ := x
          obtain ⟨hq1, hq2⟩ := hw4
          simp only at hq1 hq2 e0 e1 e2
          obtain ⟨j, rfl⟩ : ∃ j : Nat, q = j := ⟨q.toNat, by omega⟩
          have HX := Lib.hid hx
          have hj4 : j < 4 := by omega
          have HIT := Lib.hid (itoa39 j hj4)
          have HAD := Lib.hid (add_str (P := Tryd.prog) 9 (x := B ++ List.take i (List.map digB r)) (y := [UInt8.ofNat (48 + j)]) (z := B ++ List.take (i + 1) (List.map digB r)) (by rw [List.length_append, List.length_take]; omega) (by simp) (by
            have h1 : (List.map digB r)[i]? = some (UInt8.ofNat (48 + j)) := by rw [List.getElem?_map, hx]; rfl
            rw [List.take_add_one, h1, List.append_assoc]; rfl))
          have hadd : ∀ w9, (binOp .add 9 (strV (B ++ List.take i (List.map digB r))) (digV j)).run Tryd.prog w9 = .ok (strV (B ++ List.take (i + 1) (List.map digB r))) w9 := fun w9 => HAD.out w9
          have hd2 : decide ((i : Int) < (nl : Int)) = true := by simp; omega
          clear hx hq1 hq2
          go_wp2_with (first | (with_reducible refine Txt.wp_region_text mixed quiet (by decide +kernel) ?_) | (with_reducible refine Txt.text_done (by kernel_rfl) ?_) | (go_at_call 39; (with_reducible refine (HIT.out _).mono ?_); rintro e8 w8 ⟨rfl, hw8⟩; have hw9 := hw8.symm; clear hw8; subst hw9))
          exact ⟨⟨i + 1, hl2, by go_num, rfl, Lib.hid (HKX.out.alloc _)⟩, by simp [intOf]; omega⟩
        · obtain rfl : i = nl := by omega
          have hd2 : decide ((i : Int) < (i : Int)) = false := by simp
          have HTK : Hid (List.take i (List.map digB r) = List.map digB r) := Lib.hid (List.take_of_length_le (by rw [List.length_map, HNL.out]; exact Nat.le_refl _))
          have HAD := Lib.hid (add_str (P := Tryd.prog) 9 (x := B ++ List.map digB r) (y := [46]) (z := (rs.take (k + 1)).flatMap rowB) (by rw [List.length_append, List.length_map, HNL.out]; omega) (by simp) (by rw [HNX.out, List.append_assoc]))
          rw [HTK.out]
          have hadd : ∀ w9, (binOp .add 9 (strV (B ++ List.map digB r)) (.string ⟨#[46]⟩)).run Tryd.prog w9 = .ok (strV ((rs.take (k + 1)).flatMap rowB)) w9 := fun w9 => HAD.out w9
          go_wp2_with (first | (with_reducible refine Txt.wp_region_text mixed quiet (by decide +kernel) ?_) | (with_reducible refine Txt.text_done (by kernel_rfl) ?_))
          exact ⟨⟨k + 1, hlt, by go_num, rfl, Lib.hid (HK.out.trans HKX.out)⟩, by simp [intOf]; omega⟩
    · obtain rfl : k = nr := by omega
      have hdec : decide ((k : Int) < (k : Int)) = false := by simp
      have HTK : Hid (rs.take k = rs) := Lib.hid (List.take_of_length_le (by rw [HNR.out]; exact Nat.le_refl _))
      rw [HTK.out]
      go_wp2_with (first | (with_reducible refine Txt.wp_region_text mixed quiet (by decide +kernel) ?_) | (with_reducible refine Txt.text_done (by kernel_rfl) ?_))
      go_ret
      exact ⟨rfl, HK2.out.trans HK.out⟩
end Go.Proofs.YtfcellgjbbfobaaDoor
/- Explore: compare. -/
namespace Go.Proofs.YtfcellgjbbfobaaDoor
open Go.RowKit Go.Ex
theorem nan77 (x : Int) (w : World) : Calls Tryd.prog 62 #[.int .i64 x] w fun e w' => e = .returned (.bool false) ∧ w' = w := by
  have hx : (x != x) = false := by simp
  go_enter Tryd.func62, Tryd.ntmps62
  go_wp2_with fail
  go_ret
  exact ⟨rfl, rfl⟩
theorem cmp68 (x y : Int) (w : World) : Calls Tryd.prog 54 #[.int .i64 x, .int .i64 y] w fun e w' => e = .returned (.int .i64 (cmp1 x y)) ∧ w' = w := by
  by_cases h1 : x < y
  · have hc : cmp1 x y = -1 := by simp [cmp1, h1]
    have hd : decide (x < y) = true := by simpa using h1
    rw [hc]
    clear hc h1
    go_enter Tryd.func54, Tryd.ntmps54
    go_wp2_with (first | (go_at_call 62; (with_reducible refine (nan77 _ _).mono ?_); rintro e1 w1 ⟨rfl, rfl⟩))
    go_ret
    exact ⟨rfl, rfl⟩
  · by_cases h2 : x > y
    · have hc : cmp1 x y = 1 := by unfold cmp1; rw [if_neg h1, if_pos h2]
      have hd : decide (x < y) = false := by simpa using h1
      have hd2 : decide (x > y) = true := by simpa using h2
      rw [hc]
      clear hc h1 h2
      go_enter Tryd.func54, Tryd.ntmps54
      go_wp2_with (first | (go_at_call 62; (with_reducible refine (nan77 _ _).mono ?_); rintro e1 w1 ⟨rfl, rfl⟩))
      go_ret
      exact ⟨rfl, rfl⟩
    · have hc : cmp1 x y = 0 := by unfold cmp1; rw [if_neg h1, if_neg h2]
      have hd : decide (x < y) = false := by simpa using h1
      have hd2 : decide (x > y) = false := by simpa using h2
      rw [hc]
      clear hc h1 h2
      go_enter Tryd.func54, Tryd.ntmps54
      go_wp2_with (first | (go_at_call 62; (with_reducible refine (nan77 _ _).mono ?_); rintro e1 w1 ⟨rfl, rfl⟩))
      go_ret
      exact ⟨rfl, rfl⟩
theorem cmpL_drop {xs ys : List Int} {k : Nat} {x y : Int} (hx : xs[k]? = some x) (hy : ys[k]? = some y) : cmpL (xs.drop k) (ys.drop k) = if cmp1 x y ≠ 0 then cmp1 x y else cmpL (xs.drop (k + 1)) (ys.drop (k + 1)) := by
  have h1 := (List.getElem?_eq_some_iff.1 hx)
  have h2 := (List.getElem?_eq_some_iff.1 hy)
  obtain ⟨h1, h1'⟩ := h1
  obtain ⟨h2, h2'⟩ := h2
  rw [List.drop_eq_getElem_cons h1, List.drop_eq_getElem_cons h2, h1', h2']
  rfl
set_option maxHeartbeats 1000000 in
theorem cmp49 {b1 o1 c1 b2 o2 c2 n : Nat} {xs ys : List Int} {w : World} (hx : xs.length = n) (hy : ys.length = n) (h1 : ∀ j u, xs[j]? = some u → w.cell? ⟨b1, o1 + j, none⟩ = some (.int .i64 u)) (h2 : ∀ j u, ys[j]? = some u → w.cell? ⟨b2, o2 + j, none⟩ = some (.int .i64 u)) (hn : n ≤ 1000) (hc1 : n ≤ c1) (hc2 : n ≤ c2) (hm1 : c1 ≤ 1000) (hm2 : c2 ≤ 1000) :
    Calls Tryd.prog 38 #[.slice (some ⟨b1, o1, none⟩) n c1, .slice (some ⟨b2, o2, none⟩) n c2] w fun e w' => e = .returned (.int .i64 (cmpL xs ys)) ∧ w' = w := by
  have H1 := Lib.hid h1
  have H2 := Lib.hid h2
  have HX := Lib.hid hx
  have HY := Lib.hid hy
  clear h1 h2 hx hy
  go_enter Tryd.func38, Tryd.ntmps38
  go_wp2_with fail
  go_loopw [11] (fun j wr => ∃ k : Nat, k ≤ n ∧ j = .int .i64 k ∧ wr = w ∧ Hid (cmpL xs ys = cmpL (xs.drop k) (ys.drop k))) (fun j _ => n - (intOf j).toNat)
  case atStart => exact ⟨0, by omega, rfl, rfl, Lib.hid (by simp)⟩
  case round =>
    obtain ⟨k, hk, rfl, rfl, HI⟩ := hrel
    by_cases hlt : k < n
    · obtain ⟨x, hx⟩ : ∃ x, xs[k]? = some x := ⟨_, List.getElem?_eq_getElem (by rw [HX.out]; exact hlt)⟩
      obtain ⟨y, hy⟩ : ∃ y, ys[k]? = some y := ⟨_, List.getElem?_eq_getElem (by rw [HY.out]; exact hlt)⟩
      have hd := cmpL_drop hx hy
      have hcx := H1.out k x hx
      have hcy := H2.out k y hy
      have hdec : decide ((k : Int) < (n : Int)) = true := by simp; omega
      have hdec2 : decide ((k : Int) ≥ (n : Int)) = false := by simp; omega
      clear hx hy
      obtain ⟨z, hz⟩ : ∃ z, cmp1 x y = z := ⟨_, rfl⟩
      have HZ := Lib.hid hz
      rw [hz] at hd
      clear hz
      by_cases e : z = 0
      · have he : (z != 0) = false := by simp [e]
        have HN : Hid (cmpL xs ys = cmpL (xs.drop (k + 1)) (ys.drop (k + 1))) := Lib.hid (by rw [HI.out, hd, if_neg (by simp [e])])
        clear hd e
        go_wp2_with (first | (go_at_call 54; (with_reducible refine (cmp68 _ _ _).mono ?_); rintro e1 w1 ⟨rfl, rfl⟩; rw [HZ.out]))
        exact ⟨⟨k + 1, hlt, by go_num, trivial, HN⟩, by simp [intOf]; omega⟩
      · have he : (z != 0) = true := by simp [e]
        have HN : Hid (cmpL xs ys = z) := Lib.hid (by rw [HI.out, hd, if_pos e])
        clear hd e
        go_wp2_with (first | (go_at_call 54; (with_reducible refine (cmp68 _ _ _).mono ?_); rintro e1 w1 ⟨rfl, rfl⟩; rw [HZ.out]))
        go_ret
        exact ⟨by rw [HN.out]; rfl, rfl⟩
    · have hkn : k = n := by omega
      subst hkn
      have hdec : decide ((k : Int) < (k : Int)) = false := by simp
      have HN : Hid (cmpL xs ys = 0) := Lib.hid (by rw [HI.out, List.drop_eq_nil_of_le (by rw [HX.out]; omega)]; rfl)
      go_wp2_with fail
      go_ret
      exact ⟨by rw [HN.out]; rfl, rfl⟩
def orI : List Int → Int
  | [] => 0
  | x :: xs => if x ≠ 0 then x else orI xs
set_option maxHeartbeats 1000000 in
theorem or48 {b n : Nat} {xs : List Int} {w : World} (hx : xs.length = n) (h1 : ∀ j u, xs[j]? = some u → w.cell? ⟨b, j, none⟩ = some (.int .i64 u)) (hn : n ≤ 1000) :
    Calls Tryd.prog 37 #[.slice (some ⟨b, 0, none⟩) n n] w fun e w' => e = .returned (.int .i64 (orI xs)) ∧ w' = w := by
  have H1 := Lib.hid h1
  have HX := Lib.hid hx
  clear h1 hx
  go_enter Tryd.func37, Tryd.ntmps37
  go_wp2_with fail
  go_loopw [8] (fun j wr => ∃ k : Nat, k ≤ n ∧ j = .int .i64 k ∧ wr = w ∧ Hid (orI xs = orI (xs.drop k))) (fun j _ => n - (intOf j).toNat)
  case atStart => exact ⟨0, by omega, rfl, rfl, Lib.hid (by simp)⟩
  case round =>
    obtain ⟨k, hk, rfl, rfl, HI⟩ := hrel
    by_cases hlt : k < n
    · obtain ⟨x, hx⟩ : ∃ x, xs[k]? = some x := ⟨_, List.getElem?_eq_getElem (by rw [HX.out]; exact hlt)⟩
      have hd : orI (xs.drop k) = if x ≠ 0 then x else orI (xs.drop (k + 1)) := by
        obtain ⟨h2, h2'⟩ := List.getElem?_eq_some_iff.1 hx
        rw [List.drop_eq_getElem_cons h2, h2']; rfl
      have hcx := H1.out k x hx
      have hdec : decide ((k : Int) < (n : Int)) = true := by simp; omega
      clear hx
      by_cases e : x = 0
      · have he : (x != 0) = false := by simp [e]
        have HN : Hid (orI xs = orI (xs.drop (k + 1))) := Lib.hid (by rw [HI.out, hd, if_neg (by simp [e])])
        clear hd e
        go_wp2_with fail
        exact ⟨⟨k + 1, hlt, by go_num, trivial, HN⟩, by simp [intOf]; omega⟩
      · have he : (x != 0) = true := by simp [e]
        have HN : Hid (orI xs = x) := Lib.hid (by rw [HI.out, hd, if_pos e])
        clear hd e
        go_wp2_with fail
        go_ret
        exact ⟨by rw [HN.out]; rfl, rfl⟩
    · have hkn : k = n := by omega
      subst hkn
      have hdec : decide ((k : Int) < (k : Int)) = false := by simp
      have HN : Hid (orI xs = 0) := Lib.hid (by rw [HI.out, List.drop_eq_nil_of_le (by rw [HX.out]; omega)]; rfl)
      go_wp2_with fail
      go_ret
      exact ⟨by rw [HN.out]; rfl, rfl⟩
end Go.Proofs.YtfcellgjbbfobaaDoor
/- Explore: compare, whole. -/
namespace Go.Proofs.YtfcellgjbbfobaaDoor
open Go.RowKit Go.Ex
theorem getElem_take_drop {s : List Int} {a n j : Nat} {u : Int} (h : ((s.drop a).take n)[j]? = some u) : s[a + j]? = some u := by
  by_cases hj : j < n
  · rw [List.getElem?_take_of_lt hj, List.getElem?_drop] at h
    exact h
  · rw [List.getElem?_take_eq_none (by omega)] at h
    cases h
theorem part4 {T : TypeId} {w : World} {b a : Nat} {s : List Int} (hA : ArrAt T w b s) : ∀ j u, ((s.drop a).take 4)[j]? = some u → w.cell? ⟨b, a + j, none⟩ = some (.int .i64 u) := fun j u hu => by
  have h1 := getElem_take_drop hu
  rw [hA.cell (List.getElem?_eq_some_iff.1 h1).1, List.getD_eq_getElem?_getD, h1]; rfl
theorem split12 {s : List Int} (h : s.length = 12) : s = (s.drop 0).take 4 ++ ((s.drop 4).take 4 ++ (s.drop 8).take 4) := by
  obtain ⟨x0, x1, x2, x3, x4, x5, x6, x7, x8, x9, xa, xb, rfl⟩ : ∃ x0 x1 x2 x3 x4 x5 x6 x7 x8 x9 xa xb, s = [x0, x1, x2, x3, x4, x5, x6, x7, x8, x9, xa, xb] := by
    match s, h with
    | [x0, x1, x2, x3, x4, x5, x6, x7, x8, x9, xa, xb], _ => exact ⟨_, _, _, _, _, _, _, _, _, _, _, _, rfl⟩
  rfl
theorem cmp12 {s t : List Int} (hs : s.length = 12) (ht : t.length = 12) : orI [cmpL ((s.drop 0).take 4) ((t.drop 0).take 4), cmpL ((s.drop 4).take 4) ((t.drop 4).take 4), cmpL ((s.drop 8).take 4) ((t.drop 8).take 4)] = cmpL s t := by
  conv => rhs; rw [split12 hs, split12 ht]
  rw [cmpL_app (by simp [hs, ht]), cmpL_app (by simp [hs, ht])]
  simp only [orI]
  split
  · rfl
  · split
    · rfl
    · split
      · rfl
      · rename_i h
        simp at h
        exact h.symm
set_option maxRecDepth 100000 in
set_option maxHeartbeats 2000000 in
theorem compare42 {s t : List Int} (hs : s.length = 12) (ht : t.length = 12) (w : World) :
    Calls Tryd.prog 22 #[.agg (s.map (Value.int .i64)).toArray, .agg (t.map (Value.int .i64)).toArray] w fun e w' => e = .returned (.int .i64 (cmpL s t)) ∧ ∃ o, w' = (((w.alloc (.cells (s.map (Value.int .i64)).toArray 41)).alloc (.cells (t.map (Value.int .i64)).toArray 41)).drew).alloc o := by
  have hA : ArrAt 41 ((w.alloc (.cells (s.map (Value.int .i64)).toArray 41)).alloc (.cells (t.map (Value.int .i64)).toArray 41)) w.heap.size s := (ArrAt.new 41 w s).keep ((Keep.refl [] _).alloc _) (by simp)
  have hB : ArrAt 41 ((w.alloc (.cells (s.map (Value.int .i64)).toArray 41)).alloc (.cells (t.map (Value.int .i64)).toArray 41)) (w.heap.size + 1) t := by
    have h9 := ArrAt.new 41 (w.alloc (.cells (s.map (Value.int .i64)).toArray 41)) t
    rw [show (w.alloc (.cells (s.map (Value.int .i64)).toArray 41)).heap.size = w.heap.size + 1 by simp] at h9
    exact h9
  have hlen : ∀ a, a ≤ 8 → ((s.drop a).take 4).length = 4 ∧ ((t.drop a).take 4).length = 4 := fun a ha => by simp [hs, ht]; omega
  obtain ⟨w2, hw2⟩ : ∃ w2, (w.alloc (.cells (s.map (Value.int .i64)).toArray 41)).alloc (.cells (t.map (Value.int .i64)).toArray 41) = w2 := ⟨_, rfl⟩
  rw [hw2] at hA hB ⊢
  obtain ⟨wd, hwd⟩ : ∃ wd : World, { w2 with drawn := w2.drawn + 1 } = wd := ⟨_, rfl⟩
  have hwd2 : wd = w2.drew := hwd.symm
  have hC : ∀ a, a ≤ 8 → Calls Tryd.prog 38 #[.slice (some ⟨w.heap.size, a, none⟩) 4 4, .slice (some ⟨w.heap.size + 1, a, none⟩) 4 4] wd fun e w' => e = .returned (.int .i64 (cmpL ((s.drop a).take 4) ((t.drop a).take 4))) ∧ w' = wd := fun a ha =>
    cmp49 (hlen a ha).1 (hlen a ha).2 (part4 (show ArrAt 41 wd w.heap.size s from hwd2 ▸ hA.drew)) (part4 (show ArrAt 41 wd (w.heap.size + 1) t from hwd2 ▸ hB.drew)) (by omega) (by omega) (by omega) (by omega) (by omega)
  have h0 := Lib.hid (hC 0 (by omega))
  have h4 := Lib.hid (hC 4 (by omega))
  have h8 := Lib.hid (hC 8 (by omega))
  have HE := Lib.hid (cmp12 hs ht)
  obtain ⟨c0, hc0⟩ : ∃ c, cmpL ((s.drop 0).take 4) ((t.drop 0).take 4) = c := ⟨_, rfl⟩
  obtain ⟨c4, hc4⟩ : ∃ c, cmpL ((s.drop 4).take 4) ((t.drop 4).take 4) = c := ⟨_, rfl⟩
  obtain ⟨c8, hc8⟩ : ∃ c, cmpL ((s.drop 8).take 4) ((t.drop 8).take 4) = c := ⟨_, rfl⟩
  rw [hc0] at h0 HE
  rw [hc4] at h4 HE
  rw [hc8] at h8 HE
  clear hA hB hC hlen hs ht hc0 hc4 hc8 hwd2
  go_enter Tryd.func22, Tryd.ntmps22
  go_wp2_with fail
  refine wp_region_still_tail 15 mixed (by kernel_rfl) ?_
  simp only [List.take_succ_cons, List.take_zero, List.drop_succ_cons, List.drop_zero]
  rw [hwd]
  still_step
  still_step
  still_step
  still_step
  still_call h0.out
  still_step
  still_step
  still_step
  still_step
  still_call h4.out
  still_step
  still_step
  still_step
  still_step
  still_call h8.out
  refine wpStill_nil ?_
  change wpList _ _ _ _ _ wd
  have HW : Hid ((wd.alloc (.cells #[.int .i64 c0, .int .i64 c4, .int .i64 c8] 3)).heap[wd.heap.size]? = some (.cells #[.int .i64 c0, .int .i64 c4, .int .i64 c8] 3 (0, 0))) := Lib.hid (blk_new wd _)
  have HO := Lib.hid (or48 (b := wd.heap.size) (n := 3) (xs := [c0, c4, c8]) (w := wd.alloc (.cells #[.int .i64 c0, .int .i64 c4, .int .i64 c8] 3)) rfl (fun j u hu => by
    rw [cellAt HW.out]
    match j, hu with
    | 0, hu => injection hu with hu; subst hu; rfl
    | 1, hu => injection hu with hu; subst hu; rfl
    | 2, hu => injection hu with hu; subst hu; rfl
    | j + 3, hu => simp at hu) (by omega))
  clear HW
  go_wp2_with (first | (go_at_call 37; (with_reducible refine HO.out.mono ?_); rintro e1 w1 ⟨rfl, rfl⟩; rw [HE.out]))
  go_ret
  exact ⟨rfl, _, by rw [← hwd]; rfl⟩
end Go.Proofs.YtfcellgjbbfobaaDoor
/- The shelf: slices.SortFunc. -/
namespace Go.Proofs
open Go.Shelf
def Tryd.sort41_ren : Go.Shelf.Ren := ⟨fun | 6 => 21 | 15 => 36 | 14 => 35 | 28 => 52 | 29 => 53 | 20 => 44 | 21 => 45 | 22 => 46 | 23 => 47 | 24 => 48 | 25 => 49 | 26 => 50 | 27 => 51 | 46 => 57 | 47 => 58 | 48 => 59 | 49 => 60 | 50 => 61 | 57 => 72 | n => n, fun | 22 => 30 | 24 => 41 | 25 => 63 | 3 => 3 | 39 => 84 | 0 => 0 | 53 => 101 | 55 => 78 | 4 => 4 | 46 => 94 | 45 => 93 | 50 => 98 | 5 => 5 | 9 => 9 | 66 => 104 | 70 => 108 | 76 => 116 | 77 => 117 | n => n, fun | n => n⟩
theorem Tryd.sort41 : Go.Proofs.SlLaysF0.n6 Tryd.prog Tryd.sort41_ren := {
  mixed := by kernel_rfl
  f6 := ⟨Tryd.f21.name, by decide, Tryd.func21.trans (congrArg some (by kernel_rfl))⟩
  f14 := ⟨Tryd.f35.name, by decide, Tryd.func35.trans (congrArg some (by kernel_rfl))⟩
  f15 := Tryd.func36.trans (congrArg some (by kernel_rfl))
  f20 := ⟨Tryd.f44.name, by decide, Tryd.func44.trans (congrArg some (by kernel_rfl))⟩
  f21 := ⟨Tryd.f45.name, by decide, Tryd.func45.trans (congrArg some (by kernel_rfl))⟩
  f22 := ⟨Tryd.f46.name, by decide, Tryd.func46.trans (congrArg some (by kernel_rfl))⟩
  f23 := ⟨Tryd.f47.name, by decide, Tryd.func47.trans (congrArg some (by kernel_rfl))⟩
  f24 := ⟨Tryd.f48.name, by decide, Tryd.func48.trans (congrArg some (by kernel_rfl))⟩
  f25 := ⟨Tryd.f49.name, by decide, Tryd.func49.trans (congrArg some (by kernel_rfl))⟩
  f26 := ⟨Tryd.f50.name, by decide, Tryd.func50.trans (congrArg some (by kernel_rfl))⟩
  f27 := ⟨Tryd.f51.name, by decide, Tryd.func51.trans (congrArg some (by kernel_rfl))⟩
  f28 := Tryd.func52.trans (congrArg some (by kernel_rfl))
  f29 := Tryd.func53.trans (congrArg some (by kernel_rfl))
  f46 := ⟨Tryd.f57.name, by decide, Tryd.func57.trans (congrArg some (by kernel_rfl))⟩
  f47 := Tryd.func58.trans (congrArg some (by kernel_rfl))
  f48 := Tryd.func59.trans (congrArg some (by kernel_rfl))
  f49 := ⟨Tryd.f60.name, by decide, Tryd.func60.trans (congrArg some (by kernel_rfl))⟩
  f50 := ⟨Tryd.f61.name, by decide, Tryd.func61.trans (congrArg some (by kernel_rfl))⟩
  f57 := ⟨Tryd.f72.name, by decide, Tryd.func72.trans (congrArg some (by kernel_rfl))⟩
  t0 := Tryd.underlying0
  a0 := Tryd.isAgg0
  z0 := Tryd.sizeOf0
  v0 := Tryd.zeroValue0
  t3 := Tryd.underlying3
  a3 := Tryd.isAgg3
  z3 := Tryd.sizeOf3
  v3 := Tryd.zeroValue3
  t4 := Tryd.underlying4
  a4 := Tryd.isAgg4
  z4 := Tryd.sizeOf4
  v4 := Tryd.zeroValue4
  t5 := Tryd.underlying5
  a5 := Tryd.isAgg5
  z5 := Tryd.sizeOf5
  v5 := Tryd.zeroValue5
  t9 := Tryd.underlying9
  a9 := Tryd.isAgg9
  z9 := Tryd.sizeOf9
  v9 := Tryd.zeroValue9
  t22 := Tryd.underlying30
  a22 := Tryd.isAgg30
  z22 := Tryd.sizeOf30
  v22 := Tryd.zeroValue30
  t25 := Tryd.underlying63
  a25 := Tryd.isAgg63
  z25 := Tryd.sizeOf63
  v25 := Tryd.zeroValue63
  t39 := Tryd.underlying84
  a39 := Tryd.isAgg84
  z39 := Tryd.sizeOf84
  v39 := Tryd.zeroValue84
  t45 := Tryd.underlying93
  a45 := Tryd.isAgg93
  z45 := Tryd.sizeOf93
  v45 := Tryd.zeroValue93
  t46 := Tryd.underlying94
  a46 := Tryd.isAgg94
  z46 := Tryd.sizeOf94
  v46 := Tryd.zeroValue94
  t50 := Tryd.underlying98
  a50 := Tryd.isAgg98
  z50 := Tryd.sizeOf98
  v50 := Tryd.zeroValue98
  t53 := Tryd.underlying101
  a53 := Tryd.isAgg101
  z53 := Tryd.sizeOf101
  v53 := Tryd.zeroValue101
  t55 := Tryd.underlying78
  a55 := Tryd.isAgg78
  z55 := Tryd.sizeOf78
  v55 := Tryd.zeroValue78
  t66 := Tryd.underlying104
  a66 := Tryd.isAgg104
  z66 := Tryd.sizeOf104
  v66 := Tryd.zeroValue104
  t70 := Tryd.underlying108
  a70 := Tryd.isAgg108
  z70 := Tryd.sizeOf108
  v70 := Tryd.zeroValue108
  t76 := Tryd.underlying116
  a76 := Tryd.isAgg116
  z76 := Tryd.sizeOf116
  v76 := Tryd.zeroValue116
  t77 := Tryd.underlying117
  a77 := Tryd.isAgg117
  z77 := Tryd.sizeOf117
  v77 := Tryd.zeroValue117 }
end Go.Proofs
/- Explore: slices.SortFunc of states. -/
namespace Go.Proofs.YtfcellgjbbfobaaDoor
open Go.RowKit Go.Sort Go.Shelf Go.Proofs Go.Ex
def encS (x : List Int) : List Value := x.map (Value.int .i64)
theorem stI_flat (l : List St12) : l.flatMap stI = (l.map (·.1)).flatMap encS := by
  induction l with
  | nil => rfl
  | cons x l ih => rw [List.flatMap_cons, ih]; rfl
theorem attach12 {l : List (List Int)} (h : ∀ x ∈ l, x.length = 12) : ∃ m : List St12, m.map (·.1) = l := by
  induction l with
  | nil => exact ⟨[], rfl⟩
  | cons x l ih =>
    obtain ⟨m, hm⟩ := ih (fun y hy => h y (by simp [hy]))
    exact ⟨⟨x, h x (by simp)⟩ :: m, by rw [List.map_cons, hm]⟩
theorem sort41_own {w : World} {B : Nat} {v : Value} {l : List (List Int)} (ho : w.ownsRow B 41 12 v l.length (l.flatMap encS)) (hl : 0 < l.length) (hok : ∀ x ∈ l, x.length = 12) (hn : l.length ≤ 1000000000) :
    Calls Tryd.prog 21 #[v, .func (.func 22) #[] #[]] w fun e w' => e = .returned (.tuple #[]) ∧ (∃ l' : List (List Int), l'.Perm l ∧ w'.ownsRow B 41 12 v l.length (l'.flatMap encS)) ∧ Keep v.ownBlock.toList w w' := by
  obtain ⟨m, rfl⟩ := attach12 hok
  rw [← stI_flat, List.length_map] at ho
  rw [List.length_map] at hl hn ⊢
  rcases ho.2 with ⟨_, h0⟩ | ⟨g, cap, cur, rfl, hb, hg, hnc, hcm, hcs, ht⟩
  · omega
  · have hH := holdsK_own stI_len hg ht
    have hsz : m.toArray.size = m.length := by simp
    have h := AnyQ.slices_SortFunc Tryd.sort41 12 (fun w => by kernel_rfl) (fun w => by kernel_rfl) stI stI_len stI_one cmpS swoS 22 #[] g 0 cap m.toArray w (fun args w => by kernel_rfl) (fun k os dk _ x y => (compare42 x.2 y.2 _).mono (by
      rintro e w' ⟨rfl, o, rfl⟩
      exact ⟨rfl, 1, #[.cells (x.1.map (Value.int .i64)).toArray 41 (0, 0), .cells (y.1.map (Value.int .i64)).toArray 41 (0, 0), o], by rw [alloc_eq_grow, alloc_eq_grow, alloc_eq_grow, grow_grow, drew_grow, grow_grow]; rfl⟩)) hH (Array.getElem?_eq_some_iff.1 hg).1 (by rw [hsz]; omega)
    rw [hsz] at h
    refine h.mono ?_
    rintro e w' ⟨rfl, d', n, os, hp, hsd, rfl⟩
    obtain ⟨m', rfl⟩ : ∃ m' : List St12, d' = m'.toArray := ⟨d'.toList, by simp⟩
    have hlen : m'.length = m.length := by have := hp.1; simpa using this
    have hperm : m'.Perm m := by
      have := hp.2.2
      simp only [List.extract_toArray, List.extract_eq_take_drop, Nat.sub_zero, List.drop_zero] at this
      rw [List.take_of_length_le (by omega), List.take_of_length_le (Nat.le_refl _)] at this
      exact this
    have h9 := sortedK_own stI_len (n := n) (os := os) ho hlen
    rw [stI_flat] at h9
    exact ⟨rfl, ⟨_, hperm.map (·.1), h9⟩, sortedK_keep _⟩
end Go.Proofs.YtfcellgjbbfobaaDoor
/- A queue: q = q[1:]; q = append(q, x): a row of one's own of which the first things were taken off. -/
namespace Go
open Go.RowKit
def World.ownsTail (w : World) (base : Nat) (e : TypeId) (size : Nat) (v : Value) (n : Nat) (xs : List Value) : Prop :=
  xs.length = n * size ∧ ∃ (g o cap : Nat) (cur : Array Value), v = .slice (some ⟨g, o * size, none⟩) n cap ∧ base ≤ g ∧ w.heap[g]? = some (.cells cur e (0, 0)) ∧ n ≤ cap ∧ cap ≤ maxLen ∧ (o + cap) * size ≤ cur.size ∧ (cur.toList.drop (o * size)).take (n * size) = xs
section
variable {P : Program} {w w' : World} {base e size n : Nat} {v : Value} {xs : List Value}
theorem World.ownsTail.keep {S : List Nat} (h : w.ownsTail base e size v n xs) (hk : Keep S w w') (hs : ∀ a c, v = .slice (some a) n c → a.block ∉ S) : w'.ownsTail base e size v n xs := by
  obtain ⟨hl, g, o, cap, cur, rfl, hb, hg, rest⟩ := h
  exact ⟨hl, g, o, cap, cur, rfl, hb, hk.at hg (hs _ _ rfl), rest⟩
theorem tail_cells (h : w.ownsTail base e size v n xs) : ∃ a c, v = .slice (some a) n c ∧ base ≤ a.block ∧ n ≤ c ∧ c ≤ maxLen ∧ (∃ cs, w.heap[a.block]? = some (.cells cs e (0, 0))) ∧ ∀ j u, xs[j]? = some u → w.cell? (a.add j) = some u := by
  obtain ⟨hl, g, o, cap, cur, rfl, hb, hg, hnc, hcm, hcs, ht⟩ := h
  refine ⟨_, _, rfl, hb, hnc, hcm, ⟨cur, hg⟩, fun j u hu => ?_⟩
  have hj : j < n * size := by rw [← hl]; exact (List.getElem?_eq_some_iff.1 hu).1
  rw [Go.WideShapes.add_plain, cell_of_row w g _ cur e (0, 0) hg]
  rw [← ht, List.getElem?_take, if_pos hj, List.getElem?_drop] at hu
  simpa using hu
theorem run_append_tail (base : Nat) (t ty e : TypeId) (i : TypeInfo) (z : Value) (size bytes : Nat) (ht : P.underlying t = some (.slice e)) (hi : P.info? e = some i) (hz : i.zero = some z)
    (hsize : i.size = size) (hby : i.bytes = bytes) (hzs : z.cells.size = size)
    (v : Value) (n : Nat) (xs : List Value) (hown : w.ownsTail base e size v n xs)
    (a : Addr) (m c : Nat) (news : List Value) (hl : news.length = m * size) (hnews : ∀ j u, news[j]? = some u → w.cell? (a.add j) = some u) (h1 : ∀ u ∈ news, u.oneCell' = true)
    (h63 : n + m ≤ maxLen) (hbytes : (n + m) * bytes ≤ 140737488355328) (hbase : base ≤ w.heap.size) :
    ∃ v' w' g, (Builtin.append_ #[t, t] ty #[v, .slice (some a) m c]).run P w = .ok v' w' ∧ w'.ownsTail base e size v' (n + m) (xs ++ news) ∧ w.grownBy w' (some g) ∧ base ≤ g ∧ ∃ ad cc, v = .slice (some ad) n cc ∧ ad.block = g := by
  subst hsize
  subst hby
  have hsmall : n + m ≤ 9223372036854775807 := by simp only [maxLen] at h63; omega
  have hlen : (xs ++ news).length = (n + m) * i.size := by rw [List.length_append, hown.1, hl, Nat.add_mul]
  obtain ⟨_, _, he, _, _, _, _, hcell⟩ := tail_cells hown
  obtain ⟨hxl, g, o, cap, cur, rfl, hb, hg, hnc, hcm, hcs, htk⟩ := hown
  injection he with he _ _
  injection he with he
  subst he
  by_cases hroom : n + m ≤ cap
  · have hmul : (o + n + m) * i.size ≤ cur.size := Nat.le_trans (Nat.mul_le_mul_right _ (by omega)) hcs
    have hfit : o * i.size + n * i.size + news.length ≤ cur.size := by rw [hl, ← Nat.add_mul, ← Nat.add_mul]; exact hmul
    have hf := run_firstCells_some (P := P) w i.size m a m c news hl hnews
    have hst := run_storeCells_at P g (o * i.size + n * i.size) e news 0 cur w hg (by simpa using hfit) h1
    simp only [Nat.add_zero] at hst
    refine ⟨.slice (some ⟨g, o * i.size, none⟩) (n + m) cap, w.setRow g (cur.toList.take (o * i.size + n * i.size) ++ news ++ cur.toList.drop (o * i.size + n * i.size + news.length)).toArray, g, ?_, ⟨hlen, g, o, cap, _, rfl, hb, setRow_heap w g cur _ e _ hg, hroom, hcm, ?_, ?_⟩, ⟨rfl, rfl, rfl, by simp, fun k _ hk => setRow_other w g k _ (fun e => hk (by rw [e]))⟩, hb, _, _, rfl, rfl⟩
    · simp [Builtin.append_, run_underlying ht, sizeOf, typeInfo, hi, Builtin.lenOf, hroom, hf, Go.WideShapes.add_plain, hst]
    · simp only [List.size_toArray, List.length_append, List.length_take, List.length_drop, Array.length_toList]
      omega
    · have hA : (cur.toList.take (o * i.size + n * i.size)).length = o * i.size + n * i.size := by rw [List.length_take, Array.length_toList]; omega
      rw [List.append_assoc, List.drop_append_of_le_length (by rw [hA]; omega), List.drop_take, show o * i.size + n * i.size - o * i.size = n * i.size by omega, htk, ← List.append_assoc, ← hlen]
      exact List.take_left
  · have hr := run_append_grow (P := P) w t ty e i z ht hi hz ⟨g, o * i.size, none⟩ n cap xs hxl hcell a m c news hl hnews (by omega) (by omega) (growslice_fits (by omega) hbytes)
    have hge := grownCap_ge w (n + m) cap e
    have hcm2 : grownCap w (n + m) cap e ≤ maxLen := grownCap_le_maxLen w (n + m) cap e h63
    refine ⟨_, _, g, hr, ⟨hlen, w.heap.size, 0, _, _, by rw [Nat.zero_mul], hbase, blk_new w.drew _, hge, hcm2, ?_, ?_⟩, ⟨rfl, rfl, rfl, by simp, fun k hk _ => Below.heap_alloc w.drew _ _ hk⟩, hb, _, _, rfl, rfl⟩
    · simp only [Array.size_append, List.size_toArray, size_zeroCells, hzs, hxl, hl, ← Nat.add_mul]
      refine Nat.mul_le_mul_right _ ?_
      omega
    · rw [Nat.zero_mul, List.drop_zero]
      simp only [Array.toList_append, List.append_assoc]
      rw [← List.append_assoc, ← hlen]
      exact List.take_left
/-- q[1:]. -/
theorem tail_next {t : TypeId} {i : TypeInfo} (ht : P.underlying t = some (.slice e)) (hi : P.info? e = some i) (hsize : i.size = size) (h : w.ownsTail base e size v (n + 1) xs) :
    ∃ v', (∀ W, (Instr.slice t v (some (.int .i64 1)) none none).run P W = .ok v' W) ∧ w.ownsTail base e size v' n (xs.drop size) := by
  obtain ⟨hl, g, o, cap, cur, rfl, hb, hg, hnc, hcm, hcs, htk⟩ := h
  subst hsize
  have hdl : (xs.drop i.size).length = n * i.size := by rw [List.length_drop, hl, Nat.add_mul]; omega
  have hnc2 : (n : Int) + 1 ≤ (cap : Int) := by omega
  by_cases hc : cap = 1
  · subst hc
    obtain rfl : n = 0 := by omega
    refine ⟨.slice (some ⟨g, o * i.size, none⟩) 0 0, fun W => ?_, hdl, g, o, 0, cur, rfl, hb, hg, Nat.le_refl _, Nat.zero_le _, Nat.le_trans (Nat.mul_le_mul_right _ (by omega)) hcs, ?_⟩
    · simp [Instr.slice, run_underlying ht, sizeOf, typeInfo, hi, Instr.sliceBounds, Instr.sliceBound, asIntOf, Result.andThen]
    · have : xs.drop i.size = [] := List.eq_nil_of_length_eq_zero (by rw [hdl]; simp)
      rw [this]; simp
  · refine ⟨.slice (some ⟨g, (o + 1) * i.size, none⟩) n (cap - 1), fun W => ?_, hdl, g, o + 1, cap - 1, cur, rfl, hb, hg, by omega, by omega, ?_, ?_⟩
    · have h9 : (1 : Int) ≤ (n : Int) + 1 := by omega
      simp [Instr.slice, run_underlying ht, sizeOf, typeInfo, hi, Instr.sliceBounds, Instr.sliceBound, asIntOf, Result.andThen, h9, hc, Go.WideShapes.add_plain, Nat.add_mul]
    · rw [show o + 1 + (cap - 1) = o + cap by omega]; exact hcs
    · rw [← htk, List.drop_take, List.drop_drop, Nat.add_mul, Nat.add_mul]
      congr 1
      · omega
      · congr 1
        omega
end
end Go
