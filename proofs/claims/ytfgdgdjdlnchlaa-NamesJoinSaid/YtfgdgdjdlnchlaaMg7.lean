/- Texts laid together: N16. -/
import Derived.Test.YtfgdgdjdlnchlaaMg6
/- NamesJoin. -/
namespace Go.Proofs.Ytfgdgdjdlnchlaa
open Go.RowKit
open Go.Nm
theorem alled {w0 w : World} {n : Nat} {ps : Nat → Nat} {st : Nat → Reg} (h : RC w0 n ps st w) {j : Nat} (hj : j < n) :
    Calls Try.prog 19 #[.pointer (some ⟨ps j, 0, none⟩)] w fun e w' => ∃ (a : Option Addr) (m c : Nat), e = .returned (.slice a m c) ∧ Keep [] w w' ∧ Hid (RC w0 n ps st w') ∧ Hid (w'.ownsRow w.heap.size 47 2 (.slice a m c) m ((alls (rows (st j).f)).flatMap ac)) ∧ Hid (EltV ac 2 w' a m c (alls (rows (st j).f))) := by
  refine (all19_any h hj).mono ?_
  rintro e w' ⟨v, rfl, hk, ho⟩
  obtain ⟨a, c, rfl, hv, -⟩ := EltV.ofOwn ac_len (by decide) ho
  exact ⟨a, _, c, rfl, hk, Lib.hid (h.kept hk), Lib.hid ho, Lib.hid hv⟩
structure BInv (f0 : Nat → F) (k q : Nat) (st : Nat → Reg) : Prop where
  old : ∀ i, i < 4 → (st i).f = f0 i
  ok : ∀ i, i < 6 → MOk (st i).f 150
  upA : Le (st 4).f (J4 f0)
  upB : Le (st 5).f (J4 f0)
  inA : ∀ j, j < 4 → j < k → Le (f0 j) (st 4).f
  inB : ∀ j, j < 4 → 3 < j + q → Le (f0 j) (st 5).f
theorem BInv.start {st : Nat → Reg} (h : SOk 4 st 150) (x y : Int) : BInv (fun i => (st i).f) 0 0 (Go.upd (Go.upd st 4 ⟨x, 0, fun _ => none⟩) 5 ⟨y, 0, fun _ => none⟩) := by
  have hE : ∀ g : F, Le (fun _ => none) g := fun g => funext fun i => none_join _
  refine ⟨fun i hi => ?_, fun i hi => ?_, ?_, ?_, fun j _ hj => by omega, fun j hj hj' => by omega⟩
  · rw [upd_other (by omega), upd_other (by omega)]
  · by_cases h5 : i = 5
    · subst h5; rw [upd_same]; exact MOk.nil _
    · rw [upd_other h5]
      by_cases h4 : i = 4
      · subst h4; rw [upd_same]; exact MOk.nil _
      · rw [upd_other h4]; exact (h i (by omega)).1.ok.mono (h i (by omega)).1.hi
  · rw [upd_other (by decide), upd_same]; exact hE _
  · rw [upd_same]; exact hE _
theorem BInv.stepA {f0 : Nat → F} {k q : Nat} {st : Nat → Reg} (h : BInv f0 k q st) {j : Nat} (hj : j < 4) : BInv f0 (if j = k then k + 1 else k) q (Go.upd st 4 (mergeR (st 4) (st j).f)) := by
  have e4 : (Go.upd st 4 (mergeR (st 4) (st j).f) 4).f = Nm.merge (st 4).f (st j).f := by rw [upd_same]; rfl
  have e5 : Go.upd st 4 (mergeR (st 4) (st j).f) 5 = st 5 := upd_other (by decide)
  refine ⟨fun i hi => by rw [upd_other (by omega)]; exact h.old i hi, fun i hi => ?_, ?_, ?_, fun i hi hk => ?_, fun i hi hk => ?_⟩
  · by_cases h4 : i = 4
    · subst h4; rw [e4]; exact (h.ok 4 (by decide)).merge (h.ok j (by omega))
    · rw [upd_other h4]; exact h.ok i hi
  · rw [e4]; exact h.upA.merge (by rw [h.old j hj]; exact le_J4 f0 j hj)
  · rw [e5]; exact h.upB
  · rw [e4]
    by_cases hij : i = j
    · subst hij; rw [← h.old i hi]; exact Le.right _ _
    · refine (h.inA i hi ?_).trans (Le.left _ _)
      by_cases hjk : j = k
      · rw [if_pos hjk] at hk; omega
      · rw [if_neg hjk] at hk; exact hk
  · rw [e5]; exact h.inB i hi hk
theorem BInv.stepB {f0 : Nat → F} {k q : Nat} {st : Nat → Reg} (h : BInv f0 k q st) {j : Nat} (hj : j < 4) (hjq : j + q = 3) : BInv f0 k (q + 1) (Go.upd st 5 (mergeR (st 5) (st j).f)) := by
  have e5 : (Go.upd st 5 (mergeR (st 5) (st j).f) 5).f = Nm.merge (st 5).f (st j).f := by rw [upd_same]; rfl
  have e4 : Go.upd st 5 (mergeR (st 5) (st j).f) 4 = st 4 := upd_other (by decide)
  refine ⟨fun i hi => by rw [upd_other (by omega)]; exact h.old i hi, fun i hi => ?_, ?_, ?_, fun i hi hk => ?_, fun i hi hk => ?_⟩
  · by_cases h4 : i = 5
    · subst h4; rw [e5]; exact (h.ok 5 (by decide)).merge (h.ok j (by omega))
    · rw [upd_other h4]; exact h.ok i hi
  · rw [e4]; exact h.upA
  · rw [e5]; exact h.upB.merge (by rw [h.old j hj]; exact le_J4 f0 j hj)
  · rw [e4]; exact h.inA i hi hk
  · rw [e5]
    by_cases hij : i = j
    · subst hij; rw [← h.old i hi]; exact Le.right _ _
    · exact (h.inB i hi (by omega)).trans (Le.left _ _)
theorem BInv.eqs {f0 : Nat → F} {st : Nat → Reg} {k : Nat} (h : BInv f0 k k st) (hk : 4 ≤ k) : (st 4).f = (st 5).f ∧ Nm.merge (st 5).f (st 5).f = (st 5).f :=
  ⟨(Le.antisymm h.upA (J4_le (fun j hj => h.inA j hj (by omega)))).trans (Le.antisymm h.upB (J4_le (fun j hj => h.inB j hj (by omega)))).symm, merge_self _⟩
theorem range4 {ps PS : Nat → Nat} (h : ∀ i, i < 4 → ps i = PS i) : (List.range 4).map (fun i => ptr (ps i)) = (List.range 4).map (fun i => ptr (PS i)) :=
  List.map_congr_left (fun i hi => by rw [h i (List.mem_range.1 hi)])
set_option maxRecDepth 100000 in
set_option maxHeartbeats 8000000 in
theorem namesJoin_walk (ap : Option Addr) (len cap : Nat) (zs : List Int) (x : Int) (w : World) (hz : IntsV w ap len cap zs) :
    Calls Try.prog 5 #[.slice ap len cap, .int .i64 x] w fun e w' => e = .returned (.bool true) ∧ Keep [] w w' := by
  have HZ := Lib.hid hz
  obtain ⟨qx, hqx, hqx4⟩ := rest_nat x 4 (by omega)
  have HQX := Lib.hid hqx
  clear hz hqx hqx4
  go_enter Try.func5, Try.ntmps5
  go_wp2_with (first | (with_reducible refine Txt.wp_region_text mixed quiet (by decide +kernel) ?_) | (with_reducible refine Txt.text_done (by kernel_rfl) ?_) | (go_at_call 8; (with_reducible refine begun8_any.mono ?_); rintro e w1 ⟨rfl, hk1⟩; have HK1 := Lib.hid hk1; clear hk1) | (go_at_call 9; (with_reducible refine (register9_at 4 4 rfl (by decide) (by decide) (HZ.out.keep HK1.out (by simp))).mono ?_); rintro e w2 ⟨v, ps, st0, rfl, hrc, ho, hs⟩; obtain ⟨a, c, rfl, hc1, hc2, hcell⟩ := own_ptrs ho; obtain ⟨g, rfl, -⟩ := hcell (by decide); have HRC := Lib.hid hrc; have HO := Lib.hid ho; have HS := Lib.hid hs; clear hcell hrc ho hs) | (go_at_call 17; (with_reducible refine (new17_any HRC.out 7 (by decide)).mono ?_); rintro e w3 ⟨pa, rfl, hrc3, hk3, -⟩; have HRC3 := Lib.hid hrc3; have HK3 := Lib.hid hk3; clear hrc3 hk3) | (go_at_call 17; (with_reducible refine (new17_any HRC3.out 8 (by decide)).mono ?_); rintro e w4 ⟨pb, rfl, hrc4, hk4, -⟩; have HRC4 := Lib.hid hrc4; have HK4 := Lib.hid hk4; clear hrc4 hk4))
  obtain ⟨PS, hPS⟩ : ∃ PS : Nat → Nat, (fun j => if j = 5 then pb else (fun j => if j = 4 then pa else ps j) j) = PS := ⟨_, rfl⟩
  have hr6 : RC w1 6 PS (Go.upd (Go.upd st0 4 ⟨7, 0, fun _ => none⟩) 5 ⟨8, 0, fun _ => none⟩) w4 := hPS ▸ HRC4.out
  have p4 : PS 4 = pa := by rw [← hPS]; rfl
  have p5 : PS 5 = pb := by rw [← hPS]; rfl
  have ho4 := HO.out
  rw [range4 (PS := PS) (fun i hi => by rw [← hPS]; simp only; rw [if_neg (by omega), if_neg (by omega)])] at ho4
  have HO4 := Lib.hid ho4
  have HR6 := Lib.hid hr6
  have HNK4 : Hid (NK w2 w4) := Lib.hid ((NK.ofKeep HK3.out).trans (NK.ofKeep HK4.out))
  clear hPS hr6 ho4 HRC HRC3 HRC4 HO HK3 HK4
  subst p4
  subst p5
  go_loopw [35] (fun j wr => ∃ (k : Nat) (st : Nat → Reg), k ≤ 4 ∧ j = .int .i64 k ∧ Hid (RC w1 6 PS st wr) ∧ Hid (NK w2 wr) ∧ Hid (BInv (fun i => (st0 i).f) k k st)) (fun j _ => 4 - (intOf j).toNat)
  case atStart => exact ⟨0, _, by omega, rfl, HR6, HNK4, Lib.hid (BInv.start HS.out 7 8)⟩
  case round =>
    obtain ⟨k, st, hk, rfl, HR, HNK, HB⟩ := hrel
    by_cases hlt : k < 4
    · have hdec : decide ((k : Int) < 4) = true := by simp; omega
      have ck := ptrsAt HO4.out HNK.out k hlt
      obtain ⟨q, hq, hq4⟩ : ∃ q : Nat, (3 : Int) - (k : Int) = (q : Int) ∧ q < 4 := ⟨3 - k, by omega, by omega⟩
      have hqk : q + k = 3 := by omega
      have hq4' : (q : Int) < 4 := by omega
      have HT := Lib.hid (told HR.out (j := k) (by omega) (HB.out.ok k (by omega)) (by decide))
      have hif : (if k = k then k + 1 else k) = k + 1 := if_pos rfl
      have HB1 := Lib.hid (HB.out.stepA hlt)
      rw [hif] at HB1
      clear hif
      by_cases hkq : k = qx
      · have hbe : ((k : Int) == (qx : Int)) = true := by simp; omega
        have HB2 := Lib.hid (HB1.out.stepB hq4 hqk)
        have hif2 : (if 0 = k + 1 then k + 1 + 1 else k + 1) = k + 1 := if_neg (by omega)
        have HB3 := Lib.hid (HB2.out.stepA (j := 0) (by decide))
        have hqk1 : q + 1 = 4 - k := by omega
        rw [hif2] at HB3
        have HB4 : Hid (BInv (fun i => (st0 i).f) (k + 1) (k + 1) _) := HB3
        clear hif2 hkq hqk1
        go_wp2_with (first | (with_reducible refine Txt.wp_region_text mixed quiet (by decide +kernel) ?_) | (with_reducible refine Txt.text_done (by kernel_rfl) ?_) | (go_at_call 10; (with_reducible refine (rest_at HQX (by decide) (by decide)).mono ?_); rintro e w' ⟨rfl, rfl⟩) | (go_at_call 12; (with_reducible refine HT.out.mono ?_); rintro e w5 ⟨a5, m5, c5, rfl, hk5, HR5, HO5, HV5, HM5⟩; have HMX := Lib.hid (HM5.out 4 (by decide)); have HN5 := Lib.hid (HNK.out.trans (NK.ofKeep hk5)); clear hk5 HM5) | (go_at_call 11; (with_reducible refine HMX.out.mono ?_); rintro e w6 ⟨rfl, hrc6, hnk6⟩; have HRC6 := Lib.hid hrc6; have HN6 := Lib.hid (HN5.out.trans hnk6); have cq := ptrsAt HO4.out HN6.out q hq4; have HT6 := Lib.hid (told hrc6 (j := q) (by omega) (HB1.out.ok q (by omega)) (by decide)); clear hrc6 hnk6) | (go_at_call 12; (with_reducible refine HT6.out.mono ?_); rintro e w7 ⟨a7, m7, c7, rfl, hk7, HR7, HO7, HV7, HM7⟩; have HMY := Lib.hid (HM7.out 5 (by decide)); have HN7 := Lib.hid (HN6.out.trans (NK.ofKeep hk7)); clear hk7 HM7) | (go_at_call 11; (with_reducible refine HMY.out.mono ?_); rintro e w8 ⟨rfl, hrc8, hnk8⟩; have HRC8 := Lib.hid hrc8; have HN8 := Lib.hid (HN7.out.trans hnk8); have cz := ptrsAt HO4.out HN8.out 0 (by decide); have HT8 := Lib.hid (told hrc8 (j := 0) (by decide) (HB2.out.ok 0 (by decide)) (by decide)); clear hrc8 hnk8) | (go_at_call 12; (with_reducible refine HT8.out.mono ?_); rintro e w9 ⟨a9, m9, c9, rfl, hk9, HR9, HO9, HV9, HM9⟩; have HMZ := Lib.hid (HM9.out 4 (by decide)); have HN9 := Lib.hid (HN8.out.trans (NK.ofKeep hk9)); clear hk9 HM9) | (go_at_call 11; (with_reducible refine HMZ.out.mono ?_); rintro e wa ⟨rfl, hrca, hnka⟩; have HRCA := Lib.hid hrca; have HNA := Lib.hid (HN9.out.trans hnka); clear hrca hnka))
        exact ⟨⟨k + 1, _, by omega, by go_num, HRCA, HNA, HB4⟩, by simp [intOf]; omega⟩
      · have hbe : ((k : Int) == (qx : Int)) = false := by rw [beq_eq_false_iff_ne]; omega
        clear hkq
        go_wp2_with (first | (with_reducible refine Txt.wp_region_text mixed quiet (by decide +kernel) ?_) | (with_reducible refine Txt.text_done (by kernel_rfl) ?_) | (go_at_call 10; (with_reducible refine (rest_at HQX (by decide) (by decide)).mono ?_); rintro e w' ⟨rfl, rfl⟩) | (go_at_call 12; (with_reducible refine HT.out.mono ?_); rintro e w5 ⟨a5, m5, c5, rfl, hk5, HR5, HO5, HV5, HM5⟩; have HMX := Lib.hid (HM5.out 4 (by decide)); have HN5 := Lib.hid (HNK.out.trans (NK.ofKeep hk5)); clear hk5 HM5) | (go_at_call 11; (with_reducible refine HMX.out.mono ?_); rintro e w6 ⟨rfl, hrc6, hnk6⟩; have HRC6 := Lib.hid hrc6; have HN6 := Lib.hid (HN5.out.trans hnk6); have cq := ptrsAt HO4.out HN6.out q hq4; have HT6 := Lib.hid (told hrc6 (j := q) (by omega) (HB1.out.ok q (by omega)) (by decide)); clear hrc6 hnk6) | (go_at_call 12; (with_reducible refine HT6.out.mono ?_); rintro e w7 ⟨a7, m7, c7, rfl, hk7, HR7, HO7, HV7, HM7⟩; have HMY := Lib.hid (HM7.out 5 (by decide)); have HN7 := Lib.hid (HN6.out.trans (NK.ofKeep hk7)); clear hk7 HM7) | (go_at_call 11; (with_reducible refine HMY.out.mono ?_); rintro e w8 ⟨rfl, hrc8, hnk8⟩; have HRC8 := Lib.hid hrc8; have HN8 := Lib.hid (HN7.out.trans hnk8); clear hrc8 hnk8))
        exact ⟨⟨k + 1, _, by omega, by go_num, HRC8, HN8, Lib.hid (HB1.out.stepB hq4 hqk)⟩, by simp [intOf]; omega⟩
    · have hdec : decide ((k : Int) < 4) = false := by simp; omega
      have HE := HB.out.eqs (by omega)
      have HOK5 := HB.out.ok 5 (by decide)
      have HT := Lib.hid (told HR.out (j := 5) (by decide) HOK5 (by decide))
      obtain ⟨S, hS⟩ : ∃ S, Go.upd st 5 (mergeR (st 5) (st 5).f) = S := ⟨_, rfl⟩
      have hS4 : (S 4).f = (st 5).f := by rw [← hS, upd_other (by decide)]; exact HE.1
      have hS5 : (S 5).f = (st 5).f := by rw [← hS, upd_same]; exact HE.2
      have HF4 : Hid (MOk (S 4).f 150) := Lib.hid (hS4 ▸ HOK5)
      have HF5 : Hid (MOk (S 5).f 150) := Lib.hid (hS5 ▸ HOK5)
      have HEQ : Hid (decide (rows (S 4).f = rows (S 5).f) = true) := Lib.hid (decide_eq_true (by rw [hS4, hS5]))
      have HEQ2 : Hid (decide (alls (rows (S 4).f) = alls (rows (S 5).f)) = true) := Lib.hid (decide_eq_true (by rw [hS4, hS5]))
      have HSS := Lib.hid hS
      clear hS hS4 hS5 HE HOK5 hk hlt
      go_wp2_with (first | (with_reducible refine Txt.wp_region_text mixed quiet (by decide +kernel) ?_) | (with_reducible refine Txt.text_done (by kernel_rfl) ?_) | (go_at_call 12; (with_reducible refine HT.out.mono ?_); rintro e w5 ⟨a5, m5, c5, rfl, hk5, HR5, HO5, HV5, HM5⟩; have hmx := HM5.out 5 (by decide); rw [HSS.out] at hmx; have HMX := Lib.hid hmx; clear hk5 HM5 hmx) | (go_at_call 11; (with_reducible refine HMX.out.mono ?_); rintro e w6 ⟨rfl, hrc6, -⟩; have HT4 := Lib.hid (told hrc6 (j := 4) (by decide) HF4.out (by decide)); clear hrc6 HT) | (go_at_call 12; (with_reducible refine HT4.out.mono ?_); rintro e w7 ⟨a7, m7, c7, rfl, hk7, HR7, HO7, HV7, HM7⟩; have HT5 := Lib.hid (told HR7.out (j := 5) (by decide) HF5.out (by decide)); clear hk7 HM7) | (go_at_call 12; (with_reducible refine HT5.out.mono ?_); rintro e w8 ⟨a8, m8, c8, rfl, hk8, HR8, HO8, HV8, HM8⟩; have HV7' := Lib.hid (HV7.out.keep rc_len hk8 (by simp)); clear hk8 HM8) | (go_at_call 16; (with_reducible refine (equal16_any HV7'.out HV8.out).mono ?_); rintro e w9 ⟨rfl, hk9⟩; rw [HEQ.out]; have HA4 := Lib.hid (alled (HR8.out.kept hk9) (j := 4) (by decide)); clear hk9) | (go_at_call 19; (with_reducible refine HA4.out.mono ?_); rintro e wa ⟨aa, ma, ca, rfl, hka, HRa, HOa, HVa⟩; have HA5 := Lib.hid (alled HRa.out (j := 5) (by decide)); clear hka) | (go_at_call 19; (with_reducible refine HA5.out.mono ?_); rintro e wb ⟨ab, mb, cb, rfl, hkb, HRb, HOb, HVb⟩; have HVa' := Lib.hid (HVa.out.keep ac_len hkb (by simp)); clear hkb) | (go_at_call 18; (with_reducible refine (equal18_any HVa'.out HVb.out).mono ?_); rintro e wc ⟨rfl, hkc⟩; rw [HEQ2.out]; have HRZ := Lib.hid (HRb.out.kept hkc); clear hkc))
      go_ret
      exact ⟨rfl, HK1.out.trans HRZ.out.keep⟩
end Go.Proofs.Ytfgdgdjdlnchlaa
