/- Texts laid together: N16 N17 N18. -/
import Derived.Test.YtfgdgdjdlnchlaaMg6
import Derived.Deep.QuietTactic
import Derived.BigQuiet
/- NamesJoin. -/
namespace Go.Proofs.Ytfgdgdjdlnchlaa
open Go.RowKit
open Go.Nm
theorem alled {w0 w : World} {n : Nat} {ps : Nat → Nat} {st : Nat → Reg} (h : RC w0 n ps st w) {j : Nat} (hj : j < n) :
    Calls Try.prog 19 #[.pointer (some ⟨ps j, 0, none⟩)] w fun e w' => ∃ (a : Option Addr) (m c : Nat), e = .returned (.slice a m c) ∧ Keep [] w w' ∧ Hid (RC w0 n ps st w') ∧ Hid (w'.ownsRow w.heap.size 47 2 (.slice a m c) m ((alls (rows (st j).f)).flatMap ac)) ∧ Hid (EltV ac 2 w' a m c (alls (rows (st j).f))) := by
  refine (all19_any h hj).mono ?_
  rintro e w' ⟨v, rfl, hk, ho⟩
  obtain ⟨a, c, rfl, hv, -⟩ := EltV.ofOwn ac_len (by decide) ho
  exact ⟨a, _, c, rfl, hk, Lib.hid (h.kept hk), Lib.hid ho, Lib.hid hv⟩
structure BInv (f0 : Nat → F) (k q : Nat) (st : Nat → Reg) : Prop where
  old : ∀ i, i < 4 → (st i).f = f0 i
  ok : ∀ i, i < 6 → MOk (st i).f 150
  upA : Le (st 4).f (J4 f0)
  upB : Le (st 5).f (J4 f0)
  inA : ∀ j, j < 4 → j < k → Le (f0 j) (st 4).f
  inB : ∀ j, j < 4 → 3 < j + q → Le (f0 j) (st 5).f
theorem BInv.start {st : Nat → Reg} (h : SOk 4 st 150) (x y : Int) : BInv (fun i => (st i).f) 0 0 (Go.upd (Go.upd st 4 ⟨x, 0, fun _ => none⟩) 5 ⟨y, 0, fun _ => none⟩) := by
  have hE : ∀ g : F, Le (fun _ => none) g := fun g => funext fun i => none_join _
  refine ⟨fun i hi => ?_, fun i hi => ?_, ?_, ?_, fun j _ hj => by omega, fun j hj hj' => by omega⟩
  · rw [upd_other (by omega), upd_other (by omega)]
  · by_cases h5 : i = 5
    · subst h5; rw [upd_same]; exact MOk.nil _
    · rw [upd_other h5]
      by_cases h4 : i = 4
      · subst h4; rw [upd_same]; exact MOk.nil _
      · rw [upd_other h4]; exact (h i (by omega)).1.ok.mono (h i (by omega)).1.hi
  · rw [upd_other (by decide), upd_same]; exact hE _
  · rw [upd_same]; exact hE _
theorem BInv.stepA {f0 : Nat → F} {k q : Nat} {st : Nat → Reg} (h : BInv f0 k q st) {j : Nat} (hj : j < 4) : BInv f0 (if j = k then k + 1 else k) q (Go.upd st 4 (mergeR (st 4) (st j).f)) := by
  have e4 : (Go.upd st 4 (mergeR (st 4) (st j).f) 4).f = Nm.merge (st 4).f (st j).f := by rw [upd_same]; rfl
  have e5 : Go.upd st 4 (mergeR (st 4) (st j).f) 5 = st 5 := upd_other (by decide)
  refine ⟨fun i hi => by rw [upd_other (by omega)]; exact h.old i hi, fun i hi => ?_, ?_, ?_, fun i hi hk => ?_, fun i hi hk => ?_⟩
  · by_cases h4 : i = 4
    · subst h4; rw [e4]; exact (h.ok 4 (by decide)).merge (h.ok j (by omega))
    · rw [upd_other h4]; exact h.ok i hi
  · rw [e4]; exact h.upA.merge (by rw [h.old j hj]; exact le_J4 f0 j hj)
  · rw [e5]; exact h.upB
  · rw [e4]
    by_cases hij : i = j
    · subst hij; rw [← h.old i hi]; exact Le.right _ _
    · refine (h.inA i hi ?_).trans (Le.left _ _)
      by_cases hjk : j = k
      · rw [if_pos hjk] at hk; omega
      · rw [if_neg hjk] at hk; exact hk
  · rw [e5]; exact h.inB i hi hk
theorem BInv.stepB {f0 : Nat → F} {k q : Nat} {st : Nat → Reg} (h : BInv f0 k q st) {j : Nat} (hj : j < 4) (hjq : j + q = 3) : BInv f0 k (q + 1) (Go.upd st 5 (mergeR (st 5) (st j).f)) := by
  have e5 : (Go.upd st 5 (mergeR (st 5) (st j).f) 5).f = Nm.merge (st 5).f (st j).f := by rw [upd_same]; rfl
  have e4 : Go.upd st 5 (mergeR (st 5) (st j).f) 4 = st 4 := upd_other (by decide)
  refine ⟨fun i hi => by rw [upd_other (by omega)]; exact h.old i hi, fun i hi => ?_, ?_, ?_, fun i hi hk => ?_, fun i hi hk => ?_⟩
  · by_cases h4 : i = 5
    · subst h4; rw [e5]; exact (h.ok 5 (by decide)).merge (h.ok j (by omega))
    · rw [upd_other h4]; exact h.ok i hi
  · rw [e4]; exact h.upA
  · rw [e5]; exact h.upB.merge (by rw [h.old j hj]; exact le_J4 f0 j hj)
  · rw [e4]; exact h.inA i hi hk
  · rw [e5]
    by_cases hij : i = j
    · subst hij; rw [← h.old i hi]; exact Le.right _ _
    · exact (h.inB i hi (by omega)).trans (Le.left _ _)
theorem BInv.eqs {f0 : Nat → F} {st : Nat → Reg} {k : Nat} (h : BInv f0 k k st) (hk : 4 ≤ k) : (st 4).f = (st 5).f ∧ Nm.merge (st 5).f (st 5).f = (st 5).f :=
  ⟨(Le.antisymm h.upA (J4_le (fun j hj => h.inA j hj (by omega)))).trans (Le.antisymm h.upB (J4_le (fun j hj => h.inB j hj (by omega)))).symm, merge_self _⟩
theorem range4 {ps PS : Nat → Nat} (h : ∀ i, i < 4 → ps i = PS i) : (List.range 4).map (fun i => ptr (ps i)) = (List.range 4).map (fun i => ptr (PS i)) :=
  List.map_congr_left (fun i hi => by rw [h i (List.mem_range.1 hi)])
set_option maxRecDepth 100000 in
set_option maxHeartbeats 8000000 in
theorem namesJoin_walk (ap : Option Addr) (len cap : Nat) (zs : List Int) (x : Int) (w : World) (hz : IntsV w ap len cap zs) :
    Calls Try.prog 5 #[.slice ap len cap, .int .i64 x] w fun e w' => e = .returned (.bool true) ∧ Keep [] w w' := by
  have HZ := Lib.hid hz
  obtain ⟨qx, hqx, hqx4⟩ := rest_nat x 4 (by omega)
  have HQX := Lib.hid hqx
  clear hz hqx hqx4
  go_enter Try.func5, Try.ntmps5
  go_wp2_with (first | (with_reducible refine Txt.wp_region_text mixed quiet (by decide +kernel) ?_) | (with_reducible refine Txt.text_done (by kernel_rfl) ?_) | (go_at_call 8; (with_reducible refine begun8_any.mono ?_); rintro e w1 ⟨rfl, hk1⟩; have HK1 := Lib.hid hk1; clear hk1) | (go_at_call 9; (with_reducible refine (register9_at 4 4 rfl (by decide) (by decide) (HZ.out.keep HK1.out (by simp))).mono ?_); rintro e w2 ⟨v, ps, st0, rfl, hrc, ho, hs⟩; obtain ⟨a, c, rfl, hc1, hc2, hcell⟩ := own_ptrs ho; obtain ⟨g, rfl, -⟩ := hcell (by decide); have HRC := Lib.hid hrc; have HO := Lib.hid ho; have HS := Lib.hid hs; clear hcell hrc ho hs) | (go_at_call 17; (with_reducible refine (new17_any HRC.out 7 (by decide)).mono ?_); rintro e w3 ⟨pa, rfl, hrc3, hk3, -⟩; have HRC3 := Lib.hid hrc3; have HK3 := Lib.hid hk3; clear hrc3 hk3) | (go_at_call 17; (with_reducible refine (new17_any HRC3.out 8 (by decide)).mono ?_); rintro e w4 ⟨pb, rfl, hrc4, hk4, -⟩; have HRC4 := Lib.hid hrc4; have HK4 := Lib.hid hk4; clear hrc4 hk4))
  obtain ⟨PS, hPS⟩ : ∃ PS : Nat → Nat, (fun j => if j = 5 then pb else (fun j => if j = 4 then pa else ps j) j) = PS := ⟨_, rfl⟩
  have hr6 : RC w1 6 PS (Go.upd (Go.upd st0 4 ⟨7, 0, fun _ => none⟩) 5 ⟨8, 0, fun _ => none⟩) w4 := hPS ▸ HRC4.out
  have p4 : PS 4 = pa := by rw [← hPS]; rfl
  have p5 : PS 5 = pb := by rw [← hPS]; rfl
  have ho4 := HO.out
  rw [range4 (PS := PS) (fun i hi => by rw [← hPS]; simp only; rw [if_neg (by omega), if_neg (by omega)])] at ho4
  have HO4 := Lib.hid ho4
  have HR6 := Lib.hid hr6
  have HNK4 : Hid (NK w2 w4) := Lib.hid ((NK.ofKeep HK3.out).trans (NK.ofKeep HK4.out))
  clear hPS hr6 ho4 HRC HRC3 HRC4 HO HK3 HK4
  subst p4
  subst p5
  go_loopw [35] (fun j wr => ∃ (k : Nat) (st : Nat → Reg), k ≤ 4 ∧ j = .int .i64 k ∧ Hid (RC w1 6 PS st wr) ∧ Hid (NK w2 wr) ∧ Hid (BInv (fun i => (st0 i).f) k k st)) (fun j _ => 4 - (intOf j).toNat)
  case atStart => exact ⟨0, _, by omega, rfl, HR6, HNK4, Lib.hid (BInv.start HS.out 7 8)⟩
  case round =>
    obtain ⟨k, st, hk, rfl, HR, HNK, HB⟩ := hrel
    by_cases hlt : k < 4
    · have hdec : decide ((k : Int) < 4) = true := by simp; omega
      have ck := ptrsAt HO4.out HNK.out k hlt
      obtain ⟨q, hq, hq4⟩ : ∃ q : Nat, (3 : Int) - (k : Int) = (q : Int) ∧ q < 4 := ⟨3 - k, by omega, by omega⟩
      have hqk : q + k = 3 := by omega
      have hq4' : (q : Int) < 4 := by omega
      have HT := Lib.hid (told HR.out (j := k) (by omega) (HB.out.ok k (by omega)) (by decide))
      have hif : (if k = k then k + 1 else k) = k + 1 := if_pos rfl
      have HB1 := Lib.hid (HB.out.stepA hlt)
      rw [hif] at HB1
      clear hif
      by_cases hkq : k = qx
      · have hbe : ((k : Int) == (qx : Int)) = true := by simp; omega
        have HB2 := Lib.hid (HB1.out.stepB hq4 hqk)
        have hif2 : (if 0 = k + 1 then k + 1 + 1 else k + 1) = k + 1 := if_neg (by omega)
        have HB3 := Lib.hid (HB2.out.stepA (j := 0) (by decide))
        have hqk1 : q + 1 = 4 - k := by omega
        rw [hif2] at HB3
        have HB4 : Hid (BInv (fun i => (st0 i).f) (k + 1) (k + 1) _) := HB3
        clear hif2 hkq hqk1
        go_wp2_with (first | (with_reducible refine Txt.wp_region_text mixed quiet (by decide +kernel) ?_) | (with_reducible refine Txt.text_done (by kernel_rfl) ?_) | (go_at_call 10; (with_reducible refine (rest_at HQX (by decide) (by decide)).mono ?_); rintro e w' ⟨rfl, rfl⟩) | (go_at_call 12; (with_reducible refine HT.out.mono ?_); rintro e w5 ⟨a5, m5, c5, rfl, hk5, HR5, HO5, HV5, HM5⟩; have HMX := Lib.hid (HM5.out 4 (by decide)); have HN5 := Lib.hid (HNK.out.trans (NK.ofKeep hk5)); clear hk5 HM5) | (go_at_call 11; (with_reducible refine HMX.out.mono ?_); rintro e w6 ⟨rfl, hrc6, hnk6⟩; have HRC6 := Lib.hid hrc6; have HN6 := Lib.hid (HN5.out.trans hnk6); have cq := ptrsAt HO4.out HN6.out q hq4; have HT6 := Lib.hid (told hrc6 (j := q) (by omega) (HB1.out.ok q (by omega)) (by decide)); clear hrc6 hnk6) | (go_at_call 12; (with_reducible refine HT6.out.mono ?_); rintro e w7 ⟨a7, m7, c7, rfl, hk7, HR7, HO7, HV7, HM7⟩; have HMY := Lib.hid (HM7.out 5 (by decide)); have HN7 := Lib.hid (HN6.out.trans (NK.ofKeep hk7)); clear hk7 HM7) | (go_at_call 11; (with_reducible refine HMY.out.mono ?_); rintro e w8 ⟨rfl, hrc8, hnk8⟩; have HRC8 := Lib.hid hrc8; have HN8 := Lib.hid (HN7.out.trans hnk8); have cz := ptrsAt HO4.out HN8.out 0 (by decide); have HT8 := Lib.hid (told hrc8 (j := 0) (by decide) (HB2.out.ok 0 (by decide)) (by decide)); clear hrc8 hnk8) | (go_at_call 12; (with_reducible refine HT8.out.mono ?_); rintro e w9 ⟨a9, m9, c9, rfl, hk9, HR9, HO9, HV9, HM9⟩; have HMZ := Lib.hid (HM9.out 4 (by decide)); have HN9 := Lib.hid (HN8.out.trans (NK.ofKeep hk9)); clear hk9 HM9) | (go_at_call 11; (with_reducible refine HMZ.out.mono ?_); rintro e wa ⟨rfl, hrca, hnka⟩; have HRCA := Lib.hid hrca; have HNA := Lib.hid (HN9.out.trans hnka); clear hrca hnka))
        exact ⟨⟨k + 1, _, by omega, by go_num, HRCA, HNA, HB4⟩, by simp [intOf]; omega⟩
      · have hbe : ((k : Int) == (qx : Int)) = false := by rw [beq_eq_false_iff_ne]; omega
        clear hkq
        go_wp2_with (first | (with_reducible refine Txt.wp_region_text mixed quiet (by decide +kernel) ?_) | (with_reducible refine Txt.text_done (by kernel_rfl) ?_) | (go_at_call 10; (with_reducible refine (rest_at HQX (by decide) (by decide)).mono ?_); rintro e w' ⟨rfl, rfl⟩) | (go_at_call 12; (with_reducible refine HT.out.mono ?_); rintro e w5 ⟨a5, m5, c5, rfl, hk5, HR5, HO5, HV5, HM5⟩; have HMX := Lib.hid (HM5.out 4 (by decide)); have HN5 := Lib.hid (HNK.out.trans (NK.ofKeep hk5)); clear hk5 HM5) | (go_at_call 11; (with_reducible refine HMX.out.mono ?_); rintro e w6 ⟨rfl, hrc6, hnk6⟩; have HRC6 := Lib.hid hrc6; have HN6 := Lib.hid (HN5.out.trans hnk6); have cq := ptrsAt HO4.out HN6.out q hq4; have HT6 := Lib.hid (told hrc6 (j := q) (by omega) (HB1.out.ok q (by omega)) (by decide)); clear hrc6 hnk6) | (go_at_call 12; (with_reducible refine HT6.out.mono ?_); rintro e w7 ⟨a7, m7, c7, rfl, hk7, HR7, HO7, HV7, HM7⟩; have HMY := Lib.hid (HM7.out 5 (by decide)); have HN7 := Lib.hid (HN6.out.trans (NK.ofKeep hk7)); clear hk7 HM7) | (go_at_call 11; (with_reducible refine HMY.out.mono ?_); rintro e w8 ⟨rfl, hrc8, hnk8⟩; have HRC8 := Lib.hid hrc8; have HN8 := Lib.hid (HN7.out.trans hnk8); clear hrc8 hnk8))
        exact ⟨⟨k + 1, _, by omega, by go_num, HRC8, HN8, Lib.hid (HB1.out.stepB hq4 hqk)⟩, by simp [intOf]; omega⟩
    · have hdec : decide ((k : Int) < 4) = false := by simp; omega
      have HE := HB.out.eqs (by omega)
      have HOK5 := HB.out.ok 5 (by decide)
      have HT := Lib.hid (told HR.out (j := 5) (by decide) HOK5 (by decide))
      obtain ⟨S, hS⟩ : ∃ S, Go.upd st 5 (mergeR (st 5) (st 5).f) = S := ⟨_, rfl⟩
      have hS4 : (S 4).f = (st 5).f := by rw [← hS, upd_other (by decide)]; exact HE.1
      have hS5 : (S 5).f = (st 5).f := by rw [← hS, upd_same]; exact HE.2
      have HF4 : Hid (MOk (S 4).f 150) := Lib.hid (hS4 ▸ HOK5)
      have HF5 : Hid (MOk (S 5).f 150) := Lib.hid (hS5 ▸ HOK5)
      have HEQ : Hid (decide (rows (S 4).f = rows (S 5).f) = true) := Lib.hid (decide_eq_true (by rw [hS4, hS5]))
      have HEQ2 : Hid (decide (alls (rows (S 4).f) = alls (rows (S 5).f)) = true) := Lib.hid (decide_eq_true (by rw [hS4, hS5]))
      have HSS := Lib.hid hS
      clear hS hS4 hS5 HE HOK5 hk hlt
      go_wp2_with (first | (with_reducible refine Txt.wp_region_text mixed quiet (by decide +kernel) ?_) | (with_reducible refine Txt.text_done (by kernel_rfl) ?_) | (go_at_call 12; (with_reducible refine HT.out.mono ?_); rintro e w5 ⟨a5, m5, c5, rfl, hk5, HR5, HO5, HV5, HM5⟩; have hmx := HM5.out 5 (by decide); rw [HSS.out] at hmx; have HMX := Lib.hid hmx; clear hk5 HM5 hmx) | (go_at_call 11; (with_reducible refine HMX.out.mono ?_); rintro e w6 ⟨rfl, hrc6, -⟩; have HT4 := Lib.hid (told hrc6 (j := 4) (by decide) HF4.out (by decide)); clear hrc6 HT) | (go_at_call 12; (with_reducible refine HT4.out.mono ?_); rintro e w7 ⟨a7, m7, c7, rfl, hk7, HR7, HO7, HV7, HM7⟩; have HT5 := Lib.hid (told HR7.out (j := 5) (by decide) HF5.out (by decide)); clear hk7 HM7) | (go_at_call 12; (with_reducible refine HT5.out.mono ?_); rintro e w8 ⟨a8, m8, c8, rfl, hk8, HR8, HO8, HV8, HM8⟩; have HV7' := Lib.hid (HV7.out.keep rc_len hk8 (by simp)); clear hk8 HM8) | (go_at_call 16; (with_reducible refine (equal16_any HV7'.out HV8.out).mono ?_); rintro e w9 ⟨rfl, hk9⟩; rw [HEQ.out]; have HA4 := Lib.hid (alled (HR8.out.kept hk9) (j := 4) (by decide)); clear hk9) | (go_at_call 19; (with_reducible refine HA4.out.mono ?_); rintro e wa ⟨aa, ma, ca, rfl, hka, HRa, HOa, HVa⟩; have HA5 := Lib.hid (alled HRa.out (j := 5) (by decide)); clear hka) | (go_at_call 19; (with_reducible refine HA5.out.mono ?_); rintro e wb ⟨ab, mb, cb, rfl, hkb, HRb, HOb, HVb⟩; have HVa' := Lib.hid (HVa.out.keep ac_len hkb (by simp)); clear hkb) | (go_at_call 18; (with_reducible refine (equal18_any HVa'.out HVb.out).mono ?_); rintro e wc ⟨rfl, hkc⟩; rw [HEQ2.out]; have HRZ := Lib.hid (HRb.out.kept hkc); clear hkc))
      go_ret
      exact ⟨rfl, HK1.out.trans HRZ.out.keep⟩
end Go.Proofs.Ytfgdgdjdlnchlaa
/- NamesLast. -/
namespace Go.Proofs.Ytfgdgdjdlnchlaa
open Go.RowKit
open Go.Nm
theorem eltOwn {w : World} {B m c : Nat} {a : Option Addr} {l : List (Fin 7 × T)} (h : w.ownsRow B 40 4 (.slice a m c) m (l.flatMap rc)) : EltV rc 4 w a m c l := by
  obtain ⟨a', c', he, hv, -⟩ := EltV.ofOwn rc_len (by decide) h
  injection he with h1 _ h2
  rw [h1, h2]
  exact hv
/-- What the one who asks all comes to know of 'a'. -/
structure CInv (h k : Nat) (st : Nat → Reg) : Prop where
  ok : SOk 3 st 150
  low : ∀ j t, j < 3 → (j < k ∨ j = h) → (st j).f 0 = some t → t.count ≤ (st h).count
theorem CInv.start {h : Nat} {st : Nat → Reg} (hs : SOk 3 st 150) : CInv h 0 st :=
  ⟨hs, fun j t hj hc ht => by
    rcases hc with hc | rfl
    · omega
    · exact ((hs j hj).1.ok.at' _ _ ht).2.1.2⟩
theorem CInv.step {h k : Nat} {st : Nat → Reg} (hc : CInv h k st) (hh : h < 3) (hk : k < 3) : CInv h (k + 1) (Go.upd st h (mergeR (st h) (st k).f)) := by
  have hok := hc.ok.told hh hk
  have hm := most_le (hc.ok h hh).1.hi ((hc.ok k hk).1.ok.mono (hc.ok k hk).1.hi)
  refine ⟨hok, fun j t hj hjk ht => ?_⟩
  by_cases e : j = h
  · subst e
    exact ((hok j hj).1.ok.at' _ _ ht).2.1.2
  · rw [upd_other e] at ht
    rw [upd_same]
    show t.count ≤ most (st h).count (rows (st k).f)
    by_cases ek : j = k
    · subst ek
      exact hm.2.2 0 t ht
    · exact Int.le_trans (hc.low j t hj (.inl (by omega)) ht) hm.2.1
/-- What all come to know of 'a'. -/
structure DInv (h k : Nat) (t : T) (st : Nat → Reg) : Prop where
  ok : ∀ i, i < 3 → MOk (st i).f 200 ∧ 0 ≤ (st i).count ∧ (st i).count ≤ 200
  at' : ∀ i, i < 3 → (st i).f 0 = some t ∨ ∀ u, (st i).f 0 = some u → u.count < t.count
  own : (st h).f 0 = some t
theorem join_T {o : Option T} {t : T} (h : o = some t ∨ ∀ u, o = some u → u.count < t.count) : join o (some t) = some t ∧ join (some t) o = some t := by
  have h1 : join o (some t) = some t := by
    rcases h with rfl | h
    · exact join_self _
    · cases o with
      | none => rfl
      | some u =>
        have := h u rfl
        show (if wins t u then some t else some u) = some t
        rw [if_pos (wins_iff.2 (.inl this))]
  exact ⟨h1, (join_comm _ _).trans h1⟩
theorem DInv.step {h k : Nat} {t : T} {st : Nat → Reg} (hd : DInv h k t st) (hh : h < 3) (hk : k < 3) :
    DInv h (k + 1) t (Go.upd (Go.upd st k (mergeR (st k) (st h).f)) k (mergeR (Go.upd st k (mergeR (st k) (st h).f) k) (st k).f)) ∧ (Go.upd (Go.upd st k (mergeR (st k) (st h).f)) k (mergeR (Go.upd st k (mergeR (st k) (st h).f) k) (st k).f) k).f 0 = some t := by
  have hj := join_T (hd.at' k hk)
  have e1 : (Go.upd (Go.upd st k (mergeR (st k) (st h).f)) k (mergeR (Go.upd st k (mergeR (st k) (st h).f) k) (st k).f) k).f 0 = some t := by
    rw [upd_same, upd_same]
    show join (join ((st k).f 0) ((st h).f 0)) ((st k).f 0) = some t
    rw [hd.own, hj.1, hj.2]
  have hlo : ∀ (m : Int) (g : F), 0 ≤ m → m ≤ 200 → MOk g 200 → 0 ≤ most m (rows g) ∧ most m (rows g) ≤ 200 := fun m g h0 h1 h2 => by
    have := most_le h1 h2
    omega
  refine ⟨⟨fun i hi => ?_, fun i hi => ?_, ?_⟩, e1⟩
  · by_cases e : i = k
    · subst e
      rw [upd_same, upd_same]
      obtain ⟨a1, a2, a3⟩ := hd.ok i hi
      obtain ⟨b1, b2, b3⟩ := hd.ok h hh
      have c1 := hlo (st i).count (st h).f a2 a3 b1
      have c2 := hlo (most (st i).count (rows (st h).f)) (st i).f c1.1 c1.2 a1
      exact ⟨(a1.merge b1).merge a1, c2⟩
    · rw [upd_other e, upd_other e]; exact hd.ok i hi
  · by_cases e : i = k
    · subst e; exact .inl e1
    · rw [upd_other e, upd_other e]; exact hd.at' i hi
  · by_cases e : h = k
    · subst e; exact e1
    · rw [upd_other e, upd_other e]; exact hd.own
def XD (r : Reg) (ref : Int) (d : Bool) : Reg := if d = true then wr (wr r 0 ref) 0 0 else wr r 0 ref
def TD (r : Reg) (ref : Int) (d : Bool) : T := if d = true then ⟨0, r.count + 1 + 1, r.node⟩ else ⟨ref, r.count + 1, r.node⟩
theorem XD_f (r : Reg) (ref : Int) (d : Bool) : (XD r ref d).f 0 = some (TD r ref d) := by
  unfold XD TD wr setF
  cases d <;> simp
theorem DInv.start {h k : Nat} {st : Nat → Reg} (hc : CInv h 3 st) (hh : h < 3) {ref : Int} (hr : 1 ≤ ref ∧ ref ≤ 1000) (d : Bool) : DInv h k (TD (st h) ref d) (Go.upd st h (XD (st h) ref d)) := by
  have hk := (hc.ok h hh).1
  have hlo := hk.lo
  have hhi := hk.hi
  have hX : ROk (XD (st h) ref d) h 152 := by
    unfold XD
    cases d
    · exact (hk.write (by omega) 0 (ref := ref) ⟨by omega, hr.2⟩).mono (by decide)
    · exact ((hk.write (by omega) 0 (ref := ref) ⟨by omega, hr.2⟩).write (by omega) 0 ⟨by decide, by decide⟩).mono (by decide)
  refine ⟨fun i hi => ?_, fun i hi => ?_, ?_⟩
  · by_cases e : i = h
    · subst e; rw [upd_same]; exact ⟨hX.ok.mono (Int.le_trans hX.hi (by decide)), hX.lo, Int.le_trans hX.hi (by decide)⟩
    · rw [upd_other e]
      have h9 := (hc.ok i hi).1
      exact ⟨h9.ok.mono (Int.le_trans h9.hi (by decide)), h9.lo, Int.le_trans h9.hi (by decide)⟩
  · by_cases e : i = h
    · subst e; rw [upd_same]; exact .inl (XD_f _ _ _)
    · rw [upd_other e]
      refine .inr (fun u hu => ?_)
      have h9 := hc.low i u hi (.inl hi) hu
      unfold TD
      cases d
      · show u.count < (st h).count + 1; omega
      · show u.count < (st h).count + 1 + 1; omega
  · rw [upd_same]; exact XD_f _ _ _
theorem upd_upd (st : Nat → Reg) (i : Nat) (a b : Reg) : Go.upd (Go.upd st i a) i b = Go.upd st i b := by
  funext j
  unfold Go.upd
  split <;> rfl
set_option maxRecDepth 100000 in
set_option maxHeartbeats 8000000 in
theorem namesLast_walk (ap : Option Addr) (len cap : Nat) (zs : List Int) (who ref : Int) (d : Bool) (w : World) (hz : IntsV w ap len cap zs) :
    Calls Try.prog 3 #[.slice ap len cap, .int .i64 who, .int .i64 ref, .bool d] w fun e w' => e = .returned (.bool true) ∧ Keep [] w w' := by
  have HZ := Lib.hid hz
  obtain ⟨h, hh, hh3⟩ := rest_nat who 3 (by omega)
  have HH := Lib.hid hh
  obtain ⟨qr, hqr, hq900⟩ := rest_nat ref 900 (by omega)
  have HQR := Lib.hid hqr
  have hh3' : h < 3 := by omega
  clear hz hh hqr
  go_enter Try.func3, Try.ntmps3
  go_upto_region 7 with (first | (with_reducible refine Txt.wp_region_text mixed quiet (by decide +kernel) ?_) | (with_reducible refine Txt.text_done (by kernel_rfl) ?_) | (go_at_call 8; (with_reducible refine begun8_any.mono ?_); rintro e w1 ⟨rfl, hk1⟩; have HK1 := Lib.hid hk1; clear hk1) | (go_at_call 9; (with_reducible refine (register9_at 3 3 rfl (by decide) (by decide) (HZ.out.keep HK1.out (by simp))).mono ?_); rintro e w2 ⟨v, ps, st0, rfl, hrc, ho, hs⟩; obtain ⟨a, c, rfl, hc1, hc2, hcell⟩ := own_ptrs ho; obtain ⟨g, rfl, -⟩ := hcell (by decide); have HRC := Lib.hid hrc; have HO := Lib.hid ho; have HS := Lib.hid hs; clear hcell hrc ho hs) | (go_at_call 10; (with_reducible refine (rest_at HH (by decide) (by decide)).mono ?_); rintro e w' ⟨rfl, rfl⟩) | (go_at_call 10; (with_reducible refine (rest_at HQR (by decide) (by decide)).mono ?_); rintro e w' ⟨rfl, rfl⟩))
  have ch := ptrsAt HO.out (NK.refl _) h hh3'
  go_wp2_with (first | (with_reducible refine Txt.wp_region_text mixed quiet (by decide +kernel) ?_) | (with_reducible refine Txt.text_done (by kernel_rfl) ?_))
  clear ch
  go_loopw [39] (fun j wr => ∃ (k : Nat) (st : Nat → Reg), k ≤ 3 ∧ j = .int .i64 k ∧ Hid (RC w1 3 ps st wr) ∧ Hid (NK w2 wr) ∧ Hid (CInv h k st)) (fun j _ => 3 - (intOf j).toNat)
  case atStart => exact ⟨0, st0, by omega, rfl, HRC, Lib.hid (NK.refl _), Lib.hid (CInv.start HS.out)⟩
  case round =>
    obtain ⟨k, st, hk, rfl, HR, HNK, HC⟩ := hrel
    by_cases hlt : k < 3
    · have hdec : decide ((k : Int) < 3) = true := by simp; omega
      have ck := ptrsAt HO.out HNK.out k hlt
      have HT := Lib.hid (told HR.out hlt (HC.out.ok k hlt).1.ok (Int.le_trans (HC.out.ok k hlt).1.hi (by decide)))
      go_wp2_with (first | (with_reducible refine Txt.wp_region_text mixed quiet (by decide +kernel) ?_) | (with_reducible refine Txt.text_done (by kernel_rfl) ?_) | (go_at_call 12; (with_reducible refine HT.out.mono ?_); rintro e w3 ⟨a3, m3, c3, rfl, hk3, HR3, HO3, HV3, HM3⟩; have HMX := Lib.hid (HM3.out h hh3'); have HK3 := Lib.hid hk3; clear hk3) | (go_at_call 11; (with_reducible refine HMX.out.mono ?_); rintro e w4 ⟨rfl, hrc4, hnk4⟩; have HRC4 := Lib.hid hrc4; have HNK4 := Lib.hid ((HNK.out.trans (NK.ofKeep HK3.out)).trans hnk4); clear hrc4 hnk4))
      exact ⟨⟨k + 1, _, by omega, by go_num, HRC4, HNK4, Lib.hid (HC.out.step hh3' hlt)⟩, by simp [intOf]; omega⟩
    · have hdec : decide ((k : Int) < 3) = false := by simp; omega
      have HC3 : Hid (CInv h 3 st) := Lib.hid (by
        obtain rfl : k = 3 := by omega
        exact HC.out)
      have hb := (HC.out.ok h hh3').1
      have hlo := hb.lo
      have hhi := hb.hi
      have HD := Lib.hid (DInv.start (k := 0) HC3.out hh3' (ref := 1 + (qr : Int)) ⟨by omega, by omega⟩ d)
      have hset := set13_any HR.out hh3' 0 (1 + (qr : Int)) ⟨hlo, by omega⟩ (by omega)
      have hnm : encStr (nm 0) = .string ⟨#[97]⟩ := rfl
      rw [hnm] at hset
      have HSET := Lib.hid hset
      have hpos : 0 < 1 + (qr : Int) := by omega
      have HFW := Lib.hid (foundW (st h) 0 hpos)
      clear hb hset hk hlt hpos
      cases d with
      | false =>
        have hxd : Ytfgdgdjdlnchlaa.wr (st h) 0 (1 + (qr : Int)) = XD (st h) (1 + (qr : Int)) false := rfl
        rw [hxd] at HSET
        obtain ⟨st1, hst1⟩ : ∃ st1, Go.upd st h (XD (st h) (1 + (qr : Int)) false) = st1 := ⟨_, rfl⟩
        rw [hst1] at HD HSET
        obtain ⟨t, ht⟩ : ∃ t, TD (st h) (1 + (qr : Int)) false = t := ⟨_, rfl⟩
        rw [ht] at HD
        have hqp : 1 + (qr : Int) > 0 := by omega
        have HFT : Hid (findR (some t) = (1 + (qr : Int), 0)) := Lib.hid (by rw [← ht]; unfold TD findR; simp; omega)
        clear hst1 ht hxd hlo hhi hqp
        go_wp2_with (first | (with_reducible refine Txt.wp_region_text mixed quiet (by decide +kernel) ?_) | (with_reducible refine Txt.text_done (by kernel_rfl) ?_) | (go_at_call 13; (with_reducible refine HSET.out.mono ?_); rintro e w5 ⟨rfl, hrc5, hnk5⟩; have HR5 := Lib.hid hrc5; have HN5 := Lib.hid (HNK.out.trans hnk5); clear hrc5 hnk5))
        clear HSET HFW HC HC3 HR HNK
        go_loopw [63] (fun j wr => ∃ (i : Nat) (sti : Nat → Reg), i ≤ 3 ∧ j = .int .i64 i ∧ Hid (RC w1 3 ps sti wr) ∧ Hid (NK w2 wr) ∧ Hid (DInv h i t sti)) (fun j _ => 3 - (intOf j).toNat)
        case atStart => exact ⟨0, st1, by omega, rfl, HR5, HN5, HD⟩
        case round =>
          obtain ⟨i, sti, hi, rfl, HRi, HNi, HDi⟩ := hrel
          by_cases hit : i < 3
          · have hdeci : decide ((i : Int) < 3) = true := by simp; omega
            have ci := ptrsAt HO.out HNi.out i hit
            obtain ⟨ok1, ok2, ok3⟩ := HDi.out.ok i hit
            obtain ⟨okh, -, -⟩ := HDi.out.ok h hh3'
            have HOK1 := Lib.hid ok1
            have HT := Lib.hid (told HRi.out hit ok1 (by decide))
            have HTH := Lib.hid (fun W (hk : Keep [] wr W) => told (HRi.out.kept hk) hh3' okh (by decide))
            obtain ⟨hd1, hd2⟩ := HDi.out.step hh3' hit
            obtain ⟨stn, hstn⟩ : ∃ stn, Go.upd (Go.upd sti i (mergeR (sti i) (sti h).f)) i (mergeR (Go.upd sti i (mergeR (sti i) (sti h).f) i) (sti i).f) = stn := ⟨_, rfl⟩
            rw [hstn] at hd1 hd2
            have HDN := Lib.hid hd1
            have HFN := Lib.hid hd2
            have HST := Lib.hid hstn
            clear ok1 ok2 ok3 okh hd1 hd2 hstn
            go_wp2_with (first | (with_reducible refine Txt.wp_region_text mixed quiet (by decide +kernel) ?_) | (with_reducible refine Txt.text_done (by kernel_rfl) ?_) | (go_at_call 12; (with_reducible refine HT.out.mono ?_); rintro e w6 ⟨a6, m6, c6, rfl, hk6, -, HO6, -, -⟩; have HK6 := Lib.hid hk6; clear hk6 HT) | (go_at_call 12; (with_reducible refine (HTH.out _ HK6.out).mono ?_); rintro e w7 ⟨a7, m7, c7, rfl, hk7, HR7, -, -, HM7⟩; have HMX := Lib.hid (HM7.out i hit); have HK7 := Lib.hid (HK6.out.trans hk7); have HO67 := Lib.hid ((NK.ofKeep hk7).own (by decide) HO6.out); clear hk7 HM7) | (go_at_call 11; (with_reducible refine HMX.out.mono ?_); rintro e w8 ⟨rfl, hrc8, hnk8⟩; have hm8 := merge11_any hrc8 hit (eltOwn (hnk8.own (by decide) HO67.out)) HOK1.out (by decide); rw [HST.out] at hm8; have HM8 := Lib.hid hm8; have HN8 := Lib.hid ((HNi.out.trans (NK.ofKeep HK7.out)).trans hnk8); clear hrc8 hnk8 hm8 HMX) | (go_at_call 11; (with_reducible refine HM8.out.mono ?_); rintro e w9 ⟨rfl, hrc9, hnk9⟩; have HR9 := Lib.hid hrc9; have HN9 := Lib.hid (HN8.out.trans hnk9); have hf9 := find15_any hrc9 hit 0; rw [HFN.out, HFT.out, hnm] at hf9; have HF9 := Lib.hid hf9; clear hrc9 hnk9 hf9) | (go_at_call 15; (with_reducible refine HF9.out.mono ?_); rintro e wa ⟨rfl, hka⟩; have HRA := Lib.hid (HR9.out.kept hka); have HNA := Lib.hid (HN9.out.trans (NK.ofKeep hka)); clear hka))
            exact ⟨⟨i + 1, stn, by omega, by go_num, HRA, HNA, HDN⟩, by simp [intOf]; omega⟩
          · have hdeci : decide ((i : Int) < 3) = false := by simp; omega
            go_wp2_with (first | (with_reducible refine Txt.wp_region_text mixed quiet (by decide +kernel) ?_) | (with_reducible refine Txt.text_done (by kernel_rfl) ?_))
            go_ret
            exact ⟨rfl, HK1.out.trans HRi.out.keep⟩
      | true =>
        obtain ⟨st1, hst1⟩ : ∃ st1, Go.upd st h (XD (st h) (1 + (qr : Int)) true) = st1 := ⟨_, rfl⟩
        have HDR : Hid (∀ W, RC w1 3 ps (Go.upd st h (Ytfgdgdjdlnchlaa.wr (st h) 0 (1 + (qr : Int)))) W → Calls Try.prog 14 #[.pointer (some ⟨ps h, 0, none⟩), .string ⟨#[97]⟩] W fun e w' => e = .returned (.int .i64 0) ∧ RC w1 3 ps st1 w' ∧ NK W w') := Lib.hid (fun W hW => by
          have h9 := drop14_any hW hh3' 0 (by rw [upd_same]; exact ⟨by show 0 ≤ (st h).count + 1; omega, by show (st h).count + 1 ≤ 1000000; omega⟩)
          have h8 : dropR (Ytfgdgdjdlnchlaa.wr (st h) 0 (1 + (qr : Int))) 0 = XD (st h) (1 + (qr : Int)) true := by
            unfold dropR
            rw [HFW.out, if_pos rfl]
            rfl
          rw [upd_same, HFW.out, h8, upd_upd, hst1, hnm] at h9
          exact h9)
        rw [hst1] at HD
        obtain ⟨t, ht⟩ : ∃ t, TD (st h) (1 + (qr : Int)) true = t := ⟨_, rfl⟩
        rw [ht] at HD
        have HFT : Hid (findR (some t) = (0, 4)) := Lib.hid (by rw [← ht]; rfl)
        clear hst1 ht hlo hhi
        go_wp2_with (first | (with_reducible refine Txt.wp_region_text mixed quiet (by decide +kernel) ?_) | (with_reducible refine Txt.text_done (by kernel_rfl) ?_) | (go_at_call 13; (with_reducible refine HSET.out.mono ?_); rintro e w4 ⟨rfl, hrc4, hnk4⟩; have HD4 := Lib.hid (HDR.out _ hrc4); have HN4 := Lib.hid (HNK.out.trans hnk4); clear hrc4 hnk4) | (go_at_call 14; (with_reducible refine HD4.out.mono ?_); rintro e w5 ⟨rfl, hrc5, hnk5⟩; have HR5 := Lib.hid hrc5; have HN5 := Lib.hid (HN4.out.trans hnk5); clear hrc5 hnk5))
        clear HSET HFW HC HC3 HR HNK
        go_loopw [63] (fun j wr => ∃ (i : Nat) (sti : Nat → Reg), i ≤ 3 ∧ j = .int .i64 i ∧ Hid (RC w1 3 ps sti wr) ∧ Hid (NK w2 wr) ∧ Hid (DInv h i t sti)) (fun j _ => 3 - (intOf j).toNat)
        case atStart => exact ⟨0, st1, by omega, rfl, HR5, HN5, HD⟩
        case round =>
          obtain ⟨i, sti, hi, rfl, HRi, HNi, HDi⟩ := hrel
          by_cases hit : i < 3
          · have hdeci : decide ((i : Int) < 3) = true := by simp; omega
            have ci := ptrsAt HO.out HNi.out i hit
            obtain ⟨ok1, ok2, ok3⟩ := HDi.out.ok i hit
            obtain ⟨okh, -, -⟩ := HDi.out.ok h hh3'
            have HOK1 := Lib.hid ok1
            have HT := Lib.hid (told HRi.out hit ok1 (by decide))
            have HTH := Lib.hid (fun W (hk : Keep [] wr W) => told (HRi.out.kept hk) hh3' okh (by decide))
            obtain ⟨hd1, hd2⟩ := HDi.out.step hh3' hit
            obtain ⟨stn, hstn⟩ : ∃ stn, Go.upd (Go.upd sti i (mergeR (sti i) (sti h).f)) i (mergeR (Go.upd sti i (mergeR (sti i) (sti h).f) i) (sti i).f) = stn := ⟨_, rfl⟩
            rw [hstn] at hd1 hd2
            have HDN := Lib.hid hd1
            have HFN := Lib.hid hd2
            have HST := Lib.hid hstn
            clear ok1 ok2 ok3 okh hd1 hd2 hstn
            go_wp2_with (first | (with_reducible refine Txt.wp_region_text mixed quiet (by decide +kernel) ?_) | (with_reducible refine Txt.text_done (by kernel_rfl) ?_) | (go_at_call 12; (with_reducible refine HT.out.mono ?_); rintro e w6 ⟨a6, m6, c6, rfl, hk6, -, HO6, -, -⟩; have HK6 := Lib.hid hk6; clear hk6 HT) | (go_at_call 12; (with_reducible refine (HTH.out _ HK6.out).mono ?_); rintro e w7 ⟨a7, m7, c7, rfl, hk7, HR7, -, -, HM7⟩; have HMX := Lib.hid (HM7.out i hit); have HK7 := Lib.hid (HK6.out.trans hk7); have HO67 := Lib.hid ((NK.ofKeep hk7).own (by decide) HO6.out); clear hk7 HM7) | (go_at_call 11; (with_reducible refine HMX.out.mono ?_); rintro e w8 ⟨rfl, hrc8, hnk8⟩; have hm8 := merge11_any hrc8 hit (eltOwn (hnk8.own (by decide) HO67.out)) HOK1.out (by decide); rw [HST.out] at hm8; have HM8 := Lib.hid hm8; have HN8 := Lib.hid ((HNi.out.trans (NK.ofKeep HK7.out)).trans hnk8); clear hrc8 hnk8 hm8 HMX) | (go_at_call 11; (with_reducible refine HM8.out.mono ?_); rintro e w9 ⟨rfl, hrc9, hnk9⟩; have HR9 := Lib.hid hrc9; have HN9 := Lib.hid (HN8.out.trans hnk9); have hf9 := find15_any hrc9 hit 0; rw [HFN.out, HFT.out, hnm] at hf9; have HF9 := Lib.hid hf9; clear hrc9 hnk9 hf9) | (go_at_call 15; (with_reducible refine HF9.out.mono ?_); rintro e wa ⟨rfl, hka⟩; have HRA := Lib.hid (HR9.out.kept hka); have HNA := Lib.hid (HN9.out.trans (NK.ofKeep hka)); clear hka))
            exact ⟨⟨i + 1, stn, by omega, by go_num, HRA, HNA, HDN⟩, by simp [intOf]; omega⟩
          · have hdeci : decide ((i : Int) < 3) = false := by simp; omega
            go_wp2_with (first | (with_reducible refine Txt.wp_region_text mixed quiet (by decide +kernel) ?_) | (with_reducible refine Txt.text_done (by kernel_rfl) ?_))
            go_ret
            exact ⟨rfl, HK1.out.trans HRi.out.keep⟩
end Go.Proofs.Ytfgdgdjdlnchlaa
/- NamesApart. -/
namespace Go
open Go.RowKit
open Go.Nm
theorem keep_drewN {S : List Nat} {w w' : World} (h : Keep S w w') (q : Nat) : Keep S w (w'.drewN q) := by
  induction q with
  | zero => exact h
  | succ q ih => exact ih.drew
theorem rows_six {f : F} (h : f 6 = none) (t : T) : rows (setF f 6 t) = rows f ++ [((6 : Fin 7), t)] := by
  unfold rows
  have e : List.finRange 7 = [(0 : Fin 7), 1, 2, 3, 4, 5] ++ [6] := by decide
  rw [e, List.filterMap_append, List.filterMap_append]
  have h6 : [(6 : Fin 7)].filterMap (fun i => (f i).map (fun t => (i, t))) = [] := by simp [h]
  rw [h6, List.append_nil]
  have h7 : [(6 : Fin 7)].filterMap (fun i => (setF f 6 t i).map (fun t => (i, t))) = [((6 : Fin 7), t)] := by simp [setF]
  rw [h7]
  congr 1
theorem alls_app (l : List (Fin 7 × T)) (i : Fin 7) (t : T) : alls (l ++ [(i, t)]) = alls l ++ (if t.ref > 0 then [(i, t.ref)] else []) := by
  unfold alls
  rw [List.filter_append, List.map_append]
  congr 1
  by_cases hp : t.ref > 0
  · rw [if_pos hp, List.filter_cons_of_pos (by simpa using hp)]; rfl
  · rw [if_neg hp, List.filter_cons_of_neg (by simpa using hp)]; rfl
theorem EltV.init {α : Type} {C : α → List Value} {k : Nat} {w : World} {a : Option Addr} {n c : Nat} {l : List α} {x : α} (hC : ∀ x, (C x).length = k) (h : EltV C k w a (n + 1) c (l ++ [x])) : EltV C k w a n c l := by
  have hl := h.len
  rw [List.length_append, List.length_singleton] at hl
  refine ⟨by omega, by have := h.room; omega, h.most, fun hn => ?_⟩
  obtain ⟨b, off, rfl, hc⟩ := h.cells (by omega)
  refine ⟨b, off, rfl, fun j hj => ?_⟩
  have hln : l.length = n := by omega
  rw [hc j (by rw [Nat.add_mul]; omega), List.flatMap_append, List.getElem?_append_left (by rw [flat_len hC, hln]; exact hj)]
theorem setF_setF (f : F) (i : Fin 7) (t u : T) : setF (setF f i t) i u = setF f i u := by
  funext j
  unfold setF
  split <;> rfl
end Go
namespace Go.Proofs.Ytfgdgdjdlnchlaa
open Go.RowKit
open Go.Nm
theorem altOwn {w : World} {B m c : Nat} {a : Option Addr} {l : List (Fin 7 × Int)} (h : w.ownsRow B 47 2 (.slice a m c) m (l.flatMap ac)) : EltV ac 2 w a m c l := by
  obtain ⟨a', c', he, hv, -⟩ := EltV.ofOwn ac_len (by decide) h
  injection he with h1 _ h2
  rw [h1, h2]
  exact hv
set_option maxRecDepth 100000 in
set_option maxHeartbeats 4000000 in
theorem equal18_w {w : World} {a1 a2 : Option Addr} {n c1 m c2 : Nat} {xs ys : List (Fin 7 × Int)} (h1 : EltV ac 2 w a1 n c1 xs) (h2 : EltV ac 2 w a2 m c2 ys) :
    Calls Try.prog 18 #[.slice a1 n c1, .slice a2 m c2] w fun e w' => e = .returned (.bool (decide (xs = ys))) ∧ ∃ d, w' = w.drewN d := by
  have HX := Lib.hid h1
  have HY := Lib.hid h2
  have HL1 := Lib.hid h1.len
  have HL2 := Lib.hid h2.len
  have r1 := h1.room
  have m1 := h1.most
  have r2 := h2.room
  have m2 := h2.most
  have h9 : maxLen = 9223372036854775807 := rfl
  rw [h9] at m1 m2
  clear h9
  by_cases hnm : n = m
  · subst hnm
    clear h1 h2
    go_enter Try.func18, Try.ntmps18
    go_wp2_with fail
    go_loopw [13] (fun i wr => ∃ k : Nat, k ≤ n ∧ i = .int .i64 k ∧ Hid (xs.take k = ys.take k) ∧ Hid (∃ d, wr = w.drewN d)) (fun i _ => n - (intOf i).toNat)
    case atStart => exact ⟨0, by omega, rfl, Lib.hid (by simp), Lib.hid ⟨0, rfl⟩⟩
    case round =>
      obtain ⟨k, hk, rfl, HT, HK⟩ := hrel
      obtain ⟨d, rfl⟩ := HK.out
      by_cases hlt : k < n
      · obtain ⟨x, hx⟩ : ∃ x, xs[k]? = some x := ⟨_, List.getElem?_eq_getElem (by rw [HL1.out]; exact hlt)⟩
        obtain ⟨y, hy⟩ : ∃ y, ys[k]? = some y := ⟨_, List.getElem?_eq_getElem (by rw [HL2.out]; exact hlt)⟩
        obtain ⟨b, off, rfl, hgx⟩ := HX.out.at_ ac_len hx
        obtain ⟨b', off', rfl, hgy⟩ := HY.out.at_ ac_len hy
        have HXX := Lib.hid hx
        have HYY := Lib.hid hy
        obtain ⟨s, hs⟩ : ∃ s : ByteArray, encStr (nm x.1) = .string s := ⟨_, rfl⟩
        obtain ⟨s', hs'⟩ : ∃ s : ByteArray, encStr (nm y.1) = .string s := ⟨_, rfl⟩
        have e0 := hgx 0 (by decide)
        have d0 := hgy 0 (by decide)
        have e1 := hgx 1 (by decide)
        have d1 := hgy 1 (by decide)
        simp only [ac, hs, List.getElem?_cons_zero, List.getElem?_cons_succ, Nat.add_zero] at e0 e1
        simp only [ac, hs', List.getElem?_cons_zero, List.getElem?_cons_succ, Nat.add_zero] at d0 d1
        have hdec : decide ((k : Int) < (n : Int)) = true := by simp; omega
        have hss : s.toList = s'.toList ↔ x.1 = y.1 := sameStr hs hs'
        clear hx hy hgx hgy
        by_cases he : x = y
        · subst he
          have HT2 : Hid (xs.take (k + 1) = ys.take (k + 1)) := Lib.hid (by rw [List.take_add_one, List.take_add_one, HT.out, HXX.out, HYY.out])
          obtain rfl : s = s' := by injection (hs.symm.trans hs')
          obtain ⟨v0, hv0⟩ : ∃ v, x.2 = v := ⟨_, rfl⟩
          rw [hv0] at e1 d1
          clear hv0 hss hs hs'
          go_wp2_with fail
          go_region
          all_goals
            go_wp2_with fail
            exact ⟨⟨k + 1, hlt, by go_num, HT2, Lib.hid ⟨_, rfl⟩⟩, by simp [intOf]; omega⟩
        · have HNE : Hid (decide (xs = ys) = false) := Lib.hid (decide_eq_false (fun e => he (by have := HXX.out; rw [e, HYY.out] at this; injection this with this; exact this.symm)))
          obtain ⟨b0, hb0⟩ : ∃ b0, (s.toList == s'.toList) = b0 := ⟨_, rfl⟩
          obtain ⟨v0, hv0⟩ : ∃ v, x.2 = v := ⟨_, rfl⟩
          obtain ⟨u0, hu0⟩ : ∃ u, y.2 = u := ⟨_, rfl⟩
          obtain ⟨b1, hb1⟩ : ∃ b, (v0 == u0) = b := ⟨_, rfl⟩
          have hb : (b0 && b1) = false := by
            rw [Bool.eq_false_iff]
            intro h
            simp only [Bool.and_eq_true] at h
            refine he (Prod.ext (hss.1 (eq_of_beq (hb0.trans h.1))) (by rw [hv0, hu0]; exact eq_of_beq (hb1.trans h.2)))
          have HB := Lib.hid hb
          rw [hv0] at e1
          rw [hu0] at d1
          clear he hb hss hs hs' hv0 hu0
          have leaf : True := trivial
          cases b0 <;> cases b1
          all_goals first
            | (have := HB.out; simp at this; done)
            | (go_wp2_with fail; go_region; all_goals (go_wp2_with fail; go_ret; exact ⟨ret_bool HNE.out.symm, ⟨_, rfl⟩⟩))
      · obtain rfl : k = n := by omega
        have HE : Hid (decide (xs = ys) = true) := Lib.hid (decide_eq_true (by have h := HT.out; rw [List.take_of_length_le (by rw [HL1.out]; exact Nat.le_refl _), List.take_of_length_le (by rw [HL2.out]; exact Nat.le_refl _)] at h; exact h))
        have hdec : decide ((k : Int) < (k : Int)) = false := by simp
        go_wp2_with fail
        go_ret
        exact ⟨ret_bool HE.out.symm, ⟨_, rfl⟩⟩
  · have HE : Hid (decide (xs = ys) = false) := Lib.hid (decide_eq_false (fun e => hnm (by rw [← HL1.out, ← HL2.out, e])))
    have hne : ((n : Int) != (m : Int)) = true := by simp; omega
    clear h1 h2
    go_enter Try.func18, Try.ntmps18
    go_wp2_with (first | (with_reducible refine Txt.wp_region_text mixed quiet (by decide +kernel) ?_) | (with_reducible refine Txt.text_done (by kernel_rfl) ?_))
    go_ret
    exact ⟨ret_bool HE.out.symm, ⟨0, rfl⟩⟩
theorem equal18_q {w : World} {a1 a2 : Option Addr} {n c1 k c2 m : Nat} {xs ys : List (Fin 7 × Int)} (h1 : EltV ac 2 w a1 n c1 xs) (h2 : EltV ac 2 w a2 k c2 ys) {b : Bool} (hb : Hid (decide (xs = ys) = b)) :
    Calls Try.prog 18 #[.slice a1 n c1, .slice a2 k c2] (w.drewN m) fun e w'' => e = .returned (.bool b) ∧ ∃ d, w'' = w.drewN d :=
  Calls.quiet_of ((equal18_w (h1.keep ac_len (keep_drewN (Keep.refl [] _) _) (by simp)) (h2.keep ac_len (keep_drewN (Keep.refl [] _) _) (by simp))).mono fun _ _ h => ⟨by rw [← hb.out]; exact h.1, h.2⟩)
theorem rest_q {k n q : Int} {w : World} {m : Nat} (h : Hid (restI k n = q)) (hn : 0 < n) (hn1 : n ≤ 1000000000) : Calls Try.prog 10 #[.int .i64 k, .int .i64 n] (w.drewN m) fun e w'' => e = .returned (.int .i64 q) ∧ ∃ d, w'' = w.drewN d :=
  Calls.quiet_of_same ((rest_at h hn hn1).mono fun _ _ h => ⟨h.1, h.2.symm⟩)
theorem apartA (r : Reg) (h : NZ r.f) (ref : Int) (hr : 0 < ref) : alls (rows (Ytfgdgdjdlnchlaa.wr r 6 ref).f) = alls (rows r.f) ++ [((6 : Fin 7), ref)] := by
  unfold Ytfgdgdjdlnchlaa.wr
  simp only
  rw [rows_six h.2, alls_app, if_pos hr]
theorem apartB (r : Reg) (h : NZ r.f) (ref : Int) : alls (rows (Ytfgdgdjdlnchlaa.wr (Ytfgdgdjdlnchlaa.wr r 6 ref) 6 0).f) = alls (rows r.f) := by
  unfold Ytfgdgdjdlnchlaa.wr
  simp only
  rw [setF_setF, rows_six h.2, alls_app, if_neg (by show ¬ (0 : Int) > 0; decide), List.append_nil]
theorem apartC (r : Reg) (ref : Int) (hr : 0 < ref) : dropR (Ytfgdgdjdlnchlaa.wr r 6 ref) 6 = Ytfgdgdjdlnchlaa.wr (Ytfgdgdjdlnchlaa.wr r 6 ref) 6 0 := by
  unfold dropR
  rw [foundW r 6 hr, if_pos rfl]
theorem apartD (r : Reg) : findR ((Ytfgdgdjdlnchlaa.wr r 6 0).f 6) = (0, 4) := by
  unfold Ytfgdgdjdlnchlaa.wr setF findR
  simp
set_option maxRecDepth 100000 in
set_option maxHeartbeats 8000000 in
theorem namesApart_walk (ap : Option Addr) (len cap : Nat) (zs : List Int) (ref : Int) (w : World) (hz : IntsV w ap len cap zs) :
    Calls Try.prog 6 #[.slice ap len cap, .int .i64 ref] w fun e w' => e = .returned (.bool true) ∧ Keep [] w w' := by
  have HZ := Lib.hid hz
  obtain ⟨qr, hqr, hq900⟩ := rest_nat ref 900 (by omega)
  have HQR := Lib.hid hqr
  have hnm : encStr (nm 6) = .string ⟨#[122, 122]⟩ := rfl
  have HPOS : Hid (0 < 1 + (qr : Int)) := Lib.hid (by omega)
  have HPOS1 : Hid (1 ≤ 1 + (qr : Int)) := Lib.hid (by omega)
  have hqr7 : 0 ≤ (qr : Int) := by omega
  clear hz hqr
  go_enter Try.func6, Try.ntmps6
  go_upto_region 10 with (first | (with_reducible refine Txt.wp_region_text mixed quiet (by decide +kernel) ?_) | (with_reducible refine Txt.text_done (by kernel_rfl) ?_) | (go_at_call 8; (with_reducible refine begun8_any.mono ?_); rintro e w1 ⟨rfl, hk1⟩; have HK1 := Lib.hid hk1; clear hk1) | (go_at_call 9; (with_reducible refine (register9_at 1 1 rfl (by decide) (by decide) (HZ.out.keep HK1.out (by simp))).mono ?_); rintro e w2 ⟨v, ps, st0, rfl, hrc, ho, hs⟩; obtain ⟨a, c, rfl, hc1, hc2, hcell⟩ := own_ptrs ho; obtain ⟨g, rfl, -⟩ := hcell (by decide); have c0 := ptrsAt ho (NK.refl _) 0 (by decide); have HO := Lib.hid ho; have HS := Lib.hid (hs 0 (by decide)); have HA1 := Lib.hid (alled hrc (j := 0) (by decide)); clear hcell hrc ho hs) | (go_at_call 19; (with_reducible refine HA1.out.mono ?_); rintro e w3 ⟨a1, m1, c1, rfl, hk3, HR3, HO3, HV3⟩; have HN3 := Lib.hid ((NK.ofKeep hk3).trans (NK.ofKeep ((Keep.refl [] w3).drew))); have c0' := ptrsAt HO.out (NK.ofKeep hk3) 0 (by decide); have hset := set13_any (HR3.out.kept ((Keep.refl [] w3).drew)) (i := 0) (by decide) 6 (1 + (qr : Int)) ⟨HS.out.1.lo, Int.le_trans HS.out.1.hi (by decide)⟩ HPOS1.out; rw [hnm] at hset; have HSET := Lib.hid hset; clear hk3 hset HA1) | (go_at_call 10; (with_reducible refine (rest_at HQR (by decide) (by decide)).mono ?_); rintro e w' ⟨rfl, rfl⟩) | (go_at_call 13; (with_reducible refine HSET.out.mono ?_); rintro e w4 ⟨rfl, hrc4, hnk4⟩; have HN4 := Lib.hid (HN3.out.trans hnk4); have HNO4 := Lib.hid ((NK.ofKeep ((Keep.refl [] w3).drew)).trans hnk4); have c0'' := ptrsAt HO.out HN4.out 0 (by decide); have ha2 := alled hrc4 (j := 0) (by decide); rw [upd_same, apartA _ HS.out.2 _ HPOS.out] at ha2; have HA2 := Lib.hid ha2; clear hrc4 hnk4 ha2) | (go_at_call 19; (with_reducible refine HA2.out.mono ?_); rintro e w5 ⟨a2, m2, c2, rfl, hk5, HR5, HO5, HV5⟩; have HK5 := Lib.hid hk5; clear hk5))
  obtain ⟨L, hL⟩ : ∃ L, alls (rows (st0 0).f) = L := ⟨_, rfl⟩
  have HL := Lib.hid hL
  rw [hL] at HO3 HV3 HO5 HV5
  clear hL
  have hl1 := HV3.out.len
  have hl2 := HV5.out.len
  rw [List.length_append, List.length_singleton, hl1] at hl2
  subst hl2
  have hm7 : m1 ≤ 7 := by
    rw [← hl1, ← HL.out]
    exact Nat.le_trans (alls_len _) (rows_len _)
  obtain ⟨b2, off2, rfl, hce⟩ := HV5.out.at_ ac_len (i := m1) (x := ((6 : Fin 7), 1 + (qr : Int))) (by rw [← hl1, List.getElem?_append_right (Nat.le_refl _), Nat.sub_self]; rfl)
  have e0 := hce 0 (by decide)
  have e1 := hce 1 (by decide)
  simp only [ac, hnm, List.getElem?_cons_zero, List.getElem?_cons_succ, Nat.add_zero] at e0 e1
  have hc2 := HV5.out.room
  have hm2 := HV5.out.most
  rw [show maxLen = 9223372036854775807 from rfl] at hm2
  have hne : (((m1 + 1 : Nat) : Int) != (m1 : Int) + 1) = false := by simp
  have hlt1 : (m1 : Int) < ((m1 + 1 : Nat) : Int) := by omega
  have hlt2 : (m1 : Int) < (m1 : Int) + 1 := by omega
  have HVI := Lib.hid (HV5.out.init ac_len)
  have HVA := Lib.hid (altOwn ((HNO4.out.trans (NK.ofKeep HK5.out)).own (by decide) HO3.out))
  have HEQ : Hid (decide (L = L) = true) := Lib.hid (decide_eq_true rfl)
  have HHA := Lib.hid (HNO4.out.trans (NK.ofKeep HK5.out))
  have HN5 := Lib.hid (HN4.out.trans (NK.ofKeep HK5.out))
  have hroom1 : m1 ≤ c2 := by omega
  clear hl1 hce HV5 HV3
  go_quiet (first | (go_at_call 10; exact rest_q HQR (by decide) (by decide)) | (go_at_call 18; exact equal18_q HVI.out HVA.out HEQ))
  have HKQ : Hid (Keep [] w5 (w5.drewN nq)) := Lib.hid (keep_drewN (Keep.refl [] _) nq)
  have HN6 := Lib.hid (HN5.out.trans (NK.ofKeep HKQ.out))
  have c6 := ptrsAt HO.out HN6.out 0 (by decide)
  have hdr := drop14_any (HR5.out.kept HKQ.out) (i := 0) (by decide) 6 (by rw [upd_same]; exact ⟨by have := HS.out.1.lo; show 0 ≤ (st0 0).count + 1; omega, by have := HS.out.1.hi; show (st0 0).count + 1 ≤ 1000000; omega⟩)
  rw [upd_same, foundW _ 6 HPOS.out, apartC _ _ HPOS.out, upd_upd, hnm] at hdr
  have HDR := Lib.hid hdr
  have HAB := Lib.hid (apartB (st0 0) HS.out.2 (1 + (qr : Int)))
  have HHB := Lib.hid (HHA.out.trans (NK.ofKeep HKQ.out))

  have hcnt : 0 ≤ (Ytfgdgdjdlnchlaa.wr (Ytfgdgdjdlnchlaa.wr (st0 0) 6 (1 + (qr : Int))) 6 0).count ∧ (Ytfgdgdjdlnchlaa.wr (Ytfgdgdjdlnchlaa.wr (st0 0) 6 (1 + (qr : Int))) 6 0).count ≤ 1000000 := by
    have h1 := HS.out.1.lo
    have h2 := HS.out.1.hi
    unfold Ytfgdgdjdlnchlaa.wr
    simp only
    omega
  have HCNT := Lib.hid hcnt
  clear hdr hcnt e0 e1 hne
  go_wp2_with (first | (with_reducible refine Txt.wp_region_text mixed quiet (by decide +kernel) ?_) | (with_reducible refine Txt.text_done (by kernel_rfl) ?_) | (go_at_call 14; (with_reducible refine HDR.out.mono ?_); rintro e w7 ⟨rfl, hrc7, hnk7⟩; have HN7 := Lib.hid (HN6.out.trans hnk7); have HH7 := Lib.hid (HHB.out.trans hnk7); have c7 := ptrsAt HO.out HN7.out 0 (by decide); have ha7 := alled hrc7 (j := 0) (by decide); rw [upd_same, HAB.out, HL.out] at ha7; have HA7 := Lib.hid ha7; clear hrc7 hnk7 ha7 HDR) | (go_at_call 19; (with_reducible refine HA7.out.mono ?_); rintro e w8 ⟨a8, m8, c8, rfl, hk8, HR8, HO8, HV8⟩; have HVW := Lib.hid (altOwn ((HH7.out.trans (NK.ofKeep hk8)).own (by decide) HO3.out)); have HN8 := Lib.hid (HN7.out.trans (NK.ofKeep hk8)); clear hk8) | (go_at_call 18; (with_reducible refine (equal18_any HV8.out HVW.out).mono ?_); rintro e w9 ⟨rfl, hk9⟩; rw [decide_eq_true (rfl : L = L)]; have c9 := ptrsAt HO.out (HN8.out.trans (NK.ofKeep hk9)) 0 (by decide); have hd9 := drop14_any (HR8.out.kept hk9) (i := 0) (by decide) 6 (by rw [upd_same]; exact HCNT.out); rw [upd_same, apartD, hnm] at hd9; have HD9 := Lib.hid hd9; clear hk9 hd9) | (go_at_call 14; (with_reducible refine HD9.out.mono ?_); rintro e wa ⟨rfl, hrca, -⟩; have HRA := Lib.hid hrca; clear hrca))
  go_ret
  exact ⟨rfl, HK1.out.trans HRA.out.keep⟩
end Go.Proofs.Ytfgdgdjdlnchlaa
