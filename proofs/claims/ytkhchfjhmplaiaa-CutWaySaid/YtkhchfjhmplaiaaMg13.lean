/- Texts laid together: CW2 H29 H30 H31. -/
import Derived.Test.YtkhchfjhmplaiaaMg12
/- CutWay: cut.Way. -/
namespace Go
open Go.RowKit
theorem cell_ltW {w : World} {a : Addr} {v : Value} (h : w.cell? a = some v) : a.block < w.heap.size := by
  rcases Nat.lt_or_ge a.block w.heap.size with h' | h'
  · exact h'
  · simp [World.cell?, Array.getElem?_eq_none h'] at h
theorem own_baseW {w : World} {b b' e m n : Nat} {v : Value} {xs : List Value} (h : w.ownsRow b e m v n xs) (hb : b' ≤ b) : w.ownsRow b' e m v n xs :=
  ⟨h.1, h.2.imp id fun ⟨g, cap, cur, h1, h2, h3⟩ => ⟨g, cap, cur, h1, Nat.le_trans hb h2, h3⟩⟩
theorem kindAt {h : List Ln} {g x : Int} {v : Value} (hx : FG h g h.length x = some v) : ∃ k, k < h.length ∧ (lat h k).g = g ∧ (lat h k).u = x ∧ v = spotV h k := by
  unfold FG at hx
  obtain ⟨k, hk, rfl⟩ := Option.map_eq_some_iff.1 hx
  obtain ⟨h1, h2, h3⟩ := kindIx_some hk
  exact ⟨k, h1, h2, h3, rfl⟩
theorem spot_of {h : List Ln} (hk : HOk h) {j : Nat} (hj : j < h.length) (C : List Int) : ∃ p m : Nat, p < 8 ∧ spotV h j = .agg #[.int .i64 p, .int .i64 m] ∧ inC h C j = decide ((m : Int) < C.getD p 0) := by
  have he := hk.ev j hj
  obtain ⟨p, hp⟩ : ∃ p : Nat, (lat h j).q = p := ⟨(lat h j).q.toNat, by omega⟩
  refine ⟨p, posN h j, by omega, by unfold spotV; rw [hp], ?_⟩
  unfold inC
  rw [hp]; rfl
/-- A message of the map of sends, and its take. -/
theorem way_entry {h : List Ln} (hk : HOk h) (C : List Int) {x : Int} {c : Value} (hc : FG h 2 h.length x = some c) : ∃ (p1 m1 p3 m3 : Nat) (tk : Bool), p1 < 8 ∧ p3 < 8 ∧ c = .agg #[.int .i64 p1, .int .i64 m1] ∧ (FG h 3 h.length x).getD (.agg #[.int .i64 0, .int .i64 0]) = .agg #[.int .i64 p3, .int .i64 m3] ∧ (FG h 3 h.length x).isSome = tk ∧ (goes h C x ↔ (decide ((m1 : Int) < C.getD p1 0) && !(tk && decide ((m3 : Int) < C.getD p3 0))) = true) := by
  obtain ⟨j, hj, hg, hu, rfl⟩ := kindAt hc
  obtain ⟨p1, m1, hp1, hs1, hi1⟩ := spot_of hk hj C
  have hone : ∀ j', j' < h.length → (lat h j').g = 2 → (lat h j').u = x → j' = j := fun j' hj' hg' hu' => by
    rcases Nat.lt_trichotomy j' j with hlt | rfl | hlt
    · exact absurd (hu'.trans hu.symm) (hk.sends j' j hlt hj hg' hg)
    · rfl
    · exact absurd (hu.trans hu'.symm) (hk.sends j j' hlt hj' hg hg')
  cases ht : FG h 3 h.length x with
  | none =>
    refine ⟨p1, m1, 0, 0, false, hp1, by decide, hs1, rfl, rfl, ?_⟩
    rw [← hi1, Bool.false_and, Bool.not_false, Bool.and_true]
    constructor
    · rintro ⟨j', h1, h2, h3, h4, _⟩
      rw [← hone j' h1 h2 h3]; exact h4
    · intro h4
      refine ⟨j, hj, hg, hu, h4, fun i hi hi3 hiu => ?_⟩
      have := take_has hk hi hi3
      rw [hiu, ht] at this
      cases this
  | some v =>
    obtain ⟨i, hi, hi3, hiu, rfl⟩ := kindAt ht
    obtain ⟨p3, m3, hp3, hs3, hi3'⟩ := spot_of hk hi C
    refine ⟨p1, m1, p3, m3, true, hp1, hp3, hs1, hs3, rfl, ?_⟩
    rw [← hi1, ← hi3', Bool.true_and, Bool.and_eq_true]
    constructor
    · rintro ⟨j', h1, h2, h3, h4, h5⟩
      rw [← hone j' h1 h2 h3]
      exact ⟨h4, by rw [h5 i hi hi3 hiu]; rfl⟩
    · rintro ⟨h4, h5⟩
      refine ⟨j, hj, hg, hu, h4, fun i' hi' hi3' hiu' => ?_⟩
      have hii : i' = i := by
        rcases Nat.lt_trichotomy i' i with hlt | rfl | hlt
        · exact absurd (hiu'.trans hiu.symm) (hk.takes i' i hlt hi hi3' hi3)
        · rfl
        · exact absurd (hiu.trans hiu'.symm) (hk.takes i i' hlt hi' hi3 hi3')
      rw [hii]
      simpa using h5
theorem nodup_lenW : ∀ (l U : List Int), l.Nodup → (∀ x ∈ l, x ∈ U) → l.length ≤ U.length
  | [], _, _, _ => Nat.zero_le _
  | x :: l, U, h, hs => by
    have hx := hs x (List.mem_cons_self ..)
    obtain ⟨hxl, hl⟩ := List.nodup_cons.1 h
    have ih := nodup_lenW l (U.erase x) hl (fun y hy => (List.mem_erase_of_ne (fun e : y = x => hxl (by rw [← e]; exact hy))).2 (hs y (List.mem_cons_of_mem _ hy)))
    rw [List.length_erase_of_mem hx] at ih
    have : 0 < U.length := List.length_pos_of_mem hx
    rw [List.length_cons]; omega
/-- There are as many on the list as events, at most. -/
theorem goes_len {h : List Ln} {C out : List Int} (hn : out.Nodup) (hs : ∀ x ∈ out, goes h C x) : out.length ≤ h.length := by
  have := nodup_lenW out ((List.range h.length).map fun j => (lat h j).u) hn (fun x hx => by
    obtain ⟨j, hj, _, hu, _⟩ := hs x hx
    exact List.mem_map.2 ⟨j, List.mem_range.2 hj, hu⟩)
  simpa using this
theorem goes_has {h : List Ln} (hk : HOk h) {C : List Int} {x : Int} (hg : goes h C x) : (FG h 2 h.length x).isSome = true := by
  obtain ⟨j, hj, h2, rfl, _⟩ := hg
  have := kindIx_eq (h := h) (g := 2) (k := h.length) (j := j) (fun x y hxy hy => hk.sends x y hxy hy) hj h2
  unfold FG
  rw [this]; rfl
theorem left_step {left : Lit → Bool} {x y : Int} : ((fun z : Lit => left z && !z.sameKey (.int .i64 x)) (.int .i64 y) = false) ↔ (left (.int .i64 y) = false ∨ y = x) := by
  have h : (Lit.int IntKind.i64 y).sameKey (.int .i64 x) = decide (y = x) := by rw [Bool.eq_iff_iff]; simp [Lit.sameKey]
  show (left _ && !_) = false ↔ _
  rw [h]
  by_cases e : y = x
  · simp [e]
  · simp [e]
theorem goes_wf {h : List Ln} (hk : HOk h) {C : List Int} {x : Int} (hg : goes h C x) : (Lit.int .i64 x).wf = true := by
  obtain ⟨j, hj, _, rfl, _⟩ := hg
  have := hk.ev j hj
  exact wf_msg (by omega) (by omega)
theorem way_yes {h : List Ln} {C out : List Int} {left : Lit → Bool} {x : Int} (hn : out.Nodup) (hm : ∀ x, x ∈ out ↔ (goes h C x ∧ left (.int .i64 x) = false)) (hl : left (.int .i64 x) = true) (hg : goes h C x) : (out ++ [x]).Nodup ∧ ∀ y, y ∈ out ++ [x] ↔ (goes h C y ∧ (fun z : Lit => left z && !z.sameKey (.int .i64 x)) (.int .i64 y) = false) := by
  refine ⟨?_, fun y => ?_⟩
  · rw [List.nodup_append]
    refine ⟨hn, List.nodup_cons.2 ⟨by simp, List.nodup_nil⟩, fun a ha b hb e => ?_⟩
    rw [List.mem_singleton.1 hb] at e
    subst e
    have := ((hm a).1 ha).2
    rw [hl] at this
    cases this
  · rw [List.mem_append, List.mem_singleton, left_step, hm]
    constructor
    · rintro (⟨h1, h2⟩ | rfl)
      · exact ⟨h1, .inl h2⟩
      · exact ⟨hg, .inr rfl⟩
    · rintro ⟨h1, h2 | rfl⟩
      · exact .inl ⟨h1, h2⟩
      · exact .inr rfl
theorem way_no {h : List Ln} {C out : List Int} {left : Lit → Bool} {x : Int} (hm : ∀ x, x ∈ out ↔ (goes h C x ∧ left (.int .i64 x) = false)) (hg : ¬ goes h C x) : ∀ y, y ∈ out ↔ (goes h C y ∧ (fun z : Lit => left z && !z.sameKey (.int .i64 x)) (.int .i64 y) = false) := fun y => by
  rw [left_step, hm]
  constructor
  · rintro ⟨h1, h2⟩
    exact ⟨h1, .inl h2⟩
  · rintro ⟨h1, h2 | rfl⟩
    · exact ⟨h1, h2⟩
    · exact absurd h1 hg
end Go
namespace Go.Proofs.Ytkhchfjhmplaiaa
open Go.RowKit
set_option maxRecDepth 100000 in
set_option maxHeartbeats 8000000 in
theorem way57_any {a ac : Option Addr} {n c cc : Nat} {h : List Ln} {C : List Int} {w : World} (hv : LnsV w a n c h) (hk : HOk h) (hi : IntsV w ac 8 cc C) (hC : CutOk h C) :
    Calls Try.prog 57 #[.slice a n c, .slice ac 8 cc] w fun e w' => ∃ v out, e = .returned (.tuple #[v, .int .i64 0]) ∧ w'.ownsRow w.heap.size 3 1 v out.length ((sortI out).map (Value.int .i64)) ∧ out.Nodup ∧ (∀ x, x ∈ out ↔ goes h C x) ∧ Keep [] w w' := by
  have HCV := Lib.hid (cuts1 hi hC.bd)
  have HV := Lib.hid (hv.keep ((Keep.refl [] w).alloc (.cells #[.slice ac 8 cc] 22)) (by simp))
  have HK := Lib.hid hk
  have HN := Lib.hid hv.len
  have hl8 := hi.len
  obtain ⟨i3, hi3, hy0, hy1, hy2⟩ := info_parts info3
  have hn200 : n ≤ 200 := by have := hk.len; have := hv.len; omega
  obtain ⟨x0, x1, x2, x3, x4, x5, x6, x7, rfl⟩ := list8 hl8
  have hkA : Keep [] w (w.alloc (.cells #[.slice ac 8 cc] 22)) := (Keep.refl _ _).alloc _
  clear hv hk hi hC hl8
  go_enter Try.func57, Try.ntmps57
  go_wp2_with (first | (go_at_call 58; refine (begin_walk HV.out HK.out HCV.out (by omega) (by omega) (by unfold maxLen; omega)).mono ?_; rintro e w1 ⟨H, S, T, V, v, rfl, hk1, _, _, _, hst, ho⟩; obtain ⟨g, cap, rfl, hg8⟩ := own76 ho; have HST := Lib.hid hst; have HG8 := Lib.hid hg8; obtain ⟨s8, s9⟩ := hst.cellS; have HK1 := Lib.hid (hkA.trans hk1); obtain ⟨D, hD, hDm, hDk, hDh⟩ := hst.snd; have HD := Lib.hid hD; have HDM := Lib.hid hDm; have HDK := Lib.hid hDk; have HDH := Lib.hid hDh; clear hst ho hg8 hk1 hD hDm hDk hDh) | (at_range; refine wpList_range_own _ rfl _ 110 rfl 3 89 (Maps.int_keyed Try.underlying3) Try.underlying110 asIs S n D rfl HD.out ?_; intro w0 hrg0 hg0 hs0; have HRG := Lib.hid hrg0; have HG0 := Lib.hid hg0) | go_in)
  go_frame
  obtain ⟨Cl, hCl⟩ : ∃ Cl, [x0, x1, x2, x3, x4, x5, x6, x7] = Cl := ⟨_, rfl⟩
  have HCL := Lib.hid hCl
  obtain ⟨R, hR⟩ : ∃ R, w1.heap.size = R := ⟨_, rfl⟩
  have HW1 : Hid (w.heap.size ≤ R) := Lib.hid (by rw [← hR]; exact HK1.out.size)
  have HSR : Hid (S < R ∧ H < R ∧ T < R ∧ g < R) := Lib.hid (by
    have h1 := HST.out.snd.lt; have h2 := lt_of_blk HST.out.blk; have h3 := HST.out.tak.lt; have h4 := Go.cell_ltW (HG8.out 0 (by omega))
    rw [← hR]; exact ⟨h1, h2, h3, h4⟩)
  rw [hR] at hrg0 hs0 ⊢
  have HRG0 := Lib.hid hrg0
  have hk00 : Keep [] w1 w0 := Keep.ofGrown hg0 (fun x hx => by cases hx)
  have HKW0 := Lib.hid (HK1.out.trans hk00)
  have HS0 := Lib.hid (HST.out.keep hk00)
  have HG0 : Hid (∀ i, i < 8 → w0.cell? ⟨g, i, none⟩ = some (.int .i64 (Cl.getD i 0))) := Lib.hid (fun i hi => by rw [← hCl]; exact hk00.cell (HG8.out i hi) (by simp))
  rw [hCl] at HG8
  clear HRG hrg0 hg0 HST s8 s9 HD hk00 hR hCl HG8
  go_loopw [9, 10, 11, 12, 13] (fun o _ _ _ _ wr => ∃ (left : Lit → Bool) (cnt : Nat) (out : List Int), Hid (Keep [R] w0 wr) ∧ Hid (wr.ranges Try.prog 3 asIs S R n D left cnt) ∧ Hid (wr.ownsRow (R + 1) 3 1 o out.length (out.map (Value.int .i64))) ∧ Hid out.Nodup ∧ Hid (∀ x, x ∈ out ↔ (goes h Cl x ∧ left (.int .i64 x) = false))) (fun _ _ _ _ _ wr => wr.rangeLeft S R)
  case atStart =>
    refine ⟨_, _, [], Lib.hid (Keep.refl _ _), HRG0, Lib.hid (World.ownsRow_nil _ _ _ _), Lib.hid List.nodup_nil, Lib.hid (fun x => ?_)⟩
    constructor
    · intro hx; cases hx
    · rintro ⟨h1, h2⟩
      rw [HDH.out, ← HN.out, goes_has HK.out h1] at h2
      cases h2
  case round =>
    obtain ⟨left, cnt, out, HKR, HRG, HO, HND, HMM⟩ := hrel
    go_wp2_with (first | (at_next; refine wpList_next_ranges _ rfl _ rfl 3 (Maps.int_keyed Try.underlying3) asIs (Value.int .i64) id (fun key kl hkey => by obtain ⟨x, rfl, _⟩ := Maps.keyOf_int_inv Try.underlying3 hkey; exact ⟨x, rfl⟩) (fun v y _ => ⟨v, rfl⟩) S R n D left cnt rfl HRG.out ?_ ?_))
    · intro hc0 hl0
      have hlen := goes_len HND.out (fun x hx => ((HMM.out x).1 hx).1)
      have HSO := Lib.hid (sort56_own HO.out (by have := HN.out; omega))
      go_wp2_with (first | (with_reducible refine Txt.wp_region_text mixed quiet (by decide +kernel) ?_) | (with_reducible refine Txt.text_done (by kernel_rfl) ?_) | (go_at_call 56; (with_reducible refine HSO.out.mono ?_); rintro e w9 ⟨rfl, ho9, hk9⟩; have HO9 := Lib.hid ho9; have HK9 := Lib.hid hk9; clear ho9 hk9))
      go_ret2
      rw [HCL.out]
      refine ⟨_, out, rfl, own_baseW HO9.out (by have := HW1.out; omega), HND.out, fun x => ⟨fun hx => ((HMM.out x).1 hx).1, fun hg => (HMM.out x).2 ⟨hg, hl0 _⟩⟩, ?_⟩
      exact (HKW0.out.call HKR.out (fun z hz => .inr (by rw [List.mem_singleton.1 hz]; exact HW1.out))).call HK9.out (fun z hz => .inr (by have := (ownLtW HO.out z (by simpa using hz)).1; have := HW1.out; omega))
    · intro x c kl y ys w1' cnt1 hkey hlk hRc hat hrg1 hlt1 hg1 hs1 hen
      obtain ⟨x', hxe, rfl, hxw⟩ := Maps.keyOf_int_inv Try.underlying3 hkey
      cases hxe
      have hfc : FG h 2 h.length x = some c := by
        rw [HN.out]
        have hy : y = .held c := by
          have : asIs c = some (y, ys) := hRc
          unfold asIs at this
          cases this; rfl
        rw [hy] at hat
        exact held_some (fun z => by rw [← HDK.out x z]; exact hat _)
      obtain ⟨p1, m1, p3, m3, tk, hp1, hp3, rfl, htv, htk, hgo⟩ := way_entry HK.out Cl hfc
      rw [HN.out] at htv htk
      have HTV := Lib.hid htv
      have HTK := Lib.hid htk
      have HXW := Lib.hid hxw
      have hkr1 : Keep [R] wr w1' := Keep.ofGrown hg1 (fun z hz => by cases hz; simp)
      have HK01 := Lib.hid (HKR.out.trans hkr1)
      have HKR1 := Lib.hid hkr1
      have hsr := HSR.out
      have HT1 : Hid (∀ o, MapF (w1'.alloc o) Try.prog 3 T n (FG h 3 n)) := Lib.hid (fun o => HS0.out.tak.keep (HK01.out.trans (Keep.mono0 ((Keep.refl [] _).alloc o))) (by simp; omega))
      have s9 := HK01.out.cell HS0.out.cellS.2 (by simp; omega)
      have s9b : ∀ o, (w1'.alloc o).cell? ⟨H, 9, none⟩ = some (.map (some T)) := fun o => ((Keep.refl [] w1').alloc o).cell s9 (by simp)
      have s9c := s9b (.cells #[.int .i64 p1, .int .i64 m1] 89)
      have HRG1 := Lib.hid hrg1
      have HLK := Lib.hid hlk
      have HGO := Lib.hid hgo
      clear hkey hat hfc hRc hrg1 htv htk hgo hxw s9b hlk hkr1
      go_upto_region 9 with (first | (with_reducible refine Txt.wp_region_text mixed quiet (by decide +kernel) ?_) | (with_reducible refine Txt.text_done (by kernel_rfl) ?_) | (at_lookup; refine wpList_lookup_f2 _ rfl _ _ 110 rfl 3 89 Try.underlying110 Try.underlying3 (.agg #[.int .i64 0, .int .i64 0]) (zero89 _) T n (FG h 3 n) rfl (HT1.out _) x rfl HXW.out ?_; rw [HTV.out, HTK.out]))
      obtain ⟨E, hE⟩ : ∃ E, wr.heap.size = E := ⟨_, rfl⟩
      have hE1 : w1'.heap.size = E := by rw [← hE]; assumption
      obtain ⟨w2, hw2⟩ : ∃ w2, (w1'.alloc (.cells #[.int .i64 p1, .int .i64 m1] 89)).alloc (.cells #[.int .i64 p3, .int .i64 m3] 89) = w2 := ⟨_, rfl⟩
      have hkE : Keep [] w1' w2 := by rw [← hw2]; exact ((Keep.refl _ _).alloc _).alloc _
      have hsp : w2.heap[E]? = some (.cells #[.int .i64 p1, .int .i64 m1] 89 (0, 0)) := by
        rw [← hw2, ← hE1]; exact ((Keep.refl [] _).alloc _).at (blk_new w1' _) (by simp)
      have hst : w2.heap[E + 1]? = some (.cells #[.int .i64 p3, .int .i64 m3] 89 (0, 0)) := by
        have h2 := blk_new (w1'.alloc (.cells #[.int .i64 p1, .int .i64 m1] 89)) (.cells #[.int .i64 p3, .int .i64 m3] 89)
        rw [show (w1'.alloc (.cells #[.int .i64 p1, .int .i64 m1] 89)).heap.size = E + 1 by simp [hE1], hw2] at h2
        exact h2
      have HALL : Hid (∀ w', Keep [] w2 w' → w'.cell? ⟨g, 0, none⟩ = some (.int .i64 x0) ∧ w'.cell? ⟨g, 1, none⟩ = some (.int .i64 x1) ∧ w'.cell? ⟨g, 2, none⟩ = some (.int .i64 x2) ∧ w'.cell? ⟨g, 3, none⟩ = some (.int .i64 x3) ∧ w'.cell? ⟨g, 4, none⟩ = some (.int .i64 x4) ∧ w'.cell? ⟨g, 5, none⟩ = some (.int .i64 x5) ∧ w'.cell? ⟨g, 6, none⟩ = some (.int .i64 x6) ∧ w'.cell? ⟨g, 7, none⟩ = some (.int .i64 x7) ∧ w'.cell? ⟨E, 0, none⟩ = some (.int .i64 p1) ∧ w'.cell? ⟨E, 1, none⟩ = some (.int .i64 m1) ∧ w'.cell? ⟨E + 1, 0, none⟩ = some (.int .i64 p3) ∧ w'.cell? ⟨E + 1, 1, none⟩ = some (.int .i64 m3)) := Lib.hid (fun w' hk => by
        obtain ⟨b0, b1, b2, b3, b4, b5, b6, b7⟩ := row8' (w := w') (g := g) (x0 := x0) (x1 := x1) (x2 := x2) (x3 := x3) (x4 := x4) (x5 := x5) (x6 := x6) (x7 := x7) (fun i hi => by
          rw [HCL.out]
          exact (HK01.out.trans (Keep.mono0 (hkE.trans hk))).cell (HG0.out i hi) (by simp; omega))
        obtain ⟨r0, r1, _⟩ := row2 (hk.at hsp (by simp))
        obtain ⟨r2, r3, _⟩ := row2 (hk.at hst (by simp))
        exact ⟨b0, b1, b2, b3, b4, b5, b6, b7, r0, r1, r2, r3⟩)
      have HBASE : Hid (∀ w', Keep [] w2 w' → Keep [R] w0 w') := Lib.hid (fun w' hk => HK01.out.trans (Keep.mono0 (hkE.trans hk)))
      have HRNG : Hid (∀ w', Keep [] w2 w' → w'.ranges Try.prog 3 asIs S R n D (fun z => left z && !z.sameKey (.int .i64 x)) cnt1) := Lib.hid (fun w' hk => ranges_keep HRG1.out (hkE.trans hk))
      have hgeR : ∀ g, u9.ownBlock = some g → R + 1 ≤ g := fun g hg => (ownLtW HO.out g hg).1
      have HOW : Hid (∀ w', Keep [] w2 w' → w'.ownsRow (R + 1) 3 1 u9 out.length (out.map (Value.int .i64))) := Lib.hid (fun w' hk => own_keep (own_keep HO.out HKR1.out (fun g hg hm => by have := hgeR g hg; have := List.mem_singleton.1 hm; omega)) (hkE.trans hk) (by simp))
      have HOB : Hid (∀ g, u9.ownBlock = some g → w0.heap.size ≤ g) := Lib.hid (fun g hg => by have := hgeR g hg; omega)
      have HNS : Hid (∀ k, k ≤ R → k ∉ u9.ownBlock.toList) := Lib.hid (fun k hk hm => by have := hgeR k (by simpa using hm); omega)
      have HSZ : Hid (∀ w', Keep [] w2 w' → R + 1 ≤ w'.heap.size) := Lib.hid (fun w' hk => by have h1 := (HK01.out.trans (Keep.mono0 (hkE.trans hk))).size; omega)
      have hlen := goes_len HND.out (fun x hx => ((HMM.out x).1 hx).1)
      rw [HN.out] at hlen
      obtain ⟨A1, hA1⟩ : ∃ A, decide ((m1 : Int) < [x0, x1, x2, x3, x4, x5, x6, x7].getD p1 0) = A := ⟨_, rfl⟩
      obtain ⟨A3, hA3⟩ : ∃ A, decide ((m3 : Int) < [x0, x1, x2, x3, x4, x5, x6, x7].getD p3 0) = A := ⟨_, rfl⟩
      have hgo2 := HGO.out
      rw [← HCL.out, hA1, hA3, HCL.out] at hgo2
      have HGO2 := Lib.hid hgo2
      have HA1 := Lib.hid hA1
      have HA3 := Lib.hid hA3
      rw [hw2, hE]
      clear hgo2 hA1 hA3 hsp hst hw2 hgeR hkE s9 s9c HO HT1 HG0 HTV HTK
      have tok1 : True := trivial
      have hkz : Keep [] w2 w2 := Keep.refl _ _
      obtain ⟨b0, b1, b2, b3, b4, b5, b6, b7, r0, r1, r2, r3⟩ := HALL.out w2 hkz
      cases A1
      · go_wp2_with (first | (with_reducible refine Txt.wp_region_text mixed quiet (by decide +kernel) ?_) | (with_reducible refine Txt.text_done (by kernel_rfl) ?_) | (go_at_call 81; have _t := tok1; (with_reducible refine (has81_at hp1 HA1).mono ?_); rintro e w3 ⟨rfl, hk3d⟩; have hk3 : Keep [] w2 w3 := (by first | exact hk3d | exact (hkz.drew).trans hk3d); clear tok1 _t hk3d; obtain ⟨d0, d1, d2, d3, d4, d5, d6, d7, t0, t1, t2, t3⟩ := HALL.out w3 hk3))
        all_goals
          go_wp2_with fail
          go_roundw
          case measure => rw [(HRNG.out _ (by first | exact hk4 | exact hk4.drew | exact hk3 | exact hk3.drew)).left_eq, HRG.out.left_eq]; exact hlt1
          case rel => exact ⟨_, cnt1, out, Lib.hid (HBASE.out _ (by first | exact hk4 | exact hk4.drew | exact hk3 | exact hk3.drew)), Lib.hid (HRNG.out _ (by first | exact hk4 | exact hk4.drew | exact hk3 | exact hk3.drew)), Lib.hid (HOW.out _ (by first | exact hk4 | exact hk4.drew | exact hk3 | exact hk3.drew)), HND, Lib.hid (way_no HMM.out (fun hg => by have := HGO2.out.1 hg; simp at this))⟩
      · cases tk
        · go_wp2_with (first | (at_builtin; (refine wpList_append_own _ rfl _ _ 22 rfl (R + 1) 3 i3 (.int .i64 0) 1 8 Try.underlying22 hi3 hy0 hy1 hy2 rfl (by decide) u9 out.length (out.map (Value.int .i64)) rfl (HOW.out _ (by first | exact hk3.alloc _ | exact (hk3.drew).alloc _)) ⟨_, 0, none⟩ 1 1 [.int .i64 x] rfl rfl (cells_new _ _ _ _) (by intro u hu; simp at hu; subst hu; rfl) (by unfold maxLen; omega) (by omega) (HSZ.out _ (by first | exact hk3.alloc _ | exact (hk3.drew).alloc _)) ?_); intro v6 w6 hown6 hgr6 _; have HO6 := Lib.hid hown6; have HK6 : Hid (Keep [R] w0 w6) := Lib.hid ((HBASE.out _ (by first | exact hk3.alloc _ | exact (hk3.drew).alloc _)).grown hgr6 (fun g hg => .inr (HOB.out g hg))); have HR6 := Lib.hid (ranges_keep2 (HRNG.out _ (by first | exact hk3.alloc _ | exact (hk3.drew).alloc _)) (Keep.ofGrown hgr6 (S := u9.ownBlock.toList) (fun k hk => by simp [hk])) (HNS.out S (Nat.le_of_lt hsr.1)) (HNS.out R (Nat.le_refl _))); clear hown6 hgr6) | (with_reducible refine Txt.wp_region_text mixed quiet (by decide +kernel) ?_) | (with_reducible refine Txt.text_done (by kernel_rfl) ?_) | (go_at_call 81; have _t := tok1; (with_reducible refine (has81_at hp1 HA1).mono ?_); rintro e w3 ⟨rfl, hk3d⟩; have hk3 : Keep [] w2 w3 := (by first | exact hk3d | exact (hkz.drew).trans hk3d); clear tok1 _t hk3d; obtain ⟨d0, d1, d2, d3, d4, d5, d6, d7, t0, t1, t2, t3⟩ := HALL.out w3 hk3))
          all_goals
            go_wp2_with fail
            go_roundw
            case measure => rw [HR6.out.left_eq, HRG.out.left_eq]; exact hlt1
            case rel =>
              have hwy := way_yes HND.out HMM.out HLK.out (HGO2.out.2 (by simp))
              exact ⟨_, cnt1, out ++ [x], HK6, HR6, Lib.hid (by have h := HO6.out; simpa using h), Lib.hid hwy.1, Lib.hid hwy.2⟩
        · cases A3
          · go_wp2_with (first | (at_builtin; (refine wpList_append_own _ rfl _ _ 22 rfl (R + 1) 3 i3 (.int .i64 0) 1 8 Try.underlying22 hi3 hy0 hy1 hy2 rfl (by decide) u9 out.length (out.map (Value.int .i64)) rfl (HOW.out _ (by first | exact hk4.alloc _ | exact (hk4.drew).alloc _)) ⟨_, 0, none⟩ 1 1 [.int .i64 x] rfl rfl (cells_new _ _ _ _) (by intro u hu; simp at hu; subst hu; rfl) (by unfold maxLen; omega) (by omega) (HSZ.out _ (by first | exact hk4.alloc _ | exact (hk4.drew).alloc _)) ?_); intro v6 w6 hown6 hgr6 _; have HO6 := Lib.hid hown6; have HK6 : Hid (Keep [R] w0 w6) := Lib.hid ((HBASE.out _ (by first | exact hk4.alloc _ | exact (hk4.drew).alloc _)).grown hgr6 (fun g hg => .inr (HOB.out g hg))); have HR6 := Lib.hid (ranges_keep2 (HRNG.out _ (by first | exact hk4.alloc _ | exact (hk4.drew).alloc _)) (Keep.ofGrown hgr6 (S := u9.ownBlock.toList) (fun k hk => by simp [hk])) (HNS.out S (Nat.le_of_lt hsr.1)) (HNS.out R (Nat.le_refl _))); clear hown6 hgr6) | (with_reducible refine Txt.wp_region_text mixed quiet (by decide +kernel) ?_) | (with_reducible refine Txt.text_done (by kernel_rfl) ?_) | (go_at_call 81; have _t := tok1; (with_reducible refine (has81_at hp1 HA1).mono ?_); rintro e w3 ⟨rfl, hk3d⟩; have hk3 : Keep [] w2 w3 := (by first | exact hk3d | exact (hkz.drew).trans hk3d); clear tok1 _t hk3d; obtain ⟨d0, d1, d2, d3, d4, d5, d6, d7, t0, t1, t2, t3⟩ := HALL.out w3 hk3) | (go_at_call 81; (with_reducible refine (has81_at hp3 HA3).mono ?_); rintro e w4 ⟨rfl, hk4d⟩; have hk4 : Keep [] w2 w4 := (by first | exact hk3.trans hk4d | exact (hk3.drew).trans hk4d); clear hk4d))
            all_goals
              go_wp2_with fail
              go_roundw
              case measure => rw [HR6.out.left_eq, HRG.out.left_eq]; exact hlt1
              case rel =>
                have hwy := way_yes HND.out HMM.out HLK.out (HGO2.out.2 (by simp))
                exact ⟨_, cnt1, out ++ [x], HK6, HR6, Lib.hid (by have h := HO6.out; simpa using h), Lib.hid hwy.1, Lib.hid hwy.2⟩
          · go_wp2_with (first | (with_reducible refine Txt.wp_region_text mixed quiet (by decide +kernel) ?_) | (with_reducible refine Txt.text_done (by kernel_rfl) ?_) | (go_at_call 81; have _t := tok1; (with_reducible refine (has81_at hp1 HA1).mono ?_); rintro e w3 ⟨rfl, hk3d⟩; have hk3 : Keep [] w2 w3 := (by first | exact hk3d | exact (hkz.drew).trans hk3d); clear tok1 _t hk3d; obtain ⟨d0, d1, d2, d3, d4, d5, d6, d7, t0, t1, t2, t3⟩ := HALL.out w3 hk3) | (go_at_call 81; (with_reducible refine (has81_at hp3 HA3).mono ?_); rintro e w4 ⟨rfl, hk4d⟩; have hk4 : Keep [] w2 w4 := (by first | exact hk3.trans hk4d | exact (hk3.drew).trans hk4d); clear hk4d))
            all_goals
              go_wp2_with fail
              go_roundw
              case measure => rw [(HRNG.out _ (by first | exact hk4 | exact hk4.drew | exact hk3 | exact hk3.drew)).left_eq, HRG.out.left_eq]; exact hlt1
              case rel => exact ⟨_, cnt1, out, Lib.hid (HBASE.out _ (by first | exact hk4 | exact hk4.drew | exact hk3 | exact hk3.drew)), Lib.hid (HRNG.out _ (by first | exact hk4 | exact hk4.drew | exact hk3 | exact hk3.drew)), Lib.hid (HOW.out _ (by first | exact hk4 | exact hk4.drew | exact hk3 | exact hk3.drew)), HND, Lib.hid (way_no HMM.out (fun hg => by have := HGO2.out.1 hg; simp at this))⟩
end Go.Proofs.Ytkhchfjhmplaiaa
namespace Go.Proofs.Ytkhchfjhmplaiaa
open Go.RowKit
theorem whole32_at {a ac : Option Addr} {n c cc : Nat} {h : List Ln} {C : List Int} {W : Bool} {w : World} (hv : LnsV w a n c h) (hk : HOk h) (hi : IntsV w ac 8 cc C) (hC : CutOk h C) (hW : wholeB h C = W) :
    Calls Try.prog 32 #[.slice a n c, .slice ac 8 cc] w fun e w' => e = .returned (.tuple #[.bool W, .int .i64 0]) ∧ Keep [] w w' := by
  have := whole32_any hv hk hi hC.bd
  rw [hW] at this
  exact this
theorem least30_at {a ac : Option Addr} {n c cc : Nat} {h : List Ln} {C X : List Int} {w : World} (hv : LnsV w a n c h) (hk : HOk h) (hi : IntsV w ac 8 cc C) (hC : CutOk h C) (hX : LeastI h C X) (hw : wholeB h X = true) :
    Calls Try.prog 30 #[.slice a n c, .slice ac 8 cc] w fun e w' => ∃ a' c', e = .returned (.tuple #[.slice a' 8 c', .int .i64 0]) ∧ Keep [] w w' ∧ IntsV w' a' 8 c' X := by
  refine (least30_any hv hk hi hC).mono ?_
  rintro e w' ⟨a', c', x, rfl, hk1, hx, hl, hw1⟩
  rw [least_one hl hw1 hX hw] at hx
  exact ⟨a', c', rfl, hk1, hx⟩
theorem alone_ints {w : World} {A q k : Nat} {h : List Ln} (hb : w.heap[A]? = some (.cells ((aloneTo h q k).map (Value.int .i64)).toArray 3 (0, 0))) (hq : q < 8) (hk : k ≤ h.length) (hl : h.length ≤ 200) : IntsV w (some ⟨A, 0, none⟩) 8 8 (aloneTo h q k) := by
  have hc := alone_cut h hq hk
  refine ⟨hc.len, Nat.le_refl _, by unfold maxLen; omega, (cut_wf hc hl).2, fun _ => ⟨A, 0, rfl, fun i hi => ?_⟩⟩
  rw [Nat.zero_add, cellAt hb]
  simp [List.getD_eq_getElem?_getD, hc.len ▸ hi]
set_option maxRecDepth 100000 in
set_option maxHeartbeats 4000000 in
theorem cutClocks_walk (a : Option Addr) (len cap : Nat) (zs : List Int) (x : Int) (w : World) (hv : IntsV w a len cap zs) :
    Calls Try.prog 16 #[.slice a len cap, .int .i64 x] w fun e w' => e = .returned (.bool true) ∧ Keep [] w w' := by
  obtain ⟨N, hN⟩ : ∃ N, (hist zs).length = N := ⟨_, rfl⟩
  have hok : HOk (hist zs) := (hist_inv zs).ok
  have hN60 := hist_len zs
  rw [hN] at hN60
  have hNle : N ≤ 60 := by omega
  have HV := Lib.hid hv
  have HOK := Lib.hid hok
  clear hv hN60
  by_cases h0 : N = 0
  · have HN := Lib.hid (hN.trans h0)
    clear hN h0 hNle hok
    go_enter Try.func16, Try.ntmps16
    go_wp2_with (first | (go_at_call 28; refine (cbegun28_any _).mono ?_; rintro e w0 ⟨rfl, hk0⟩) | (go_at_call 22; refine (begun_any _).mono ?_; rintro e w1 ⟨rfl, hk1⟩) | (go_at_call 20; refine (history_at (HV.out.keep (hk0.trans hk1) (by simp)) HN).mono ?_; rintro e w2 ⟨a2, c2, rfl, hk2, hv2⟩; clear hv2))
    go_ret
    exact ⟨rfl, (hk0.trans hk1).trans hk2⟩
  · obtain ⟨i, hi, hi1⟩ := at_nat x (show 0 < N by omega)
    have hil : i < (hist zs).length := by omega
    obtain ⟨q, hq, hq8, _⟩ := spot_nat hok hil
    have HLS := Lib.hid (clk_least hok hil hq hq8)
    have HWH := Lib.hid (clk_whole hok hil)
    have HCC := Lib.hid (clk_cut hok hil)
    have HI := Lib.hid hi
    have HN := Lib.hid hN
    have HQ := Lib.hid hq
    have HMK := mk22
    clear hi hN hok hil hq
    go_enter Try.func16, Try.ntmps16
    go_wp2_with (first | (go_at_call 28; refine (cbegun28_any _).mono ?_; rintro e w0 ⟨rfl, hk0⟩) | (go_at_call 22; refine (begun_any _).mono ?_; rintro e w1 ⟨rfl, hk1⟩) | (go_at_call 20; refine (history_at (HV.out.keep (hk0.trans hk1) (by simp)) HN).mono ?_; rintro e w2 ⟨a2, c2, rfl, hk2, hv2⟩; have hr2 := hv2.room; have hm2 := hv2.most; unfold maxLen at hm2; have HV2 := Lib.hid hv2; clear hv2) | (go_at_call 21; (with_reducible refine (rest_at HI (by omega) (by omega)).mono ?_); rintro e w' ⟨rfl, rfl⟩) | (go_at_call 25; (with_reducible refine (clocks_at HV2.out HOK.out (by omega)).mono ?_); rintro e w4 ⟨g4, cg4, rfl, hk4, _, _, hnc4, hcm4, hcs4⟩; have HQ4 := Lib.hid hcs4; have HV4 := Lib.hid (HV2.out.keep hk4 (by simp)); unfold maxLen at hcm4; clear hcs4))
    have hA := blk_new w4 (.cells #[.int .i64 0, .int .i64 0, .int .i64 0, .int .i64 0, .int .i64 0, .int .i64 0, .int .i64 0, .int .i64 0] 3)
    obtain ⟨A, hA1⟩ : ∃ A, w4.heap.size = A := ⟨_, rfl⟩
    rw [hA1] at hA ⊢
    have hkA : Keep [] w4 (w4.alloc (.cells #[.int .i64 0, .int .i64 0, .int .i64 0, .int .i64 0, .int .i64 0, .int .i64 0, .int .i64 0, .int .i64 0] 3)) := (Keep.refl _ _).alloc _
    have HA0 : Hid ((w4.alloc (.cells #[.int .i64 0, .int .i64 0, .int .i64 0, .int .i64 0, .int .i64 0, .int .i64 0, .int .i64 0, .int .i64 0] 3)).heap[A]? = some (.cells ((aloneTo (hist zs) q 0).map (Value.int .i64)).toArray 3 (0, 0))) := Lib.hid (by
      rw [hA]
      have h9 : aloneTo (hist zs) q 0 = zeros8 := by
        unfold aloneTo
        rcases (by omega : q = 0 ∨ q = 1 ∨ q = 2 ∨ q = 3 ∨ q = 4 ∨ q = 5 ∨ q = 6 ∨ q = 7) with h | h | h | h | h | h | h | h <;> (subst h; rfl)
      rw [h9]; rfl)
    have HA1 := Lib.hid hA1
    clear hA hA1 HMK
    go_loopw [10, 50] (fun _ j wr => ∃ k : Nat, k ≤ i + 1 ∧ j = .int .i64 k ∧ Keep [] w4 wr ∧ Hid (wr.heap[A]? = some (.cells ((aloneTo (hist zs) q k).map (Value.int .i64)).toArray 3 (0, 0)))) (fun _ j _ => i + 1 - (intOf j).toNat)
    case atStart => exact ⟨0, by omega, rfl, hkA, HA0⟩
    case round =>
      obtain ⟨k, hk, rfl, hkr, HB⟩ := hrel
      by_cases hlt : k < i + 1
      · have hkN : k < N := by omega
        obtain ⟨b2, o2, rfl, c0, c1, c2'⟩ := (HV4.out.keep hkr (by simp)).at_ hkN
        obtain ⟨_, _, he, d0, _⟩ := (HV4.out.keep hkr (by simp)).at_ hi1
        cases he
        rw [HQ.out] at d0
        have hrs := rk_succ (plQ (hist zs) q) k
        have hpq : plQ (hist zs) q k = decide ((lat (hist zs) k).q = q) := rfl
        have hrk := rk_le' (plQ (hist zs) q) k
        obtain ⟨⟨p, gg, u⟩, hL⟩ : ∃ L, lat (hist zs) k = L := ⟨_, rfl⟩
        rw [hL] at c0 c1 c2' hpq
        dsimp only at c0 c1 c2' hpq
        rw [hpq] at hrs
        clear hL hpq
        have hkE : Keep [] wr (wr.alloc (.cells #[.int .i64 p, .int .i64 gg, .int .i64 u] 27)) := (Keep.refl _ _).alloc _
        have d0' := hkE.cell d0 (by simp)
        have hbl := lt_of_blk HB.out
        have HB2 := Lib.hid (hkE.at HB.out (by simp))
        have ha := alone_at (hist zs) hq8 k q
        rw [if_pos rfl] at ha
        have hca := cellAt HB2.out q
        have hza := thaw HB2.out
        have hlen8 : (aloneTo (hist zs) q k).length = 8 := by simp [aloneTo, zeros8]
        have hca2 : (wr.alloc (.cells #[.int .i64 p, .int .i64 gg, .int .i64 u] 27)).cell? ⟨A, q, none⟩ = some (.int .i64 (rk (plQ (hist zs) q) k)) := by
          rw [hca, ← ha]
          simp [List.getD_eq_getElem?_getD, hlen8, hq8]
        obtain ⟨m, hm⟩ : ∃ m, rk (plQ (hist zs) q) k = m := ⟨_, rfl⟩
        rw [hm] at hca2 hrs hrk
        have HM := Lib.hid hm
        clear hca ha hlen8 hm
        by_cases hpq : p = (q : Int)
        · have hpb : (p == (q : Int)) = true := by rw [hpq]; exact beq_self_eq_true _
          have HS : Hid (aloneTo (hist zs) q (k + 1) = (aloneTo (hist zs) q k).set q (m + 1)) := Lib.hid (by
            unfold aloneTo
            rw [hrs, decide_eq_true hpq, if_pos rfl, List.set_set]; rfl)
          clear hrs
          subst hpq
          go_wp2_with (first | (with_reducible refine Txt.wp_region_text mixed quiet (by decide +kernel) ?_) | (with_reducible refine Txt.text_done (by kernel_rfl) ?_))
          refine ⟨⟨k + 1, by omega, by go_num, ((hkr.setCell (.inr (by show w4.heap.size ≤ A; rw [HA1.out]; exact Nat.le_refl _)) _).alloc _).drew, Lib.hid ?_⟩, by simp [intOf]; omega⟩
          have h1 : (wr.setCell ⟨A, q, none⟩ (.int .i64 ((m : Int) + 1))).heap[A]? = some (.cells (((aloneTo (hist zs) q k).set q (m + 1)).map (Value.int .i64)).toArray 3 (0, 0)) := by
            rw [blk_setCell, if_pos rfl, HB.out]
            simp only [Option.map_some, Obj.put_cells, List.setIfInBounds_toArray, List.map_set]
          rw [HS.out]
          exact (((Keep.refl [] _).alloc _).drew).at h1 (by simp)
        · have hpb : (p == (q : Int)) = false := beq_eq_false_iff_ne.2 hpq
          have HS : Hid (aloneTo (hist zs) q (k + 1) = aloneTo (hist zs) q k) := Lib.hid (by
            unfold aloneTo
            rw [hrs, decide_eq_false hpq, HM.out]; simp)
          clear hrs
          go_wp2_with (first | (with_reducible refine Txt.wp_region_text mixed quiet (by decide +kernel) ?_) | (with_reducible refine Txt.text_done (by kernel_rfl) ?_))
          refine ⟨⟨k + 1, by omega, by go_num, (hkr.alloc _).drew, Lib.hid ?_⟩, by simp [intOf]; omega⟩
          rw [HS.out]
          exact (((Keep.refl [] _).alloc _).drew).at HB.out (by simp)
      · have hki : k = i + 1 := by omega
        have hb := HB.out
        rw [hki] at hb
        have HBF := Lib.hid hb
        obtain ⟨gi, ci, hci, hii⟩ := HQ4.out i hi1
        have hci1 := hkr.cell hci (by simp)
        have HII := Lib.hid (hii.keep hkr (by simp))
        have HVr := Lib.hid (HV4.out.keep hkr (by simp))
        have HAI := Lib.hid (alone_ints hb hq8 (show i + 1 ≤ (hist zs).length by rw [HN.out]; omega) (by rw [HN.out]; omega))
        have HAC := Lib.hid (alone_cut (hist zs) hq8 (show i + 1 ≤ (hist zs).length by rw [HN.out]; omega))
        have f1 : (i : Int) < (N : Int) := by omega
        clear hb hci hii hki
        go_wp2_with (first | (go_at_call 32; refine (whole32_at HVr.out HOK.out HII.out HCC.out HWH.out).mono ?_; rintro e w5 ⟨rfl, hk5⟩; have HV5 := Lib.hid (HVr.out.keep hk5 (by simp)); have HA5 := Lib.hid (HAI.out.keep hk5 (by simp)); have hci2 := hk5.cell hci1 (by simp)) | (go_at_call 30; refine (least30_at HV5.out HOK.out HA5.out HAC.out HLS.out HWH.out).mono ?_; rintro e w6 ⟨a6, c6, rfl, hk6, hx6⟩; have HX6 := Lib.hid hx6; have hci3 := hk6.cell hci2 (by simp); have HI6 := Lib.hid ((HII.out.keep hk5 (by simp)).keep hk6 (by simp)); clear hx6) | (go_at_call 34; refine (equal_same HX6.out HI6.out rfl).mono ?_; rintro e w7 ⟨rfl, hk7⟩))
        go_ret
        exact ⟨rfl, (((((hk0.trans hk1).trans hk2).trans hk4).trans hkr).trans hk5).trans (hk6.trans hk7)⟩
end Go.Proofs.Ytkhchfjhmplaiaa
namespace Go
open Go.RowKit
def insB (a b : List Int) : Bool := (List.range 8).all fun p => decide (a.getD p 0 ≤ b.getD p 0)
theorem insB_iff {a b : List Int} : insB a b = true ↔ InC a b := by
  unfold insB InC
  simp only [List.all_eq_true, List.mem_range, decide_eq_true_eq]
def cntL (h : List Ln) (k : Nat) : List Int := (List.range 8).map fun (p : Nat) => (rk (plQ h p) k : Int)
theorem cntL_at (h : List Ln) (k : Nat) {p : Nat} (hp : p < 8) : (cntL h k).getD p 0 = rk (plQ h p) k := by
  simp [cntL, List.getD_eq_getElem?_getD, hp]
theorem cntL_len (h : List Ln) (k : Nat) : (cntL h k).length = 8 := by simp [cntL]
theorem cntL_succ {h : List Ln} {k q : Nat} (hq : (lat h k).q = q) (hq8 : q < 8) : cntL h (k + 1) = (cntL h k).set q ((rk (plQ h q) k : Int) + 1) := by
  refine cut_ext (cntL_len _ _) (by simp [cntL_len]) (fun p hp => ?_) (fun p hp => ?_)
  all_goals
    rw [getD_set8 (cntL_len h k) hq8, cntL_at h _ hp, cntL_at h _ hp, rk_succ]
    have : plQ h p k = decide ((q : Int) = p) := by unfold plQ; rw [hq]
    rw [this]
    by_cases e : p = q
    · subst e; simp
    · rw [if_neg e, decide_eq_false (by omega)]; simp
theorem cntL_zero (h : List Ln) : cntL h 0 = zeros8 := rfl
end Go
namespace Go.Proofs.Ytkhchfjhmplaiaa
open Go.RowKit
set_option maxRecDepth 100000 in
set_option maxHeartbeats 1000000 in
theorem inside_at {a1 a2 : Option Addr} {c1 c2 : Nat} {xs ys : List Int} {B : Bool} {w : World} (hx : IntsV w a1 8 c1 xs) (hy : IntsV w a2 8 c2 ys) (hB : insB xs ys = B) :
    Calls Try.prog 33 #[.slice a1 8 c1, .slice a2 8 c2] w fun e w' => e = .returned (.bool B) ∧ Keep [] w w' := by
  obtain ⟨b1, o1, rfl, hc1⟩ := hx.cells (by omega)
  obtain ⟨b2, o2, rfl, hc2⟩ := hy.cells (by omega)
  have HC1 := Lib.hid hc1
  have HC2 := Lib.hid hc2
  have h1 := hx.room
  have h2 := hx.most
  have h3 := hy.room
  have h4 := hy.most
  unfold maxLen at h2 h4
  have HB := Lib.hid hB
  clear hx hy hc1 hc2 hB
  go_enter Try.func33, Try.ntmps33
  go_wp2_with fail
  go_loopw [5, 13] (fun _ i wr => ∃ k : Nat, k ≤ 8 ∧ i = .int .i64 k ∧ Keep [] w wr ∧ Hid (∀ p, p < k → xs.getD p 0 ≤ ys.getD p 0)) (fun _ i _ => 8 - (intOf i).toNat)
  case atStart => exact ⟨0, by omega, rfl, Keep.refl _ _, Lib.hid (fun p hp => absurd hp (by omega))⟩
  case round =>
    obtain ⟨k, hk, rfl, hkw, HP⟩ := hrel
    by_cases hlt : k < 8
    · have d1 := hkw.cell (HC1.out k hlt) (by simp)
      have d2 := hkw.cell (HC2.out k hlt) (by simp)
      obtain ⟨x, hx⟩ : ∃ x, xs.getD k 0 = x := ⟨_, rfl⟩
      obtain ⟨y, hy⟩ : ∃ y, ys.getD k 0 = y := ⟨_, rfl⟩
      rw [hx] at d1
      rw [hy] at d2
      have HX := Lib.hid hx
      have HY := Lib.hid hy
      clear hx hy
      by_cases hgt : y < x
      · have hb : decide (y < x) = true := by simpa using hgt
        go_wp2_with (first | (with_reducible refine Txt.wp_region_text mixed quiet (by decide +kernel) ?_) | (with_reducible refine Txt.text_done (by kernel_rfl) ?_))
        go_ret
        have hf : B = false := by
          rw [← HB.out]
          cases e : insB xs ys with
          | false => rfl
          | true => have := insB_iff.1 e k hlt; rw [HX.out, HY.out] at this; omega
        exact ⟨by rw [hf]; rfl, by repeat (first | exact hkw | apply Keep.drew)⟩
      · have hb : decide (y < x) = false := by simpa using hgt
        go_wp2_with (first | (with_reducible refine Txt.wp_region_text mixed quiet (by decide +kernel) ?_) | (with_reducible refine Txt.text_done (by kernel_rfl) ?_))
        go_roundw
        case measure => simp [intOf]; omega
        case rel => exact ⟨k + 1, by omega, by go_num, by repeat (first | exact hkw | apply Keep.drew), Lib.hid (fun p hp => by
          by_cases e : p = k
          · rw [e, HX.out, HY.out]; omega
          · exact HP.out p (by omega))⟩
    · have hk8 : k = 8 := by omega
      have hT : B = true := by rw [← HB.out]; exact insB_iff.2 (by rw [hk8] at HP; exact HP.out)
      have HT := Lib.hid hT
      clear hT hk8
      go_wp2_with fail
      go_ret
      exact ⟨by rw [HT.out]; rfl, hkw⟩
set_option maxRecDepth 100000 in
set_option maxHeartbeats 4000000 in
theorem cut29_any {a al : Option Addr} {n c ln cl : Nat} {h : List Ln} {ls : List Int} {w : World} (hv : LnsV w a n c h) (hk : HOk h) (hi : IntsV w al ln cl ls) :
    Calls Try.prog 29 #[.slice a n c, .slice al ln cl] w fun e w' => ∃ g C, e = .returned (.slice (some ⟨g, 0, none⟩) 8 8) ∧ Keep [] w w' ∧ IntsV w' (some ⟨g, 0, none⟩) 8 8 C ∧ CutOk h C := by
  have hn2 : n ≤ 200 := by have := hk.len; have := hv.len; omega
  have HV := Lib.hid hv
  have HK := Lib.hid hk
  have HL := Lib.hid hv.len
  have HI := Lib.hid hi
  have h1 := hi.room
  have h2 := hi.most
  unfold maxLen at h2
  have HMK := mk22
  have hA := blk_new w (.cells #[.int .i64 0, .int .i64 0, .int .i64 0, .int .i64 0, .int .i64 0, .int .i64 0, .int .i64 0, .int .i64 0] 3)
  obtain ⟨A, hA1⟩ : ∃ A, w.heap.size = A := ⟨_, rfl⟩
  have HA1 := Lib.hid hA1
  clear hv hk hi
  go_enter Try.func29, Try.ntmps29
  go_wp2_with fail
  rw [hA1] at hA
  have HA0 : Hid ((w.alloc (.cells #[.int .i64 0, .int .i64 0, .int .i64 0, .int .i64 0, .int .i64 0, .int .i64 0, .int .i64 0, .int .i64 0] 3)).heap[A]? = some (.cells ((cntL h 0).map (Value.int .i64)).toArray 3 (0, 0))) := Lib.hid (by rw [cntL_zero]; exact hA)
  clear hA hA1 HMK
  go_loopw [7, 13] (fun _ j wr => ∃ k : Nat, k ≤ n ∧ j = .int .i64 k ∧ Keep [] w wr ∧ Hid (wr.heap[A]? = some (.cells ((cntL h k).map (Value.int .i64)).toArray 3 (0, 0)))) (fun _ j _ => n - (intOf j).toNat)
  case atStart => exact ⟨0, by omega, rfl, (Keep.refl _ _).alloc _, HA0⟩
  case round =>
    obtain ⟨k, hk, rfl, hkr, HB⟩ := hrel
    by_cases hlt : k < n
    · have hlh : k < h.length := by rw [HL.out]; exact hlt
      have he := HK.out.ev k hlh
      obtain ⟨b2, o2, rfl, c0, c1, c2'⟩ := (HV.out.keep hkr (by simp)).at_ hlt
      have hsu := fun q => @cntL_succ h k q
      obtain ⟨⟨q', gg, u⟩, hL⟩ : ∃ L, lat h k = L := ⟨_, rfl⟩
      rw [hL] at he c0 c1 c2' hsu
      dsimp only at he c0 c1 c2' hsu
      clear hL
      obtain ⟨q, rfl⟩ : ∃ q : Nat, q' = q := ⟨q'.toNat, by omega⟩
      have hq8 : q < 8 := by omega
      have HSU := Lib.hid (hsu q rfl hq8)
      have hca : wr.cell? ⟨A, q, none⟩ = some (.int .i64 (rk (plQ h q) k)) := by
        rw [cellAt HB.out, ← cntL_at h k hq8]
        have := cntL_len h k
        simp [List.getD_eq_getElem?_getD, this, hq8]
      have hza := thaw HB.out
      have hrk := rk_le' (plQ h q) k
      obtain ⟨m, hm⟩ : ∃ m, rk (plQ h q) k = m := ⟨_, rfl⟩
      rw [hm] at hca HSU hrk
      have hkE : Keep [] wr (wr.alloc (.cells #[.int .i64 q, .int .i64 gg, .int .i64 u] 27)) := (Keep.refl _ _).alloc _
      have hca2 := hkE.cell hca (by simp)
      have hbl := lt_of_blk HB.out
      clear hsu hm
      go_wp2_with (first | (with_reducible refine Txt.wp_region_text mixed quiet (by decide +kernel) ?_) | (with_reducible refine Txt.text_done (by kernel_rfl) ?_))
      refine ⟨⟨k + 1, by omega, by go_num, ?_, Lib.hid ?_⟩, by simp [intOf]; omega⟩
      · refine (Keep.setCell ?_ ?_ _).alloc _
        · exact hkr
        · exact .inr (by show w.heap.size ≤ A; rw [HA1.out]; exact Nat.le_refl _)
      · have h9 : (wr.setCell ⟨A, q, none⟩ (.int .i64 ((m : Int) + 1))).heap[A]? = some (.cells (((cntL h k).set q (m + 1)).map (Value.int .i64)).toArray 3 (0, 0)) := by
          rw [blk_setCell, if_pos rfl, HB.out]
          simp only [Option.map_some, Obj.put_cells, List.setIfInBounds_toArray, List.map_set]
        rw [HSU.out]
        exact ((Keep.refl [] _).alloc _).at h9 (by simp)
    · have hkn := Lib.hid (show k = n by omega)
      go_wp2_with fail
      have hstart : Hid (∃ x : List Int, wr.heap[A]? = some (.cells (x.map (Value.int .i64)).toArray 3 (0, 0)) ∧ x.length = 8 ∧ ∀ p : Nat, p < 8 → x.getD p 0 = rk (plQ h p) h.length) := Lib.hid ⟨cntL h k, HB.out, cntL_len _ _, fun p hp => by rw [cntL_at h k hp, hkn.out, HL.out]⟩
      obtain ⟨wo, rfl⟩ : ∃ wo : World, wo = wr := ⟨_, rfl⟩
      go_loopw [8, 9, 27] (fun _ _ j wr => ∃ (i : Nat) (x : List Int), i ≤ 8 ∧ j = .int .i64 i ∧ Keep [] w wr ∧ Hid (wr.heap[A]? = some (.cells (x.map (Value.int .i64)).toArray 3 (0, 0))) ∧ Hid (x.length = 8 ∧ (∀ p : Nat, p < i → 0 ≤ x.getD p 0 ∧ x.getD p 0 ≤ rk (plQ h p) h.length) ∧ ∀ p : Nat, i ≤ p → p < 8 → x.getD p 0 = rk (plQ h p) h.length)) (fun _ _ j _ => 8 - (intOf j).toNat)
      case atStart =>
        obtain ⟨x, hx1, hx2, hx3⟩ := hstart.out
        exact ⟨0, x, by omega, rfl, hkr, Lib.hid hx1, Lib.hid ⟨hx2, fun p hp => absurd hp (by omega), fun p _ hp => hx3 p hp⟩⟩
      case round =>
        obtain ⟨i, x, hi8, rfl, hkq, HX, HP⟩ := hrel
        by_cases hli : i < 8
        · have hxi := HP.out.2.2 i (Nat.le_refl _) hli
          have hci : wr.cell? ⟨A, i, none⟩ = some (.int .i64 (x.getD i 0)) := by
            rw [cellAt HX.out]
            simp [List.getD_eq_getElem?_getD, HP.out.1, hli]
          have hrk := rk_le' (plQ h i) h.length
          rw [hxi] at hci
          obtain ⟨m, hm⟩ : ∃ m, rk (plQ h i) h.length = m := ⟨_, rfl⟩
          rw [hm] at hci hrk
          have HM := Lib.hid hm
          have hza := thaw HX.out
          rw [HL.out] at hrk
          clear hm hxi
          by_cases hil : i < ln
          · obtain ⟨b5, o5, rfl, hc5⟩ := HI.out.cells (by omega)
            have hl := hkq.cell (hc5 i hil) (by simp)
            obtain ⟨z, hz⟩ : ∃ z, ls.getD i 0 = z := ⟨_, rfl⟩
            rw [hz] at hl
            obtain ⟨r, hr, hr1⟩ := rest_nat z (m + 1 : Int) (by omega)
            have HR := Lib.hid hr
            clear hc5 hz hr
            go_wp2_with (first | (go_at_call 21; (with_reducible refine (rest_at HR (by omega) (by omega)).mono ?_); rintro e w' ⟨rfl, rfl⟩))
            refine ⟨⟨i + 1, x.set i r, by omega, by go_num, ?_, Lib.hid ?_, Lib.hid ⟨by simp [HP.out.1], fun p hp => ?_, fun p hp1 hp2 => ?_⟩⟩, by simp [intOf]; omega⟩
            · exact hkq.setCell (.inr (by show w.heap.size ≤ A; rw [HA1.out]; exact Nat.le_refl _)) _
            · rw [blk_setCell, if_pos rfl, HX.out]
              simp only [Option.map_some, Obj.put_cells, List.setIfInBounds_toArray, List.map_set]
            · rw [getD_set8 HP.out.1 hli]
              by_cases e : p = i
              · subst e; rw [if_pos rfl, HM.out]; omega
              · rw [if_neg e]; exact HP.out.2.1 p (by omega)
            · rw [getD_set8 HP.out.1 hli, if_neg (by omega)]; exact HP.out.2.2 p (by omega) hp2
          · obtain ⟨r, hr, hr1⟩ := rest_nat 0 (m + 1 : Int) (by omega)
            have HR := Lib.hid hr
            clear hr
            go_wp2_with (first | (go_at_call 21; (with_reducible refine (rest_at HR (by omega) (by omega)).mono ?_); rintro e w' ⟨rfl, rfl⟩))
            refine ⟨⟨i + 1, x.set i r, by omega, by go_num, ?_, Lib.hid ?_, Lib.hid ⟨by simp [HP.out.1], fun p hp => ?_, fun p hp1 hp2 => ?_⟩⟩, by simp [intOf]; omega⟩
            · exact hkq.setCell (.inr (by show w.heap.size ≤ A; rw [HA1.out]; exact Nat.le_refl _)) _
            · rw [blk_setCell, if_pos rfl, HX.out]
              simp only [Option.map_some, Obj.put_cells, List.setIfInBounds_toArray, List.map_set]
            · rw [getD_set8 HP.out.1 hli]
              by_cases e : p = i
              · subst e; rw [if_pos rfl, HM.out]; omega
              · rw [if_neg e]; exact HP.out.2.1 p (by omega)
            · rw [getD_set8 HP.out.1 hli, if_neg (by omega)]; exact HP.out.2.2 p (by omega) hp2
        · have hC : CutOk h x := ⟨HP.out.1, fun p hp => HP.out.2.1 p (by omega)⟩
          have HC := Lib.hid hC
          go_wp2_with fail
          go_ret
          refine ⟨A, x, rfl, hkq, ⟨HC.out.len, Nat.le_refl _, by unfold maxLen; omega, (cut_wf HC.out HK.out.len).2, fun _ => ⟨A, 0, rfl, fun p hp => ?_⟩⟩, HC.out⟩
          rw [Nat.zero_add, cellAt HX.out]
          simp [List.getD_eq_getElem?_getD, HC.out.len, hp]
end Go.Proofs.Ytkhchfjhmplaiaa
namespace Go.Proofs.Ytkhchfjhmplaiaa
open Go.RowKit
theorem equal_at {a1 a2 : Option Addr} {n1 c1 n2 c2 : Nat} {xs ys : List Int} {B : Bool} {w : World} (hx : IntsV w a1 n1 c1 xs) (hy : IntsV w a2 n2 c2 ys) (hB : decide (xs = ys) = B) :
    Calls Try.prog 34 #[.slice a1 n1 c1, .slice a2 n2 c2] w fun e w' => e = .returned (.bool B) ∧ Keep [] w w' := by
  have := equal_any hx hy
  rw [hB] at this
  exact this
theorem insB_tr {a b c d : List Int} (h : InC a b → InC c d) : insB a b = true → insB c d = true := fun e => insB_iff.2 (h (insB_iff.1 e))
theorem InC.refl (x : List Int) : InC x x := fun _ _ => Int.le_refl _
theorem least_self {h : List Ln} {x : List Int} (c : CutOk h x) : LeastI h x x := ⟨c, InC.refl _, fun _ _ h => h⟩
theorem most_self {h : List Ln} {x : List Int} (c : CutOk h x) : MostI h x x := ⟨c, InC.refl _, fun _ _ h => h⟩
theorem most_one {h : List Ln} {c x y : List Int} (hx : MostI h c x) (hwx : wholeB h x = true) (hy : MostI h c y) (hwy : wholeB h y = true) : x = y :=
  cut_ext hx.ok.len hy.ok.len (hy.most x hwx hx.le) (hx.most y hwy hy.le)
theorem most31_at {a ac : Option Addr} {n c cc : Nat} {h : List Ln} {C X : List Int} {w : World} (hv : LnsV w a n c h) (hk : HOk h) (hi : IntsV w ac 8 cc C) (hC : CutOk h C) (hX : MostI h C X) (hw : wholeB h X = true) :
    Calls Try.prog 31 #[.slice a n c, .slice ac 8 cc] w fun e w' => ∃ a' c', e = .returned (.tuple #[.slice a' 8 c', .int .i64 0]) ∧ Keep [] w w' ∧ IntsV w' a' 8 c' X := by
  refine (most31_any hv hk hi hC).mono ?_
  rintro e w' ⟨a', c', x, rfl, hk1, hx, hl, hw1⟩
  rw [most_one hl hw1 hX hw] at hx
  exact ⟨a', c', rfl, hk1, hx⟩
theorem least_eq {h : List Ln} {c x : List Int} {W : Bool} (hc : CutOk h c) (hl : LeastI h c x) (hw : wholeB h x = true) (hW : wholeB h c = W) : decide (x = c) = W := by
  cases W with
  | true => exact decide_eq_true (cut_ext hl.ok.len hc.len (hl.least c hW (InC.refl _)) hl.ge)
  | false => exact decide_eq_false (fun e => by rw [e, hW] at hw; cases hw)
theorem most_eq {h : List Ln} {c x : List Int} {W : Bool} (hc : CutOk h c) (hl : MostI h c x) (hw : wholeB h x = true) (hW : wholeB h c = W) : decide (x = c) = W := by
  cases W with
  | true => exact decide_eq_true (cut_ext hl.ok.len hc.len hl.le (hl.most c hW (InC.refl _)))
  | false => exact decide_eq_false (fun e => by rw [e, hW] at hw; cases hw)
set_option maxRecDepth 100000 in
set_option maxHeartbeats 8000000 in
theorem cutClosed_walk (a : Option Addr) (len cap : Nat) (zs : List Int) (b : Option Addr) (lenb capb : Nat) (bs : List Int) (d : Option Addr) (lend capd : Nat) (ds : List Int) (w : World) (hv : IntsV w a len cap zs) (hvb : IntsV w b lenb capb bs) (hvd : IntsV w d lend capd ds) :
    Calls Try.prog 8 #[.slice a len cap, .slice b lenb capb, .slice d lend capd] w fun e w' => e = .returned (.bool true) ∧ Keep [] w w' := by
  obtain ⟨N, hN⟩ : ∃ N, (hist zs).length = N := ⟨_, rfl⟩
  have hok : HOk (hist zs) := (hist_inv zs).ok
  have HV := Lib.hid hv
  have HVB := Lib.hid hvb
  have HVD := Lib.hid hvd
  have HOK := Lib.hid hok
  have HN := Lib.hid hN
  clear hv hvb hvd hok hN
  go_enter Try.func8, Try.ntmps8
  go_wp2_with (first | (go_at_call 28; refine (cbegun28_any _).mono ?_; rintro e w0 ⟨rfl, hk0⟩) | (go_at_call 20; refine (history_at (HV.out.keep hk0 (by simp)) HN).mono ?_; rintro e w2 ⟨a2, c2, rfl, hk2, hv2⟩; have HV2 := Lib.hid hv2; clear hv2) | (go_at_call 29; (with_reducible refine (cut29_any HV2.out HOK.out (HVB.out.keep (hk0.trans hk2) (by simp))).mono ?_); rintro e w3 ⟨g, C, rfl, hk3, hi3, hC⟩; have HV3 := Lib.hid (HV2.out.keep hk3 (by simp)); have HC3 := Lib.hid hi3; have HCO := Lib.hid hC; clear hi3 hC) | (go_at_call 30; (with_reducible refine (least30_any HV3.out HOK.out HC3.out HCO.out).mono ?_); rintro e w4 ⟨ax, cx, X, rfl, hk4, hi4, hl4, hw4⟩; have HV4 := Lib.hid (HV3.out.keep hk4 (by simp)); have HC4 := Lib.hid (HC3.out.keep hk4 (by simp)); have HX4 := Lib.hid hi4; have HLX := Lib.hid hl4; have HWX := Lib.hid hw4; clear hi4 hl4 hw4) | (go_at_call 31; (with_reducible refine (most31_any HV4.out HOK.out HC4.out HCO.out).mono ?_); rintro e w5 ⟨ay, cy, Y, rfl, hk5, hi5, hl5, hw5⟩; have HV5 := Lib.hid (HV4.out.keep hk5 (by simp)); have HC5 := Lib.hid (HC4.out.keep hk5 (by simp)); have HX5 := Lib.hid (HX4.out.keep hk5 (by simp)); have HY5 := Lib.hid hi5; have HLY := Lib.hid hl5; have HWY := Lib.hid hw5; obtain ⟨WC, hWC⟩ : ∃ WC, wholeB (hist zs) C = WC := ⟨_, rfl⟩; have HWC := Lib.hid hWC; clear hi5 hl5 hw5 hWC) | (go_at_call 32; (with_reducible refine (whole32_at HV5.out HOK.out HX5.out HLX.out.ok HWX.out).mono ?_); rintro e w6 ⟨rfl, hk6⟩; have HV6 := Lib.hid (HV5.out.keep hk6 (by simp)); have HC6 := Lib.hid (HC5.out.keep hk6 (by simp)); have HX6 := Lib.hid (HX5.out.keep hk6 (by simp)); have HY6 := Lib.hid (HY5.out.keep hk6 (by simp))) | (go_at_call 32; (with_reducible refine (whole32_at HV6.out HOK.out HY6.out HLY.out.ok HWY.out).mono ?_); rintro e w7 ⟨rfl, hk7⟩; have HV7 := Lib.hid (HV6.out.keep hk7 (by simp)); have HC7 := Lib.hid (HC6.out.keep hk7 (by simp)); have HX7 := Lib.hid (HX6.out.keep hk7 (by simp)); have HY7 := Lib.hid (HY6.out.keep hk7 (by simp))) | (go_at_call 30; (with_reducible refine (least30_at HV7.out HOK.out HX7.out HLX.out.ok (least_self HLX.out.ok) HWX.out).mono ?_); rintro e w8 ⟨ag, cg, rfl, hk8, hi8⟩; have HV8 := Lib.hid (HV7.out.keep hk8 (by simp)); have HC8 := Lib.hid (HC7.out.keep hk8 (by simp)); have HX8 := Lib.hid (HX7.out.keep hk8 (by simp)); have HY8 := Lib.hid (HY7.out.keep hk8 (by simp)); have HG8 := Lib.hid hi8; clear hi8) | (go_at_call 31; (with_reducible refine (most31_at HV8.out HOK.out HY8.out HLY.out.ok (most_self HLY.out.ok) HWY.out).mono ?_); rintro e w9 ⟨ah, ch, rfl, hk9, hi9⟩; have HV9 := Lib.hid (HV8.out.keep hk9 (by simp)); have HC9 := Lib.hid (HC8.out.keep hk9 (by simp)); have HX9 := Lib.hid (HX8.out.keep hk9 (by simp)); have HY9 := Lib.hid (HY8.out.keep hk9 (by simp)); have HG9 := Lib.hid (HG8.out.keep hk9 (by simp)); have HH9 := Lib.hid hi9; clear hi9) | (go_at_call 32; (with_reducible refine (whole32_at HV9.out HOK.out HC9.out HCO.out HWC.out).mono ?_); rintro e wl ⟨rfl, hkl⟩; have hkw : Keep [] w wl := ((((((((hk0.trans hk2).trans hk3).trans hk4).trans hk5).trans hk6).trans hk7).trans hk8).trans hk9).trans hkl))
  have HBL := Lib.hid (blk_new wl (.cells #[.int .i64 0, .int .i64 0, .int .i64 0, .int .i64 0, .int .i64 0, .int .i64 0, .int .i64 0] 23))
  obtain ⟨Q, hQ⟩ : ∃ Q, wl.heap.size = Q := ⟨_, rfl⟩
  have HVl := Lib.hid (HV9.out.keep hkl (by simp))
  have HCl := Lib.hid (HC9.out.keep hkl (by simp))
  have HXl := Lib.hid (HX9.out.keep hkl (by simp))
  have HYl := Lib.hid (HY9.out.keep hkl (by simp))
  have HGl := Lib.hid (HG9.out.keep hkl (by simp))
  have HHl := Lib.hid (HH9.out.keep hkl (by simp))
  rw [hQ] at HBL ⊢
  have HCX := Lib.hid (insB_iff.2 HLX.out.ge)
  have HYC := Lib.hid (insB_iff.2 HLY.out.le)
  have HE1 := Lib.hid (least_eq HCO.out HLX.out HWX.out HWC.out)
  have HE2 := Lib.hid (most_eq HCO.out HLY.out HWY.out HWC.out)
  clear HV2 HV3 HV4 HV5 HV6 HV7 HV8 HV9 HC3 HC4 HC5 HC6 HC7 HC8 HC9 HX4 HX5 HX6 HX7 HX8 HX9 HY5 HY6 HY7 HY8 HY9 HG8 HG9 HH9 hk0 hk2 hk3 hk4 hk5 hk6 hk7 hk8 hk9 hkl hQ
  go_loopw [24, 85] (fun _ j wr => ∃ k : Nat, k ≤ 7 ∧ j = .int .i64 k ∧ wr = wl.alloc (.cells #[.int .i64 0, .int .i64 0, .int .i64 0, .int .i64 0, .int .i64 0, .int .i64 0, .int .i64 0] 23)) (fun _ j _ => 7 - (intOf j).toNat)
  case atStart => exact ⟨0, by omega, rfl, by trivial⟩
  case round =>
    obtain ⟨k, hk, rfl, hwr⟩ := hrel
    by_cases hlt : k < 7
    · have hc : wr.cell? ⟨Q, k, none⟩ = some (.int .i64 0) := by
        rw [hwr, cellAt HBL.out]
        rcases (by omega : k = 0 ∨ k = 1 ∨ k = 2 ∨ k = 3 ∨ k = 4 ∨ k = 5 ∨ k = 6) with h | h | h | h | h | h | h <;> (subst h; rfl)
      have HWR := Lib.hid hwr
      clear hwr
      go_wp2_with fail
      go_roundw
      case measure => simp [intOf]; omega
      case rel => exact ⟨k + 1, by omega, by go_num, HWR.out⟩
    · have hkm : Keep [] wl wr := by rw [hwr]; exact (Keep.refl _ _).alloc _
      clear hwr
      cases WC
      all_goals
        go_wp2_with (first | (go_at_call 33; (with_reducible refine (inside_at (HCl.out.keep hkm (by simp)) (HXl.out.keep hkm (by simp)) HCX.out).mono ?_); rintro e wA ⟨rfl, hkA⟩; have hA := hkm.trans hkA) | (go_at_call 33; (with_reducible refine (inside_at (HYl.out.keep hA (by simp)) (HCl.out.keep hA (by simp)) HYC.out).mono ?_); rintro e wB ⟨rfl, hkB⟩; have hB := hA.trans hkB) | (go_at_call 34; (with_reducible refine (equal_same (HGl.out.keep hB (by simp)) (HXl.out.keep hB (by simp)) rfl).mono ?_); rintro e wC ⟨rfl, hkC⟩; have hC := hB.trans hkC) | (go_at_call 34; (with_reducible refine (equal_same (HHl.out.keep hC (by simp)) (HYl.out.keep hC (by simp)) rfl).mono ?_); rintro e wD ⟨rfl, hkD⟩; have hD := hC.trans hkD) | (go_at_call 34; (with_reducible refine (equal_at (HXl.out.keep hD (by simp)) (HCl.out.keep hD (by simp)) HE1.out).mono ?_); rintro e wE ⟨rfl, hkE⟩; have hE := hD.trans hkE) | (go_at_call 34; (with_reducible refine (equal_at (HYl.out.keep hE (by simp)) (HCl.out.keep hE (by simp)) HE2.out).mono ?_); rintro e wF ⟨rfl, hkF⟩; have hF := hE.trans hkF) | (go_at_call 29; (with_reducible refine (cut29_any (HVl.out.keep hF (by simp)) HOK.out (HVD.out.keep (hkw.trans hF) (by simp))).mono ?_); rintro e wG ⟨gd, Dc, rfl, hkG, hiG, hDc⟩; have hG := hF.trans hkG; have HDI := Lib.hid hiG; have HDC := Lib.hid hDc; clear hiG hDc) | (go_at_call 30; (with_reducible refine (least30_any (HVl.out.keep hG (by simp)) HOK.out HDI.out HDC.out).mono ?_); rintro e wH ⟨ad, cd, Dx, rfl, hkH, hiH, hlH, hwH⟩; have hH := hG.trans hkH; have HD := Lib.hid hiH; have HWD := Lib.hid hwH; clear hiH hlH; have HI2 := Lib.hid (insB_tr (fun r => HLX.out.least Dx hwH r)); have HI4 := Lib.hid (insB_tr (fun r => HLY.out.most Dx hwH r)); obtain ⟨B1, hB1⟩ : ∃ B, insB C Dx = B := ⟨_, rfl⟩; obtain ⟨B2, hB2⟩ : ∃ B, insB X Dx = B := ⟨_, rfl⟩; obtain ⟨B3, hB3⟩ : ∃ B, insB Dx C = B := ⟨_, rfl⟩; obtain ⟨B4, hB4⟩ : ∃ B, insB Dx Y = B := ⟨_, rfl⟩; rw [hB1, hB2] at HI2; rw [hB3, hB4] at HI4; have HB1 := Lib.hid hB1; have HB2 := Lib.hid hB2; have HB3 := Lib.hid hB3; have HB4 := Lib.hid hB4; clear hB1 hB2 hB3 hB4) | (go_at_call 33; (with_reducible refine (inside_at (HCl.out.keep hH (by simp)) HD.out HB1.out).mono ?_); rintro e wI ⟨rfl, hkI⟩; have hI := hH.trans hkI; have HDi := Lib.hid (HD.out.keep hkI (by simp))) | (go_at_call 33; (with_reducible refine (inside_at (HXl.out.keep hI (by simp)) HDi.out HB2.out).mono ?_); rintro e wJ ⟨rfl, hkJ⟩; have hJ := hI.trans hkJ; have HDj := Lib.hid (HDi.out.keep hkJ (by simp))) | (go_at_call 33; (with_reducible refine (inside_at HDj.out (HCl.out.keep hJ (by simp)) HB3.out).mono ?_); rintro e wK ⟨rfl, hkK⟩; have hK := hJ.trans hkK; have HDk := Lib.hid (HDj.out.keep hkK (by simp))) | (go_at_call 33; (with_reducible refine (inside_at HDi.out (HCl.out.keep hI (by simp)) HB3.out).mono ?_); rintro e wK ⟨rfl, hkK⟩; have hK := hI.trans hkK; have HDk := Lib.hid (HDi.out.keep hkK (by simp))) | (go_at_call 33; (with_reducible refine (inside_at HDk.out (HYl.out.keep hK (by simp)) HB4.out).mono ?_); rintro e wL ⟨rfl, hkL⟩; have hL := hK.trans hkL))
        all_goals
          have l2 := HI2.out
          have l4 := HI4.out
          first
          | (exfalso; exact absurd (l2 (by assumption)) (by assumption))
          | (go_ret; refine ⟨?_, hkw.trans hL⟩; have l5 : B4 = true := l4 ‹B3 = true›; rw [l5]; rfl)
          | (go_ret; exact ⟨rfl, hkw.trans hK⟩)
end Go.Proofs.Ytkhchfjhmplaiaa
