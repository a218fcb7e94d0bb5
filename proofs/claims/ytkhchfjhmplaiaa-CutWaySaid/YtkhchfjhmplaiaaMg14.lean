/- Texts laid together: CW2 CW3. -/
import Derived.Test.YtkhchfjhmplaiaaMg13
/- CutWay: cut.Way. -/
namespace Go
open Go.RowKit
theorem cell_ltW {w : World} {a : Addr} {v : Value} (h : w.cell? a = some v) : a.block < w.heap.size := by
  rcases Nat.lt_or_ge a.block w.heap.size with h' | h'
  · exact h'
  · simp [World.cell?, Array.getElem?_eq_none h'] at h
theorem own_baseW {w : World} {b b' e m n : Nat} {v : Value} {xs : List Value} (h : w.ownsRow b e m v n xs) (hb : b' ≤ b) : w.ownsRow b' e m v n xs :=
  ⟨h.1, h.2.imp id fun ⟨g, cap, cur, h1, h2, h3⟩ => ⟨g, cap, cur, h1, Nat.le_trans hb h2, h3⟩⟩
theorem kindAt {h : List Ln} {g x : Int} {v : Value} (hx : FG h g h.length x = some v) : ∃ k, k < h.length ∧ (lat h k).g = g ∧ (lat h k).u = x ∧ v = spotV h k := by
  unfold FG at hx
  obtain ⟨k, hk, rfl⟩ := Option.map_eq_some_iff.1 hx
  obtain ⟨h1, h2, h3⟩ := kindIx_some hk
  exact ⟨k, h1, h2, h3, rfl⟩
theorem spot_of {h : List Ln} (hk : HOk h) {j : Nat} (hj : j < h.length) (C : List Int) : ∃ p m : Nat, p < 8 ∧ spotV h j = .agg #[.int .i64 p, .int .i64 m] ∧ inC h C j = decide ((m : Int) < C.getD p 0) := by
  have he := hk.ev j hj
  obtain ⟨p, hp⟩ : ∃ p : Nat, (lat h j).q = p := ⟨(lat h j).q.toNat, by omega⟩
  refine ⟨p, posN h j, by omega, by unfold spotV; rw [hp], ?_⟩
  unfold inC
  rw [hp]; rfl
/-- A message of the map of sends, and its take. -/
theorem way_entry {h : List Ln} (hk : HOk h) (C : List Int) {x : Int} {c : Value} (hc : FG h 2 h.length x = some c) : ∃ (p1 m1 p3 m3 : Nat) (tk : Bool), p1 < 8 ∧ p3 < 8 ∧ c = .agg #[.int .i64 p1, .int .i64 m1] ∧ (FG h 3 h.length x).getD (.agg #[.int .i64 0, .int .i64 0]) = .agg #[.int .i64 p3, .int .i64 m3] ∧ (FG h 3 h.length x).isSome = tk ∧ (goes h C x ↔ (decide ((m1 : Int) < C.getD p1 0) && !(tk && decide ((m3 : Int) < C.getD p3 0))) = true) := by
  obtain ⟨j, hj, hg, hu, rfl⟩ := kindAt hc
  obtain ⟨p1, m1, hp1, hs1, hi1⟩ := spot_of hk hj C
  have hone : ∀ j', j' < h.length → (lat h j').g = 2 → (lat h j').u = x → j' = j := fun j' hj' hg' hu' => by
    rcases Nat.lt_trichotomy j' j with hlt | rfl | hlt
    · exact absurd (hu'.trans hu.symm) (hk.sends j' j hlt hj hg' hg)
    · rfl
    · exact absurd (hu.trans hu'.symm) (hk.sends j j' hlt hj' hg hg')
  cases ht : FG h 3 h.length x with
  | none =>
    refine ⟨p1, m1, 0, 0, false, hp1, by decide, hs1, rfl, rfl, ?_⟩
    rw [← hi1, Bool.false_and, Bool.not_false, Bool.and_true]
    constructor
    · rintro ⟨j', h1, h2, h3, h4, _⟩
      rw [← hone j' h1 h2 h3]; exact h4
    · intro h4
      refine ⟨j, hj, hg, hu, h4, fun i hi hi3 hiu => ?_⟩
      have := take_has hk hi hi3
      rw [hiu, ht] at this
      cases this
  | some v =>
    obtain ⟨i, hi, hi3, hiu, rfl⟩ := kindAt ht
    obtain ⟨p3, m3, hp3, hs3, hi3'⟩ := spot_of hk hi C
    refine ⟨p1, m1, p3, m3, true, hp1, hp3, hs1, hs3, rfl, ?_⟩
    rw [← hi1, ← hi3', Bool.true_and, Bool.and_eq_true]
    constructor
    · rintro ⟨j', h1, h2, h3, h4, h5⟩
      rw [← hone j' h1 h2 h3]
      exact ⟨h4, by rw [h5 i hi hi3 hiu]; rfl⟩
    · rintro ⟨h4, h5⟩
      refine ⟨j, hj, hg, hu, h4, fun i' hi' hi3' hiu' => ?_⟩
      have hii : i' = i := by
        rcases Nat.lt_trichotomy i' i with hlt | rfl | hlt
        · exact absurd (hiu'.trans hiu.symm) (hk.takes i' i hlt hi hi3' hi3)
        · rfl
        · exact absurd (hiu.trans hiu'.symm) (hk.takes i i' hlt hi' hi3 hi3')
      rw [hii]
      simpa using h5
theorem nodup_lenW : ∀ (l U : List Int), l.Nodup → (∀ x ∈ l, x ∈ U) → l.length ≤ U.length
  | [], _, _, _ => Nat.zero_le _
  | x :: l, U, h, hs => by
    have hx := hs x (List.mem_cons_self ..)
    obtain ⟨hxl, hl⟩ := List.nodup_cons.1 h
    have ih := nodup_lenW l (U.erase x) hl (fun y hy => (List.mem_erase_of_ne (fun e : y = x => hxl (by rw [← e]; exact hy))).2 (hs y (List.mem_cons_of_mem _ hy)))
    rw [List.length_erase_of_mem hx] at ih
    have : 0 < U.length := List.length_pos_of_mem hx
    rw [List.length_cons]; omega
/-- There are as many on the list as events, at most. -/
theorem goes_len {h : List Ln} {C out : List Int} (hn : out.Nodup) (hs : ∀ x ∈ out, goes h C x) : out.length ≤ h.length := by
  have := nodup_lenW out ((List.range h.length).map fun j => (lat h j).u) hn (fun x hx => by
    obtain ⟨j, hj, _, hu, _⟩ := hs x hx
    exact List.mem_map.2 ⟨j, List.mem_range.2 hj, hu⟩)
  simpa using this
theorem goes_has {h : List Ln} (hk : HOk h) {C : List Int} {x : Int} (hg : goes h C x) : (FG h 2 h.length x).isSome = true := by
  obtain ⟨j, hj, h2, rfl, _⟩ := hg
  have := kindIx_eq (h := h) (g := 2) (k := h.length) (j := j) (fun x y hxy hy => hk.sends x y hxy hy) hj h2
  unfold FG
  rw [this]; rfl
theorem left_step {left : Lit → Bool} {x y : Int} : ((fun z : Lit => left z && !z.sameKey (.int .i64 x)) (.int .i64 y) = false) ↔ (left (.int .i64 y) = false ∨ y = x) := by
  have h : (Lit.int IntKind.i64 y).sameKey (.int .i64 x) = decide (y = x) := by rw [Bool.eq_iff_iff]; simp [Lit.sameKey]
  show (left _ && !_) = false ↔ _
  rw [h]
  by_cases e : y = x
  · simp [e]
  · simp [e]
theorem goes_wf {h : List Ln} (hk : HOk h) {C : List Int} {x : Int} (hg : goes h C x) : (Lit.int .i64 x).wf = true := by
  obtain ⟨j, hj, _, rfl, _⟩ := hg
  have := hk.ev j hj
  exact wf_msg (by omega) (by omega)
theorem way_yes {h : List Ln} {C out : List Int} {left : Lit → Bool} {x : Int} (hn : out.Nodup) (hm : ∀ x, x ∈ out ↔ (goes h C x ∧ left (.int .i64 x) = false)) (hl : left (.int .i64 x) = true) (hg : goes h C x) : (out ++ [x]).Nodup ∧ ∀ y, y ∈ out ++ [x] ↔ (goes h C y ∧ (fun z : Lit => left z && !z.sameKey (.int .i64 x)) (.int .i64 y) = false) := by
  refine ⟨?_, fun y => ?_⟩
  · rw [List.nodup_append]
    refine ⟨hn, List.nodup_cons.2 ⟨by simp, List.nodup_nil⟩, fun a ha b hb e => ?_⟩
    rw [List.mem_singleton.1 hb] at e
    subst e
    have := ((hm a).1 ha).2
    rw [hl] at this
    cases this
  · rw [List.mem_append, List.mem_singleton, left_step, hm]
    constructor
    · rintro (⟨h1, h2⟩ | rfl)
      · exact ⟨h1, .inl h2⟩
      · exact ⟨hg, .inr rfl⟩
    · rintro ⟨h1, h2 | rfl⟩
      · exact .inl ⟨h1, h2⟩
      · exact .inr rfl
theorem way_no {h : List Ln} {C out : List Int} {left : Lit → Bool} {x : Int} (hm : ∀ x, x ∈ out ↔ (goes h C x ∧ left (.int .i64 x) = false)) (hg : ¬ goes h C x) : ∀ y, y ∈ out ↔ (goes h C y ∧ (fun z : Lit => left z && !z.sameKey (.int .i64 x)) (.int .i64 y) = false) := fun y => by
  rw [left_step, hm]
  constructor
  · rintro ⟨h1, h2⟩
    exact ⟨h1, .inl h2⟩
  · rintro ⟨h1, h2 | rfl⟩
    · exact ⟨h1, h2⟩
    · exact absurd h1 hg
end Go
namespace Go.Proofs.Ytkhchfjhmplaiaa
open Go.RowKit
set_option maxRecDepth 100000 in
set_option maxHeartbeats 8000000 in
theorem way57_any {a ac : Option Addr} {n c cc : Nat} {h : List Ln} {C : List Int} {w : World} (hv : LnsV w a n c h) (hk : HOk h) (hi : IntsV w ac 8 cc C) (hC : CutOk h C) :
    Calls Try.prog 57 #[.slice a n c, .slice ac 8 cc] w fun e w' => ∃ v out, e = .returned (.tuple #[v, .int .i64 0]) ∧ w'.ownsRow w.heap.size 3 1 v out.length ((sortI out).map (Value.int .i64)) ∧ out.Nodup ∧ (∀ x, x ∈ out ↔ goes h C x) ∧ Keep [] w w' := by
  have HCV := Lib.hid (cuts1 hi hC.bd)
  have HV := Lib.hid (hv.keep ((Keep.refl [] w).alloc (.cells #[.slice ac 8 cc] 22)) (by simp))
  have HK := Lib.hid hk
  have HN := Lib.hid hv.len
  have hl8 := hi.len
  obtain ⟨i3, hi3, hy0, hy1, hy2⟩ := info_parts info3
  have hn200 : n ≤ 200 := by have := hk.len; have := hv.len; omega
  obtain ⟨x0, x1, x2, x3, x4, x5, x6, x7, rfl⟩ := list8 hl8
  have hkA : Keep [] w (w.alloc (.cells #[.slice ac 8 cc] 22)) := (Keep.refl _ _).alloc _
  clear hv hk hi hC hl8
  go_enter Try.func57, Try.ntmps57
  go_wp2_with (first | (go_at_call 58; refine (begin_walk HV.out HK.out HCV.out (by omega) (by omega) (by unfold maxLen; omega)).mono ?_; rintro e w1 ⟨H, S, T, V, v, rfl, hk1, _, _, _, hst, ho⟩; obtain ⟨g, cap, rfl, hg8⟩ := own76 ho; have HST := Lib.hid hst; have HG8 := Lib.hid hg8; obtain ⟨s8, s9⟩ := hst.cellS; have HK1 := Lib.hid (hkA.trans hk1); obtain ⟨D, hD, hDm, hDk, hDh⟩ := hst.snd; have HD := Lib.hid hD; have HDM := Lib.hid hDm; have HDK := Lib.hid hDk; have HDH := Lib.hid hDh; clear hst ho hg8 hk1 hD hDm hDk hDh) | (at_range; refine wpList_range_own _ rfl _ 110 rfl 3 89 (Maps.int_keyed Try.underlying3) Try.underlying110 asIs S n D rfl HD.out ?_; intro w0 hrg0 hg0 hs0; have HRG := Lib.hid hrg0; have HG0 := Lib.hid hg0) | go_in)
  go_frame
  obtain ⟨Cl, hCl⟩ : ∃ Cl, [x0, x1, x2, x3, x4, x5, x6, x7] = Cl := ⟨_, rfl⟩
  have HCL := Lib.hid hCl
  obtain ⟨R, hR⟩ : ∃ R, w1.heap.size = R := ⟨_, rfl⟩
  have HW1 : Hid (w.heap.size ≤ R) := Lib.hid (by rw [← hR]; exact HK1.out.size)
  have HSR : Hid (S < R ∧ H < R ∧ T < R ∧ g < R) := Lib.hid (by
    have h1 := HST.out.snd.lt; have h2 := lt_of_blk HST.out.blk; have h3 := HST.out.tak.lt; have h4 := Go.cell_ltW (HG8.out 0 (by omega))
    rw [← hR]; exact ⟨h1, h2, h3, h4⟩)
  rw [hR] at hrg0 hs0 ⊢
  have HRG0 := Lib.hid hrg0
  have hk00 : Keep [] w1 w0 := Keep.ofGrown hg0 (fun x hx => by cases hx)
  have HKW0 := Lib.hid (HK1.out.trans hk00)
  have HS0 := Lib.hid (HST.out.keep hk00)
  have HG0 : Hid (∀ i, i < 8 → w0.cell? ⟨g, i, none⟩ = some (.int .i64 (Cl.getD i 0))) := Lib.hid (fun i hi => by rw [← hCl]; exact hk00.cell (HG8.out i hi) (by simp))
  rw [hCl] at HG8
  clear HRG hrg0 hg0 HST s8 s9 HD hk00 hR hCl HG8
  go_loopw [9, 10, 11, 12, 13] (fun o _ _ _ _ wr => ∃ (left : Lit → Bool) (cnt : Nat) (out : List Int), Hid (Keep [R] w0 wr) ∧ Hid (wr.ranges Try.prog 3 asIs S R n D left cnt) ∧ Hid (wr.ownsRow (R + 1) 3 1 o out.length (out.map (Value.int .i64))) ∧ Hid out.Nodup ∧ Hid (∀ x, x ∈ out ↔ (goes h Cl x ∧ left (.int .i64 x) = false))) (fun _ _ _ _ _ wr => wr.rangeLeft S R)
  case atStart =>
    refine ⟨_, _, [], Lib.hid (Keep.refl _ _), HRG0, Lib.hid (World.ownsRow_nil _ _ _ _), Lib.hid List.nodup_nil, Lib.hid (fun x => ?_)⟩
    constructor
    · intro hx; cases hx
    · rintro ⟨h1, h2⟩
      rw [HDH.out, ← HN.out, goes_has HK.out h1] at h2
      cases h2
  case round =>
    obtain ⟨left, cnt, out, HKR, HRG, HO, HND, HMM⟩ := hrel
    go_wp2_with (first | (at_next; refine wpList_next_ranges _ rfl _ rfl 3 (Maps.int_keyed Try.underlying3) asIs (Value.int .i64) id (fun key kl hkey => by obtain ⟨x, rfl, _⟩ := Maps.keyOf_int_inv Try.underlying3 hkey; exact ⟨x, rfl⟩) (fun v y _ => ⟨v, rfl⟩) S R n D left cnt rfl HRG.out ?_ ?_))
    · intro hc0 hl0
      have hlen := goes_len HND.out (fun x hx => ((HMM.out x).1 hx).1)
      have HSO := Lib.hid (sort56_own HO.out (by have := HN.out; omega))
      go_wp2_with (first | (with_reducible refine Txt.wp_region_text mixed quiet (by decide +kernel) ?_) | (with_reducible refine Txt.text_done (by kernel_rfl) ?_) | (go_at_call 56; (with_reducible refine HSO.out.mono ?_); rintro e w9 ⟨rfl, ho9, hk9⟩; have HO9 := Lib.hid ho9; have HK9 := Lib.hid hk9; clear ho9 hk9))
      go_ret2
      rw [HCL.out]
      refine ⟨_, out, rfl, own_baseW HO9.out (by have := HW1.out; omega), HND.out, fun x => ⟨fun hx => ((HMM.out x).1 hx).1, fun hg => (HMM.out x).2 ⟨hg, hl0 _⟩⟩, ?_⟩
      exact (HKW0.out.call HKR.out (fun z hz => .inr (by rw [List.mem_singleton.1 hz]; exact HW1.out))).call HK9.out (fun z hz => .inr (by have := (ownLtW HO.out z (by simpa using hz)).1; have := HW1.out; omega))
    · intro x c kl y ys w1' cnt1 hkey hlk hRc hat hrg1 hlt1 hg1 hs1 hen
      obtain ⟨x', hxe, rfl, hxw⟩ := Maps.keyOf_int_inv Try.underlying3 hkey
      cases hxe
      have hfc : FG h 2 h.length x = some c := by
        rw [HN.out]
        have hy : y = .held c := by
          have : asIs c = some (y, ys) := hRc
          unfold asIs at this
          cases this; rfl
        rw [hy] at hat
        exact held_some (fun z => by rw [← HDK.out x z]; exact hat _)
      obtain ⟨p1, m1, p3, m3, tk, hp1, hp3, rfl, htv, htk, hgo⟩ := way_entry HK.out Cl hfc
      rw [HN.out] at htv htk
      have HTV := Lib.hid htv
      have HTK := Lib.hid htk
      have HXW := Lib.hid hxw
      have hkr1 : Keep [R] wr w1' := Keep.ofGrown hg1 (fun z hz => by cases hz; simp)
      have HK01 := Lib.hid (HKR.out.trans hkr1)
      have HKR1 := Lib.hid hkr1
      have hsr := HSR.out
      have HT1 : Hid (∀ o, MapF (w1'.alloc o) Try.prog 3 T n (FG h 3 n)) := Lib.hid (fun o => HS0.out.tak.keep (HK01.out.trans (Keep.mono0 ((Keep.refl [] _).alloc o))) (by simp; omega))
      have s9 := HK01.out.cell HS0.out.cellS.2 (by simp; omega)
      have s9b : ∀ o, (w1'.alloc o).cell? ⟨H, 9, none⟩ = some (.map (some T)) := fun o => ((Keep.refl [] w1').alloc o).cell s9 (by simp)
      have s9c := s9b (.cells #[.int .i64 p1, .int .i64 m1] 89)
      have HRG1 := Lib.hid hrg1
      have HLK := Lib.hid hlk
      have HGO := Lib.hid hgo
      clear hkey hat hfc hRc hrg1 htv htk hgo hxw s9b hlk hkr1
      go_upto_region 9 with (first | (with_reducible refine Txt.wp_region_text mixed quiet (by decide +kernel) ?_) | (with_reducible refine Txt.text_done (by kernel_rfl) ?_) | (at_lookup; refine wpList_lookup_f2 _ rfl _ _ 110 rfl 3 89 Try.underlying110 Try.underlying3 (.agg #[.int .i64 0, .int .i64 0]) (zero89 _) T n (FG h 3 n) rfl (HT1.out _) x rfl HXW.out ?_; rw [HTV.out, HTK.out]))
      obtain ⟨E, hE⟩ : ∃ E, wr.heap.size = E := ⟨_, rfl⟩
      have hE1 : w1'.heap.size = E := by rw [← hE]; assumption
      obtain ⟨w2, hw2⟩ : ∃ w2, (w1'.alloc (.cells #[.int .i64 p1, .int .i64 m1] 89)).alloc (.cells #[.int .i64 p3, .int .i64 m3] 89) = w2 := ⟨_, rfl⟩
      have hkE : Keep [] w1' w2 := by rw [← hw2]; exact ((Keep.refl _ _).alloc _).alloc _
      have hsp : w2.heap[E]? = some (.cells #[.int .i64 p1, .int .i64 m1] 89 (0, 0)) := by
        rw [← hw2, ← hE1]; exact ((Keep.refl [] _).alloc _).at (blk_new w1' _) (by simp)
      have hst : w2.heap[E + 1]? = some (.cells #[.int .i64 p3, .int .i64 m3] 89 (0, 0)) := by
        have h2 := blk_new (w1'.alloc (.cells #[.int .i64 p1, .int .i64 m1] 89)) (.cells #[.int .i64 p3, .int .i64 m3] 89)
        rw [show (w1'.alloc (.cells #[.int .i64 p1, .int .i64 m1] 89)).heap.size = E + 1 by simp [hE1], hw2] at h2
        exact h2
      have HALL : Hid (∀ w', Keep [] w2 w' → w'.cell? ⟨g, 0, none⟩ = some (.int .i64 x0) ∧ w'.cell? ⟨g, 1, none⟩ = some (.int .i64 x1) ∧ w'.cell? ⟨g, 2, none⟩ = some (.int .i64 x2) ∧ w'.cell? ⟨g, 3, none⟩ = some (.int .i64 x3) ∧ w'.cell? ⟨g, 4, none⟩ = some (.int .i64 x4) ∧ w'.cell? ⟨g, 5, none⟩ = some (.int .i64 x5) ∧ w'.cell? ⟨g, 6, none⟩ = some (.int .i64 x6) ∧ w'.cell? ⟨g, 7, none⟩ = some (.int .i64 x7) ∧ w'.cell? ⟨E, 0, none⟩ = some (.int .i64 p1) ∧ w'.cell? ⟨E, 1, none⟩ = some (.int .i64 m1) ∧ w'.cell? ⟨E + 1, 0, none⟩ = some (.int .i64 p3) ∧ w'.cell? ⟨E + 1, 1, none⟩ = some (.int .i64 m3)) := Lib.hid (fun w' hk => by
        obtain ⟨b0, b1, b2, b3, b4, b5, b6, b7⟩ := row8' (w := w') (g := g) (x0 := x0) (x1 := x1) (x2 := x2) (x3 := x3) (x4 := x4) (x5 := x5) (x6 := x6) (x7 := x7) (fun i hi => by
          rw [HCL.out]
          exact (HK01.out.trans (Keep.mono0 (hkE.trans hk))).cell (HG0.out i hi) (by simp; omega))
        obtain ⟨r0, r1, _⟩ := row2 (hk.at hsp (by simp))
        obtain ⟨r2, r3, _⟩ := row2 (hk.at hst (by simp))
        exact ⟨b0, b1, b2, b3, b4, b5, b6, b7, r0, r1, r2, r3⟩)
      have HBASE : Hid (∀ w', Keep [] w2 w' → Keep [R] w0 w') := Lib.hid (fun w' hk => HK01.out.trans (Keep.mono0 (hkE.trans hk)))
      have HRNG : Hid (∀ w', Keep [] w2 w' → w'.ranges Try.prog 3 asIs S R n D (fun z => left z && !z.sameKey (.int .i64 x)) cnt1) := Lib.hid (fun w' hk => ranges_keep HRG1.out (hkE.trans hk))
      have hgeR : ∀ g, u9.ownBlock = some g → R + 1 ≤ g := fun g hg => (ownLtW HO.out g hg).1
      have HOW : Hid (∀ w', Keep [] w2 w' → w'.ownsRow (R + 1) 3 1 u9 out.length (out.map (Value.int .i64))) := Lib.hid (fun w' hk => own_keep (own_keep HO.out HKR1.out (fun g hg hm => by have := hgeR g hg; have := List.mem_singleton.1 hm; omega)) (hkE.trans hk) (by simp))
      have HOB : Hid (∀ g, u9.ownBlock = some g → w0.heap.size ≤ g) := Lib.hid (fun g hg => by have := hgeR g hg; omega)
      have HNS : Hid (∀ k, k ≤ R → k ∉ u9.ownBlock.toList) := Lib.hid (fun k hk hm => by have := hgeR k (by simpa using hm); omega)
      have HSZ : Hid (∀ w', Keep [] w2 w' → R + 1 ≤ w'.heap.size) := Lib.hid (fun w' hk => by have h1 := (HK01.out.trans (Keep.mono0 (hkE.trans hk))).size; omega)
      have hlen := goes_len HND.out (fun x hx => ((HMM.out x).1 hx).1)
      rw [HN.out] at hlen
      obtain ⟨A1, hA1⟩ : ∃ A, decide ((m1 : Int) < [x0, x1, x2, x3, x4, x5, x6, x7].getD p1 0) = A := ⟨_, rfl⟩
      obtain ⟨A3, hA3⟩ : ∃ A, decide ((m3 : Int) < [x0, x1, x2, x3, x4, x5, x6, x7].getD p3 0) = A := ⟨_, rfl⟩
      have hgo2 := HGO.out
      rw [← HCL.out, hA1, hA3, HCL.out] at hgo2
      have HGO2 := Lib.hid hgo2
      have HA1 := Lib.hid hA1
      have HA3 := Lib.hid hA3
      rw [hw2, hE]
      clear hgo2 hA1 hA3 hsp hst hw2 hgeR hkE s9 s9c HO HT1 HG0 HTV HTK
      have tok1 : True := trivial
      have hkz : Keep [] w2 w2 := Keep.refl _ _
      obtain ⟨b0, b1, b2, b3, b4, b5, b6, b7, r0, r1, r2, r3⟩ := HALL.out w2 hkz
      cases A1
      · go_wp2_with (first | (with_reducible refine Txt.wp_region_text mixed quiet (by decide +kernel) ?_) | (with_reducible refine Txt.text_done (by kernel_rfl) ?_) | (go_at_call 81; have _t := tok1; (with_reducible refine (has81_at hp1 HA1).mono ?_); rintro e w3 ⟨rfl, hk3d⟩; have hk3 : Keep [] w2 w3 := (by first | exact hk3d | exact (hkz.drew).trans hk3d); clear tok1 _t hk3d; obtain ⟨d0, d1, d2, d3, d4, d5, d6, d7, t0, t1, t2, t3⟩ := HALL.out w3 hk3))
        all_goals
          go_wp2_with fail
          go_roundw
          case measure => rw [(HRNG.out _ (by first | exact hk4 | exact hk4.drew | exact hk3 | exact hk3.drew)).left_eq, HRG.out.left_eq]; exact hlt1
          case rel => exact ⟨_, cnt1, out, Lib.hid (HBASE.out _ (by first | exact hk4 | exact hk4.drew | exact hk3 | exact hk3.drew)), Lib.hid (HRNG.out _ (by first | exact hk4 | exact hk4.drew | exact hk3 | exact hk3.drew)), Lib.hid (HOW.out _ (by first | exact hk4 | exact hk4.drew | exact hk3 | exact hk3.drew)), HND, Lib.hid (way_no HMM.out (fun hg => by have := HGO2.out.1 hg; simp at this))⟩
      · cases tk
        · go_wp2_with (first | (at_builtin; (refine wpList_append_own _ rfl _ _ 22 rfl (R + 1) 3 i3 (.int .i64 0) 1 8 Try.underlying22 hi3 hy0 hy1 hy2 rfl (by decide) u9 out.length (out.map (Value.int .i64)) rfl (HOW.out _ (by first | exact hk3.alloc _ | exact (hk3.drew).alloc _)) ⟨_, 0, none⟩ 1 1 [.int .i64 x] rfl rfl (cells_new _ _ _ _) (by intro u hu; simp at hu; subst hu; rfl) (by unfold maxLen; omega) (by omega) (HSZ.out _ (by first | exact hk3.alloc _ | exact (hk3.drew).alloc _)) ?_); intro v6 w6 hown6 hgr6 _; have HO6 := Lib.hid hown6; have HK6 : Hid (Keep [R] w0 w6) := Lib.hid ((HBASE.out _ (by first | exact hk3.alloc _ | exact (hk3.drew).alloc _)).grown hgr6 (fun g hg => .inr (HOB.out g hg))); have HR6 := Lib.hid (ranges_keep2 (HRNG.out _ (by first | exact hk3.alloc _ | exact (hk3.drew).alloc _)) (Keep.ofGrown hgr6 (S := u9.ownBlock.toList) (fun k hk => by simp [hk])) (HNS.out S (Nat.le_of_lt hsr.1)) (HNS.out R (Nat.le_refl _))); clear hown6 hgr6) | (with_reducible refine Txt.wp_region_text mixed quiet (by decide +kernel) ?_) | (with_reducible refine Txt.text_done (by kernel_rfl) ?_) | (go_at_call 81; have _t := tok1; (with_reducible refine (has81_at hp1 HA1).mono ?_); rintro e w3 ⟨rfl, hk3d⟩; have hk3 : Keep [] w2 w3 := (by first | exact hk3d | exact (hkz.drew).trans hk3d); clear tok1 _t hk3d; obtain ⟨d0, d1, d2, d3, d4, d5, d6, d7, t0, t1, t2, t3⟩ := HALL.out w3 hk3))
          all_goals
            go_wp2_with fail
            go_roundw
            case measure => rw [HR6.out.left_eq, HRG.out.left_eq]; exact hlt1
            case rel =>
              have hwy := way_yes HND.out HMM.out HLK.out (HGO2.out.2 (by simp))
              exact ⟨_, cnt1, out ++ [x], HK6, HR6, Lib.hid (by have h := HO6.out; simpa using h), Lib.hid hwy.1, Lib.hid hwy.2⟩
        · cases A3
          · go_wp2_with (first | (at_builtin; (refine wpList_append_own _ rfl _ _ 22 rfl (R + 1) 3 i3 (.int .i64 0) 1 8 Try.underlying22 hi3 hy0 hy1 hy2 rfl (by decide) u9 out.length (out.map (Value.int .i64)) rfl (HOW.out _ (by first | exact hk4.alloc _ | exact (hk4.drew).alloc _)) ⟨_, 0, none⟩ 1 1 [.int .i64 x] rfl rfl (cells_new _ _ _ _) (by intro u hu; simp at hu; subst hu; rfl) (by unfold maxLen; omega) (by omega) (HSZ.out _ (by first | exact hk4.alloc _ | exact (hk4.drew).alloc _)) ?_); intro v6 w6 hown6 hgr6 _; have HO6 := Lib.hid hown6; have HK6 : Hid (Keep [R] w0 w6) := Lib.hid ((HBASE.out _ (by first | exact hk4.alloc _ | exact (hk4.drew).alloc _)).grown hgr6 (fun g hg => .inr (HOB.out g hg))); have HR6 := Lib.hid (ranges_keep2 (HRNG.out _ (by first | exact hk4.alloc _ | exact (hk4.drew).alloc _)) (Keep.ofGrown hgr6 (S := u9.ownBlock.toList) (fun k hk => by simp [hk])) (HNS.out S (Nat.le_of_lt hsr.1)) (HNS.out R (Nat.le_refl _))); clear hown6 hgr6) | (with_reducible refine Txt.wp_region_text mixed quiet (by decide +kernel) ?_) | (with_reducible refine Txt.text_done (by kernel_rfl) ?_) | (go_at_call 81; have _t := tok1; (with_reducible refine (has81_at hp1 HA1).mono ?_); rintro e w3 ⟨rfl, hk3d⟩; have hk3 : Keep [] w2 w3 := (by first | exact hk3d | exact (hkz.drew).trans hk3d); clear tok1 _t hk3d; obtain ⟨d0, d1, d2, d3, d4, d5, d6, d7, t0, t1, t2, t3⟩ := HALL.out w3 hk3) | (go_at_call 81; (with_reducible refine (has81_at hp3 HA3).mono ?_); rintro e w4 ⟨rfl, hk4d⟩; have hk4 : Keep [] w2 w4 := (by first | exact hk3.trans hk4d | exact (hk3.drew).trans hk4d); clear hk4d))
            all_goals
              go_wp2_with fail
              go_roundw
              case measure => rw [HR6.out.left_eq, HRG.out.left_eq]; exact hlt1
              case rel =>
                have hwy := way_yes HND.out HMM.out HLK.out (HGO2.out.2 (by simp))
                exact ⟨_, cnt1, out ++ [x], HK6, HR6, Lib.hid (by have h := HO6.out; simpa using h), Lib.hid hwy.1, Lib.hid hwy.2⟩
          · go_wp2_with (first | (with_reducible refine Txt.wp_region_text mixed quiet (by decide +kernel) ?_) | (with_reducible refine Txt.text_done (by kernel_rfl) ?_) | (go_at_call 81; have _t := tok1; (with_reducible refine (has81_at hp1 HA1).mono ?_); rintro e w3 ⟨rfl, hk3d⟩; have hk3 : Keep [] w2 w3 := (by first | exact hk3d | exact (hkz.drew).trans hk3d); clear tok1 _t hk3d; obtain ⟨d0, d1, d2, d3, d4, d5, d6, d7, t0, t1, t2, t3⟩ := HALL.out w3 hk3) | (go_at_call 81; (with_reducible refine (has81_at hp3 HA3).mono ?_); rintro e w4 ⟨rfl, hk4d⟩; have hk4 : Keep [] w2 w4 := (by first | exact hk3.trans hk4d | exact (hk3.drew).trans hk4d); clear hk4d))
            all_goals
              go_wp2_with fail
              go_roundw
              case measure => rw [(HRNG.out _ (by first | exact hk4 | exact hk4.drew | exact hk3 | exact hk3.drew)).left_eq, HRG.out.left_eq]; exact hlt1
              case rel => exact ⟨_, cnt1, out, Lib.hid (HBASE.out _ (by first | exact hk4 | exact hk4.drew | exact hk3 | exact hk3.drew)), Lib.hid (HRNG.out _ (by first | exact hk4 | exact hk4.drew | exact hk3 | exact hk3.drew)), Lib.hid (HOW.out _ (by first | exact hk4 | exact hk4.drew | exact hk3 | exact hk3.drew)), HND, Lib.hid (way_no HMM.out (fun hg => by have := HGO2.out.1 hg; simp at this))⟩
end Go.Proofs.Ytkhchfjhmplaiaa
/- CutWay: the walk. -/
namespace Go
open Go.RowKit
theorem cntL_pre (h : List Ln) (n : Nat) : IsPre h n (cntL h n) := fun _ hp => cntL_at h n hp
theorem cntL_cut {h : List Ln} {n : Nat} (hn : n ≤ h.length) : CutOk h (cntL h n) := ⟨cntL_len h n, fun p hp => by rw [cntL_at h n hp]; exact ⟨by omega, by have := rk_mono (plQ h p) hn; omega⟩⟩
theorem cnt_ints {w : World} {A k : Nat} {h : List Ln} (hb : w.heap[A]? = some (.cells ((cntL h k).map (Value.int .i64)).toArray 3 (0, 0))) (hk : k ≤ 200) : IntsV w (some ⟨A, 0, none⟩) 8 8 (cntL h k) := by
  refine ⟨cntL_len h k, Nat.le_refl _, by decide, fun x hx => ?_, fun _ => ⟨A, 0, rfl, fun i hi => ?_⟩⟩
  · obtain ⟨p, hp, rfl⟩ := List.mem_map.1 hx
    have := rk_le' (plQ h p) k
    exact wf_msg (by omega) (by omega)
  · have := cntL_len h k
    rw [Nat.zero_add, cellAt hb]
    simp [List.getD_eq_getElem?_getD, this, hi]
end Go
namespace Go.Proofs.Ytkhchfjhmplaiaa
open Go.RowKit
theorem _root_.Go.Keep.mono0' {S : List Nat} {w w' : World} (h : Keep [] w w') : Keep S w w' := ⟨h.os, h.tape, h.output, h.size, fun i hi _ => h.block i hi (by simp)⟩
set_option maxRecDepth 100000 in
set_option maxHeartbeats 8000000 in
theorem cutWay_walk (a : Option Addr) (len cap : Nat) (zs : List Int) (n0 : Int) (w : World) (hv : IntsV w a len cap zs) :
    Calls Try.prog 18 #[.slice a len cap, .int .i64 n0] w fun e w' => e = .returned (.bool true) ∧ Keep [] w w' := by
  obtain ⟨h, hh⟩ : ∃ h, hist zs = h := ⟨_, rfl⟩
  obtain ⟨N, hN⟩ : ∃ N, h.length = N := ⟨_, rfl⟩
  have hok : HOk h := by rw [← hh]; exact (hist_inv zs).ok
  have hN2 : N ≤ 200 := by rw [← hN]; exact hok.len
  have HV := Lib.hid hv
  have HOK := Lib.hid hok
  have HH := Lib.hid hh
  have HN : Hid ((hist zs).length = N) := Lib.hid (by rw [hh, hN])
  have HNH := Lib.hid hN
  obtain ⟨K, hKr, hKN⟩ : ∃ K : Nat, restI n0 ((N : Int) + 1) = K ∧ K ≤ N := by
    have h1 := restI_lo n0 (n := (N : Int) + 1) (by omega)
    have h2 := restI_hi n0 (n := (N : Int) + 1) (by omega)
    exact ⟨(restI n0 ((N : Int) + 1)).toNat, by omega, by omega⟩
  have HKR := Lib.hid hKr
  obtain ⟨i3, hi3, hy0, hy1, hy2⟩ := info_parts info3
  have HMK := mk22
  clear hv hok hh hN hKr
  go_enter Try.func18, Try.ntmps18
  go_wp2_with (first | (with_reducible refine Txt.wp_region_text mixed quiet (by decide +kernel) ?_) | (with_reducible refine Txt.text_done (by kernel_rfl) ?_) | (go_at_call 28; refine (cbegun28_any _).mono ?_; rintro e w0 ⟨rfl, hk0⟩) | (go_at_call 20; refine (history_at (HV.out.keep hk0 (by simp)) HN).mono ?_; rintro e w2 ⟨a2, c2, rfl, hk2, hv2⟩; have hr2 := hv2.room; have hm2 := hv2.most; unfold maxLen at hm2; rw [HH.out] at hv2; have HV2 := Lib.hid hv2; have HK2 := Lib.hid (hk0.trans hk2); clear hv2 hk0 hk2) | (go_at_call 21; (with_reducible refine (rest_at HKR (by omega) (by omega)).mono ?_); rintro e w3 ⟨rfl, rfl⟩))
  obtain ⟨A, hA1⟩ : ∃ A, w2.heap.size = A := ⟨_, rfl⟩
  have hA := blk_new w2 (.cells #[.int .i64 0, .int .i64 0, .int .i64 0, .int .i64 0, .int .i64 0, .int .i64 0, .int .i64 0, .int .i64 0] 3)
  rw [hA1] at hA ⊢
  have HA1 := Lib.hid hA1
  have HA0 : Hid ((w2.alloc (.cells #[.int .i64 0, .int .i64 0, .int .i64 0, .int .i64 0, .int .i64 0, .int .i64 0, .int .i64 0, .int .i64 0] 3)).heap[A]? = some (.cells ((cntL h 0).map (Value.int .i64)).toArray 3 (0, 0))) := Lib.hid (by rw [cntL_zero]; exact hA)
  clear hA hA1 HMK HV HKR
  obtain ⟨W1, hW1⟩ : ∃ W1, W1 = w2 := ⟨_, rfl⟩
  subst hW1
  go_loopw [7, 28] (fun v j wr => ∃ k : Nat, k ≤ K ∧ j = .int .i64 k ∧ Hid (Keep [] W1 wr) ∧ Hid (wr.heap[A]? = some (.cells ((cntL h k).map (Value.int .i64)).toArray 3 (0, 0))) ∧ Hid (wr.ownsRow (A + 1) 3 1 v (wayL h k).length ((wayL h k).map (Value.int .i64)))) (fun _ j _ => K - (intOf j).toNat)
  case atStart => exact ⟨0, by omega, rfl, Lib.hid ((Keep.refl _ _).alloc _), HA0, Lib.hid (World.ownsRow_nil _ _ _ _)⟩
  case round =>
    obtain ⟨k, hk, rfl, HKK, HB, HO⟩ := hrel
    by_cases hlt : k < K
    · have hlh : k < h.length := by rw [HNH.out]; omega
      have HLH := Lib.hid hlh
      have he := HOK.out.ev k hlh
      obtain ⟨b2, o2, rfl, c0, c1, c2'⟩ := (HV2.out.keep HKK.out (by simp)).at_ (show k < N by omega)
      have hsu := fun q => @cntL_succ h k q
      have hw1 := fun (h3 : (lat h k).g ≠ 3) (h2 : (lat h k).g ≠ 2) => wayL_other h3 h2
      have hw2 := fun (h2 : (lat h k).g = 2) => wayL_send HOK.out hlh h2
      have hw3 := fun (h3 : (lat h k).g = 3) => wayL_take h3
      have hw4 := fun (h3 : (lat h k).g = 3) => wayL_there HOK.out hlh h3
      obtain ⟨⟨q', gg, u⟩, hL⟩ : ∃ L, lat h k = L := ⟨_, rfl⟩
      rw [hL] at he c0 c1 c2' hsu hw1 hw2 hw3 hw4
      dsimp only at he c0 c1 c2' hsu hw1 hw2 hw3 hw4
      clear hL
      obtain ⟨q, rfl⟩ : ∃ q : Nat, q' = q := ⟨q'.toNat, by omega⟩
      have hq8 : q < 8 := by omega
      have HSU := Lib.hid (hsu q rfl hq8)
      have HW1 := Lib.hid hw1
      have HW2 := Lib.hid hw2
      have HW3 := Lib.hid hw3
      have HW4 := Lib.hid hw4
      have hca : wr.cell? ⟨A, q, none⟩ = some (.int .i64 (rk (plQ h q) k)) := by
        rw [cellAt HB.out, ← cntL_at h k hq8]
        have := cntL_len h k
        simp [List.getD_eq_getElem?_getD, this, hq8]
      have hza := thaw HB.out
      have hrk := rk_le' (plQ h q) k
      obtain ⟨m, hm⟩ : ∃ m, rk (plQ h q) k = m := ⟨_, rfl⟩
      rw [hm] at hca HSU hrk
      have hbl := lt_of_blk HB.out
      obtain ⟨E, hE⟩ : ∃ E, wr.heap.size = E := ⟨_, rfl⟩
      have hkE : Keep [] wr (wr.alloc (.cells #[.int .i64 q, .int .i64 gg, .int .i64 u] 27)) := (Keep.refl _ _).alloc _
      have hca2 := hkE.cell hca (by simp)
      have hza2 := thaw (hkE.at HB.out (by simp))
      have hwl := wayL_len h k
      obtain ⟨M, hM⟩ : ∃ M, (wayL h k).length = M := ⟨_, rfl⟩
      rw [hM] at HO hwl
      have HM := Lib.hid hM
      have hgA : ∀ g, u7.ownBlock = some g → A + 1 ≤ g ∧ g < E := fun g hg => by have := ownLtW HO.out g hg; rw [hE] at this; exact ⟨this.1, this.2.1⟩
      have HGA := Lib.hid hgA
      have HX : Hid (((wr.alloc (.cells #[.int .i64 q, .int .i64 gg, .int .i64 u] 27)).setCell ⟨A, q, none⟩ (.int .i64 ((m : Int) + 1))).heap[A]? = some (.cells ((cntL h (k + 1)).map (Value.int .i64)).toArray 3 (0, 0))) := Lib.hid (by
        rw [HSU.out, blk_setCell, if_pos rfl, hkE.at HB.out (by simp)]
        simp only [Option.map_some, Obj.put_cells, List.setIfInBounds_toArray, List.map_set])
      have HKX : Hid (Keep [A] wr ((wr.alloc (.cells #[.int .i64 q, .int .i64 gg, .int .i64 u] 27)).setCell ⟨A, q, none⟩ (.int .i64 ((m : Int) + 1)))) := Lib.hid (((Keep.refl [A] wr).alloc _).setCell (.inl (by simp)) _)
      have HKX2 : Hid (Keep [] W1 ((wr.alloc (.cells #[.int .i64 q, .int .i64 gg, .int .i64 u] 27)).setCell ⟨A, q, none⟩ (.int .i64 ((m : Int) + 1)))) := Lib.hid ((HKK.out.alloc _).setCell (.inr (by rw [HA1.out]; exact Nat.le_refl _)) _)
      have HOX : Hid (((wr.alloc (.cells #[.int .i64 q, .int .i64 gg, .int .i64 u] 27)).setCell ⟨A, q, none⟩ (.int .i64 ((m : Int) + 1))).ownsRow (A + 1) 3 1 u7 M ((wayL h k).map (Value.int .i64))) := Lib.hid (own_keep HO.out HKX.out (fun g hg hmm => by have := (hgA g hg).1; have := List.mem_singleton.1 hmm; omega))
      have HEX : Hid (((wr.alloc (.cells #[.int .i64 q, .int .i64 gg, .int .i64 u] 27)).setCell ⟨A, q, none⟩ (.int .i64 ((m : Int) + 1))).heap[E]? = some (.cells #[.int .i64 q, .int .i64 gg, .int .i64 u] 27 (0, 0))) := Lib.hid (by
        rw [blk_setCell, if_neg (by omega), ← hE]; exact blk_new wr _)
      have HSZ : Hid (A + 1 ≤ ((wr.alloc (.cells #[.int .i64 q, .int .i64 gg, .int .i64 u] 27)).setCell ⟨A, q, none⟩ (.int .i64 ((m : Int) + 1))).heap.size) := Lib.hid (by have := HKX.out.size; omega)
      obtain ⟨x0, x1, x2, -⟩ := row3 HEX.out
      obtain ⟨WX, hWX⟩ : ∃ WX, (wr.alloc (.cells #[.int .i64 q, .int .i64 gg, .int .i64 u] 27)).setCell ⟨A, q, none⟩ (.int .i64 ((m : Int) + 1)) = WX := ⟨_, rfl⟩
      clear hsu hm hw1 hw2 hw3 hw4 hgA hkE hM
      go_upto_region 11 with (first | (with_reducible refine Txt.wp_region_text mixed quiet (by decide +kernel) ?_) | (with_reducible refine Txt.text_done (by kernel_rfl) ?_))
      rw [hWX] at HX HKX HKX2 HOX HEX HSZ x0 x1 x2
      clear hWX hca hca2 hza hza2 hbl HB HO
      have hMl : M ≤ 200 := by omega
      rcases (by omega : gg = 2 ∨ gg = 3 ∨ gg = 1) with rfl | rfl | rfl
      · have hew := HW2.out rfl
        have HEW := Lib.hid hew
        clear hew
        go_wp2_with (first | (at_builtin; refine wpList_append_own _ rfl _ _ 22 rfl (A + 1) 3 i3 (.int .i64 0) 1 8 Try.underlying22 hi3 hy0 hy1 hy2 rfl (by decide) u7 M ((wayL h k).map (Value.int .i64)) rfl (own_keep HOX.out ((Keep.refl [] _).alloc _) (by simp)) ⟨_, 0, none⟩ 1 1 [.int .i64 u] rfl rfl (cells_new _ _ _ _) (by intro y hy; simp at hy; subst hy; rfl) (by unfold maxLen; omega) (by omega) (Nat.le_trans HSZ.out ((Keep.refl [] _).alloc _).size) ?_; intro v6 w6 hown6 hgr6 _; have HO6 := Lib.hid hown6; have hk6 : Keep u7.ownBlock.toList WX w6 := ((Keep.refl [] WX).alloc _).mono0'.trans (Keep.ofGrown hgr6 (S := u7.ownBlock.toList) (fun k hk => by simp [hk])); have HK6 := Lib.hid hk6; clear hown6 hgr6 hk6) | (with_reducible refine Txt.wp_region_text mixed quiet (by decide +kernel) ?_) | (with_reducible refine Txt.text_done (by kernel_rfl) ?_))
        exact ⟨⟨k + 1, hlt, by go_num, Lib.hid (HKX2.out.call HK6.out (fun g hg => .inr (by have := (HGA.out g (by simpa using hg)).1; have := HA1.out; omega))), Lib.hid (HK6.out.at HX.out (fun hm => by have := (HGA.out A (by simpa using hm)).1; omega)), Lib.hid (by have h9 := HO6.out; rw [HEW.out]; simpa [HM.out] using h9)⟩, by simp [intOf]; omega⟩
      · have hew := HW3.out rfl
        have hmem := HW4.out rfl
        have HEW := Lib.hid hew
        have h0M : 0 < M := by have := List.length_pos_of_mem hmem; have := HM.out; omega
        have HDL := Lib.hid (delete54_own HEX.out HOX.out h0M (by omega))
        clear hew hmem
        go_wp2_with (first | (with_reducible refine Txt.wp_region_text mixed quiet (by decide +kernel) ?_) | (with_reducible refine Txt.text_done (by kernel_rfl) ?_) | (go_at_call 54; (with_reducible refine HDL.out.mono ?_); rintro e w6 ⟨v6, rfl, ho6, hk6⟩; have HO6 := Lib.hid ho6; have HK6 := Lib.hid hk6; clear ho6 hk6))
        exact ⟨⟨k + 1, hlt, by go_num, Lib.hid (HKX2.out.call HK6.out (fun g hg => .inr (by have := (HGA.out g (by simpa using hg)).1; have := HA1.out; omega))), Lib.hid (HK6.out.at HX.out (fun hm => by have := (HGA.out A (by simpa using hm)).1; omega)), Lib.hid (by rw [HEW.out]; exact HO6.out)⟩, by simp [intOf]; omega⟩
      · have hew := HW1.out (by decide) (by decide)
        have HEW := Lib.hid hew
        clear hew
        go_wp2_with (first | (with_reducible refine Txt.wp_region_text mixed quiet (by decide +kernel) ?_) | (with_reducible refine Txt.text_done (by kernel_rfl) ?_))
        exact ⟨⟨k + 1, hlt, by go_num, HKX2, HX, Lib.hid (by rw [HEW.out, HM.out]; exact HOX.out)⟩, by simp [intOf]; omega⟩
    · obtain rfl : k = K := by omega
      have hKh : k ≤ h.length := by rw [HNH.out]; exact hKN
      have hwl := wayL_len h k
      have hgA : ∀ g, u7.ownBlock = some g → A + 1 ≤ g := fun g hg => (ownLtW HO.out g hg).1
      have HSO := Lib.hid (sort56_own HO.out (by omega))
      have HCI := Lib.hid (cnt_ints HB.out (by omega))
      have HGA := Lib.hid hgA
      have HCUT := Lib.hid (cntL_cut hKh)
      have HWH := Lib.hid (whole_pre' HOK.out (cntL_pre h k))
      have HWF : Hid (∀ x ∈ sortI (wayL h k), (Lit.int .i64 x).wf = true) := Lib.hid (fun x hx => wayL_wf HOK.out hKh x ((sortI_perm _).mem_iff.1 hx))
      have HSAME : Hid (∀ out : List Int, out.Nodup → (∀ x, x ∈ out ↔ goes h (cntL h k) x) → sortI out = sortI (wayL h k)) := Lib.hid (fun out hn hm => sorted_ext ((sortI_perm out).nodup_iff.2 hn) ((sortI_perm _).nodup_iff.2 (wayL_nodup HOK.out hKh)) (sortI_sorted _) (sortI_sorted _) (fun x => by rw [(sortI_perm out).mem_iff, (sortI_perm _).mem_iff, hm x]; exact goes_pre HOK.out (cntL_pre h k) hKh))
      clear hgA HO HB hwl
      go_wp2_with (first | (with_reducible refine Txt.wp_region_text mixed quiet (by decide +kernel) ?_) | (with_reducible refine Txt.text_done (by kernel_rfl) ?_) | (go_at_call 56; (with_reducible refine HSO.out.mono ?_); rintro e w3 ⟨rfl, ho3, hk3⟩; obtain ⟨a3, c3, rfl, hv3⟩ := IntsV.ofOwn0 ho3 HWF.out; have HI3 := Lib.hid hv3; have HK3 := Lib.hid (HKK.out.call hk3 (fun g hg => .inr (by have := HGA.out g (by simpa using hg); have := HA1.out; omega))); have HC3 := Lib.hid (HCI.out.keep hk3 (fun x hx hm => by cases hx; have := HGA.out A (by simpa using hm); omega)); have HL3 := Lib.hid (HV2.out.keep HK3.out (by simp)); clear ho3 hk3 hv3) | (go_at_call 32; (with_reducible refine (whole32_at HL3.out HOK.out HC3.out HCUT.out HWH.out).mono ?_); rintro e w4 ⟨rfl, hk4⟩; have HK4 := Lib.hid hk4; have HC4 := Lib.hid (HC3.out.keep hk4 (by simp)); have HL4 := Lib.hid (HL3.out.keep hk4 (by simp)); clear hk4) | (go_at_call 57; (with_reducible refine (way57_any HL4.out HOK.out HC4.out HCUT.out).mono ?_); rintro e w5 ⟨v5, out, rfl, ho5, hn5, hm5, hk5⟩; have hs5 := HSAME.out out hn5 hm5; rw [hs5] at ho5; obtain ⟨a5, c5, rfl, hv5⟩ := IntsV.ofOwn0 ho5 HWF.out; have HI5 := Lib.hid hv5; have HK5 := Lib.hid hk5; have HI3b := Lib.hid (HI3.out.keep (HK4.out.trans hk5) (by simp)); clear ho5 hn5 hm5 hk5 hs5 hv5) | (go_at_call 34; (with_reducible refine (equal_at HI5.out HI3b.out (decide_eq_true rfl)).mono ?_); rintro e w6 ⟨rfl, hk6⟩; have HK6 := Lib.hid hk6; clear hk6))
      go_ret
      exact ⟨by first | rfl | (simp; done), (((HK2.out.trans HK3.out).trans HK4.out).trans HK5.out).trans HK6.out⟩
end Go.Proofs.Ytkhchfjhmplaiaa
