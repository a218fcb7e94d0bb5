/- Texts laid together: H25. -/
import Derived.Test.YtkhchfjhmplaiaaMg10
import Derived.Maps.RangeWalk
import Derived.Deep.RegionHeld3
namespace Go.Proofs.Ytkhchfjhmplaiaa
open Go.RowKit
theorem box8 {x0 x1 x2 x3 x4 x5 x6 x7 : Int} {w : World} {b p : Nat} (hb : w.heap[b]? = some (.cells #[.int .i64 x0, .int .i64 x1, .int .i64 x2, .int .i64 x3, .int .i64 x4, .int .i64 x5, .int .i64 x6, .int .i64 x7] 76 (0, 0))) (hp : p < 8) : w.cell? ⟨b, p, none⟩ = some (.int .i64 ([x0, x1, x2, x3, x4, x5, x6, x7].getD p 0)) := by
  rw [cellAt hb]
  rcases (by omega : p = 0 ∨ p = 1 ∨ p = 2 ∨ p = 3 ∨ p = 4 ∨ p = 5 ∨ p = 6 ∨ p = 7) with h | h | h | h | h | h | h | h <;> (subst h; rfl)
set_option maxRecDepth 100000 in
theorem has81_any {x0 x1 x2 x3 x4 x5 x6 x7 : Int} {q n : Nat} {w : World} (hq : q < 8) :
    Calls Try.prog 81 #[.agg #[.int .i64 x0, .int .i64 x1, .int .i64 x2, .int .i64 x3, .int .i64 x4, .int .i64 x5, .int .i64 x6, .int .i64 x7], .agg #[.int .i64 q, .int .i64 n]] w fun e w' => e = .returned (.bool (decide ((n : Int) < [x0, x1, x2, x3, x4, x5, x6, x7].getD q 0))) ∧ Keep [] w w' := by
  have hA := blk_new w (.cells #[.int .i64 x0, .int .i64 x1, .int .i64 x2, .int .i64 x3, .int .i64 x4, .int .i64 x5, .int .i64 x6, .int .i64 x7] 76)
  have hA2 := ((Keep.refl [] (w.alloc (.cells #[.int .i64 x0, .int .i64 x1, .int .i64 x2, .int .i64 x3, .int .i64 x4, .int .i64 x5, .int .i64 x6, .int .i64 x7] 76))).alloc (.cells #[.int .i64 q, .int .i64 n] 89)).at hA (by simp)
  have hc := box8 hA2 hq
  obtain ⟨y, hy⟩ : ∃ y, [x0, x1, x2, x3, x4, x5, x6, x7].getD q 0 = y := ⟨_, rfl⟩
  rw [hy] at hc ⊢
  clear hA hA2 hy
  go_enter Try.func81, Try.ntmps81
  go_wp2_with (first | (with_reducible refine Txt.wp_region_text mixed quiet (by decide +kernel) ?_) | (with_reducible refine Txt.text_done (by kernel_rfl) ?_))
  go_ret
  exact ⟨rfl, by repeat (first | apply Keep.drew | apply Keep.alloc | exact Keep.refl _ _)⟩
theorem has81_at {x0 x1 x2 x3 x4 x5 x6 x7 : Int} {q n : Nat} {A : Bool} {w : World} (hq : q < 8) (hA : Hid (decide ((n : Int) < [x0, x1, x2, x3, x4, x5, x6, x7].getD q 0) = A)) :
    Calls Try.prog 81 #[.agg #[.int .i64 x0, .int .i64 x1, .int .i64 x2, .int .i64 x3, .int .i64 x4, .int .i64 x5, .int .i64 x6, .int .i64 x7], .agg #[.int .i64 q, .int .i64 n]] w fun e w' => e = .returned (.bool A) ∧ Keep [] w w' := by
  have h := has81_any (x0 := x0) (x1 := x1) (x2 := x2) (x3 := x3) (x4 := x4) (x5 := x5) (x6 := x6) (x7 := x7) (n := n) (w := w) hq
  rw [hA.out] at h
  exact h
theorem row8 {x0 x1 x2 x3 x4 x5 x6 x7 : Int} {w : World} {b : Nat} (hb : w.heap[b]? = some (.cells #[.int .i64 x0, .int .i64 x1, .int .i64 x2, .int .i64 x3, .int .i64 x4, .int .i64 x5, .int .i64 x6, .int .i64 x7] 76 (0, 0))) : w.cell? ⟨b, 0, none⟩ = some (.int .i64 x0) ∧ w.cell? ⟨b, 1, none⟩ = some (.int .i64 x1) ∧ w.cell? ⟨b, 2, none⟩ = some (.int .i64 x2) ∧ w.cell? ⟨b, 3, none⟩ = some (.int .i64 x3) ∧ w.cell? ⟨b, 4, none⟩ = some (.int .i64 x4) ∧ w.cell? ⟨b, 5, none⟩ = some (.int .i64 x5) ∧ w.cell? ⟨b, 6, none⟩ = some (.int .i64 x6) ∧ w.cell? ⟨b, 7, none⟩ = some (.int .i64 x7) := by
  refine ⟨?_, ?_, ?_, ?_, ?_, ?_, ?_, ?_⟩ <;> (rw [cellAt hb]; rfl)
theorem lookup_run {P : Program} {w : World} {t k e : TypeId} {b n : Nat} {f : Int → Option Value} {z v : Value} {key : Int} (ht : P.underlying t = some (.map k e)) (hki : P.underlying k = some (.int .i64)) (hz : (zeroValue e).run P w = .ok z w) (hown : MapF w P k b n f) (hwf : (Lit.int .i64 key).wf = true) (hf : f key = some v) :
    (Instr.lookup t (.map (some b)) (.int .i64 key) false).run P w = .ok v w := by
  obtain ⟨D, h1, h2, h3, _⟩ := hown
  obtain ⟨v', ps, hrun, hv⟩ := h1.lookup (Maps.int_keyed hki) ht hz (show asIs z = some (.held z, []) from rfl) (keyI64 hki hwf)
  have hve : v' = v := by
    rw [h3] at hv
    unfold asIs at hv
    injection hv with hv
    injection hv with hv _
    injection hv with hv
    rw [hv, hf]; rfl
  rw [hve] at hrun
  exact hrun
theorem ranges_keep {w w' : World} {P : Program} {kt : TypeId} {Rf : Value → Option (DataW Value × List MemPlace)} {b r n : Nat} {D : DataW Value} {left : Lit → Bool} {cnt : Nat} (h : w.ranges P kt Rf b r n D left cnt) (hk : Keep [] w w') : w'.ranges P kt Rf b r n D left cnt := by
  obtain ⟨es, clock, since, seen, c0, h1, h2, h3, h4, h5, h6⟩ := h
  exact ⟨es, clock, since, seen, c0, hk.at h1 (by simp), h2, h3, h4, hk.at h5 (by simp), h6⟩
theorem Keep.mono0 {S : List Nat} {w w' : World} (h : Keep [] w w') : Keep S w w' := ⟨h.os, h.tape, h.output, h.size, fun i hi _ => h.block i hi (by simp)⟩
theorem strike_same {l : Bool} {u x : Int} (h : l = true) (hs : (l && !(Lit.int IntKind.i64 u).sameKey (.int .i64 x)) = false) : u = x := by
  subst h
  simp [Lit.sameKey] at hs
  exact hs
theorem take_same {h : List Ln} (hk : HOk h) {i k : Nat} (hi : i < h.length) (hl : k < h.length) (h1 : (lat h i).g = 3) (h2 : (lat h k).g = 3) (hu : (lat h i).u = (lat h k).u) : i = k := by
  by_cases e : i = k
  · exact e
  · by_cases e2 : i < k
    · exact absurd hu (hk.takes i k e2 hl h1 h2)
    · exact absurd hu.symm (hk.takes k i (by omega) hi h2 h1)
theorem held_some {o : Option Value} {c : Value} (h : ∀ z : Value, (DataW.held (o.getD z) : DataW Value) = .held c) : o = some c := by
  cases o with
  | some v => have := h undef; cases this; rfl
  | none =>
    have h1 := h (.bool true)
    have h2 := h (.bool false)
    rw [← h2] at h1
    cases h1
set_option maxRecDepth 100000 in
set_option maxHeartbeats 4000000 in
theorem whole66_any {x0 x1 x2 x3 x4 x5 x6 x7 : Int} {B H S T n : Nat} {h : List Ln} {V : Nat → Value} {w : World} (hs : Hst w B H S T n h V) (hn : h.length = n) (hk : HOk h) :
    Calls Try.prog 66 #[.pointer (some ⟨H, 0, none⟩), .agg #[.int .i64 x0, .int .i64 x1, .int .i64 x2, .int .i64 x3, .int .i64 x4, .int .i64 x5, .int .i64 x6, .int .i64 x7]] w fun e w' => e = .returned (.bool (wholeB h [x0, x1, x2, x3, x4, x5, x6, x7])) ∧ Keep [] w w' := by
  have hkA : Keep [] w (w.alloc (.cells #[.int .i64 x0, .int .i64 x1, .int .i64 x2, .int .i64 x3, .int .i64 x4, .int .i64 x5, .int .i64 x6, .int .i64 x7] 76)) := (Keep.refl _ _).alloc _
  have hsA := hs.keep hkA
  have hbox := blk_new w (.cells #[.int .i64 x0, .int .i64 x1, .int .i64 x2, .int .i64 x3, .int .i64 x4, .int .i64 x5, .int .i64 x6, .int .i64 x7] 76)
  obtain ⟨Wb, hWb⟩ : ∃ Wb, w.heap.size = Wb := ⟨_, rfl⟩
  obtain ⟨D, hD, hDm, hDk, hDh⟩ := hsA.tak
  obtain ⟨s8, s9⟩ := hsA.cellS
  have HSA := Lib.hid hsA
  have HBX := Lib.hid hbox
  have HDM := Lib.hid hDm
  have HDK := Lib.hid hDk
  have HDH := Lib.hid hDh
  have HD := Lib.hid hD
  have HK := Lib.hid hk
  have HN := Lib.hid hn
  clear hsA hbox hDm hDk hDh hD hs hk hn hkA
  go_enter Try.func66, Try.ntmps66
  go_wp2_with (first | (at_range; refine wpList_range_own _ rfl _ 110 rfl 3 89 (Maps.int_keyed Try.underlying3) Try.underlying110 asIs T n D rfl HD.out ?_; intro w0 hrg0 hg0 hs0; have HRG := Lib.hid hrg0; have HG0 := Lib.hid hg0) | go_in)
  go_frame
  obtain ⟨R, hR⟩ : ∃ R, (w.alloc (.cells #[.int .i64 x0, .int .i64 x1, .int .i64 x2, .int .i64 x3, .int .i64 x4, .int .i64 x5, .int .i64 x6, .int .i64 x7] 76)).heap.size = R := ⟨_, rfl⟩
  have HRw : Hid (w.heap.size ≤ R) := Lib.hid (by rw [← hR]; simp)
  have HR1 : Hid (R = Wb + 1) := Lib.hid (by rw [← hR, ← hWb]; simp)
  rw [hR] at hrg0 hs0 ⊢
  have HRG0 := Lib.hid hrg0
  have hk00 : Keep [] (w.alloc (.cells #[.int .i64 x0, .int .i64 x1, .int .i64 x2, .int .i64 x3, .int .i64 x4, .int .i64 x5, .int .i64 x6, .int .i64 x7] 76)) w0 := Keep.ofGrown hg0 (fun x hx => by cases hx)
  have hkw0 : Keep [] w w0 := ((Keep.refl _ _).alloc _).trans hk00
  have HS0 := Lib.hid (HSA.out.keep hk00)
  have HB0 := Lib.hid (hk00.at HBX.out (by simp))
  rw [hWb] at HB0
  have HSR : Hid (S < R ∧ H < R) := Lib.hid (by have h1 := HSA.out.snd.lt; have h2 := lt_of_blk HSA.out.blk; rw [← hR]; exact ⟨h1, h2⟩)
  clear HRG HG0 hrg0 hg0 HSA HBX s8 s9 HD hk00 hR hWb
  go_loopw [5, 6] (fun _ _ wr => ∃ left cnt, Keep [R] w0 wr ∧ Hid (wr.ranges Try.prog 3 asIs T R n D left cnt) ∧ Hid (∀ k, k < h.length → (lat h k).g = 3 → left (.int .i64 (lat h k).u) = false → badB h [x0, x1, x2, x3, x4, x5, x6, x7] k = false)) (fun _ _ wr => wr.rangeLeft T R)
  case atStart => exact ⟨_, _, Keep.refl _ _, HRG0, Lib.hid (fun k hk hg hl => by rw [HDH.out, ← HN.out, take_has HK.out hk hg] at hl; cases hl)⟩
  case round =>
    obtain ⟨left, cnt, hkr, HRG, HVS⟩ := hrel
    go_wp2_with (first | (at_next; refine wpList_next_ranges _ rfl _ rfl 3 (Maps.int_keyed Try.underlying3) asIs (Value.int .i64) id (fun key kl hkey => by obtain ⟨x, rfl, _⟩ := Maps.keyOf_int_inv Try.underlying3 hkey; exact ⟨x, rfl⟩) (fun v y _ => ⟨v, rfl⟩) T R n D left cnt rfl HRG.out ?_ ?_))
    · intro hc0 hl0
      go_wp2_with fail
      go_ret
      refine ⟨ret_bool ?_, Keep.call hkw0 hkr (fun z hz => .inr (by simp at hz; rw [hz]; exact HRw.out))⟩
      exact ((wholeB_iff _ _).2 fun k hk hg => HVS.out k hk hg (hl0 _)).symm
    · intro x c kl y ys w1 cnt1 hkey hlk hRc hat hrg1 hlt1 hg1 hs1 hen
      obtain ⟨x', hxe, rfl, hxw⟩ := Maps.keyOf_int_inv Try.underlying3 hkey
      cases hxe
      have hfc : FG h 3 h.length x = some c := by
        rw [HN.out]
        have hy : y = .held c := by
          have : asIs c = some (y, ys) := hRc
          unfold asIs at this
          cases this; rfl
        rw [hy] at hat
        exact held_some (fun z => by rw [← HDK.out x z]; exact hat _)
      obtain ⟨k, hkl, hkg, hku, rfl⟩ := takeIx HK.out hfc
      obtain ⟨j, hsj, hjk, hjg, hju⟩ := sendOf_some HK.out hkl hkg
      have hsg : FG h 2 n x = some (spotV h j) := by rw [← HN.out, ← hku]; exact send_get HK.out hsj
      have hbad : badB h [x0, x1, x2, x3, x4, x5, x6, x7] k = (inC h [x0, x1, x2, x3, x4, x5, x6, x7] k && !(inC h [x0, x1, x2, x3, x4, x5, x6, x7] j)) := by unfold badB; rw [hsj]; rfl
      obtain ⟨p1, hp1⟩ : ∃ p : Nat, (lat h k).q = p := ⟨(lat h k).q.toNat, by have := HK.out.ev k hkl; omega⟩
      obtain ⟨p2, hp2⟩ : ∃ p : Nat, (lat h j).q = p := ⟨(lat h j).q.toNat, by have := HK.out.ev j (by omega); omega⟩
      have hp18 : p1 < 8 := by have := HK.out.ev k hkl; omega
      have hp28 : p2 < 8 := by have := HK.out.ev j (by omega); omega
      have hi1 : inC h [x0, x1, x2, x3, x4, x5, x6, x7] k = decide ((posN h k : Int) < [x0, x1, x2, x3, x4, x5, x6, x7].getD p1 0) := by unfold inC; rw [hp1]; rfl
      have hi2 : inC h [x0, x1, x2, x3, x4, x5, x6, x7] j = decide ((posN h j : Int) < [x0, x1, x2, x3, x4, x5, x6, x7].getD p2 0) := by unfold inC; rw [hp2]; rfl
      have hs1 : spotV h k = .agg #[.int .i64 p1, .int .i64 (posN h k)] := by unfold spotV; rw [hp1]
      have hs2 : spotV h j = .agg #[.int .i64 p2, .int .i64 (posN h j)] := by unfold spotV; rw [hp2]
      obtain ⟨m1, hm1⟩ : ∃ m, posN h k = m := ⟨_, rfl⟩
      obtain ⟨m2, hm2⟩ : ∃ m, posN h j = m := ⟨_, rfl⟩
      rw [hm1] at hi1 hs1
      rw [hm2] at hi2 hs2
      rw [hs1] at hen ⊢
      rw [hs2] at hsg
      rw [hi1, hi2] at hbad
      obtain ⟨A1, hA1⟩ : ∃ A, decide ((m1 : Int) < [x0, x1, x2, x3, x4, x5, x6, x7].getD p1 0) = A := ⟨_, rfl⟩
      obtain ⟨A2, hA2⟩ : ∃ A, decide ((m2 : Int) < [x0, x1, x2, x3, x4, x5, x6, x7].getD p2 0) = A := ⟨_, rfl⟩
      rw [hA1, hA2] at hbad
      have HBAD := Lib.hid hbad
      have HA1 := Lib.hid hA1
      have HA2 := Lib.hid hA2
      have HSG := Lib.hid hsg
      have hkr1 : Keep [R] wr w1 := Keep.ofGrown hg1 (fun z hz => by cases hz; simp)
      have hk01 := hkr.trans hkr1
      have hRw := HRw.out
      have hb1 := hk01.at HB0.out (by simp; have := HR1.out; omega)
      have hS1 := HS0.out.snd.keep hk01 (by have := HSR.out.1; simp; omega)
      have s8 := hk01.cell HS0.out.cellS.1 (by have := HSR.out.2; simp; omega)
      have HB1 := Lib.hid hb1
      have HS1 := Lib.hid hS1
      have HRG1 := Lib.hid hrg1
      have HXK := Lib.hid hku
      have HKL := Lib.hid hkl
      have HKG := Lib.hid hkg
      clear hbad hA1 hA2 hsg hi1 hi2 hs1 hs2 hm1 hm2 hp1 hp2 hb1 hS1 hkey hat hfc hRc hsj hju hjg hjk hkg hku hrg1
      go_upto_region 4 with fail
      obtain ⟨E, hE⟩ : ∃ E, wr.heap.size = E := ⟨_, rfl⟩
      have hE1 : w1.heap.size = E := by rw [← hE]; assumption
      have hkE : Keep [] w1 (w1.alloc (.cells #[.int .i64 p1, .int .i64 m1] 89)) := (Keep.refl _ _).alloc _
      have hb2 := hkE.at HB1.out (by simp)
      have hsp := blk_new w1 (.cells #[.int .i64 p1, .int .i64 m1] 89)
      have s82 := hkE.cell s8 (by simp)
      have HS2 := Lib.hid (HS1.out.keep hkE (by simp))
      rw [hE1] at hsp
      obtain ⟨w2, hw2⟩ : ∃ w2, w1.alloc (.cells #[.int .i64 p1, .int .i64 m1] 89) = w2 := ⟨_, rfl⟩
      rw [hw2] at hkE hb2 hsp s82 HS2 ⊢
      rw [hE]
      have HB2 := Lib.hid hb2
      have HXW := Lib.hid hxw
      obtain ⟨r0, r1, _⟩ := row2 hsp
      have HALL : Hid (∀ w', Keep [] w2 w' → w'.cell? ⟨Wb, 0, none⟩ = some (.int .i64 x0) ∧ w'.cell? ⟨Wb, 1, none⟩ = some (.int .i64 x1) ∧ w'.cell? ⟨Wb, 2, none⟩ = some (.int .i64 x2) ∧ w'.cell? ⟨Wb, 3, none⟩ = some (.int .i64 x3) ∧ w'.cell? ⟨Wb, 4, none⟩ = some (.int .i64 x4) ∧ w'.cell? ⟨Wb, 5, none⟩ = some (.int .i64 x5) ∧ w'.cell? ⟨Wb, 6, none⟩ = some (.int .i64 x6) ∧ w'.cell? ⟨Wb, 7, none⟩ = some (.int .i64 x7) ∧ w'.cell? ⟨E, 0, none⟩ = some (.int .i64 p1) ∧ w'.cell? ⟨E, 1, none⟩ = some (.int .i64 m1) ∧ w'.cell? ⟨H, 8, none⟩ = some (.map (some S)) ∧ (Instr.lookup 110 (.map (some S)) (.int .i64 x) false).run Try.prog w' = .ok (.agg #[.int .i64 p2, .int .i64 m2]) w') := Lib.hid (fun w' hk => by
        obtain ⟨b0, b1, b2, b3, b4, b5, b6, b7⟩ := row8 (hk.at HB2.out (by simp))
        exact ⟨b0, b1, b2, b3, b4, b5, b6, b7, hk.cell r0 (by simp), hk.cell r1 (by simp), hk.cell s82 (by simp), lookup_run Try.underlying110 Try.underlying3 (zero89 _) (HS2.out.keep hk (by simp)) HXW.out HSG.out⟩)
      clear hw2 s8 hb2 hsp hxw r0 r1 s82
      have tok1 : True := trivial
      have tok2 : True := trivial
      have hkz : Keep [] w2 w2 := Keep.refl _ _
      obtain ⟨b0, b1, b2, b3, b4, b5, b6, b7, r0, r1, s82, hlk⟩ := HALL.out w2 hkz
      cases A1
      · go_wp2_with (first | (with_reducible refine Txt.wp_region_text mixed quiet (by decide +kernel) ?_) | (with_reducible refine Txt.text_done (by kernel_rfl) ?_) | (go_at_call 81; (with_reducible refine (has81_at hp18 HA1).mono ?_); rintro e w3 ⟨rfl, hk3d⟩; have hk3 : Keep [] w2 w3 := (by first | exact hk3d | exact (hkz.drew).trans hk3d); clear hk3d; obtain ⟨d0, d1, d2, d3, d4, d5, d6, d7, t0, t1, t2, tlk⟩ := HALL.out w3 hk3))
        all_goals
          go_wp2_with fail
          go_roundw
          case measure => rw [(ranges_keep HRG1.out (hkE.trans (by first | exact hk3 | exact hk3.drew))).left_eq, HRG.out.left_eq]; exact hlt1
          case rel => exact ⟨fun z => left z && !z.sameKey (.int .i64 x), cnt1, hk01.trans (Keep.mono0 (hkE.trans (by first | exact hk3 | exact hk3.drew))), Lib.hid (ranges_keep HRG1.out (hkE.trans (by first | exact hk3 | exact hk3.drew))), Lib.hid (fun k' hk' hg' hl' => by
            by_cases e : left (.int .i64 (lat h k').u) = false
            · exact HVS.out k' hk' hg' e
            · have hux := strike_same (by simpa using e) hl'
              have : k' = k := take_same HK.out hk' HKL.out hg' HKG.out (hux.trans HXK.out.symm)
              rw [this, HBAD.out]
              rfl)⟩
      · cases A2
        · go_wp2_with (first | (with_reducible refine Txt.wp_region_text mixed quiet (by decide +kernel) ?_) | (with_reducible refine Txt.text_done (by kernel_rfl) ?_) | (go_at_call 81; (with_reducible refine (has81_at hp18 HA1).mono ?_); rintro e w3 ⟨rfl, hk3d⟩; have hk3 : Keep [] w2 w3 := (by first | exact hk3d | exact (hkz.drew).trans hk3d); clear hk3d; obtain ⟨d0, d1, d2, d3, d4, d5, d6, d7, t0, t1, t2, tlk⟩ := HALL.out w3 hk3) | (go_at_call 81; (with_reducible refine (has81_at hp28 HA2).mono ?_); rintro e w4 ⟨rfl, hk4d⟩; have hk4 : Keep [] w2 w4 := (by first | exact hk3.trans hk4d | exact (hk3.drew).trans hk4d); clear hk4d))
          all_goals
            go_wp2_with fail
            go_ret
            refine ⟨ret_bool ?_, Keep.call hkw0 (hk01.trans (Keep.mono0 (hkE.trans (by first | exact hk4 | exact hk4.drew)))) (fun z hz => .inr (by simp at hz; rw [hz]; exact hRw))⟩
            cases hb : wholeB h [x0, x1, x2, x3, x4, x5, x6, x7] with
            | false => rfl
            | true =>
              have h9 := (wholeB_iff _ _).1 hb k HKL.out HKG.out
              rw [HBAD.out] at h9
              cases h9
        · go_wp2_with (first | (with_reducible refine Txt.wp_region_text mixed quiet (by decide +kernel) ?_) | (with_reducible refine Txt.text_done (by kernel_rfl) ?_) | (go_at_call 81; (with_reducible refine (has81_at hp18 HA1).mono ?_); rintro e w3 ⟨rfl, hk3d⟩; have hk3 : Keep [] w2 w3 := (by first | exact hk3d | exact (hkz.drew).trans hk3d); clear hk3d; obtain ⟨d0, d1, d2, d3, d4, d5, d6, d7, t0, t1, t2, tlk⟩ := HALL.out w3 hk3) | (go_at_call 81; (with_reducible refine (has81_at hp28 HA2).mono ?_); rintro e w4 ⟨rfl, hk4d⟩; have hk4 : Keep [] w2 w4 := (by first | exact hk3.trans hk4d | exact (hk3.drew).trans hk4d); clear hk4d))
          all_goals
            go_wp2_with fail
            go_roundw
            case measure => rw [(ranges_keep HRG1.out (hkE.trans (by first | exact hk4 | exact hk4.drew))).left_eq, HRG.out.left_eq]; exact hlt1
            case rel => exact ⟨fun z => left z && !z.sameKey (.int .i64 x), cnt1, hk01.trans (Keep.mono0 (hkE.trans (by first | exact hk4 | exact hk4.drew))), Lib.hid (ranges_keep HRG1.out (hkE.trans (by first | exact hk4 | exact hk4.drew))), Lib.hid (fun k' hk' hg' hl' => by
              by_cases e : left (.int .i64 (lat h k').u) = false
              · exact HVS.out k' hk' hg' e
              · have hux := strike_same (by simpa using e) hl'
                have : k' = k := take_same HK.out hk' HKL.out hg' HKG.out (hux.trans HXK.out.symm)
                rw [this, HBAD.out]
                rfl)⟩
end Go.Proofs.Ytkhchfjhmplaiaa
