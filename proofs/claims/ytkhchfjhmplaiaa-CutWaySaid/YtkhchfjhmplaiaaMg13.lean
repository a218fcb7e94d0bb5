/- Texts laid together: H29 H30 H31 CWS CWP CW1. -/
import Derived.Test.YtkhchfjhmplaiaaMg12
import Derived.Shelf.Sort.Plain
import Derived.Shelf.Slices.In.SortNone
import Derived.Sort.OwnSortedInts
import Derived.Shelf.SlicesE.DeleteFunc
namespace Go.Proofs.Ytkhchfjhmplaiaa
open Go.RowKit
theorem whole32_at {a ac : Option Addr} {n c cc : Nat} {h : List Ln} {C : List Int} {W : Bool} {w : World} (hv : LnsV w a n c h) (hk : HOk h) (hi : IntsV w ac 8 cc C) (hC : CutOk h C) (hW : wholeB h C = W) :
    Calls Try.prog 32 #[.slice a n c, .slice ac 8 cc] w fun e w' => e = .returned (.tuple #[.bool W, .int .i64 0]) ∧ Keep [] w w' := by
  have := whole32_any hv hk hi hC.bd
  rw [hW] at this
  exact this
theorem least30_at {a ac : Option Addr} {n c cc : Nat} {h : List Ln} {C X : List Int} {w : World} (hv : LnsV w a n c h) (hk : HOk h) (hi : IntsV w ac 8 cc C) (hC : CutOk h C) (hX : LeastI h C X) (hw : wholeB h X = true) :
    Calls Try.prog 30 #[.slice a n c, .slice ac 8 cc] w fun e w' => ∃ a' c', e = .returned (.tuple #[.slice a' 8 c', .int .i64 0]) ∧ Keep [] w w' ∧ IntsV w' a' 8 c' X := by
  refine (least30_any hv hk hi hC).mono ?_
  rintro e w' ⟨a', c', x, rfl, hk1, hx, hl, hw1⟩
  rw [least_one hl hw1 hX hw] at hx
  exact ⟨a', c', rfl, hk1, hx⟩
theorem alone_ints {w : World} {A q k : Nat} {h : List Ln} (hb : w.heap[A]? = some (.cells ((aloneTo h q k).map (Value.int .i64)).toArray 3 (0, 0))) (hq : q < 8) (hk : k ≤ h.length) (hl : h.length ≤ 200) : IntsV w (some ⟨A, 0, none⟩) 8 8 (aloneTo h q k) := by
  have hc := alone_cut h hq hk
  refine ⟨hc.len, Nat.le_refl _, by unfold maxLen; omega, (cut_wf hc hl).2, fun _ => ⟨A, 0, rfl, fun i hi => ?_⟩⟩
  rw [Nat.zero_add, cellAt hb]
  simp [List.getD_eq_getElem?_getD, hc.len ▸ hi]
set_option maxRecDepth 100000 in
set_option maxHeartbeats 4000000 in
theorem cutClocks_walk (a : Option Addr) (len cap : Nat) (zs : List Int) (x : Int) (w : World) (hv : IntsV w a len cap zs) :
    Calls Try.prog 16 #[.slice a len cap, .int .i64 x] w fun e w' => e = .returned (.bool true) ∧ Keep [] w w' := by
  obtain ⟨N, hN⟩ : ∃ N, (hist zs).length = N := ⟨_, rfl⟩
  have hok : HOk (hist zs) := (hist_inv zs).ok
  have hN60 := hist_len zs
  rw [hN] at hN60
  have hNle : N ≤ 60 := by omega
  have HV := Lib.hid hv
  have HOK := Lib.hid hok
  clear hv hN60
  by_cases h0 : N = 0
  · have HN := Lib.hid (hN.trans h0)
    clear hN h0 hNle hok
    go_enter Try.func16, Try.ntmps16
    go_wp2_with (first | (go_at_call 28; refine (cbegun28_any _).mono ?_; rintro e w0 ⟨rfl, hk0⟩) | (go_at_call 22; refine (begun_any _).mono ?_; rintro e w1 ⟨rfl, hk1⟩) | (go_at_call 20; refine (history_at (HV.out.keep (hk0.trans hk1) (by simp)) HN).mono ?_; rintro e w2 ⟨a2, c2, rfl, hk2, hv2⟩; clear hv2))
    go_ret
    exact ⟨rfl, (hk0.trans hk1).trans hk2⟩
  · obtain ⟨i, hi, hi1⟩ := at_nat x (show 0 < N by omega)
    have hil : i < (hist zs).length := by omega
    obtain ⟨q, hq, hq8, _⟩ := spot_nat hok hil
    have HLS := Lib.hid (clk_least hok hil hq hq8)
    have HWH := Lib.hid (clk_whole hok hil)
    have HCC := Lib.hid (clk_cut hok hil)
    have HI := Lib.hid hi
    have HN := Lib.hid hN
    have HQ := Lib.hid hq
    have HMK := mk22
    clear hi hN hok hil hq
    go_enter Try.func16, Try.ntmps16
    go_wp2_with (first | (go_at_call 28; refine (cbegun28_any _).mono ?_; rintro e w0 ⟨rfl, hk0⟩) | (go_at_call 22; refine (begun_any _).mono ?_; rintro e w1 ⟨rfl, hk1⟩) | (go_at_call 20; refine (history_at (HV.out.keep (hk0.trans hk1) (by simp)) HN).mono ?_; rintro e w2 ⟨a2, c2, rfl, hk2, hv2⟩; have hr2 := hv2.room; have hm2 := hv2.most; unfold maxLen at hm2; have HV2 := Lib.hid hv2; clear hv2) | (go_at_call 21; (with_reducible refine (rest_at HI (by omega) (by omega)).mono ?_); rintro e w' ⟨rfl, rfl⟩) | (go_at_call 25; (with_reducible refine (clocks_at HV2.out HOK.out (by omega)).mono ?_); rintro e w4 ⟨g4, cg4, rfl, hk4, _, _, hnc4, hcm4, hcs4⟩; have HQ4 := Lib.hid hcs4; have HV4 := Lib.hid (HV2.out.keep hk4 (by simp)); unfold maxLen at hcm4; clear hcs4))
    have hA := blk_new w4 (.cells #[.int .i64 0, .int .i64 0, .int .i64 0, .int .i64 0, .int .i64 0, .int .i64 0, .int .i64 0, .int .i64 0] 3)
    obtain ⟨A, hA1⟩ : ∃ A, w4.heap.size = A := ⟨_, rfl⟩
    rw [hA1] at hA ⊢
    have hkA : Keep [] w4 (w4.alloc (.cells #[.int .i64 0, .int .i64 0, .int .i64 0, .int .i64 0, .int .i64 0, .int .i64 0, .int .i64 0, .int .i64 0] 3)) := (Keep.refl _ _).alloc _
    have HA0 : Hid ((w4.alloc (.cells #[.int .i64 0, .int .i64 0, .int .i64 0, .int .i64 0, .int .i64 0, .int .i64 0, .int .i64 0, .int .i64 0] 3)).heap[A]? = some (.cells ((aloneTo (hist zs) q 0).map (Value.int .i64)).toArray 3 (0, 0))) := Lib.hid (by
      rw [hA]
      have h9 : aloneTo (hist zs) q 0 = zeros8 := by
        unfold aloneTo
        rcases (by omega : q = 0 ∨ q = 1 ∨ q = 2 ∨ q = 3 ∨ q = 4 ∨ q = 5 ∨ q = 6 ∨ q = 7) with h | h | h | h | h | h | h | h <;> (subst h; rfl)
      rw [h9]; rfl)
    have HA1 := Lib.hid hA1
    clear hA hA1 HMK
    go_loopw [10, 50] (fun _ j wr => ∃ k : Nat, k ≤ i + 1 ∧ j = .int .i64 k ∧ Keep [] w4 wr ∧ Hid (wr.heap[A]? = some (.cells ((aloneTo (hist zs) q k).map (Value.int .i64)).toArray 3 (0, 0)))) (fun _ j _ => i + 1 - (intOf j).toNat)
    case atStart => exact ⟨0, by omega, rfl, hkA, HA0⟩
    case round =>
      obtain ⟨k, hk, rfl, hkr, HB⟩ := hrel
      by_cases hlt : k < i + 1
      · have hkN : k < N := by omega
        obtain ⟨b2, o2, rfl, c0, c1, c2'⟩ := (HV4.out.keep hkr (by simp)).at_ hkN
        obtain ⟨_, _, he, d0, _⟩ := (HV4.out.keep hkr (by simp)).at_ hi1
        cases he
        rw [HQ.out] at d0
        have hrs := rk_succ (plQ (hist zs) q) k
        have hpq : plQ (hist zs) q k = decide ((lat (hist zs) k).q = q) := rfl
        have hrk := rk_le' (plQ (hist zs) q) k
        obtain ⟨⟨p, gg, u⟩, hL⟩ : ∃ L, lat (hist zs) k = L := ⟨_, rfl⟩
        rw [hL] at c0 c1 c2' hpq
        dsimp only at c0 c1 c2' hpq
        rw [hpq] at hrs
        clear hL hpq
        have hkE : Keep [] wr (wr.alloc (.cells #[.int .i64 p, .int .i64 gg, .int .i64 u] 27)) := (Keep.refl _ _).alloc _
        have d0' := hkE.cell d0 (by simp)
        have hbl := lt_of_blk HB.out
        have HB2 := Lib.hid (hkE.at HB.out (by simp))
        have ha := alone_at (hist zs) hq8 k q
        rw [if_pos rfl] at ha
        have hca := cellAt HB2.out q
        have hza := thaw HB2.out
        have hlen8 : (aloneTo (hist zs) q k).length = 8 := by simp [aloneTo, zeros8]
        have hca2 : (wr.alloc (.cells #[.int .i64 p, .int .i64 gg, .int .i64 u] 27)).cell? ⟨A, q, none⟩ = some (.int .i64 (rk (plQ (hist zs) q) k)) := by
          rw [hca, ← ha]
          simp [List.getD_eq_getElem?_getD, hlen8, hq8]
        obtain ⟨m, hm⟩ : ∃ m, rk (plQ (hist zs) q) k = m := ⟨_, rfl⟩
        rw [hm] at hca2 hrs hrk
        have HM := Lib.hid hm
        clear hca ha hlen8 hm
        by_cases hpq : p = (q : Int)
        · have hpb : (p == (q : Int)) = true := by rw [hpq]; exact beq_self_eq_true _
          have HS : Hid (aloneTo (hist zs) q (k + 1) = (aloneTo (hist zs) q k).set q (m + 1)) := Lib.hid (by
            unfold aloneTo
            rw [hrs, decide_eq_true hpq, if_pos rfl, List.set_set]; rfl)
          clear hrs
          subst hpq
          go_wp2_with (first | (with_reducible refine Txt.wp_region_text mixed quiet (by decide +kernel) ?_) | (with_reducible refine Txt.text_done (by kernel_rfl) ?_))
          refine ⟨⟨k + 1, by omega, by go_num, ((hkr.setCell (.inr (by show w4.heap.size ≤ A; rw [HA1.out]; exact Nat.le_refl _)) _).alloc _).drew, Lib.hid ?_⟩, by simp [intOf]; omega⟩
          have h1 : (wr.setCell ⟨A, q, none⟩ (.int .i64 ((m : Int) + 1))).heap[A]? = some (.cells (((aloneTo (hist zs) q k).set q (m + 1)).map (Value.int .i64)).toArray 3 (0, 0)) := by
            rw [blk_setCell, if_pos rfl, HB.out]
            simp only [Option.map_some, Obj.put_cells, List.setIfInBounds_toArray, List.map_set]
          rw [HS.out]
          exact (((Keep.refl [] _).alloc _).drew).at h1 (by simp)
        · have hpb : (p == (q : Int)) = false := beq_eq_false_iff_ne.2 hpq
          have HS : Hid (aloneTo (hist zs) q (k + 1) = aloneTo (hist zs) q k) := Lib.hid (by
            unfold aloneTo
            rw [hrs, decide_eq_false hpq, HM.out]; simp)
          clear hrs
          go_wp2_with (first | (with_reducible refine Txt.wp_region_text mixed quiet (by decide +kernel) ?_) | (with_reducible refine Txt.text_done (by kernel_rfl) ?_))
          refine ⟨⟨k + 1, by omega, by go_num, (hkr.alloc _).drew, Lib.hid ?_⟩, by simp [intOf]; omega⟩
          rw [HS.out]
          exact (((Keep.refl [] _).alloc _).drew).at HB.out (by simp)
      · have hki : k = i + 1 := by omega
        have hb := HB.out
        rw [hki] at hb
        have HBF := Lib.hid hb
        obtain ⟨gi, ci, hci, hii⟩ := HQ4.out i hi1
        have hci1 := hkr.cell hci (by simp)
        have HII := Lib.hid (hii.keep hkr (by simp))
        have HVr := Lib.hid (HV4.out.keep hkr (by simp))
        have HAI := Lib.hid (alone_ints hb hq8 (show i + 1 ≤ (hist zs).length by rw [HN.out]; omega) (by rw [HN.out]; omega))
        have HAC := Lib.hid (alone_cut (hist zs) hq8 (show i + 1 ≤ (hist zs).length by rw [HN.out]; omega))
        have f1 : (i : Int) < (N : Int) := by omega
        clear hb hci hii hki
        go_wp2_with (first | (go_at_call 32; refine (whole32_at HVr.out HOK.out HII.out HCC.out HWH.out).mono ?_; rintro e w5 ⟨rfl, hk5⟩; have HV5 := Lib.hid (HVr.out.keep hk5 (by simp)); have HA5 := Lib.hid (HAI.out.keep hk5 (by simp)); have hci2 := hk5.cell hci1 (by simp)) | (go_at_call 30; refine (least30_at HV5.out HOK.out HA5.out HAC.out HLS.out HWH.out).mono ?_; rintro e w6 ⟨a6, c6, rfl, hk6, hx6⟩; have HX6 := Lib.hid hx6; have hci3 := hk6.cell hci2 (by simp); have HI6 := Lib.hid ((HII.out.keep hk5 (by simp)).keep hk6 (by simp)); clear hx6) | (go_at_call 34; refine (equal_same HX6.out HI6.out rfl).mono ?_; rintro e w7 ⟨rfl, hk7⟩))
        go_ret
        exact ⟨rfl, (((((hk0.trans hk1).trans hk2).trans hk4).trans hkr).trans hk5).trans (hk6.trans hk7)⟩
end Go.Proofs.Ytkhchfjhmplaiaa
namespace Go
open Go.RowKit
def insB (a b : List Int) : Bool := (List.range 8).all fun p => decide (a.getD p 0 ≤ b.getD p 0)
theorem insB_iff {a b : List Int} : insB a b = true ↔ InC a b := by
  unfold insB InC
  simp only [List.all_eq_true, List.mem_range, decide_eq_true_eq]
def cntL (h : List Ln) (k : Nat) : List Int := (List.range 8).map fun (p : Nat) => (rk (plQ h p) k : Int)
theorem cntL_at (h : List Ln) (k : Nat) {p : Nat} (hp : p < 8) : (cntL h k).getD p 0 = rk (plQ h p) k := by
  simp [cntL, List.getD_eq_getElem?_getD, hp]
theorem cntL_len (h : List Ln) (k : Nat) : (cntL h k).length = 8 := by simp [cntL]
theorem cntL_succ {h : List Ln} {k q : Nat} (hq : (lat h k).q = q) (hq8 : q < 8) : cntL h (k + 1) = (cntL h k).set q ((rk (plQ h q) k : Int) + 1) := by
  refine cut_ext (cntL_len _ _) (by simp [cntL_len]) (fun p hp => ?_) (fun p hp => ?_)
  all_goals
    rw [getD_set8 (cntL_len h k) hq8, cntL_at h _ hp, cntL_at h _ hp, rk_succ]
    have : plQ h p k = decide ((q : Int) = p) := by unfold plQ; rw [hq]
    rw [this]
    by_cases e : p = q
    · subst e; simp
    · rw [if_neg e, decide_eq_false (by omega)]; simp
theorem cntL_zero (h : List Ln) : cntL h 0 = zeros8 := rfl
end Go
namespace Go.Proofs.Ytkhchfjhmplaiaa
open Go.RowKit
set_option maxRecDepth 100000 in
set_option maxHeartbeats 1000000 in
theorem inside_at {a1 a2 : Option Addr} {c1 c2 : Nat} {xs ys : List Int} {B : Bool} {w : World} (hx : IntsV w a1 8 c1 xs) (hy : IntsV w a2 8 c2 ys) (hB : insB xs ys = B) :
    Calls Try.prog 33 #[.slice a1 8 c1, .slice a2 8 c2] w fun e w' => e = .returned (.bool B) ∧ Keep [] w w' := by
  obtain ⟨b1, o1, rfl, hc1⟩ := hx.cells (by omega)
  obtain ⟨b2, o2, rfl, hc2⟩ := hy.cells (by omega)
  have HC1 := Lib.hid hc1
  have HC2 := Lib.hid hc2
  have h1 := hx.room
  have h2 := hx.most
  have h3 := hy.room
  have h4 := hy.most
  unfold maxLen at h2 h4
  have HB := Lib.hid hB
  clear hx hy hc1 hc2 hB
  go_enter Try.func33, Try.ntmps33
  go_wp2_with fail
  go_loopw [5, 13] (fun _ i wr => ∃ k : Nat, k ≤ 8 ∧ i = .int .i64 k ∧ Keep [] w wr ∧ Hid (∀ p, p < k → xs.getD p 0 ≤ ys.getD p 0)) (fun _ i _ => 8 - (intOf i).toNat)
  case atStart => exact ⟨0, by omega, rfl, Keep.refl _ _, Lib.hid (fun p hp => absurd hp (by omega))⟩
  case round =>
    obtain ⟨k, hk, rfl, hkw, HP⟩ := hrel
    by_cases hlt : k < 8
    · have d1 := hkw.cell (HC1.out k hlt) (by simp)
      have d2 := hkw.cell (HC2.out k hlt) (by simp)
      obtain ⟨x, hx⟩ : ∃ x, xs.getD k 0 = x := ⟨_, rfl⟩
      obtain ⟨y, hy⟩ : ∃ y, ys.getD k 0 = y := ⟨_, rfl⟩
      rw [hx] at d1
      rw [hy] at d2
      have HX := Lib.hid hx
      have HY := Lib.hid hy
      clear hx hy
      by_cases hgt : y < x
      · have hb : decide (y < x) = true := by simpa using hgt
        go_wp2_with (first | (with_reducible refine Txt.wp_region_text mixed quiet (by decide +kernel) ?_) | (with_reducible refine Txt.text_done (by kernel_rfl) ?_))
        go_ret
        have hf : B = false := by
          rw [← HB.out]
          cases e : insB xs ys with
          | false => rfl
          | true => have := insB_iff.1 e k hlt; rw [HX.out, HY.out] at this; omega
        exact ⟨by rw [hf]; rfl, by repeat (first | exact hkw | apply Keep.drew)⟩
      · have hb : decide (y < x) = false := by simpa using hgt
        go_wp2_with (first | (with_reducible refine Txt.wp_region_text mixed quiet (by decide +kernel) ?_) | (with_reducible refine Txt.text_done (by kernel_rfl) ?_))
        go_roundw
        case measure => simp [intOf]; omega
        case rel => exact ⟨k + 1, by omega, by go_num, by repeat (first | exact hkw | apply Keep.drew), Lib.hid (fun p hp => by
          by_cases e : p = k
          · rw [e, HX.out, HY.out]; omega
          · exact HP.out p (by omega))⟩
    · have hk8 : k = 8 := by omega
      have hT : B = true := by rw [← HB.out]; exact insB_iff.2 (by rw [hk8] at HP; exact HP.out)
      have HT := Lib.hid hT
      clear hT hk8
      go_wp2_with fail
      go_ret
      exact ⟨by rw [HT.out]; rfl, hkw⟩
set_option maxRecDepth 100000 in
set_option maxHeartbeats 4000000 in
theorem cut29_any {a al : Option Addr} {n c ln cl : Nat} {h : List Ln} {ls : List Int} {w : World} (hv : LnsV w a n c h) (hk : HOk h) (hi : IntsV w al ln cl ls) :
    Calls Try.prog 29 #[.slice a n c, .slice al ln cl] w fun e w' => ∃ g C, e = .returned (.slice (some ⟨g, 0, none⟩) 8 8) ∧ Keep [] w w' ∧ IntsV w' (some ⟨g, 0, none⟩) 8 8 C ∧ CutOk h C := by
  have hn2 : n ≤ 200 := by have := hk.len; have := hv.len; omega
  have HV := Lib.hid hv
  have HK := Lib.hid hk
  have HL := Lib.hid hv.len
  have HI := Lib.hid hi
  have h1 := hi.room
  have h2 := hi.most
  unfold maxLen at h2
  have HMK := mk22
  have hA := blk_new w (.cells #[.int .i64 0, .int .i64 0, .int .i64 0, .int .i64 0, .int .i64 0, .int .i64 0, .int .i64 0, .int .i64 0] 3)
  obtain ⟨A, hA1⟩ : ∃ A, w.heap.size = A := ⟨_, rfl⟩
  have HA1 := Lib.hid hA1
  clear hv hk hi
  go_enter Try.func29, Try.ntmps29
  go_wp2_with fail
  rw [hA1] at hA
  have HA0 : Hid ((w.alloc (.cells #[.int .i64 0, .int .i64 0, .int .i64 0, .int .i64 0, .int .i64 0, .int .i64 0, .int .i64 0, .int .i64 0] 3)).heap[A]? = some (.cells ((cntL h 0).map (Value.int .i64)).toArray 3 (0, 0))) := Lib.hid (by rw [cntL_zero]; exact hA)
  clear hA hA1 HMK
  go_loopw [7, 13] (fun _ j wr => ∃ k : Nat, k ≤ n ∧ j = .int .i64 k ∧ Keep [] w wr ∧ Hid (wr.heap[A]? = some (.cells ((cntL h k).map (Value.int .i64)).toArray 3 (0, 0)))) (fun _ j _ => n - (intOf j).toNat)
  case atStart => exact ⟨0, by omega, rfl, (Keep.refl _ _).alloc _, HA0⟩
  case round =>
    obtain ⟨k, hk, rfl, hkr, HB⟩ := hrel
    by_cases hlt : k < n
    · have hlh : k < h.length := by rw [HL.out]; exact hlt
      have he := HK.out.ev k hlh
      obtain ⟨b2, o2, rfl, c0, c1, c2'⟩ := (HV.out.keep hkr (by simp)).at_ hlt
      have hsu := fun q => @cntL_succ h k q
      obtain ⟨⟨q', gg, u⟩, hL⟩ : ∃ L, lat h k = L := ⟨_, rfl⟩
      rw [hL] at he c0 c1 c2' hsu
      dsimp only at he c0 c1 c2' hsu
      clear hL
      obtain ⟨q, rfl⟩ : ∃ q : Nat, q' = q := ⟨q'.toNat, by omega⟩
      have hq8 : q < 8 := by omega
      have HSU := Lib.hid (hsu q rfl hq8)
      have hca : wr.cell? ⟨A, q, none⟩ = some (.int .i64 (rk (plQ h q) k)) := by
        rw [cellAt HB.out, ← cntL_at h k hq8]
        have := cntL_len h k
        simp [List.getD_eq_getElem?_getD, this, hq8]
      have hza := thaw HB.out
      have hrk := rk_le' (plQ h q) k
      obtain ⟨m, hm⟩ : ∃ m, rk (plQ h q) k = m := ⟨_, rfl⟩
      rw [hm] at hca HSU hrk
      have hkE : Keep [] wr (wr.alloc (.cells #[.int .i64 q, .int .i64 gg, .int .i64 u] 27)) := (Keep.refl _ _).alloc _
      have hca2 := hkE.cell hca (by simp)
      have hbl := lt_of_blk HB.out
      clear hsu hm
      go_wp2_with (first | (with_reducible refine Txt.wp_region_text mixed quiet (by decide +kernel) ?_) | (with_reducible refine Txt.text_done (by kernel_rfl) ?_))
      refine ⟨⟨k + 1, by omega, by go_num, ?_, Lib.hid ?_⟩, by simp [intOf]; omega⟩
      · refine (Keep.setCell ?_ ?_ _).alloc _
        · exact hkr
        · exact .inr (by show w.heap.size ≤ A; rw [HA1.out]; exact Nat.le_refl _)
      · have h9 : (wr.setCell ⟨A, q, none⟩ (.int .i64 ((m : Int) + 1))).heap[A]? = some (.cells (((cntL h k).set q (m + 1)).map (Value.int .i64)).toArray 3 (0, 0)) := by
          rw [blk_setCell, if_pos rfl, HB.out]
          simp only [Option.map_some, Obj.put_cells, List.setIfInBounds_toArray, List.map_set]
        rw [HSU.out]
        exact ((Keep.refl [] _).alloc _).at h9 (by simp)
    · have hkn := Lib.hid (show k = n by omega)
      go_wp2_with fail
      have hstart : Hid (∃ x : List Int, wr.heap[A]? = some (.cells (x.map (Value.int .i64)).toArray 3 (0, 0)) ∧ x.length = 8 ∧ ∀ p : Nat, p < 8 → x.getD p 0 = rk (plQ h p) h.length) := Lib.hid ⟨cntL h k, HB.out, cntL_len _ _, fun p hp => by rw [cntL_at h k hp, hkn.out, HL.out]⟩
      obtain ⟨wo, rfl⟩ : ∃ wo : World, wo = wr := ⟨_, rfl⟩
      go_loopw [8, 9, 27] (fun _ _ j wr => ∃ (i : Nat) (x : List Int), i ≤ 8 ∧ j = .int .i64 i ∧ Keep [] w wr ∧ Hid (wr.heap[A]? = some (.cells (x.map (Value.int .i64)).toArray 3 (0, 0))) ∧ Hid (x.length = 8 ∧ (∀ p : Nat, p < i → 0 ≤ x.getD p 0 ∧ x.getD p 0 ≤ rk (plQ h p) h.length) ∧ ∀ p : Nat, i ≤ p → p < 8 → x.getD p 0 = rk (plQ h p) h.length)) (fun _ _ j _ => 8 - (intOf j).toNat)
      case atStart =>
        obtain ⟨x, hx1, hx2, hx3⟩ := hstart.out
        exact ⟨0, x, by omega, rfl, hkr, Lib.hid hx1, Lib.hid ⟨hx2, fun p hp => absurd hp (by omega), fun p _ hp => hx3 p hp⟩⟩
      case round =>
        obtain ⟨i, x, hi8, rfl, hkq, HX, HP⟩ := hrel
        by_cases hli : i < 8
        · have hxi := HP.out.2.2 i (Nat.le_refl _) hli
          have hci : wr.cell? ⟨A, i, none⟩ = some (.int .i64 (x.getD i 0)) := by
            rw [cellAt HX.out]
            simp [List.getD_eq_getElem?_getD, HP.out.1, hli]
          have hrk := rk_le' (plQ h i) h.length
          rw [hxi] at hci
          obtain ⟨m, hm⟩ : ∃ m, rk (plQ h i) h.length = m := ⟨_, rfl⟩
          rw [hm] at hci hrk
          have HM := Lib.hid hm
          have hza := thaw HX.out
          rw [HL.out] at hrk
          clear hm hxi
          by_cases hil : i < ln
          · obtain ⟨b5, o5, rfl, hc5⟩ := HI.out.cells (by omega)
            have hl := hkq.cell (hc5 i hil) (by simp)
            obtain ⟨z, hz⟩ : ∃ z, ls.getD i 0 = z := ⟨_, rfl⟩
            rw [hz] at hl
            obtain ⟨r, hr, hr1⟩ := rest_nat z (m + 1 : Int) (by omega)
            have HR := Lib.hid hr
            clear hc5 hz hr
            go_wp2_with (first | (go_at_call 21; (with_reducible refine (rest_at HR (by omega) (by omega)).mono ?_); rintro e w' ⟨rfl, rfl⟩))
            refine ⟨⟨i + 1, x.set i r, by omega, by go_num, ?_, Lib.hid ?_, Lib.hid ⟨by simp [HP.out.1], fun p hp => ?_, fun p hp1 hp2 => ?_⟩⟩, by simp [intOf]; omega⟩
            · exact hkq.setCell (.inr (by show w.heap.size ≤ A; rw [HA1.out]; exact Nat.le_refl _)) _
            · rw [blk_setCell, if_pos rfl, HX.out]
              simp only [Option.map_some, Obj.put_cells, List.setIfInBounds_toArray, List.map_set]
            · rw [getD_set8 HP.out.1 hli]
              by_cases e : p = i
              · subst e; rw [if_pos rfl, HM.out]; omega
              · rw [if_neg e]; exact HP.out.2.1 p (by omega)
            · rw [getD_set8 HP.out.1 hli, if_neg (by omega)]; exact HP.out.2.2 p (by omega) hp2
          · obtain ⟨r, hr, hr1⟩ := rest_nat 0 (m + 1 : Int) (by omega)
            have HR := Lib.hid hr
            clear hr
            go_wp2_with (first | (go_at_call 21; (with_reducible refine (rest_at HR (by omega) (by omega)).mono ?_); rintro e w' ⟨rfl, rfl⟩))
            refine ⟨⟨i + 1, x.set i r, by omega, by go_num, ?_, Lib.hid ?_, Lib.hid ⟨by simp [HP.out.1], fun p hp => ?_, fun p hp1 hp2 => ?_⟩⟩, by simp [intOf]; omega⟩
            · exact hkq.setCell (.inr (by show w.heap.size ≤ A; rw [HA1.out]; exact Nat.le_refl _)) _
            · rw [blk_setCell, if_pos rfl, HX.out]
              simp only [Option.map_some, Obj.put_cells, List.setIfInBounds_toArray, List.map_set]
            · rw [getD_set8 HP.out.1 hli]
              by_cases e : p = i
              · subst e; rw [if_pos rfl, HM.out]; omega
              · rw [if_neg e]; exact HP.out.2.1 p (by omega)
            · rw [getD_set8 HP.out.1 hli, if_neg (by omega)]; exact HP.out.2.2 p (by omega) hp2
        · have hC : CutOk h x := ⟨HP.out.1, fun p hp => HP.out.2.1 p (by omega)⟩
          have HC := Lib.hid hC
          go_wp2_with fail
          go_ret
          refine ⟨A, x, rfl, hkq, ⟨HC.out.len, Nat.le_refl _, by unfold maxLen; omega, (cut_wf HC.out HK.out.len).2, fun _ => ⟨A, 0, rfl, fun p hp => ?_⟩⟩, HC.out⟩
          rw [Nat.zero_add, cellAt HX.out]
          simp [List.getD_eq_getElem?_getD, HC.out.len, hp]
end Go.Proofs.Ytkhchfjhmplaiaa
namespace Go.Proofs.Ytkhchfjhmplaiaa
open Go.RowKit
theorem equal_at {a1 a2 : Option Addr} {n1 c1 n2 c2 : Nat} {xs ys : List Int} {B : Bool} {w : World} (hx : IntsV w a1 n1 c1 xs) (hy : IntsV w a2 n2 c2 ys) (hB : decide (xs = ys) = B) :
    Calls Try.prog 34 #[.slice a1 n1 c1, .slice a2 n2 c2] w fun e w' => e = .returned (.bool B) ∧ Keep [] w w' := by
  have := equal_any hx hy
  rw [hB] at this
  exact this
theorem insB_tr {a b c d : List Int} (h : InC a b → InC c d) : insB a b = true → insB c d = true := fun e => insB_iff.2 (h (insB_iff.1 e))
theorem InC.refl (x : List Int) : InC x x := fun _ _ => Int.le_refl _
theorem least_self {h : List Ln} {x : List Int} (c : CutOk h x) : LeastI h x x := ⟨c, InC.refl _, fun _ _ h => h⟩
theorem most_self {h : List Ln} {x : List Int} (c : CutOk h x) : MostI h x x := ⟨c, InC.refl _, fun _ _ h => h⟩
theorem most_one {h : List Ln} {c x y : List Int} (hx : MostI h c x) (hwx : wholeB h x = true) (hy : MostI h c y) (hwy : wholeB h y = true) : x = y :=
  cut_ext hx.ok.len hy.ok.len (hy.most x hwx hx.le) (hx.most y hwy hy.le)
theorem most31_at {a ac : Option Addr} {n c cc : Nat} {h : List Ln} {C X : List Int} {w : World} (hv : LnsV w a n c h) (hk : HOk h) (hi : IntsV w ac 8 cc C) (hC : CutOk h C) (hX : MostI h C X) (hw : wholeB h X = true) :
    Calls Try.prog 31 #[.slice a n c, .slice ac 8 cc] w fun e w' => ∃ a' c', e = .returned (.tuple #[.slice a' 8 c', .int .i64 0]) ∧ Keep [] w w' ∧ IntsV w' a' 8 c' X := by
  refine (most31_any hv hk hi hC).mono ?_
  rintro e w' ⟨a', c', x, rfl, hk1, hx, hl, hw1⟩
  rw [most_one hl hw1 hX hw] at hx
  exact ⟨a', c', rfl, hk1, hx⟩
theorem least_eq {h : List Ln} {c x : List Int} {W : Bool} (hc : CutOk h c) (hl : LeastI h c x) (hw : wholeB h x = true) (hW : wholeB h c = W) : decide (x = c) = W := by
  cases W with
  | true => exact decide_eq_true (cut_ext hl.ok.len hc.len (hl.least c hW (InC.refl _)) hl.ge)
  | false => exact decide_eq_false (fun e => by rw [e, hW] at hw; cases hw)
theorem most_eq {h : List Ln} {c x : List Int} {W : Bool} (hc : CutOk h c) (hl : MostI h c x) (hw : wholeB h x = true) (hW : wholeB h c = W) : decide (x = c) = W := by
  cases W with
  | true => exact decide_eq_true (cut_ext hl.ok.len hc.len hl.le (hl.most c hW (InC.refl _)))
  | false => exact decide_eq_false (fun e => by rw [e, hW] at hw; cases hw)
set_option maxRecDepth 100000 in
set_option maxHeartbeats 8000000 in
theorem cutClosed_walk (a : Option Addr) (len cap : Nat) (zs : List Int) (b : Option Addr) (lenb capb : Nat) (bs : List Int) (d : Option Addr) (lend capd : Nat) (ds : List Int) (w : World) (hv : IntsV w a len cap zs) (hvb : IntsV w b lenb capb bs) (hvd : IntsV w d lend capd ds) :
    Calls Try.prog 8 #[.slice a len cap, .slice b lenb capb, .slice d lend capd] w fun e w' => e = .returned (.bool true) ∧ Keep [] w w' := by
  obtain ⟨N, hN⟩ : ∃ N, (hist zs).length = N := ⟨_, rfl⟩
  have hok : HOk (hist zs) := (hist_inv zs).ok
  have HV := Lib.hid hv
  have HVB := Lib.hid hvb
  have HVD := Lib.hid hvd
  have HOK := Lib.hid hok
  have HN := Lib.hid hN
  clear hv hvb hvd hok hN
  go_enter Try.func8, Try.ntmps8
  go_wp2_with (first | (go_at_call 28; refine (cbegun28_any _).mono ?_; rintro e w0 ⟨rfl, hk0⟩) | (go_at_call 20; refine (history_at (HV.out.keep hk0 (by simp)) HN).mono ?_; rintro e w2 ⟨a2, c2, rfl, hk2, hv2⟩; have HV2 := Lib.hid hv2; clear hv2) | (go_at_call 29; (with_reducible refine (cut29_any HV2.out HOK.out (HVB.out.keep (hk0.trans hk2) (by simp))).mono ?_); rintro e w3 ⟨g, C, rfl, hk3, hi3, hC⟩; have HV3 := Lib.hid (HV2.out.keep hk3 (by simp)); have HC3 := Lib.hid hi3; have HCO := Lib.hid hC; clear hi3 hC) | (go_at_call 30; (with_reducible refine (least30_any HV3.out HOK.out HC3.out HCO.out).mono ?_); rintro e w4 ⟨ax, cx, X, rfl, hk4, hi4, hl4, hw4⟩; have HV4 := Lib.hid (HV3.out.keep hk4 (by simp)); have HC4 := Lib.hid (HC3.out.keep hk4 (by simp)); have HX4 := Lib.hid hi4; have HLX := Lib.hid hl4; have HWX := Lib.hid hw4; clear hi4 hl4 hw4) | (go_at_call 31; (with_reducible refine (most31_any HV4.out HOK.out HC4.out HCO.out).mono ?_); rintro e w5 ⟨ay, cy, Y, rfl, hk5, hi5, hl5, hw5⟩; have HV5 := Lib.hid (HV4.out.keep hk5 (by simp)); have HC5 := Lib.hid (HC4.out.keep hk5 (by simp)); have HX5 := Lib.hid (HX4.out.keep hk5 (by simp)); have HY5 := Lib.hid hi5; have HLY := Lib.hid hl5; have HWY := Lib.hid hw5; obtain ⟨WC, hWC⟩ : ∃ WC, wholeB (hist zs) C = WC := ⟨_, rfl⟩; have HWC := Lib.hid hWC; clear hi5 hl5 hw5 hWC) | (go_at_call 32; (with_reducible refine (whole32_at HV5.out HOK.out HX5.out HLX.out.ok HWX.out).mono ?_); rintro e w6 ⟨rfl, hk6⟩; have HV6 := Lib.hid (HV5.out.keep hk6 (by simp)); have HC6 := Lib.hid (HC5.out.keep hk6 (by simp)); have HX6 := Lib.hid (HX5.out.keep hk6 (by simp)); have HY6 := Lib.hid (HY5.out.keep hk6 (by simp))) | (go_at_call 32; (with_reducible refine (whole32_at HV6.out HOK.out HY6.out HLY.out.ok HWY.out).mono ?_); rintro e w7 ⟨rfl, hk7⟩; have HV7 := Lib.hid (HV6.out.keep hk7 (by simp)); have HC7 := Lib.hid (HC6.out.keep hk7 (by simp)); have HX7 := Lib.hid (HX6.out.keep hk7 (by simp)); have HY7 := Lib.hid (HY6.out.keep hk7 (by simp))) | (go_at_call 30; (with_reducible refine (least30_at HV7.out HOK.out HX7.out HLX.out.ok (least_self HLX.out.ok) HWX.out).mono ?_); rintro e w8 ⟨ag, cg, rfl, hk8, hi8⟩; have HV8 := Lib.hid (HV7.out.keep hk8 (by simp)); have HC8 := Lib.hid (HC7.out.keep hk8 (by simp)); have HX8 := Lib.hid (HX7.out.keep hk8 (by simp)); have HY8 := Lib.hid (HY7.out.keep hk8 (by simp)); have HG8 := Lib.hid hi8; clear hi8) | (go_at_call 31; (with_reducible refine (most31_at HV8.out HOK.out HY8.out HLY.out.ok (most_self HLY.out.ok) HWY.out).mono ?_); rintro e w9 ⟨ah, ch, rfl, hk9, hi9⟩; have HV9 := Lib.hid (HV8.out.keep hk9 (by simp)); have HC9 := Lib.hid (HC8.out.keep hk9 (by simp)); have HX9 := Lib.hid (HX8.out.keep hk9 (by simp)); have HY9 := Lib.hid (HY8.out.keep hk9 (by simp)); have HG9 := Lib.hid (HG8.out.keep hk9 (by simp)); have HH9 := Lib.hid hi9; clear hi9) | (go_at_call 32; (with_reducible refine (whole32_at HV9.out HOK.out HC9.out HCO.out HWC.out).mono ?_); rintro e wl ⟨rfl, hkl⟩; have hkw : Keep [] w wl := ((((((((hk0.trans hk2).trans hk3).trans hk4).trans hk5).trans hk6).trans hk7).trans hk8).trans hk9).trans hkl))
  have HBL := Lib.hid (blk_new wl (.cells #[.int .i64 0, .int .i64 0, .int .i64 0, .int .i64 0, .int .i64 0, .int .i64 0, .int .i64 0] 23))
  obtain ⟨Q, hQ⟩ : ∃ Q, wl.heap.size = Q := ⟨_, rfl⟩
  have HVl := Lib.hid (HV9.out.keep hkl (by simp))
  have HCl := Lib.hid (HC9.out.keep hkl (by simp))
  have HXl := Lib.hid (HX9.out.keep hkl (by simp))
  have HYl := Lib.hid (HY9.out.keep hkl (by simp))
  have HGl := Lib.hid (HG9.out.keep hkl (by simp))
  have HHl := Lib.hid (HH9.out.keep hkl (by simp))
  rw [hQ] at HBL ⊢
  have HCX := Lib.hid (insB_iff.2 HLX.out.ge)
  have HYC := Lib.hid (insB_iff.2 HLY.out.le)
  have HE1 := Lib.hid (least_eq HCO.out HLX.out HWX.out HWC.out)
  have HE2 := Lib.hid (most_eq HCO.out HLY.out HWY.out HWC.out)
  clear HV2 HV3 HV4 HV5 HV6 HV7 HV8 HV9 HC3 HC4 HC5 HC6 HC7 HC8 HC9 HX4 HX5 HX6 HX7 HX8 HX9 HY5 HY6 HY7 HY8 HY9 HG8 HG9 HH9 hk0 hk2 hk3 hk4 hk5 hk6 hk7 hk8 hk9 hkl hQ
  go_loopw [24, 85] (fun _ j wr => ∃ k : Nat, k ≤ 7 ∧ j = .int .i64 k ∧ wr = wl.alloc (.cells #[.int .i64 0, .int .i64 0, .int .i64 0, .int .i64 0, .int .i64 0, .int .i64 0, .int .i64 0] 23)) (fun _ j _ => 7 - (intOf j).toNat)
  case atStart => exact ⟨0, by omega, rfl, by trivial⟩
  case round =>
    obtain ⟨k, hk, rfl, hwr⟩ := hrel
    by_cases hlt : k < 7
    · have hc : wr.cell? ⟨Q, k, none⟩ = some (.int .i64 0) := by
        rw [hwr, cellAt HBL.out]
        rcases (by omega : k = 0 ∨ k = 1 ∨ k = 2 ∨ k = 3 ∨ k = 4 ∨ k = 5 ∨ k = 6) with h | h | h | h | h | h | h <;> (subst h; rfl)
      have HWR := Lib.hid hwr
      clear hwr
      go_wp2_with fail
      go_roundw
      case measure => simp [intOf]; omega
      case rel => exact ⟨k + 1, by omega, by go_num, HWR.out⟩
    · have hkm : Keep [] wl wr := by rw [hwr]; exact (Keep.refl _ _).alloc _
      clear hwr
      cases WC
      all_goals
        go_wp2_with (first | (go_at_call 33; (with_reducible refine (inside_at (HCl.out.keep hkm (by simp)) (HXl.out.keep hkm (by simp)) HCX.out).mono ?_); rintro e wA ⟨rfl, hkA⟩; have hA := hkm.trans hkA) | (go_at_call 33; (with_reducible refine (inside_at (HYl.out.keep hA (by simp)) (HCl.out.keep hA (by simp)) HYC.out).mono ?_); rintro e wB ⟨rfl, hkB⟩; have hB := hA.trans hkB) | (go_at_call 34; (with_reducible refine (equal_same (HGl.out.keep hB (by simp)) (HXl.out.keep hB (by simp)) rfl).mono ?_); rintro e wC ⟨rfl, hkC⟩; have hC := hB.trans hkC) | (go_at_call 34; (with_reducible refine (equal_same (HHl.out.keep hC (by simp)) (HYl.out.keep hC (by simp)) rfl).mono ?_); rintro e wD ⟨rfl, hkD⟩; have hD := hC.trans hkD) | (go_at_call 34; (with_reducible refine (equal_at (HXl.out.keep hD (by simp)) (HCl.out.keep hD (by simp)) HE1.out).mono ?_); rintro e wE ⟨rfl, hkE⟩; have hE := hD.trans hkE) | (go_at_call 34; (with_reducible refine (equal_at (HYl.out.keep hE (by simp)) (HCl.out.keep hE (by simp)) HE2.out).mono ?_); rintro e wF ⟨rfl, hkF⟩; have hF := hE.trans hkF) | (go_at_call 29; (with_reducible refine (cut29_any (HVl.out.keep hF (by simp)) HOK.out (HVD.out.keep (hkw.trans hF) (by simp))).mono ?_); rintro e wG ⟨gd, Dc, rfl, hkG, hiG, hDc⟩; have hG := hF.trans hkG; have HDI := Lib.hid hiG; have HDC := Lib.hid hDc; clear hiG hDc) | (go_at_call 30; (with_reducible refine (least30_any (HVl.out.keep hG (by simp)) HOK.out HDI.out HDC.out).mono ?_); rintro e wH ⟨ad, cd, Dx, rfl, hkH, hiH, hlH, hwH⟩; have hH := hG.trans hkH; have HD := Lib.hid hiH; have HWD := Lib.hid hwH; clear hiH hlH; have HI2 := Lib.hid (insB_tr (fun r => HLX.out.least Dx hwH r)); have HI4 := Lib.hid (insB_tr (fun r => HLY.out.most Dx hwH r)); obtain ⟨B1, hB1⟩ : ∃ B, insB C Dx = B := ⟨_, rfl⟩; obtain ⟨B2, hB2⟩ : ∃ B, insB X Dx = B := ⟨_, rfl⟩; obtain ⟨B3, hB3⟩ : ∃ B, insB Dx C = B := ⟨_, rfl⟩; obtain ⟨B4, hB4⟩ : ∃ B, insB Dx Y = B := ⟨_, rfl⟩; rw [hB1, hB2] at HI2; rw [hB3, hB4] at HI4; have HB1 := Lib.hid hB1; have HB2 := Lib.hid hB2; have HB3 := Lib.hid hB3; have HB4 := Lib.hid hB4; clear hB1 hB2 hB3 hB4) | (go_at_call 33; (with_reducible refine (inside_at (HCl.out.keep hH (by simp)) HD.out HB1.out).mono ?_); rintro e wI ⟨rfl, hkI⟩; have hI := hH.trans hkI; have HDi := Lib.hid (HD.out.keep hkI (by simp))) | (go_at_call 33; (with_reducible refine (inside_at (HXl.out.keep hI (by simp)) HDi.out HB2.out).mono ?_); rintro e wJ ⟨rfl, hkJ⟩; have hJ := hI.trans hkJ; have HDj := Lib.hid (HDi.out.keep hkJ (by simp))) | (go_at_call 33; (with_reducible refine (inside_at HDj.out (HCl.out.keep hJ (by simp)) HB3.out).mono ?_); rintro e wK ⟨rfl, hkK⟩; have hK := hJ.trans hkK; have HDk := Lib.hid (HDj.out.keep hkK (by simp))) | (go_at_call 33; (with_reducible refine (inside_at HDi.out (HCl.out.keep hI (by simp)) HB3.out).mono ?_); rintro e wK ⟨rfl, hkK⟩; have hK := hI.trans hkK; have HDk := Lib.hid (HDi.out.keep hkK (by simp))) | (go_at_call 33; (with_reducible refine (inside_at HDk.out (HYl.out.keep hK (by simp)) HB4.out).mono ?_); rintro e wL ⟨rfl, hkL⟩; have hL := hK.trans hkL))
        all_goals
          have l2 := HI2.out
          have l4 := HI4.out
          first
          | (exfalso; exact absurd (l2 (by assumption)) (by assumption))
          | (go_ret; refine ⟨?_, hkw.trans hL⟩; have l5 : B4 = true := l4 ‹B3 = true›; rw [l5]; rfl)
          | (go_ret; exact ⟨rfl, hkw.trans hK⟩)
end Go.Proofs.Ytkhchfjhmplaiaa
/- The contract of slices.Sort at this program. -/
namespace Go.Proofs
open Go.Shelf
def Try.lays189_ren : Go.Shelf.Ren := ⟨fun | 189 => 56 | 125 => 80 | 257 => 79 | 128 => 93 | 129 => 94 | 294 => 84 | 295 => 85 | 296 => 86 | 297 => 87 | 298 => 88 | 299 => 89 | 216 => 90 | 300 => 91 | 301 => 92 | 328 => 96 | 329 => 97 | 330 => 98 | 331 => 99 | 332 => 100 | 215 => 101 | 343 => 103 | n => n, fun | 28 => 22 | 3 => 3 | 46 => 108 | 0 => 0 | 51 => 126 | 53 => 81 | 4 => 4 | 183 => 119 | 182 => 118 | 131 => 123 | 5 => 5 | 9 => 9 | 218 => 129 | 222 => 132 | 228 => 134 | 229 => 135 | n => n, fun | n => n⟩
theorem Try.lays189 : Go.Proofs.Lays.n189 Try.prog Try.lays189_ren := {
  mixed := by kernel_rfl
  f125 := Try.func80.trans (congrArg some (by kernel_rfl))
  f128 := Try.func93.trans (congrArg some (by kernel_rfl))
  f129 := Try.func94.trans (congrArg some (by kernel_rfl))
  f189 := Try.func56.trans (congrArg some (by kernel_rfl))
  f215 := Try.func101.trans (congrArg some (by kernel_rfl))
  f216 := Try.func90.trans (congrArg some (by kernel_rfl))
  f257 := Try.func79.trans (congrArg some (by kernel_rfl))
  f294 := Try.func84.trans (congrArg some (by kernel_rfl))
  f295 := Try.func85.trans (congrArg some (by kernel_rfl))
  f296 := Try.func86.trans (congrArg some (by kernel_rfl))
  f297 := Try.func87.trans (congrArg some (by kernel_rfl))
  f298 := Try.func88.trans (congrArg some (by kernel_rfl))
  f299 := Try.func89.trans (congrArg some (by kernel_rfl))
  f300 := Try.func91.trans (congrArg some (by kernel_rfl))
  f301 := Try.func92.trans (congrArg some (by kernel_rfl))
  f328 := Try.func96.trans (congrArg some (by kernel_rfl))
  f329 := Try.func97.trans (congrArg some (by kernel_rfl))
  f330 := Try.func98.trans (congrArg some (by kernel_rfl))
  f331 := Try.func99.trans (congrArg some (by kernel_rfl))
  f332 := Try.func100.trans (congrArg some (by kernel_rfl))
  f343 := Try.func103.trans (congrArg some (by kernel_rfl))
  t0 := Try.underlying0
  a0 := Try.isAgg0
  z0 := Try.sizeOf0
  v0 := Try.zeroValue0
  t3 := Try.underlying3
  a3 := Try.isAgg3
  z3 := Try.sizeOf3
  v3 := Try.zeroValue3
  t4 := Try.underlying4
  a4 := Try.isAgg4
  z4 := Try.sizeOf4
  v4 := Try.zeroValue4
  t5 := Try.underlying5
  a5 := Try.isAgg5
  z5 := Try.sizeOf5
  v5 := Try.zeroValue5
  t9 := Try.underlying9
  a9 := Try.isAgg9
  z9 := Try.sizeOf9
  v9 := Try.zeroValue9
  t28 := Try.underlying22
  a28 := Try.isAgg22
  z28 := Try.sizeOf22
  v28 := Try.zeroValue22
  t46 := Try.underlying108
  a46 := Try.isAgg108
  z46 := Try.sizeOf108
  v46 := Try.zeroValue108
  t51 := Try.underlying126
  a51 := Try.isAgg126
  z51 := Try.sizeOf126
  v51 := Try.zeroValue126
  t53 := Try.underlying81
  a53 := Try.isAgg81
  z53 := Try.sizeOf81
  v53 := Try.zeroValue81
  t131 := Try.underlying123
  a131 := Try.isAgg123
  z131 := Try.sizeOf123
  v131 := Try.zeroValue123
  t182 := Try.underlying118
  a182 := Try.isAgg118
  z182 := Try.sizeOf118
  v182 := Try.zeroValue118
  t183 := Try.underlying119
  a183 := Try.isAgg119
  z183 := Try.sizeOf119
  v183 := Try.zeroValue119
  t218 := Try.underlying129
  a218 := Try.isAgg129
  z218 := Try.sizeOf129
  v218 := Try.zeroValue129
  t222 := Try.underlying132
  a222 := Try.isAgg132
  z222 := Try.sizeOf132
  v222 := Try.zeroValue132
  t228 := Try.underlying134
  a228 := Try.isAgg134
  z228 := Try.sizeOf134
  v228 := Try.zeroValue134
  t229 := Try.underlying135
  a229 := Try.isAgg135
  z229 := Try.sizeOf135
  v229 := Try.zeroValue135 }
open Go.Sort Go.RowKit in
theorem Try.slices_Sort_int (blk off cap : Nat) (zs : List Int) (w : World) (hH : Holds (Value.int .i64) w blk off zs.toArray) (hblk : blk < w.heap.size) (hsz : zs.length < 4611686018427387904) :
    Calls Try.prog 56 #[.slice (some ⟨blk, off, none⟩) zs.length cap] w fun e w' =>
      e = .returned (.tuple #[]) ∧ ∃ n os, w' = grow (putRow (Value.int .i64) (Sort.ahead w n) blk off (zs.mergeSort fun x y => decide (x ≤ y)).toArray) os := Any.slices_Sort_int Try.lays189 blk off cap zs w hH hblk hsz
open Go.RowKit Go.Sort in
theorem Try.slices_Sort_int_none (p : Option Addr) (cap : Nat) (w : World) :
    Calls Try.prog 56 #[.slice p 0 cap] w fun e w' => e = .returned (.tuple #[]) ∧ w' = w := Any.slices_Sort_int_none Try.lays189 p cap w
def Try.delF_ren : Go.Shelf.Ren := ⟨fun | 10 => 54 | 6 => 78 | n => n, fun | 22 => 22 | 23 => 3 | 3 => 3 | 4 => 4 | 25 => 70 | 0 => 0 | n => n, fun | n => n⟩
theorem Try.delF : Go.Proofs.SlLaysH.n10 Try.prog Try.delF_ren := {
  mixed := by kernel_rfl
  f6 := ⟨Try.f78.name, by decide, Try.func78.trans (congrArg some (by kernel_rfl))⟩
  f10 := ⟨Try.f54.name, by decide, Try.func54.trans (congrArg some (by kernel_rfl))⟩
  t0 := Try.underlying0
  a0 := Try.isAgg0
  z0 := Try.sizeOf0
  v0 := Try.zeroValue0
  t3 := Try.underlying3
  a3 := Try.isAgg3
  z3 := Try.sizeOf3
  v3 := Try.zeroValue3
  t4 := Try.underlying4
  a4 := Try.isAgg4
  z4 := Try.sizeOf4
  v4 := Try.zeroValue4
  t22 := Try.underlying22
  a22 := Try.isAgg22
  z22 := Try.sizeOf22
  v22 := Try.zeroValue22
  a23 := Try.isAgg3
  z23 := Try.sizeOf3
  t25 := Try.underlying70
  a25 := Try.isAgg70
  z25 := Try.sizeOf70
  v25 := Try.zeroValue70 }
end Go.Proofs
/- CutWay: what is on the way behind the first n events (plain). -/
namespace Go
open Go.RowKit
/-- The cut of the first n events. -/
def IsPre (h : List Ln) (n : Nat) (c : List Int) : Prop := ∀ p : Nat, p < 8 → c.getD p 0 = rk (plQ h p) n
theorem inC_pre {h : List Ln} {n : Nat} {c : List Int} (hk : HOk h) (hc : IsPre h n c) {j : Nat} (hj : j < h.length) : inC h c j = decide (j < n) := by
  have he := hk.ev j hj
  obtain ⟨p, hp⟩ : ∃ p : Nat, (lat h j).q = p := ⟨(lat h j).q.toNat, by omega⟩
  have hp8 : p < 8 := by omega
  have h1 : plQ h p j = true := by unfold plQ; exact decide_eq_true hp
  rw [Bool.eq_iff_iff, inC_iff hp, hc p hp8]
  unfold posN
  rw [hp]
  constructor
  · intro h2
    refine decide_eq_true ?_
    by_cases hlt : j < n
    · exact hlt
    · have := rk_mono (plQ h p) (show n ≤ j by omega); omega
  · intro h2
    have := rk_lt (of_decide_eq_true h2) h1
    omega
theorem whole_pre' {h : List Ln} {n : Nat} {c : List Int} (hk : HOk h) (hc : IsPre h n c) : wholeB h c = true := by
  refine (wholeB_iff h c).2 fun k hl hg => ?_
  obtain ⟨j, hs, hjk, _, _⟩ := sendOf_some hk hl hg
  unfold badB
  rw [hs, inC_pre hk hc hl]
  show (decide (k < n) && !(inC h c j)) = false
  rw [inC_pre hk hc (by omega)]
  by_cases h1 : k < n
  · simp [h1, show j < n by omega]
  · simp [h1]
def inWay (h : List Ln) (n j : Nat) : Bool := decide ((lat h j).g = 2) && !saidB h 3 n (lat h j).u
/-- The messages on the way behind the first n events. -/
def wayL (h : List Ln) (n : Nat) : List Int := ((List.range n).filter (inWay h n)).map (fun j => (lat h j).u)
theorem wayL_zero (h : List Ln) : wayL h 0 = [] := rfl
theorem inWay_same {h : List Ln} {k : Nat} (hg : (lat h k).g ≠ 3) : inWay h (k + 1) = inWay h k := by
  funext j
  unfold inWay
  rw [saidB_succ, decide_eq_false hg, Bool.false_and, Bool.or_false]
theorem wayL_other {h : List Ln} {k : Nat} (hg : (lat h k).g ≠ 3) (h2 : (lat h k).g ≠ 2) : wayL h (k + 1) = wayL h k := by
  unfold wayL
  have : inWay h k k = false := by unfold inWay; rw [decide_eq_false h2, Bool.false_and]
  rw [inWay_same hg, List.range_succ, List.filter_append, List.filter_cons, List.filter_nil, this]
  simp only [Bool.false_eq_true, if_false, List.append_nil]
theorem wayL_send {h : List Ln} (hk : HOk h) {k : Nat} (hl : k < h.length) (hg : (lat h k).g = 2) : wayL h (k + 1) = wayL h k ++ [(lat h k).u] := by
  have h3 : (lat h k).g ≠ 3 := by omega
  unfold wayL
  have : inWay h k k = true := by
    unfold inWay
    have hs : saidB h 3 k (lat h k).u = false := by
      cases hb : saidB h 3 k (lat h k).u with
      | false => rfl
      | true =>
        obtain ⟨i, hi, hi3, hiu⟩ := (saidB_iff h 3 k _).1 hb
        obtain ⟨j, hj, hj2, hju⟩ := hk.sent i (by omega) hi3
        exact absurd (hju.trans hiu) (hk.sends j k (by omega) hl hj2 hg)
    rw [decide_eq_true hg, hs]; rfl
  rw [inWay_same h3, List.range_succ, List.filter_append, List.filter_cons, List.filter_nil, List.map_append, this]
  rfl
theorem wayL_take {h : List Ln} {k : Nat} (hg : (lat h k).g = 3) : wayL h (k + 1) = (wayL h k).filter (fun x => !(x == (lat h k).u)) := by
  unfold wayL
  have h1 : inWay h (k + 1) k = false := by unfold inWay; rw [decide_eq_false (by omega), Bool.false_and]
  rw [List.range_succ, List.filter_append, List.filter_cons, List.filter_nil, h1, List.filter_map, List.filter_filter]
  simp only [Bool.false_eq_true, if_false, List.append_nil]
  congr 1
  refine List.filter_congr fun j _ => ?_
  unfold inWay
  rw [saidB_succ, decide_eq_true hg, Bool.true_and]
  show _ = (!((lat h j).u == (lat h k).u) && _)
  obtain ⟨a, ha⟩ : ∃ a, (lat h j).u = a := ⟨_, rfl⟩
  obtain ⟨b, hb⟩ : ∃ b, (lat h k).u = b := ⟨_, rfl⟩
  rw [ha, hb]
  cases saidB h 3 k a <;> cases decide ((lat h j).g = 2) <;> by_cases e : a = b
  all_goals first | (subst e; simp) | (have e' : ¬ b = a := fun h => e h.symm; simp [e, e'])
theorem wayL_mem {h : List Ln} {n : Nat} {x : Int} : x ∈ wayL h n ↔ ∃ j, j < n ∧ (lat h j).g = 2 ∧ (lat h j).u = x ∧ saidB h 3 n x = false := by
  unfold wayL
  rw [List.mem_map]
  constructor
  · rintro ⟨j, hj, rfl⟩
    obtain ⟨h1, h2⟩ := List.mem_filter.1 hj
    unfold inWay at h2
    rw [Bool.and_eq_true] at h2
    exact ⟨j, List.mem_range.1 h1, of_decide_eq_true h2.1, rfl, by simpa only [Bool.not_eq_true'] using h2.2⟩
  · rintro ⟨j, h1, h2, rfl, h3⟩
    exact ⟨j, List.mem_filter.2 ⟨List.mem_range.2 h1, by unfold inWay; rw [decide_eq_true h2, h3]; rfl⟩, rfl⟩
theorem wayL_there {h : List Ln} (hk : HOk h) {k : Nat} (hl : k < h.length) (hg : (lat h k).g = 3) : (lat h k).u ∈ wayL h k := by
  obtain ⟨j, hj, hj2, hju⟩ := hk.sent k hl hg
  refine wayL_mem.2 ⟨j, hj, hj2, hju, ?_⟩
  cases hb : saidB h 3 k (lat h k).u with
  | false => rfl
  | true =>
    obtain ⟨i, hi, hi3, hiu⟩ := (saidB_iff h 3 k _).1 hb
    exact absurd hiu (hk.takes i k hi hl hi3 hg)
theorem wayL_nodup {h : List Ln} (hk : HOk h) {n : Nat} (hn : n ≤ h.length) : (wayL h n).Nodup := by
  unfold wayL
  show List.Pairwise (· ≠ ·) _
  rw [List.pairwise_map]
  have h1 : ((List.range n).filter (inWay h n)).Pairwise (· < ·) := List.Pairwise.filter _ List.pairwise_lt_range
  refine List.Pairwise.imp_of_mem ?_ h1
  intro i j hi hj hlt
  obtain ⟨_, hi2⟩ := List.mem_filter.1 hi
  obtain ⟨hj1, hj2⟩ := List.mem_filter.1 hj
  unfold inWay at hi2 hj2
  rw [Bool.and_eq_true] at hi2 hj2
  exact hk.sends i j hlt (by have := List.mem_range.1 hj1; omega) (of_decide_eq_true hi2.1) (of_decide_eq_true hj2.1)
theorem wayL_len (h : List Ln) (n : Nat) : (wayL h n).length ≤ n := by
  unfold wayL
  rw [List.length_map]
  exact Nat.le_trans (List.length_filter_le _ _) (by simp)
theorem wayL_wf {h : List Ln} (hk : HOk h) {n : Nat} (hn : n ≤ h.length) : ∀ x ∈ wayL h n, (Lit.int .i64 x).wf = true := fun x hx => by
  obtain ⟨j, hj, _, rfl, _⟩ := wayL_mem.1 hx
  have := hk.ev j (by omega)
  exact wf_msg (by omega) (by omega)
/-- What cut.Way collects: the sends of the cut whose take is not in the cut. -/
def goes (h : List Ln) (c : List Int) (x : Int) : Prop := ∃ j, j < h.length ∧ (lat h j).g = 2 ∧ (lat h j).u = x ∧ inC h c j = true ∧ ∀ i, i < h.length → (lat h i).g = 3 → (lat h i).u = x → inC h c i = false
theorem goes_pre {h : List Ln} {n : Nat} {c : List Int} (hk : HOk h) (hc : IsPre h n c) (hn : n ≤ h.length) {x : Int} : goes h c x ↔ x ∈ wayL h n := by
  rw [wayL_mem]
  constructor
  · rintro ⟨j, h1, h2, h3, h4, h5⟩
    rw [inC_pre hk hc h1] at h4
    refine ⟨j, of_decide_eq_true h4, h2, h3, ?_⟩
    cases hb : saidB h 3 n x with
    | false => rfl
    | true =>
      obtain ⟨i, hi, hi3, hiu⟩ := (saidB_iff h 3 n x).1 hb
      have h6 := h5 i (by omega) hi3 hiu
      rw [inC_pre hk hc (by omega)] at h6
      exact absurd hi (of_decide_eq_false h6)
  · rintro ⟨j, h1, h2, h3, h4⟩
    refine ⟨j, by omega, h2, h3, by rw [inC_pre hk hc (by omega)]; exact decide_eq_true h1, fun i hi hi3 hiu => ?_⟩
    rw [inC_pre hk hc hi]
    refine decide_eq_false fun hin => ?_
    have : saidB h 3 n x = true := (saidB_iff h 3 n x).2 ⟨i, hin, hi3, hiu⟩
    rw [this] at h4
    cases h4
end Go
/- CutWay: slices.DeleteFunc and slices.Sort of a row of the call's own. -/
namespace Go
open Go.RowKit Go.Sort
theorem neTypeW {w : World} {a b : Nat} {c1 c2 : Array Value} {t1 t2 : TypeId} {f1 f2 : Nat × Nat} (h1 : w.heap[a]? = some (.cells c1 t1 f1)) (h2 : w.heap[b]? = some (.cells c2 t2 f2)) (h : t1 ≠ t2) : a ≠ b := by
  rintro rfl
  rw [h1] at h2
  injection h2 with h2
  injection h2 with _ h2 _
  exact h h2
theorem ownLtW {w : World} {B e m n : Nat} {v : Value} {xs : List Value} (h : w.ownsRow B e m v n xs) : ∀ g, v.ownBlock = some g → B ≤ g ∧ g < w.heap.size ∧ ∃ cs, w.heap[g]? = some (.cells cs e (0, 0)) := by
  intro g hg
  rcases h.2 with ⟨rfl, _⟩ | ⟨g', cap, cur, rfl, hb, hgg, _⟩
  · simp [Value.ownBlock] at hg
  · simp [Value.ownBlock] at hg
    subst hg
    exact ⟨hb, (Array.getElem?_eq_some_iff.1 hgg).1, cur, hgg⟩
theorem ownSliceW {w : World} {B e m n : Nat} {v : Value} {xs : List Value} (ho : w.ownsRow B e m v n xs) : ∃ a c, v = .slice a n c ∧ n ≤ c ∧ c ≤ maxLen ∧ (∀ x, a = some x → v.ownBlock = some x.block ∧ x = ⟨x.block, 0, none⟩) := by
  rcases ho.2 with ⟨rfl, h0⟩ | ⟨g, cap, cur, rfl, hb, hg, hnc, hcm, hcs, ht⟩
  · subst h0
    exact ⟨none, 0, rfl, Nat.le_refl _, Nat.zero_le _, fun x hx => by cases hx⟩
  · exact ⟨_, _, rfl, hnc, hcm, fun x hx => by cases hx; exact ⟨rfl, rfl⟩⟩
theorem cut_own {w : World} {B g n m cap : Nat} {xs ys : List Value} (h : w.ownsRow B 3 1 (.slice (some ⟨g, 0, none⟩) n cap) n (xs ++ ys)) (hm : xs.length = m) : w.ownsRow B 3 1 (.slice (some ⟨g, 0, none⟩) m cap) m xs := by
  have hl := h.1
  rw [List.length_append, Nat.mul_one] at hl
  refine ⟨by omega, .inr ?_⟩
  rcases h.2 with ⟨h3, _⟩ | ⟨g', cap', cur', h3, h4, h5, h6, h7, h8, h9⟩
  · cases h3
  · cases h3
    refine ⟨g, cap, cur', rfl, h4, h5, by omega, h7, h8, ?_⟩
    rw [Nat.mul_one] at h9 ⊢
    have h10 := congrArg (List.take m) h9
    rw [List.take_take, Nat.min_eq_left (by omega), List.take_append_of_le_length (by omega)] at h10
    rw [h10]
    exact List.take_of_length_le (by omega)
def sortI (l : List Int) : List Int := l.mergeSort (fun x y => decide (x ≤ y))
theorem sortI_perm (l : List Int) : (sortI l).Perm l := List.mergeSort_perm l _
theorem sortI_len (l : List Int) : (sortI l).length = l.length := (sortI_perm l).length_eq
theorem sortI_sorted (l : List Int) : (sortI l).Pairwise (· ≤ ·) := by
  have h := List.pairwise_mergeSort (le := fun x y : Int => decide (x ≤ y)) (fun a b c h1 h2 => by simp at *; omega) (fun a b => by simp; omega) l
  exact h.imp (fun h => by simpa using h)
theorem sorted_ext {l1 l2 : List Int} (h1 : l1.Nodup) (h2 : l2.Nodup) (h3 : l1.Pairwise (· ≤ ·)) (h4 : l2.Pairwise (· ≤ ·)) (h : ∀ x, x ∈ l1 ↔ x ∈ l2) : l1 = l2 :=
  List.Perm.eq_of_pairwise (fun _ _ _ _ h5 h6 => Int.le_antisymm h5 h6) h3 h4 ((List.perm_ext_iff_of_nodup h1 h2).2 h)
end Go
namespace Go.Proofs.Ytkhchfjhmplaiaa
open Go.RowKit Go.Sort Go.Shelf Go.Lib
theorem way55 {B : Nat} {W : World} {u x : Int} (hc : W.cell? ⟨B, 2, none⟩ = some (.int .i64 u)) :
    FnGives Try.prog 55 #[.pointer (some ⟨B, 0, none⟩)] #[.int .i64 x] (.bool (x == u)) W := by
  show Calls Try.prog 55 #[.int .i64 x, .pointer (some ⟨B, 0, none⟩)] W _
  go_enter Try.func55, Try.ntmps55
  go_wp2_with (first | (with_reducible refine Txt.wp_region_text mixed quiet (by decide +kernel) ?_) | (with_reducible refine Txt.text_done (by kernel_rfl) ?_))
  go_ret
  exact ⟨rfl, 0, rfl⟩
theorem delete54_own {w : World} {B K n : Nat} {v : Value} {zs : List Int} {x0 x1 : Value} {u : Int} (hb : w.heap[K]? = some (.cells #[x0, x1, .int .i64 u] 27 (0, 0))) (ho : w.ownsRow B 3 1 v n (zs.map (Value.int .i64))) (h0 : 0 < n) (hn : n ≤ 1000000) :
    Calls Try.prog 54 #[v, .func (.func 55) #[] #[.pointer (some ⟨K, 0, none⟩)]] w fun e w' => ∃ v', e = .returned v' ∧ w'.ownsRow B 3 1 v' (zs.filter (fun x => !(x == u))).length ((zs.filter (fun x => !(x == u))).map (Value.int .i64)) ∧ Keep v.ownBlock.toList w w' := by
  have hl : zs.length = n := by simpa using ho.1
  have hcell : w.cell? ⟨K, 2, none⟩ = some (.int .i64 u) := cellAt hb 2
  have hB : K < w.heap.size := lt_of_blk hb
  rcases ho.2 with ⟨rfl, h1⟩ | ⟨g, cap, cur, rfl, hbg, hg, hnc, hcm, hcs, ht⟩
  · omega
  · subst hl
    have hne : K ≠ g := neTypeW hb hg (by decide)
    have hpa : PredAt Try.prog 55 #[.pointer (some ⟨K, 0, none⟩)] (Value.int .i64) (fun x => x == u) w := fun W x hbl => way55 ((hbl.cell (p := ⟨K, 2, none⟩) hB).trans hcell)
    have hpo : PredOver Try.prog 55 #[.pointer (some ⟨K, 0, none⟩)] (Value.int .i64) (fun x => x == u) g 0 zs.toArray.size w := fun n os dk x _ => way55 (by
      unfold sortWorld
      rw [cell?_grow _ _ _ (by show K < (putRow _ _ _ _ _).heap.size; rw [size_putRow]; exact hB), cell?_putRow_other _ _ g 0 _ _ (Or.inl hne)]
      exact hcell)
    have eg : ∀ args w, (callFunc 55 args).run Try.prog w = .ok (.enter 55 args) w := enters_of Try.func55 (by kernel_rfl) rfl
    have hcon := AnyE.slices_DeleteFunc Try.delF (Value.int .i64) (fun _ => rfl) (fun x => x == u) 55 #[.pointer (some ⟨K, 0, none⟩)] eg 0 Try.zeroValue3 g 0 cap zs.toArray w hpa hpo (holds_of_blockI hg (by simpa using ht)) (by simp; omega) (by simpa using hnc)
    have hcon2 : Calls Try.prog 54 #[.slice (some ⟨g, 0, none⟩) zs.length cap, .func (.func 55) #[] #[.pointer (some ⟨K, 0, none⟩)]] w _ := hcon
    refine hcon2.mono ?_
    rintro e w' ⟨rfl, q, rfl⟩
    have hfl : (zs.filter (fun x => !(x == u))).length ≤ zs.length := List.length_filter_le _ _
    have hlen : (zs.filter (fun x => !(x == u)) ++ List.replicate (zs.toArray.size - (zs.filter (fun x => !(x == u))).length) 0).length = zs.length := by rw [List.length_append, List.length_replicate, List.size_toArray]; omega
    have he : ∀ w2 : World, grow w2 #[] = w2 := fun w2 => by unfold grow; rw [Array.append_empty]
    have h1 := ownsRow_sortedI (n := q) (os := #[]) hlen hbg hg hnc hcm hcs
    have h2 := grownBy_sortedI (w := w) (g := g) (n := q) (os := #[]) (zs.filter (fun x => !(x == u)) ++ List.replicate (zs.toArray.size - (zs.filter (fun x => !(x == u))).length) 0).toArray
    rw [he] at h1 h2
    rw [List.map_append] at h1
    exact ⟨_, rfl, cut_own h1 (by simp), Keep.ofGrown h2 (by simp [Value.ownBlock])⟩
theorem sort56_own {w : World} {B n : Nat} {v : Value} {xs : List Int} (ho : w.ownsRow B 3 1 v n (xs.map (Value.int .i64))) (hn : n ≤ 1000000) :
    Calls Try.prog 56 #[v] w fun e w' => e = .returned (.tuple #[]) ∧ w'.ownsRow B 3 1 v n ((sortI xs).map (Value.int .i64)) ∧ Keep v.ownBlock.toList w w' := by
  have hl : xs.length = n := by simpa using ho.1
  rcases ho.2 with ⟨rfl, h0⟩ | ⟨g, cap, cur, rfl, hb, hg, hnc, hcm, hcs, ht⟩
  · subst h0
    have hx : xs = [] := List.eq_nil_of_length_eq_zero hl
    subst hx
    refine (Go.Proofs.Try.slices_Sort_int_none none 0 w).mono ?_
    rintro e w' ⟨rfl, rfl⟩
    exact ⟨rfl, by rw [show sortI [] = [] from List.eq_nil_of_length_eq_zero (sortI_len [])]; exact ho, Keep.refl _ _⟩
  · subst hl
    refine (Go.Proofs.Try.slices_Sort_int g 0 cap xs w (holds_of_blockI hg (by simpa using ht)) (Array.getElem?_eq_some_iff.1 hg).1 (by omega)).mono ?_
    rintro e w' ⟨rfl, n, os, rfl⟩
    exact ⟨rfl, ownsRow_sortedI (sortI_len xs) hb hg hnc hcm hcs, Keep.ofGrown (grownBy_sortedI _) (by simp [Value.ownBlock])⟩
end Go.Proofs.Ytkhchfjhmplaiaa
