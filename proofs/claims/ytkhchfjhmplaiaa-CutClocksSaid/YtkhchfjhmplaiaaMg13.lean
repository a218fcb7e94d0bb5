/- Texts laid together: H29. -/
import Derived.Test.YtkhchfjhmplaiaaMg12
namespace Go.Proofs.Ytkhchfjhmplaiaa
open Go.RowKit
theorem whole32_at {a ac : Option Addr} {n c cc : Nat} {h : List Ln} {C : List Int} {W : Bool} {w : World} (hv : LnsV w a n c h) (hk : HOk h) (hi : IntsV w ac 8 cc C) (hC : CutOk h C) (hW : wholeB h C = W) :
    Calls Try.prog 32 #[.slice a n c, .slice ac 8 cc] w fun e w' => e = .returned (.tuple #[.bool W, .int .i64 0]) ∧ Keep [] w w' := by
  have := whole32_any hv hk hi hC.bd
  rw [hW] at this
  exact this
theorem least30_at {a ac : Option Addr} {n c cc : Nat} {h : List Ln} {C X : List Int} {w : World} (hv : LnsV w a n c h) (hk : HOk h) (hi : IntsV w ac 8 cc C) (hC : CutOk h C) (hX : LeastI h C X) (hw : wholeB h X = true) :
    Calls Try.prog 30 #[.slice a n c, .slice ac 8 cc] w fun e w' => ∃ a' c', e = .returned (.tuple #[.slice a' 8 c', .int .i64 0]) ∧ Keep [] w w' ∧ IntsV w' a' 8 c' X := by
  refine (least30_any hv hk hi hC).mono ?_
  rintro e w' ⟨a', c', x, rfl, hk1, hx, hl, hw1⟩
  rw [least_one hl hw1 hX hw] at hx
  exact ⟨a', c', rfl, hk1, hx⟩
theorem alone_ints {w : World} {A q k : Nat} {h : List Ln} (hb : w.heap[A]? = some (.cells ((aloneTo h q k).map (Value.int .i64)).toArray 3 (0, 0))) (hq : q < 8) (hk : k ≤ h.length) (hl : h.length ≤ 200) : IntsV w (some ⟨A, 0, none⟩) 8 8 (aloneTo h q k) := by
  have hc := alone_cut h hq hk
  refine ⟨hc.len, Nat.le_refl _, by unfold maxLen; omega, (cut_wf hc hl).2, fun _ => ⟨A, 0, rfl, fun i hi => ?_⟩⟩
  rw [Nat.zero_add, cellAt hb]
  simp [List.getD_eq_getElem?_getD, hc.len ▸ hi]
set_option maxRecDepth 100000 in
set_option maxHeartbeats 4000000 in
theorem cutClocks_walk (a : Option Addr) (len cap : Nat) (zs : List Int) (x : Int) (w : World) (hv : IntsV w a len cap zs) :
    Calls Try.prog 16 #[.slice a len cap, .int .i64 x] w fun e w' => e = .returned (.bool true) ∧ Keep [] w w' := by
  obtain ⟨N, hN⟩ : ∃ N, (hist zs).length = N := ⟨_, rfl⟩
  have hok : HOk (hist zs) := (hist_inv zs).ok
  have hN60 := hist_len zs
  rw [hN] at hN60
  have hNle : N ≤ 60 := by omega
  have HV := Lib.hid hv
  have HOK := Lib.hid hok
  clear hv hN60
  by_cases h0 : N = 0
  · have HN := Lib.hid (hN.trans h0)
    clear hN h0 hNle hok
    go_enter Try.func16, Try.ntmps16
    go_wp2_with (first | (go_at_call 28; refine (cbegun28_any _).mono ?_; rintro e w0 ⟨rfl, hk0⟩) | (go_at_call 22; refine (begun_any _).mono ?_; rintro e w1 ⟨rfl, hk1⟩) | (go_at_call 20; refine (history_at (HV.out.keep (hk0.trans hk1) (by simp)) HN).mono ?_; rintro e w2 ⟨a2, c2, rfl, hk2, hv2⟩; clear hv2))
    go_ret
    exact ⟨rfl, (hk0.trans hk1).trans hk2⟩
  · obtain ⟨i, hi, hi1⟩ := at_nat x (show 0 < N by omega)
    have hil : i < (hist zs).length := by omega
    obtain ⟨q, hq, hq8, _⟩ := spot_nat hok hil
    have HLS := Lib.hid (clk_least hok hil hq hq8)
    have HWH := Lib.hid (clk_whole hok hil)
    have HCC := Lib.hid (clk_cut hok hil)
    have HI := Lib.hid hi
    have HN := Lib.hid hN
    have HQ := Lib.hid hq
    have HMK := mk22
    clear hi hN hok hil hq
    go_enter Try.func16, Try.ntmps16
    go_wp2_with (first | (go_at_call 28; refine (cbegun28_any _).mono ?_; rintro e w0 ⟨rfl, hk0⟩) | (go_at_call 22; refine (begun_any _).mono ?_; rintro e w1 ⟨rfl, hk1⟩) | (go_at_call 20; refine (history_at (HV.out.keep (hk0.trans hk1) (by simp)) HN).mono ?_; rintro e w2 ⟨a2, c2, rfl, hk2, hv2⟩; have hr2 := hv2.room; have hm2 := hv2.most; unfold maxLen at hm2; have HV2 := Lib.hid hv2; clear hv2) | (go_at_call 21; (with_reducible refine (rest_at HI (by omega) (by omega)).mono ?_); rintro e w' ⟨rfl, rfl⟩) | (go_at_call 25; (with_reducible refine (clocks_at HV2.out HOK.out (by omega)).mono ?_); rintro e w4 ⟨g4, cg4, rfl, hk4, _, _, hnc4, hcm4, hcs4⟩; have HQ4 := Lib.hid hcs4; have HV4 := Lib.hid (HV2.out.keep hk4 (by simp)); unfold maxLen at hcm4; clear hcs4))
    have hA := blk_new w4 (.cells #[.int .i64 0, .int .i64 0, .int .i64 0, .int .i64 0, .int .i64 0, .int .i64 0, .int .i64 0, .int .i64 0] 3)
    obtain ⟨A, hA1⟩ : ∃ A, w4.heap.size = A := ⟨_, rfl⟩
    rw [hA1] at hA ⊢
    have hkA : Keep [] w4 (w4.alloc (.cells #[.int .i64 0, .int .i64 0, .int .i64 0, .int .i64 0, .int .i64 0, .int .i64 0, .int .i64 0, .int .i64 0] 3)) := (Keep.refl _ _).alloc _
    have HA0 : Hid ((w4.alloc (.cells #[.int .i64 0, .int .i64 0, .int .i64 0, .int .i64 0, .int .i64 0, .int .i64 0, .int .i64 0, .int .i64 0] 3)).heap[A]? = some (.cells ((aloneTo (hist zs) q 0).map (Value.int .i64)).toArray 3 (0, 0))) := Lib.hid (by
      rw [hA]
      have h9 : aloneTo (hist zs) q 0 = zeros8 := by
        unfold aloneTo
        rcases (by omega : q = 0 ∨ q = 1 ∨ q = 2 ∨ q = 3 ∨ q = 4 ∨ q = 5 ∨ q = 6 ∨ q = 7) with h | h | h | h | h | h | h | h <;> (subst h; rfl)
      rw [h9]; rfl)
    have HA1 := Lib.hid hA1
    clear hA hA1 HMK
    go_loopw [10, 50] (fun _ j wr => ∃ k : Nat, k ≤ i + 1 ∧ j = .int .i64 k ∧ Keep [] w4 wr ∧ Hid (wr.heap[A]? = some (.cells ((aloneTo (hist zs) q k).map (Value.int .i64)).toArray 3 (0, 0)))) (fun _ j _ => i + 1 - (intOf j).toNat)
    case atStart => exact ⟨0, by omega, rfl, hkA, HA0⟩
    case round =>
      obtain ⟨k, hk, rfl, hkr, HB⟩ := hrel
      by_cases hlt : k < i + 1
      · have hkN : k < N := by omega
        obtain ⟨b2, o2, rfl, c0, c1, c2'⟩ := (HV4.out.keep hkr (by simp)).at_ hkN
        obtain ⟨_, _, he, d0, _⟩ := (HV4.out.keep hkr (by simp)).at_ hi1
        cases he
        rw [HQ.out] at d0
        have hrs := rk_succ (plQ (hist zs) q) k
        have hpq : plQ (hist zs) q k = decide ((lat (hist zs) k).q = q) := rfl
        have hrk := rk_le' (plQ (hist zs) q) k
        obtain ⟨⟨p, gg, u⟩, hL⟩ : ∃ L, lat (hist zs) k = L := ⟨_, rfl⟩
        rw [hL] at c0 c1 c2' hpq
        dsimp only at c0 c1 c2' hpq
        rw [hpq] at hrs
        clear hL hpq
        have hkE : Keep [] wr (wr.alloc (.cells #[.int .i64 p, .int .i64 gg, .int .i64 u] 27)) := (Keep.refl _ _).alloc _
        have d0' := hkE.cell d0 (by simp)
        have hbl := lt_of_blk HB.out
        have HB2 := Lib.hid (hkE.at HB.out (by simp))
        have ha := alone_at (hist zs) hq8 k q
        rw [if_pos rfl] at ha
        have hca := cellAt HB2.out q
        have hza := thaw HB2.out
        have hlen8 : (aloneTo (hist zs) q k).length = 8 := by simp [aloneTo, zeros8]
        have hca2 : (wr.alloc (.cells #[.int .i64 p, .int .i64 gg, .int .i64 u] 27)).cell? ⟨A, q, none⟩ = some (.int .i64 (rk (plQ (hist zs) q) k)) := by
          rw [hca, ← ha]
          simp [List.getD_eq_getElem?_getD, hlen8, hq8]
        obtain ⟨m, hm⟩ : ∃ m, rk (plQ (hist zs) q) k = m := ⟨_, rfl⟩
        rw [hm] at hca2 hrs hrk
        have HM := Lib.hid hm
        clear hca ha hlen8 hm
        by_cases hpq : p = (q : Int)
        · have hpb : (p == (q : Int)) = true := by rw [hpq]; exact beq_self_eq_true _
          have HS : Hid (aloneTo (hist zs) q (k + 1) = (aloneTo (hist zs) q k).set q (m + 1)) := Lib.hid (by
            unfold aloneTo
            rw [hrs, decide_eq_true hpq, if_pos rfl, List.set_set]; rfl)
          clear hrs
          subst hpq
          go_wp2_with (first | (with_reducible refine Txt.wp_region_text mixed quiet (by decide +kernel) ?_) | (with_reducible refine Txt.text_done (by kernel_rfl) ?_))
          refine ⟨⟨k + 1, by omega, by go_num, ((hkr.setCell (.inr (by show w4.heap.size ≤ A; rw [HA1.out]; exact Nat.le_refl _)) _).alloc _).drew, Lib.hid ?_⟩, by simp [intOf]; omega⟩
          have h1 : (wr.setCell ⟨A, q, none⟩ (.int .i64 ((m : Int) + 1))).heap[A]? = some (.cells (((aloneTo (hist zs) q k).set q (m + 1)).map (Value.int .i64)).toArray 3 (0, 0)) := by
            rw [blk_setCell, if_pos rfl, HB.out]
            simp only [Option.map_some, Obj.put_cells, List.setIfInBounds_toArray, List.map_set]
          rw [HS.out]
          exact (((Keep.refl [] _).alloc _).drew).at h1 (by simp)
        · have hpb : (p == (q : Int)) = false := beq_eq_false_iff_ne.2 hpq
          have HS : Hid (aloneTo (hist zs) q (k + 1) = aloneTo (hist zs) q k) := Lib.hid (by
            unfold aloneTo
            rw [hrs, decide_eq_false hpq, HM.out]; simp)
          clear hrs
          go_wp2_with (first | (with_reducible refine Txt.wp_region_text mixed quiet (by decide +kernel) ?_) | (with_reducible refine Txt.text_done (by kernel_rfl) ?_))
          refine ⟨⟨k + 1, by omega, by go_num, (hkr.alloc _).drew, Lib.hid ?_⟩, by simp [intOf]; omega⟩
          rw [HS.out]
          exact (((Keep.refl [] _).alloc _).drew).at HB.out (by simp)
      · have hki : k = i + 1 := by omega
        have hb := HB.out
        rw [hki] at hb
        have HBF := Lib.hid hb
        obtain ⟨gi, ci, hci, hii⟩ := HQ4.out i hi1
        have hci1 := hkr.cell hci (by simp)
        have HII := Lib.hid (hii.keep hkr (by simp))
        have HVr := Lib.hid (HV4.out.keep hkr (by simp))
        have HAI := Lib.hid (alone_ints hb hq8 (show i + 1 ≤ (hist zs).length by rw [HN.out]; omega) (by rw [HN.out]; omega))
        have HAC := Lib.hid (alone_cut (hist zs) hq8 (show i + 1 ≤ (hist zs).length by rw [HN.out]; omega))
        have f1 : (i : Int) < (N : Int) := by omega
        clear hb hci hii hki
        go_wp2_with (first | (go_at_call 32; refine (whole32_at HVr.out HOK.out HII.out HCC.out HWH.out).mono ?_; rintro e w5 ⟨rfl, hk5⟩; have HV5 := Lib.hid (HVr.out.keep hk5 (by simp)); have HA5 := Lib.hid (HAI.out.keep hk5 (by simp)); have hci2 := hk5.cell hci1 (by simp)) | (go_at_call 30; refine (least30_at HV5.out HOK.out HA5.out HAC.out HLS.out HWH.out).mono ?_; rintro e w6 ⟨a6, c6, rfl, hk6, hx6⟩; have HX6 := Lib.hid hx6; have hci3 := hk6.cell hci2 (by simp); have HI6 := Lib.hid ((HII.out.keep hk5 (by simp)).keep hk6 (by simp)); clear hx6) | (go_at_call 34; refine (equal_same HX6.out HI6.out rfl).mono ?_; rintro e w7 ⟨rfl, hk7⟩))
        go_ret
        exact ⟨rfl, (((((hk0.trans hk1).trans hk2).trans hk4).trans hkr).trans hk5).trans (hk6.trans hk7)⟩
end Go.Proofs.Ytkhchfjhmplaiaa
