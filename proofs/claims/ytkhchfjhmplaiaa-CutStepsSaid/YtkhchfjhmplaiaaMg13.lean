/- Texts laid together: H29 H30 HP15 H32 H33. -/
import Derived.Test.YtkhchfjhmplaiaaMg12
namespace Go.Proofs.Ytkhchfjhmplaiaa
open Go.RowKit
theorem whole32_at {a ac : Option Addr} {n c cc : Nat} {h : List Ln} {C : List Int} {W : Bool} {w : World} (hv : LnsV w a n c h) (hk : HOk h) (hi : IntsV w ac 8 cc C) (hC : CutOk h C) (hW : wholeB h C = W) :
    Calls Try.prog 32 #[.slice a n c, .slice ac 8 cc] w fun e w' => e = .returned (.tuple #[.bool W, .int .i64 0]) ∧ Keep [] w w' := by
  have := whole32_any hv hk hi hC.bd
  rw [hW] at this
  exact this
theorem least30_at {a ac : Option Addr} {n c cc : Nat} {h : List Ln} {C X : List Int} {w : World} (hv : LnsV w a n c h) (hk : HOk h) (hi : IntsV w ac 8 cc C) (hC : CutOk h C) (hX : LeastI h C X) (hw : wholeB h X = true) :
    Calls Try.prog 30 #[.slice a n c, .slice ac 8 cc] w fun e w' => ∃ a' c', e = .returned (.tuple #[.slice a' 8 c', .int .i64 0]) ∧ Keep [] w w' ∧ IntsV w' a' 8 c' X := by
  refine (least30_any hv hk hi hC).mono ?_
  rintro e w' ⟨a', c', x, rfl, hk1, hx, hl, hw1⟩
  rw [least_one hl hw1 hX hw] at hx
  exact ⟨a', c', rfl, hk1, hx⟩
theorem alone_ints {w : World} {A q k : Nat} {h : List Ln} (hb : w.heap[A]? = some (.cells ((aloneTo h q k).map (Value.int .i64)).toArray 3 (0, 0))) (hq : q < 8) (hk : k ≤ h.length) (hl : h.length ≤ 200) : IntsV w (some ⟨A, 0, none⟩) 8 8 (aloneTo h q k) := by
  have hc := alone_cut h hq hk
  refine ⟨hc.len, Nat.le_refl _, by unfold maxLen; omega, (cut_wf hc hl).2, fun _ => ⟨A, 0, rfl, fun i hi => ?_⟩⟩
  rw [Nat.zero_add, cellAt hb]
  simp [List.getD_eq_getElem?_getD, hc.len ▸ hi]
set_option maxRecDepth 100000 in
set_option maxHeartbeats 4000000 in
theorem cutClocks_walk (a : Option Addr) (len cap : Nat) (zs : List Int) (x : Int) (w : World) (hv : IntsV w a len cap zs) :
    Calls Try.prog 16 #[.slice a len cap, .int .i64 x] w fun e w' => e = .returned (.bool true) ∧ Keep [] w w' := by
  obtain ⟨N, hN⟩ : ∃ N, (hist zs).length = N := ⟨_, rfl⟩
  have hok : HOk (hist zs) := (hist_inv zs).ok
  have hN60 := hist_len zs
  rw [hN] at hN60
  have hNle : N ≤ 60 := by omega
  have HV := Lib.hid hv
  have HOK := Lib.hid hok
  clear hv hN60
  by_cases h0 : N = 0
  · have HN := Lib.hid (hN.trans h0)
    clear hN h0 hNle hok
    go_enter Try.func16, Try.ntmps16
    go_wp2_with (first | (go_at_call 28; refine (cbegun28_any _).mono ?_; rintro e w0 ⟨rfl, hk0⟩) | (go_at_call 22; refine (begun_any _).mono ?_; rintro e w1 ⟨rfl, hk1⟩) | (go_at_call 20; refine (history_at (HV.out.keep (hk0.trans hk1) (by simp)) HN).mono ?_; rintro e w2 ⟨a2, c2, rfl, hk2, hv2⟩; clear hv2))
    go_ret
    exact ⟨rfl, (hk0.trans hk1).trans hk2⟩
  · obtain ⟨i, hi, hi1⟩ := at_nat x (show 0 < N by omega)
    have hil : i < (hist zs).length := by omega
    obtain ⟨q, hq, hq8, _⟩ := spot_nat hok hil
    have HLS := Lib.hid (clk_least hok hil hq hq8)
    have HWH := Lib.hid (clk_whole hok hil)
    have HCC := Lib.hid (clk_cut hok hil)
    have HI := Lib.hid hi
    have HN := Lib.hid hN
    have HQ := Lib.hid hq
    have HMK := mk22
    clear hi hN hok hil hq
    go_enter Try.func16, Try.ntmps16
    go_wp2_with (first | (go_at_call 28; refine (cbegun28_any _).mono ?_; rintro e w0 ⟨rfl, hk0⟩) | (go_at_call 22; refine (begun_any _).mono ?_; rintro e w1 ⟨rfl, hk1⟩) | (go_at_call 20; refine (history_at (HV.out.keep (hk0.trans hk1) (by simp)) HN).mono ?_; rintro e w2 ⟨a2, c2, rfl, hk2, hv2⟩; have hr2 := hv2.room; have hm2 := hv2.most; unfold maxLen at hm2; have HV2 := Lib.hid hv2; clear hv2) | (go_at_call 21; (with_reducible refine (rest_at HI (by omega) (by omega)).mono ?_); rintro e w' ⟨rfl, rfl⟩) | (go_at_call 25; (with_reducible refine (clocks_at HV2.out HOK.out (by omega)).mono ?_); rintro e w4 ⟨g4, cg4, rfl, hk4, _, _, hnc4, hcm4, hcs4⟩; have HQ4 := Lib.hid hcs4; have HV4 := Lib.hid (HV2.out.keep hk4 (by simp)); unfold maxLen at hcm4; clear hcs4))
    have hA := blk_new w4 (.cells #[.int .i64 0, .int .i64 0, .int .i64 0, .int .i64 0, .int .i64 0, .int .i64 0, .int .i64 0, .int .i64 0] 3)
    obtain ⟨A, hA1⟩ : ∃ A, w4.heap.size = A := ⟨_, rfl⟩
    rw [hA1] at hA ⊢
    have hkA : Keep [] w4 (w4.alloc (.cells #[.int .i64 0, .int .i64 0, .int .i64 0, .int .i64 0, .int .i64 0, .int .i64 0, .int .i64 0, .int .i64 0] 3)) := (Keep.refl _ _).alloc _
    have HA0 : Hid ((w4.alloc (.cells #[.int .i64 0, .int .i64 0, .int .i64 0, .int .i64 0, .int .i64 0, .int .i64 0, .int .i64 0, .int .i64 0] 3)).heap[A]? = some (.cells ((aloneTo (hist zs) q 0).map (Value.int .i64)).toArray 3 (0, 0))) := Lib.hid (by
      rw [hA]
      have h9 : aloneTo (hist zs) q 0 = zeros8 := by
        unfold aloneTo
        rcases (by omega : q = 0 ∨ q = 1 ∨ q = 2 ∨ q = 3 ∨ q = 4 ∨ q = 5 ∨ q = 6 ∨ q = 7) with h | h | h | h | h | h | h | h <;> (subst h; rfl)
      rw [h9]; rfl)
    have HA1 := Lib.hid hA1
    clear hA hA1 HMK
    go_loopw [10, 50] (fun _ j wr => ∃ k : Nat, k ≤ i + 1 ∧ j = .int .i64 k ∧ Keep [] w4 wr ∧ Hid (wr.heap[A]? = some (.cells ((aloneTo (hist zs) q k).map (Value.int .i64)).toArray 3 (0, 0)))) (fun _ j _ => i + 1 - (intOf j).toNat)
    case atStart => exact ⟨0, by omega, rfl, hkA, HA0⟩
    case round =>
      obtain ⟨k, hk, rfl, hkr, HB⟩ := hrel
      by_cases hlt : k < i + 1
      · have hkN : k < N := by omega
        obtain ⟨b2, o2, rfl, c0, c1, c2'⟩ := (HV4.out.keep hkr (by simp)).at_ hkN
        obtain ⟨_, _, he, d0, _⟩ := (HV4.out.keep hkr (by simp)).at_ hi1
        cases he
        rw [HQ.out] at d0
        have hrs := rk_succ (plQ (hist zs) q) k
        have hpq : plQ (hist zs) q k = decide ((lat (hist zs) k).q = q) := rfl
        have hrk := rk_le' (plQ (hist zs) q) k
        obtain ⟨⟨p, gg, u⟩, hL⟩ : ∃ L, lat (hist zs) k = L := ⟨_, rfl⟩
        rw [hL] at c0 c1 c2' hpq
        dsimp only at c0 c1 c2' hpq
        rw [hpq] at hrs
        clear hL hpq
        have hkE : Keep [] wr (wr.alloc (.cells #[.int .i64 p, .int .i64 gg, .int .i64 u] 27)) := (Keep.refl _ _).alloc _
        have d0' := hkE.cell d0 (by simp)
        have hbl := lt_of_blk HB.out
        have HB2 := Lib.hid (hkE.at HB.out (by simp))
        have ha := alone_at (hist zs) hq8 k q
        rw [if_pos rfl] at ha
        have hca := cellAt HB2.out q
        have hza := thaw HB2.out
        have hlen8 : (aloneTo (hist zs) q k).length = 8 := by simp [aloneTo, zeros8]
        have hca2 : (wr.alloc (.cells #[.int .i64 p, .int .i64 gg, .int .i64 u] 27)).cell? ⟨A, q, none⟩ = some (.int .i64 (rk (plQ (hist zs) q) k)) := by
          rw [hca, ← ha]
          simp [List.getD_eq_getElem?_getD, hlen8, hq8]
        obtain ⟨m, hm⟩ : ∃ m, rk (plQ (hist zs) q) k = m := ⟨_, rfl⟩
        rw [hm] at hca2 hrs hrk
        have HM := Lib.hid hm
        clear hca ha hlen8 hm
        by_cases hpq : p = (q : Int)
        · have hpb : (p == (q : Int)) = true := by rw [hpq]; exact beq_self_eq_true _
          have HS : Hid (aloneTo (hist zs) q (k + 1) = (aloneTo (hist zs) q k).set q (m + 1)) := Lib.hid (by
            unfold aloneTo
            rw [hrs, decide_eq_true hpq, if_pos rfl, List.set_set]; rfl)
          clear hrs
          subst hpq
          go_wp2_with (first | (with_reducible refine Txt.wp_region_text mixed quiet (by decide +kernel) ?_) | (with_reducible refine Txt.text_done (by kernel_rfl) ?_))
          refine ⟨⟨k + 1, by omega, by go_num, ((hkr.setCell (.inr (by show w4.heap.size ≤ A; rw [HA1.out]; exact Nat.le_refl _)) _).alloc _).drew, Lib.hid ?_⟩, by simp [intOf]; omega⟩
          have h1 : (wr.setCell ⟨A, q, none⟩ (.int .i64 ((m : Int) + 1))).heap[A]? = some (.cells (((aloneTo (hist zs) q k).set q (m + 1)).map (Value.int .i64)).toArray 3 (0, 0)) := by
            rw [blk_setCell, if_pos rfl, HB.out]
            simp only [Option.map_some, Obj.put_cells, List.setIfInBounds_toArray, List.map_set]
          rw [HS.out]
          exact (((Keep.refl [] _).alloc _).drew).at h1 (by simp)
        · have hpb : (p == (q : Int)) = false := beq_eq_false_iff_ne.2 hpq
          have HS : Hid (aloneTo (hist zs) q (k + 1) = aloneTo (hist zs) q k) := Lib.hid (by
            unfold aloneTo
            rw [hrs, decide_eq_false hpq, HM.out]; simp)
          clear hrs
          go_wp2_with (first | (with_reducible refine Txt.wp_region_text mixed quiet (by decide +kernel) ?_) | (with_reducible refine Txt.text_done (by kernel_rfl) ?_))
          refine ⟨⟨k + 1, by omega, by go_num, (hkr.alloc _).drew, Lib.hid ?_⟩, by simp [intOf]; omega⟩
          rw [HS.out]
          exact (((Keep.refl [] _).alloc _).drew).at HB.out (by simp)
      · have hki : k = i + 1 := by omega
        have hb := HB.out
        rw [hki] at hb
        have HBF := Lib.hid hb
        obtain ⟨gi, ci, hci, hii⟩ := HQ4.out i hi1
        have hci1 := hkr.cell hci (by simp)
        have HII := Lib.hid (hii.keep hkr (by simp))
        have HVr := Lib.hid (HV4.out.keep hkr (by simp))
        have HAI := Lib.hid (alone_ints hb hq8 (show i + 1 ≤ (hist zs).length by rw [HN.out]; omega) (by rw [HN.out]; omega))
        have HAC := Lib.hid (alone_cut (hist zs) hq8 (show i + 1 ≤ (hist zs).length by rw [HN.out]; omega))
        have f1 : (i : Int) < (N : Int) := by omega
        clear hb hci hii hki
        go_wp2_with (first | (go_at_call 32; refine (whole32_at HVr.out HOK.out HII.out HCC.out HWH.out).mono ?_; rintro e w5 ⟨rfl, hk5⟩; have HV5 := Lib.hid (HVr.out.keep hk5 (by simp)); have HA5 := Lib.hid (HAI.out.keep hk5 (by simp)); have hci2 := hk5.cell hci1 (by simp)) | (go_at_call 30; refine (least30_at HV5.out HOK.out HA5.out HAC.out HLS.out HWH.out).mono ?_; rintro e w6 ⟨a6, c6, rfl, hk6, hx6⟩; have HX6 := Lib.hid hx6; have hci3 := hk6.cell hci2 (by simp); have HI6 := Lib.hid ((HII.out.keep hk5 (by simp)).keep hk6 (by simp)); clear hx6) | (go_at_call 34; refine (equal_same HX6.out HI6.out rfl).mono ?_; rintro e w7 ⟨rfl, hk7⟩))
        go_ret
        exact ⟨rfl, (((((hk0.trans hk1).trans hk2).trans hk4).trans hkr).trans hk5).trans (hk6.trans hk7)⟩
end Go.Proofs.Ytkhchfjhmplaiaa
namespace Go
open Go.RowKit
def insB (a b : List Int) : Bool := (List.range 8).all fun p => decide (a.getD p 0 ≤ b.getD p 0)
theorem insB_iff {a b : List Int} : insB a b = true ↔ InC a b := by
  unfold insB InC
  simp only [List.all_eq_true, List.mem_range, decide_eq_true_eq]
def cntL (h : List Ln) (k : Nat) : List Int := (List.range 8).map fun (p : Nat) => (rk (plQ h p) k : Int)
theorem cntL_at (h : List Ln) (k : Nat) {p : Nat} (hp : p < 8) : (cntL h k).getD p 0 = rk (plQ h p) k := by
  simp [cntL, List.getD_eq_getElem?_getD, hp]
theorem cntL_len (h : List Ln) (k : Nat) : (cntL h k).length = 8 := by simp [cntL]
theorem cntL_succ {h : List Ln} {k q : Nat} (hq : (lat h k).q = q) (hq8 : q < 8) : cntL h (k + 1) = (cntL h k).set q ((rk (plQ h q) k : Int) + 1) := by
  refine cut_ext (cntL_len _ _) (by simp [cntL_len]) (fun p hp => ?_) (fun p hp => ?_)
  all_goals
    rw [getD_set8 (cntL_len h k) hq8, cntL_at h _ hp, cntL_at h _ hp, rk_succ]
    have : plQ h p k = decide ((q : Int) = p) := by unfold plQ; rw [hq]
    rw [this]
    by_cases e : p = q
    · subst e; simp
    · rw [if_neg e, decide_eq_false (by omega)]; simp
theorem cntL_zero (h : List Ln) : cntL h 0 = zeros8 := rfl
end Go
namespace Go.Proofs.Ytkhchfjhmplaiaa
open Go.RowKit
set_option maxRecDepth 100000 in
set_option maxHeartbeats 1000000 in
theorem inside_at {a1 a2 : Option Addr} {c1 c2 : Nat} {xs ys : List Int} {B : Bool} {w : World} (hx : IntsV w a1 8 c1 xs) (hy : IntsV w a2 8 c2 ys) (hB : insB xs ys = B) :
    Calls Try.prog 33 #[.slice a1 8 c1, .slice a2 8 c2] w fun e w' => e = .returned (.bool B) ∧ Keep [] w w' := by
  obtain ⟨b1, o1, rfl, hc1⟩ := hx.cells (by omega)
  obtain ⟨b2, o2, rfl, hc2⟩ := hy.cells (by omega)
  have HC1 := Lib.hid hc1
  have HC2 := Lib.hid hc2
  have h1 := hx.room
  have h2 := hx.most
  have h3 := hy.room
  have h4 := hy.most
  unfold maxLen at h2 h4
  have HB := Lib.hid hB
  clear hx hy hc1 hc2 hB
  go_enter Try.func33, Try.ntmps33
  go_wp2_with fail
  go_loopw [5, 13] (fun _ i wr => ∃ k : Nat, k ≤ 8 ∧ i = .int .i64 k ∧ Keep [] w wr ∧ Hid (∀ p, p < k → xs.getD p 0 ≤ ys.getD p 0)) (fun _ i _ => 8 - (intOf i).toNat)
  case atStart => exact ⟨0, by omega, rfl, Keep.refl _ _, Lib.hid (fun p hp => absurd hp (by omega))⟩
  case round =>
    obtain ⟨k, hk, rfl, hkw, HP⟩ := hrel
    by_cases hlt : k < 8
    · have d1 := hkw.cell (HC1.out k hlt) (by simp)
      have d2 := hkw.cell (HC2.out k hlt) (by simp)
      obtain ⟨x, hx⟩ : ∃ x, xs.getD k 0 = x := ⟨_, rfl⟩
      obtain ⟨y, hy⟩ : ∃ y, ys.getD k 0 = y := ⟨_, rfl⟩
      rw [hx] at d1
      rw [hy] at d2
      have HX := Lib.hid hx
      have HY := Lib.hid hy
      clear hx hy
      by_cases hgt : y < x
      · have hb : decide (y < x) = true := by simpa using hgt
        go_wp2_with (first | (with_reducible refine Txt.wp_region_text mixed quiet (by decide +kernel) ?_) | (with_reducible refine Txt.text_done (by kernel_rfl) ?_))
        go_ret
        have hf : B = false := by
          rw [← HB.out]
          cases e : insB xs ys with
          | false => rfl
          | true => have := insB_iff.1 e k hlt; rw [HX.out, HY.out] at this; omega
        exact ⟨by rw [hf]; rfl, by repeat (first | exact hkw | apply Keep.drew)⟩
      · have hb : decide (y < x) = false := by simpa using hgt
        go_wp2_with (first | (with_reducible refine Txt.wp_region_text mixed quiet (by decide +kernel) ?_) | (with_reducible refine Txt.text_done (by kernel_rfl) ?_))
        go_roundw
        case measure => simp [intOf]; omega
        case rel => exact ⟨k + 1, by omega, by go_num, by repeat (first | exact hkw | apply Keep.drew), Lib.hid (fun p hp => by
          by_cases e : p = k
          · rw [e, HX.out, HY.out]; omega
          · exact HP.out p (by omega))⟩
    · have hk8 : k = 8 := by omega
      have hT : B = true := by rw [← HB.out]; exact insB_iff.2 (by rw [hk8] at HP; exact HP.out)
      have HT := Lib.hid hT
      clear hT hk8
      go_wp2_with fail
      go_ret
      exact ⟨by rw [HT.out]; rfl, hkw⟩
set_option maxRecDepth 100000 in
set_option maxHeartbeats 4000000 in
theorem cut29_any {a al : Option Addr} {n c ln cl : Nat} {h : List Ln} {ls : List Int} {w : World} (hv : LnsV w a n c h) (hk : HOk h) (hi : IntsV w al ln cl ls) :
    Calls Try.prog 29 #[.slice a n c, .slice al ln cl] w fun e w' => ∃ g C, e = .returned (.slice (some ⟨g, 0, none⟩) 8 8) ∧ Keep [] w w' ∧ IntsV w' (some ⟨g, 0, none⟩) 8 8 C ∧ CutOk h C := by
  have hn2 : n ≤ 200 := by have := hk.len; have := hv.len; omega
  have HV := Lib.hid hv
  have HK := Lib.hid hk
  have HL := Lib.hid hv.len
  have HI := Lib.hid hi
  have h1 := hi.room
  have h2 := hi.most
  unfold maxLen at h2
  have HMK := mk22
  have hA := blk_new w (.cells #[.int .i64 0, .int .i64 0, .int .i64 0, .int .i64 0, .int .i64 0, .int .i64 0, .int .i64 0, .int .i64 0] 3)
  obtain ⟨A, hA1⟩ : ∃ A, w.heap.size = A := ⟨_, rfl⟩
  have HA1 := Lib.hid hA1
  clear hv hk hi
  go_enter Try.func29, Try.ntmps29
  go_wp2_with fail
  rw [hA1] at hA
  have HA0 : Hid ((w.alloc (.cells #[.int .i64 0, .int .i64 0, .int .i64 0, .int .i64 0, .int .i64 0, .int .i64 0, .int .i64 0, .int .i64 0] 3)).heap[A]? = some (.cells ((cntL h 0).map (Value.int .i64)).toArray 3 (0, 0))) := Lib.hid (by rw [cntL_zero]; exact hA)
  clear hA hA1 HMK
  go_loopw [7, 13] (fun _ j wr => ∃ k : Nat, k ≤ n ∧ j = .int .i64 k ∧ Keep [] w wr ∧ Hid (wr.heap[A]? = some (.cells ((cntL h k).map (Value.int .i64)).toArray 3 (0, 0)))) (fun _ j _ => n - (intOf j).toNat)
  case atStart => exact ⟨0, by omega, rfl, (Keep.refl _ _).alloc _, HA0⟩
  case round =>
    obtain ⟨k, hk, rfl, hkr, HB⟩ := hrel
    by_cases hlt : k < n
    · have hlh : k < h.length := by rw [HL.out]; exact hlt
      have he := HK.out.ev k hlh
      obtain ⟨b2, o2, rfl, c0, c1, c2'⟩ := (HV.out.keep hkr (by simp)).at_ hlt
      have hsu := fun q => @cntL_succ h k q
      obtain ⟨⟨q', gg, u⟩, hL⟩ : ∃ L, lat h k = L := ⟨_, rfl⟩
      rw [hL] at he c0 c1 c2' hsu
      dsimp only at he c0 c1 c2' hsu
      clear hL
      obtain ⟨q, rfl⟩ : ∃ q : Nat, q' = q := ⟨q'.toNat, by omega⟩
      have hq8 : q < 8 := by omega
      have HSU := Lib.hid (hsu q rfl hq8)
      have hca : wr.cell? ⟨A, q, none⟩ = some (.int .i64 (rk (plQ h q) k)) := by
        rw [cellAt HB.out, ← cntL_at h k hq8]
        have := cntL_len h k
        simp [List.getD_eq_getElem?_getD, this, hq8]
      have hza := thaw HB.out
      have hrk := rk_le' (plQ h q) k
      obtain ⟨m, hm⟩ : ∃ m, rk (plQ h q) k = m := ⟨_, rfl⟩
      rw [hm] at hca HSU hrk
      have hkE : Keep [] wr (wr.alloc (.cells #[.int .i64 q, .int .i64 gg, .int .i64 u] 27)) := (Keep.refl _ _).alloc _
      have hca2 := hkE.cell hca (by simp)
      have hbl := lt_of_blk HB.out
      clear hsu hm
      go_wp2_with (first | (with_reducible refine Txt.wp_region_text mixed quiet (by decide +kernel) ?_) | (with_reducible refine Txt.text_done (by kernel_rfl) ?_))
      refine ⟨⟨k + 1, by omega, by go_num, ?_, Lib.hid ?_⟩, by simp [intOf]; omega⟩
      · refine (Keep.setCell ?_ ?_ _).alloc _
        · exact hkr
        · exact .inr (by show w.heap.size ≤ A; rw [HA1.out]; exact Nat.le_refl _)
      · have h9 : (wr.setCell ⟨A, q, none⟩ (.int .i64 ((m : Int) + 1))).heap[A]? = some (.cells (((cntL h k).set q (m + 1)).map (Value.int .i64)).toArray 3 (0, 0)) := by
          rw [blk_setCell, if_pos rfl, HB.out]
          simp only [Option.map_some, Obj.put_cells, List.setIfInBounds_toArray, List.map_set]
        rw [HSU.out]
        exact ((Keep.refl [] _).alloc _).at h9 (by simp)
    · have hkn := Lib.hid (show k = n by omega)
      go_wp2_with fail
      have hstart : Hid (∃ x : List Int, wr.heap[A]? = some (.cells (x.map (Value.int .i64)).toArray 3 (0, 0)) ∧ x.length = 8 ∧ ∀ p : Nat, p < 8 → x.getD p 0 = rk (plQ h p) h.length) := Lib.hid ⟨cntL h k, HB.out, cntL_len _ _, fun p hp => by rw [cntL_at h k hp, hkn.out, HL.out]⟩
      obtain ⟨wo, rfl⟩ : ∃ wo : World, wo = wr := ⟨_, rfl⟩
      go_loopw [8, 9, 27] (fun _ _ j wr => ∃ (i : Nat) (x : List Int), i ≤ 8 ∧ j = .int .i64 i ∧ Keep [] w wr ∧ Hid (wr.heap[A]? = some (.cells (x.map (Value.int .i64)).toArray 3 (0, 0))) ∧ Hid (x.length = 8 ∧ (∀ p : Nat, p < i → 0 ≤ x.getD p 0 ∧ x.getD p 0 ≤ rk (plQ h p) h.length) ∧ ∀ p : Nat, i ≤ p → p < 8 → x.getD p 0 = rk (plQ h p) h.length)) (fun _ _ j _ => 8 - (intOf j).toNat)
      case atStart =>
        obtain ⟨x, hx1, hx2, hx3⟩ := hstart.out
        exact ⟨0, x, by omega, rfl, hkr, Lib.hid hx1, Lib.hid ⟨hx2, fun p hp => absurd hp (by omega), fun p _ hp => hx3 p hp⟩⟩
      case round =>
        obtain ⟨i, x, hi8, rfl, hkq, HX, HP⟩ := hrel
        by_cases hli : i < 8
        · have hxi := HP.out.2.2 i (Nat.le_refl _) hli
          have hci : wr.cell? ⟨A, i, none⟩ = some (.int .i64 (x.getD i 0)) := by
            rw [cellAt HX.out]
            simp [List.getD_eq_getElem?_getD, HP.out.1, hli]
          have hrk := rk_le' (plQ h i) h.length
          rw [hxi] at hci
          obtain ⟨m, hm⟩ : ∃ m, rk (plQ h i) h.length = m := ⟨_, rfl⟩
          rw [hm] at hci hrk
          have HM := Lib.hid hm
          have hza := thaw HX.out
          rw [HL.out] at hrk
          clear hm hxi
          by_cases hil : i < ln
          · obtain ⟨b5, o5, rfl, hc5⟩ := HI.out.cells (by omega)
            have hl := hkq.cell (hc5 i hil) (by simp)
            obtain ⟨z, hz⟩ : ∃ z, ls.getD i 0 = z := ⟨_, rfl⟩
            rw [hz] at hl
            obtain ⟨r, hr, hr1⟩ := rest_nat z (m + 1 : Int) (by omega)
            have HR := Lib.hid hr
            clear hc5 hz hr
            go_wp2_with (first | (go_at_call 21; (with_reducible refine (rest_at HR (by omega) (by omega)).mono ?_); rintro e w' ⟨rfl, rfl⟩))
            refine ⟨⟨i + 1, x.set i r, by omega, by go_num, ?_, Lib.hid ?_, Lib.hid ⟨by simp [HP.out.1], fun p hp => ?_, fun p hp1 hp2 => ?_⟩⟩, by simp [intOf]; omega⟩
            · exact hkq.setCell (.inr (by show w.heap.size ≤ A; rw [HA1.out]; exact Nat.le_refl _)) _
            · rw [blk_setCell, if_pos rfl, HX.out]
              simp only [Option.map_some, Obj.put_cells, List.setIfInBounds_toArray, List.map_set]
            · rw [getD_set8 HP.out.1 hli]
              by_cases e : p = i
              · subst e; rw [if_pos rfl, HM.out]; omega
              · rw [if_neg e]; exact HP.out.2.1 p (by omega)
            · rw [getD_set8 HP.out.1 hli, if_neg (by omega)]; exact HP.out.2.2 p (by omega) hp2
          · obtain ⟨r, hr, hr1⟩ := rest_nat 0 (m + 1 : Int) (by omega)
            have HR := Lib.hid hr
            clear hr
            go_wp2_with (first | (go_at_call 21; (with_reducible refine (rest_at HR (by omega) (by omega)).mono ?_); rintro e w' ⟨rfl, rfl⟩))
            refine ⟨⟨i + 1, x.set i r, by omega, by go_num, ?_, Lib.hid ?_, Lib.hid ⟨by simp [HP.out.1], fun p hp => ?_, fun p hp1 hp2 => ?_⟩⟩, by simp [intOf]; omega⟩
            · exact hkq.setCell (.inr (by show w.heap.size ≤ A; rw [HA1.out]; exact Nat.le_refl _)) _
            · rw [blk_setCell, if_pos rfl, HX.out]
              simp only [Option.map_some, Obj.put_cells, List.setIfInBounds_toArray, List.map_set]
            · rw [getD_set8 HP.out.1 hli]
              by_cases e : p = i
              · subst e; rw [if_pos rfl, HM.out]; omega
              · rw [if_neg e]; exact HP.out.2.1 p (by omega)
            · rw [getD_set8 HP.out.1 hli, if_neg (by omega)]; exact HP.out.2.2 p (by omega) hp2
        · have hC : CutOk h x := ⟨HP.out.1, fun p hp => HP.out.2.1 p (by omega)⟩
          have HC := Lib.hid hC
          go_wp2_with fail
          go_ret
          refine ⟨A, x, rfl, hkq, ⟨HC.out.len, Nat.le_refl _, by unfold maxLen; omega, (cut_wf HC.out HK.out.len).2, fun _ => ⟨A, 0, rfl, fun p hp => ?_⟩⟩, HC.out⟩
          rw [Nat.zero_add, cellAt HX.out]
          simp [List.getD_eq_getElem?_getD, HC.out.len, hp]
end Go.Proofs.Ytkhchfjhmplaiaa
namespace Go
open Go.RowKit
/-- What makes a cut whole, said of each take and its send. -/
theorem whole_of {h : List Ln} (hk : HOk h) {y : List Int} (H : ∀ k j p1 p2 : Nat, k < h.length → (lat h k).g = 3 → sendOf h k = some j → j < k → (lat h k).q = p1 → (lat h j).q = p2 → p1 < 8 → p2 < 8 → (posN h k : Int) < y.getD p1 0 → (posN h j : Int) < y.getD p2 0) : wholeB h y = true := by
  refine (wholeB_iff h y).2 fun k hl hg => ?_
  obtain ⟨j, p1, p2, hs, hj, hq1, hq2, hp1, hp2, hb⟩ := bad_iff hk (c := y) hl hg
  obtain ⟨j', hs', hjk, _, _⟩ := sendOf_some hk hl hg
  rw [hs] at hs'
  cases hs'
  cases e : badB h y k with
  | false => rfl
  | true =>
    obtain ⟨a, b⟩ := hb.1 e
    have := H k j p1 p2 hl hg hs hjk hq1 hq2 hp1 hp2 a
    omega
/-- Two cuts made one, place by place. -/
def bothL (f : Int → Int → Int) (x y : List Int) : List Int := (List.range 8).map fun p => f (x.getD p 0) (y.getD p 0)
theorem bothL_len (f : Int → Int → Int) (x y : List Int) : (bothL f x y).length = 8 := by simp [bothL]
theorem bothL_at (f : Int → Int → Int) (x y : List Int) {p : Nat} (hp : p < 8) : (bothL f x y).getD p 0 = f (x.getD p 0) (y.getD p 0) := by
  simp [bothL, List.getD_eq_getElem?_getD, hp]
theorem join_ok {h : List Ln} {x y : List Int} (hx : CutOk h x) (hy : CutOk h y) : CutOk h (bothL max x y) :=
  ⟨bothL_len _ _ _, fun p hp => by rw [bothL_at _ _ _ hp]; have := hx.bd p hp; have := hy.bd p hp; omega⟩
theorem meet_ok {h : List Ln} {x y : List Int} (hx : CutOk h x) (hy : CutOk h y) : CutOk h (bothL min x y) :=
  ⟨bothL_len _ _ _, fun p hp => by rw [bothL_at _ _ _ hp]; have := hx.bd p hp; have := hy.bd p hp; omega⟩
theorem join_whole {h : List Ln} (hk : HOk h) {x y : List Int} (hx : wholeB h x = true) (hy : wholeB h y = true) : wholeB h (bothL max x y) = true := by
  refine whole_of hk fun k j p1 p2 hl hg hs hjk hq1 hq2 hp1 hp2 ht => ?_
  rw [bothL_at _ _ _ hp1] at ht
  rw [bothL_at _ _ _ hp2]
  by_cases e : (posN h k : Int) < x.getD p1 0
  · have := whole_use hk hx hl hg hs hq1 hq2 e; omega
  · have := whole_use hk hy hl hg hs hq1 hq2 (by omega); omega
theorem meet_whole {h : List Ln} (hk : HOk h) {x y : List Int} (hx : wholeB h x = true) (hy : wholeB h y = true) : wholeB h (bothL min x y) = true := by
  refine whole_of hk fun k j p1 p2 hl hg hs hjk hq1 hq2 hp1 hp2 ht => ?_
  rw [bothL_at _ _ _ hp1] at ht
  rw [bothL_at _ _ _ hp2]
  have := whole_use hk hx hl hg hs hq1 hq2 (by omega)
  have := whole_use hk hy hl hg hs hq1 hq2 (by omega)
  omega
theorem join_left (x y : List Int) : InC x (bothL max x y) := fun p hp => by rw [bothL_at _ _ _ hp]; omega
theorem join_right (x y : List Int) : InC y (bothL max x y) := fun p hp => by rw [bothL_at _ _ _ hp]; omega
theorem meet_left (x y : List Int) : InC (bothL min x y) x := fun p hp => by rw [bothL_at _ _ _ hp]; omega
theorem meet_right (x y : List Int) : InC (bothL min x y) y := fun p hp => by rw [bothL_at _ _ _ hp]; omega
/-- The least event that is in a cut and not in a smaller one. -/
theorem first_new {h : List Ln} {x y : List Int} : ∀ n k, k < n → k < h.length → (inC h y k = true ∧ inC h x k = false) → ∃ k, k < h.length ∧ inC h y k = true ∧ inC h x k = false ∧ ∀ i, i < k → inC h y i = true → inC h x i = true := by
  intro n
  induction n with
  | zero => intro k h; omega
  | succ n ih =>
    intro k hk hl hc
    by_cases e : ∃ i, i < k ∧ inC h y i = true ∧ inC h x i = false
    · obtain ⟨i, h1, h2⟩ := e
      exact ih i (by omega) (by omega) h2
    · refine ⟨k, hl, hc.1, hc.2, fun i hi hy => ?_⟩
      cases ex : inC h x i with
      | true => rfl
      | false => exact absurd ⟨i, hi, hy, ex⟩ e
theorem pos_inj {h : List Ln} {i k : Nat} (hp : (lat h i).q = (lat h k).q) (hn : posN h i = posN h k) : i = k := by
  unfold posN at hn
  rw [hp] at hn
  by_cases e1 : i < k
  · have := rk_lt (P := plQ h (lat h k).q) e1 (by unfold plQ; rw [hp]; simp)
    omega
  · by_cases e2 : k < i
    · have := rk_lt (P := plQ h (lat h k).q) e2 (by unfold plQ; simp)
      omega
    · omega
/-- From a whole cut to a greater whole one there is a step. -/
theorem step_up {h : List Ln} (hk : HOk h) {x y : List Int} (hx : CutOk h x) (hy : CutOk h y) (hwx : wholeB h x = true) (hwy : wholeB h y = true) (hi : InC x y) (hne : x ≠ y) :
    ∃ p, p < 8 ∧ x.getD p 0 < y.getD p 0 ∧ wholeB h (x.set p (x.getD p 0 + 1)) = true := by
  have h1 : ∃ p, p < 8 ∧ x.getD p 0 < y.getD p 0 := by
    apply Classical.byContradiction
    intro hn
    refine hne (cut_ext hx.len hy.len hi fun p hp => ?_)
    by_cases e : x.getD p 0 < y.getD p 0
    · exact absurd ⟨p, hp, e⟩ hn
    · omega
  obtain ⟨p, hp, hlt⟩ := h1
  have hb1 := hx.bd p hp
  have hb2 := hy.bd p hp
  obtain ⟨m, hm⟩ : ∃ m : Nat, x.getD p 0 = m := ⟨(x.getD p 0).toNat, by omega⟩
  obtain ⟨k0, hk0, hpk, hrk⟩ := rk_inv (P := plQ h p) (n := h.length) (x := m) (by omega)
  have hq0 : (lat h k0).q = p := of_decide_eq_true hpk
  have hn0 : posN h k0 = m := by unfold posN; rw [hq0]; exact hrk
  have hc0 : inC h y k0 = true ∧ inC h x k0 = false := by
    refine ⟨(inC_iff hq0).2 (by omega), ?_⟩
    cases e : inC h x k0 with
    | false => rfl
    | true => have := (inC_iff hq0).1 e; omega
  obtain ⟨k, hl, hky, hkx, hmin⟩ := first_new (k0 + 1) k0 (by omega) hk0 hc0
  have he := hk.ev k hl
  obtain ⟨q, hq⟩ : ∃ q : Nat, (lat h k).q = q := ⟨(lat h k).q.toNat, by omega⟩
  have hq8 : q < 8 := by omega
  have hky' := (inC_iff hq).1 hky
  have hkx' : ¬ (posN h k : Int) < x.getD q 0 := fun hh => by rw [(inC_iff hq).2 hh] at hkx; cases hkx
  have hbx := hx.bd q hq8
  have hby := hy.bd q hq8
  have hpos : x.getD q 0 = posN h k := by
    apply Classical.byContradiction
    intro hne2
    have hpl := pos_lt (h := h) hl
    rw [hq] at hpl
    obtain ⟨m2, hm2⟩ : ∃ m : Nat, x.getD q 0 = m := ⟨(x.getD q 0).toNat, by omega⟩
    obtain ⟨k2, hk2, hpk2, hrk2⟩ := rk_inv (P := plQ h q) (n := h.length) (x := m2) (by omega)
    have hq2 : (lat h k2).q = q := of_decide_eq_true hpk2
    have hn2 : posN h k2 = m2 := by unfold posN; rw [hq2]; exact hrk2
    have hlt2 : k2 < k := by
      apply Classical.byContradiction
      intro hge
      have := rk_mono (plQ h q) (show k ≤ k2 by omega)
      have e1 : rk (plQ h q) k = posN h k := by unfold posN; rw [hq]
      omega
    have := (inC_iff hq2).1 (hmin k2 hlt2 ((inC_iff hq2).2 (by omega)))
    omega
  refine ⟨q, hq8, by omega, whole_of hk fun t j p1 p2 htl htg hts htj htq hjq hp1 hp2 hin => ?_⟩
  rw [getD_set8 hx.len hq8] at hin ⊢
  have hgrow : (posN h j : Int) < x.getD p2 0 → (posN h j : Int) < if p2 = q then x.getD q 0 + 1 else x.getD p2 0 := fun h9 => by
    by_cases e : p2 = q
    · subst e; rw [if_pos rfl]; omega
    · rw [if_neg e]; exact h9
  apply hgrow
  by_cases ht : (posN h t : Int) < x.getD p1 0
  · exact whole_use hk hwx htl htg hts htq hjq ht
  · have e1 : p1 = q := by
      apply Classical.byContradiction
      intro e; rw [if_neg e] at hin; exact ht hin
    subst e1
    rw [if_pos rfl] at hin
    have e2 : t = k := pos_inj (h := h) (by rw [htq, hq]) (by omega)
    subst e2
    have h5 := whole_use hk hwy htl htg hts htq hjq hky'
    exact (inC_iff hjq).1 (hmin j htj ((inC_iff hjq).2 h5))
theorem sum8_le {f g : Nat → Nat} (h : ∀ r, r < 8 → f r ≤ g r) : sum8 f ≤ sum8 g := by
  have := h 0 (by omega); have := h 1 (by omega); have := h 2 (by omega); have := h 3 (by omega)
  have := h 4 (by omega); have := h 5 (by omega); have := h 6 (by omega); have := h 7 (by omega)
  unfold sum8
  omega
/-- All places' events are all events. -/
theorem sum8_rk {h : List Ln} (hk : HOk h) : ∀ k, k ≤ h.length → sum8 (fun p => rk (plQ h p) k) = k := by
  intro k
  induction k with
  | zero => intro _; rfl
  | succ k ih =>
    intro hl
    have he := hk.ev k (by omega)
    have := ih (by omega)
    obtain ⟨q, hq⟩ : ∃ q : Nat, (lat h k).q = q := ⟨(lat h k).q.toNat, by omega⟩
    have hq8 : q < 8 := by omega
    have hp : ∀ p : Nat, plQ h p k = decide (q = p) := fun p => by
      unfold plQ; rw [hq]
      by_cases e : q = p
      · subst e; simp
      · rw [decide_eq_false (by omega), decide_eq_false e]
    unfold sum8 at this ⊢
    simp only [rk_succ, hp]
    rcases (by omega : q = 0 ∨ q = 1 ∨ q = 2 ∨ q = 3 ∨ q = 4 ∨ q = 5 ∨ q = 6 ∨ q = 7) with e | e | e | e | e | e | e | e <;> (subst e; simp at this ⊢; omega)
/-- How much a cut lacks of a greater one. -/
def lackS (x y : List Int) : Nat := sum8 fun p => (y.getD p 0 - x.getD p 0).toNat
theorem lack_start {h : List Ln} (hk : HOk h) {x y : List Int} (hx : CutOk h x) (hy : CutOk h y) : lackS x y ≤ h.length := by
  refine Nat.le_trans (sum8_le fun p hp => ?_) (Nat.le_of_eq (sum8_rk hk h.length (Nat.le_refl _)))
  have := hx.bd p hp; have := hy.bd p hp
  omega
theorem lack_none {h : List Ln} {x y : List Int} (hx : CutOk h x) (hy : CutOk h y) (hi : InC x y) (h0 : lackS x y = 0) : x = y := by
  refine cut_ext hx.len hy.len hi fun p hp => ?_
  unfold lackS sum8 at h0
  dsimp only at h0
  rcases (by omega : p = 0 ∨ p = 1 ∨ p = 2 ∨ p = 3 ∨ p = 4 ∨ p = 5 ∨ p = 6 ∨ p = 7) with e | e | e | e | e | e | e | e <;> (subst e; omega)
theorem lack_step {h : List Ln} {x y : List Int} (hx : CutOk h x) (hy : CutOk h y) (hi : InC x y) {p : Nat} (hp : p < 8) (hlt : x.getD p 0 < y.getD p 0) :
    CutOk h (x.set p (x.getD p 0 + 1)) ∧ InC (x.set p (x.getD p 0 + 1)) y ∧ lackS (x.set p (x.getD p 0 + 1)) y < lackS x y := by
  refine ⟨⟨by simp [hx.len], fun r hr => ?_⟩, fun r hr => ?_, sum8_lt hp (fun r hr => ?_) ?_⟩
  · rw [getD_set8 hx.len hp]
    have := hx.bd r hr
    by_cases e : r = p
    · subst e; rw [if_pos rfl]; have := hy.bd r hr; omega
    · rw [if_neg e]; exact this
  · rw [getD_set8 hx.len hp]
    by_cases e : r = p
    · subst e; rw [if_pos rfl]; omega
    · rw [if_neg e]; exact hi r hr
  · rw [getD_set8 hx.len hp]
    by_cases e : r = p
    · subst e; rw [if_pos rfl]; omega
    · rw [if_neg e]; exact Nat.le_refl _
  · show (y.getD p 0 - (x.set p (x.getD p 0 + 1)).getD p 0).toNat < (y.getD p 0 - x.getD p 0).toNat
    rw [getD_set8 hx.len hp, if_pos rfl]; omega
end Go
namespace Go.Proofs.Ytkhchfjhmplaiaa
open Go.RowKit
theorem cuts2 {w : World} {ax ay : Option Addr} {cx cy : Nat} {h : List Ln} {X Y : List Int} (hx : IntsV w ax 8 cx X) (hy : IntsV w ay 8 cy Y) (bx : ∀ p : Nat, p < 8 → 0 ≤ X.getD p 0 ∧ X.getD p 0 ≤ rk (plQ h p) h.length) (by' : ∀ p : Nat, p < 8 → 0 ≤ Y.getD p 0 ∧ Y.getD p 0 ≤ rk (plQ h p) h.length) :
    CutsV (w.alloc (.cells #[.slice ax 8 cx, .slice ay 8 cy] 22)) (some ⟨w.heap.size, 0, none⟩) 2 h (fun j => if j = 0 then X else Y) := fun j hj => by
  have hb := blk_new w (.cells #[.slice ax 8 cx, .slice ay 8 cy] 22)
  rcases (by omega : j = 0 ∨ j = 1) with e | e
  · subst e
    exact ⟨w.heap.size, 0, ax, cx, rfl, by rw [cellAt hb]; rfl, hx.keep ((Keep.refl [] w).alloc _) (by simp), bx⟩
  · subst e
    exact ⟨w.heap.size, 0, ay, cy, rfl, by rw [cellAt hb]; rfl, hy.keep ((Keep.refl [] w).alloc _) (by simp), by'⟩
theorem index76 {x0 x1 x2 x3 x4 x5 x6 x7 x : Int} {k : Nat} {w : World} (hk : k < 8) (hx : #[Value.int .i64 x0, .int .i64 x1, .int .i64 x2, .int .i64 x3, .int .i64 x4, .int .i64 x5, .int .i64 x6, .int .i64 x7][k]? = some (.int .i64 x)) :
    (Instr.index 76 (.agg #[.int .i64 x0, .int .i64 x1, .int .i64 x2, .int .i64 x3, .int .i64 x4, .int .i64 x5, .int .i64 x6, .int .i64 x7]) (.int .i64 (k : Int))).run Try.prog w = .ok (.int .i64 x) w := by
  rcases (by omega : k = 0 ∨ k = 1 ∨ k = 2 ∨ k = 3 ∨ k = 4 ∨ k = 5 ∨ k = 6 ∨ k = 7) with h | h | h | h | h | h | h | h <;> (subst h; simp at hx; subst hx; kernel_rfl)
theorem own762 {w : World} {B : Nat} {v : Value} {x y : List Int} {C : Nat → List Int} (hx : x.length = 8) (hy : y.length = 8) (h0 : C 0 = x) (h1 : C 1 = y) (ho : w.ownsRow B 76 8 v 2 (flatC C 2)) :
    ∃ g cap, v = .slice (some ⟨g, 0, none⟩) 2 cap ∧ (∀ i, i < 8 → w.cell? ⟨g, i, none⟩ = some (.int .i64 (x.getD i 0))) ∧ ∀ i, i < 8 → w.cell? ⟨g, 8 + i, none⟩ = some (.int .i64 (y.getD i 0)) := by
  have hf : flatC C 2 = x.map (Value.int .i64) ++ y.map (Value.int .i64) := by simp [flatC, h0, h1]
  rw [hf] at ho
  rcases ho.2 with ⟨_, h0⟩ | ⟨g, cap, cur, rfl, hb, hg, hnc, hcm, hcs, ht⟩
  · cases h0
  · have key : ∀ i, i < 16 → w.cell? ⟨g, i, none⟩ = (x.map (Value.int .i64) ++ y.map (Value.int .i64))[i]? := fun i hi => by
      rw [cell_of_row w g i cur 76 (0, 0) hg, ← ht, List.getElem?_take, if_pos (by omega)]
      simp
    refine ⟨g, cap, rfl, fun i hi => ?_, fun i hi => ?_⟩
    · rw [key i (by omega), List.getElem?_append_left (by simp; omega), List.getElem?_map]
      simp [List.getD_eq_getElem?_getD, hx, hi]
    · rw [key (8 + i) (by omega), List.getElem?_append_right (by simp; omega), List.getElem?_map]
      simp [List.getD_eq_getElem?_getD, hx, hy, hi]
set_option maxRecDepth 100000 in
set_option maxHeartbeats 4000000 in
theorem both72_any {a ax ay : Option Addr} {n c cx cy : Nat} {h : List Ln} {X Y : List Int} {w : World} (hv : LnsV w a n c h) (hk : HOk h) (hx : IntsV w ax 8 cx X) (hy : IntsV w ay 8 cy Y) (cX : CutOk h X) (cY : CutOk h Y) :
    Calls Try.prog 71 #[.slice a n c, .slice ax 8 cx, .slice ay 8 cy, .func (.func 72) #[] #[]] w fun e w' => ∃ v, e = .returned (.tuple #[v, .int .i64 0]) ∧ Keep [] w w' ∧ w'.ownsRow w.heap.size 3 1 v 8 ((bothL max X Y).map (Value.int .i64)) := by
  have HCV := Lib.hid (cuts2 hx hy cX.bd cY.bd)
  have hkA : Keep [] w (w.alloc (.cells #[.slice ax 8 cx, .slice ay 8 cy] 22)) := (Keep.refl _ _).alloc _
  have HV := Lib.hid (hv.keep hkA (by simp))
  have HK := Lib.hid hk
  have HXL := Lib.hid cX.len
  have HYL := Lib.hid cY.len
  obtain ⟨i3, hi3, hy0, hy1, hy2⟩ := info_parts info3
  clear hv hk hx hy cX cY
  go_enter Try.func71, Try.ntmps71
  go_wp2_with (first | (go_at_call 58; refine (begin_walk HV.out HK.out HCV.out (by omega) (by omega) (by unfold maxLen; omega)).mono ?_; rintro e w1 ⟨H, S, T, V, v, rfl, hk1, _, _, _, _, ho⟩; obtain ⟨g, cap, rfl, hgx, hgy⟩ := own762 HXL.out HYL.out rfl rfl ho; have HGX := Lib.hid hgx; have HGY := Lib.hid hgy; obtain ⟨x0, x1, x2, x3, x4, x5, x6, x7, hX8⟩ := list8 HXL.out; have HX8 := Lib.hid hX8; obtain ⟨b0, b1, b2, b3, b4, b5, b6, b7⟩ := row8' (hX8 ▸ hgx); clear ho hgx hgy hX8))
  have hk1w := hkA.trans hk1
  clear HCV hkA hk1
  go_loopw [13, 14, 15, 31] (fun v _ _ j wr => ∃ k : Nat, k ≤ 8 ∧ j = .int .i64 k ∧ Keep [] w wr ∧ Keep [] w1 wr ∧ Hid (wr.ownsRow w1.heap.size 3 1 v k ((List.range k).map fun p => Value.int .i64 (max (X.getD p 0) (Y.getD p 0))))) (fun _ _ _ j _ => 8 - (intOf j).toNat)
  case atStart => exact ⟨0, by omega, rfl, hk1w, Keep.refl _ _, Lib.hid (World.ownsRow_nil _ _ _ _)⟩
  case round =>
    obtain ⟨k, hk8, rfl, hkw, hkr, HO⟩ := hrel
    have hsw := hkr.size
    by_cases hlt : k < 8
    · have hcy := hkr.cell (HGY.out k hlt) (by simp)
      have hX : X.getD k 0 = [x0, x1, x2, x3, x4, x5, x6, x7].getD k 0 := by rw [HX8.out]
      obtain ⟨x, hx⟩ : ∃ x, X.getD k 0 = x := ⟨_, rfl⟩
      obtain ⟨y, hy⟩ : ∃ y, Y.getD k 0 = y := ⟨_, rfl⟩
      rw [hy] at hcy
      have HXE := Lib.hid (show #[Value.int .i64 x0, .int .i64 x1, .int .i64 x2, .int .i64 x3, .int .i64 x4, .int .i64 x5, .int .i64 x6, .int .i64 x7][k]? = some (.int .i64 x) by
        rw [← hx, hX]
        rcases (by omega : k = 0 ∨ k = 1 ∨ k = 2 ∨ k = 3 ∨ k = 4 ∨ k = 5 ∨ k = 6 ∨ k = 7) with h | h | h | h | h | h | h | h <;> (subst h; rfl))
      have hi8 : (k : Int) < 8 := by omega
      have hidx : (Instr.index 76 (.agg #[.int .i64 x0, .int .i64 x1, .int .i64 x2, .int .i64 x3, .int .i64 x4, .int .i64 x5, .int .i64 x6, .int .i64 x7]) (.int .i64 (k : Int))).run Try.prog wr = .ok (.int .i64 x) wr := index76 hlt HXE.out
      have HR : Hid ((List.range (k + 1)).map (fun p => Value.int .i64 (max (X.getD p 0) (Y.getD p 0))) = (List.range k).map (fun p => Value.int .i64 (max (X.getD p 0) (Y.getD p 0))) ++ [Value.int .i64 (max x y)]) := Lib.hid (by rw [List.range_succ, List.map_append, ← hx, ← hy]; rfl)
      clear hx hy hX
      go_wp2_with (first | (at_builtin; refine wpList_append_own _ rfl _ _ 22 rfl w1.heap.size 3 i3 (.int .i64 0) 1 8 Try.underlying22 hi3 hy0 hy1 hy2 rfl (by decide) _ _ _ rfl (HO.out.alloc _) ⟨wr.heap.size, 0, none⟩ 1 1 [.int .i64 (max x y)] rfl rfl (cell_one_at rfl _ _) (by intro u hu; simp at hu; subst hu; rfl) (by unfold maxLen; omega) (by omega) (by simp; omega) ?_; intro v6 w6 hown6 hgr6 _; have HO6 := Lib.hid hown6; have HGR6 := Lib.hid hgr6; clear hown6 hgr6) | go_in)
      exact ⟨⟨k + 1, by omega, by go_num, (hkw.alloc _).grown HGR6.out (fun g hg => .inr (by have := (HO.out.lt g hg).1; have := hk1w.size; omega)), (hkr.alloc _).grown HGR6.out (fun g hg => .inr (HO.out.lt g hg).1), Lib.hid (by rw [HR.out]; exact HO6.out)⟩, by simp [intOf]; omega⟩
    · have hk := Lib.hid (show k = 8 by omega)
      go_wp2_with fail
      go_ret2
      exact ⟨_, rfl, hkw, by have h9 := HO.out.mono hk1w.size; rw [hk.out] at h9; unfold bothL; rw [List.map_map]; exact h9⟩
set_option maxRecDepth 100000 in
set_option maxHeartbeats 4000000 in
theorem both73_any {a ax ay : Option Addr} {n c cx cy : Nat} {h : List Ln} {X Y : List Int} {w : World} (hv : LnsV w a n c h) (hk : HOk h) (hx : IntsV w ax 8 cx X) (hy : IntsV w ay 8 cy Y) (cX : CutOk h X) (cY : CutOk h Y) :
    Calls Try.prog 71 #[.slice a n c, .slice ax 8 cx, .slice ay 8 cy, .func (.func 73) #[] #[]] w fun e w' => ∃ v, e = .returned (.tuple #[v, .int .i64 0]) ∧ Keep [] w w' ∧ w'.ownsRow w.heap.size 3 1 v 8 ((bothL min X Y).map (Value.int .i64)) := by
  have HCV := Lib.hid (cuts2 hx hy cX.bd cY.bd)
  have hkA : Keep [] w (w.alloc (.cells #[.slice ax 8 cx, .slice ay 8 cy] 22)) := (Keep.refl _ _).alloc _
  have HV := Lib.hid (hv.keep hkA (by simp))
  have HK := Lib.hid hk
  have HXL := Lib.hid cX.len
  have HYL := Lib.hid cY.len
  obtain ⟨i3, hi3, hy0, hy1, hy2⟩ := info_parts info3
  clear hv hk hx hy cX cY
  go_enter Try.func71, Try.ntmps71
  go_wp2_with (first | (go_at_call 58; refine (begin_walk HV.out HK.out HCV.out (by omega) (by omega) (by unfold maxLen; omega)).mono ?_; rintro e w1 ⟨H, S, T, V, v, rfl, hk1, _, _, _, _, ho⟩; obtain ⟨g, cap, rfl, hgx, hgy⟩ := own762 HXL.out HYL.out rfl rfl ho; have HGX := Lib.hid hgx; have HGY := Lib.hid hgy; obtain ⟨x0, x1, x2, x3, x4, x5, x6, x7, hX8⟩ := list8 HXL.out; have HX8 := Lib.hid hX8; obtain ⟨b0, b1, b2, b3, b4, b5, b6, b7⟩ := row8' (hX8 ▸ hgx); clear ho hgx hgy hX8))
  have hk1w := hkA.trans hk1
  clear HCV hkA hk1
  go_loopw [13, 14, 15, 31] (fun v _ _ j wr => ∃ k : Nat, k ≤ 8 ∧ j = .int .i64 k ∧ Keep [] w wr ∧ Keep [] w1 wr ∧ Hid (wr.ownsRow w1.heap.size 3 1 v k ((List.range k).map fun p => Value.int .i64 (min (X.getD p 0) (Y.getD p 0))))) (fun _ _ _ j _ => 8 - (intOf j).toNat)
  case atStart => exact ⟨0, by omega, rfl, hk1w, Keep.refl _ _, Lib.hid (World.ownsRow_nil _ _ _ _)⟩
  case round =>
    obtain ⟨k, hk8, rfl, hkw, hkr, HO⟩ := hrel
    have hsw := hkr.size
    by_cases hlt : k < 8
    · have hcy := hkr.cell (HGY.out k hlt) (by simp)
      have hX : X.getD k 0 = [x0, x1, x2, x3, x4, x5, x6, x7].getD k 0 := by rw [HX8.out]
      obtain ⟨x, hx⟩ : ∃ x, X.getD k 0 = x := ⟨_, rfl⟩
      obtain ⟨y, hy⟩ : ∃ y, Y.getD k 0 = y := ⟨_, rfl⟩
      rw [hy] at hcy
      have HXE := Lib.hid (show #[Value.int .i64 x0, .int .i64 x1, .int .i64 x2, .int .i64 x3, .int .i64 x4, .int .i64 x5, .int .i64 x6, .int .i64 x7][k]? = some (.int .i64 x) by
        rw [← hx, hX]
        rcases (by omega : k = 0 ∨ k = 1 ∨ k = 2 ∨ k = 3 ∨ k = 4 ∨ k = 5 ∨ k = 6 ∨ k = 7) with h | h | h | h | h | h | h | h <;> (subst h; rfl))
      have hi8 : (k : Int) < 8 := by omega
      have hidx : (Instr.index 76 (.agg #[.int .i64 x0, .int .i64 x1, .int .i64 x2, .int .i64 x3, .int .i64 x4, .int .i64 x5, .int .i64 x6, .int .i64 x7]) (.int .i64 (k : Int))).run Try.prog wr = .ok (.int .i64 x) wr := index76 hlt HXE.out
      have HR : Hid ((List.range (k + 1)).map (fun p => Value.int .i64 (min (X.getD p 0) (Y.getD p 0))) = (List.range k).map (fun p => Value.int .i64 (min (X.getD p 0) (Y.getD p 0))) ++ [Value.int .i64 (min x y)]) := Lib.hid (by rw [List.range_succ, List.map_append, ← hx, ← hy]; rfl)
      clear hx hy hX
      go_wp2_with (first | (at_builtin; refine wpList_append_own _ rfl _ _ 22 rfl w1.heap.size 3 i3 (.int .i64 0) 1 8 Try.underlying22 hi3 hy0 hy1 hy2 rfl (by decide) _ _ _ rfl (HO.out.alloc _) ⟨wr.heap.size, 0, none⟩ 1 1 [.int .i64 (min x y)] rfl rfl (cell_one_at rfl _ _) (by intro u hu; simp at hu; subst hu; rfl) (by unfold maxLen; omega) (by omega) (by simp; omega) ?_; intro v6 w6 hown6 hgr6 _; have HO6 := Lib.hid hown6; have HGR6 := Lib.hid hgr6; clear hown6 hgr6) | go_in)
      exact ⟨⟨k + 1, by omega, by go_num, (hkw.alloc _).grown HGR6.out (fun g hg => .inr (by have := (HO.out.lt g hg).1; have := hk1w.size; omega)), (hkr.alloc _).grown HGR6.out (fun g hg => .inr (HO.out.lt g hg).1), Lib.hid (by rw [HR.out]; exact HO6.out)⟩, by simp [intOf]; omega⟩
    · have hk := Lib.hid (show k = 8 by omega)
      go_wp2_with fail
      go_ret2
      exact ⟨_, rfl, hkw, by have h9 := HO.out.mono hk1w.size; rw [hk.out] at h9; unfold bothL; rw [List.map_map]; exact h9⟩
end Go.Proofs.Ytkhchfjhmplaiaa
namespace Go.Proofs.Ytkhchfjhmplaiaa
open Go.RowKit
set_option maxRecDepth 100000 in
theorem join45_at {a ax ay : Option Addr} {n c cx cy : Nat} {h : List Ln} {X Y : List Int} {w : World} (hv : LnsV w a n c h) (hk : HOk h) (hx : IntsV w ax 8 cx X) (hy : IntsV w ay 8 cy Y) (cX : CutOk h X) (cY : CutOk h Y) :
    Calls Try.prog 45 #[.slice a n c, .slice ax 8 cx, .slice ay 8 cy] w fun e w' => ∃ a' c', e = .returned (.tuple #[.slice a' 8 c', .int .i64 0]) ∧ Keep [] w w' ∧ IntsV w' a' 8 c' (bothL max X Y) := by
  have H := Lib.hid (both72_any hv hk hx hy cX cY)
  have HC := Lib.hid (cut_wf (join_ok cX cY) hk.len)
  clear hv hk hx hy cX cY
  go_enter Try.func45, Try.ntmps45
  go_wp2_with (first | (go_at_call 71; refine H.out.mono ?_; rintro e w1 ⟨v, rfl, hk1, ho1⟩; obtain ⟨a', c', rfl, hint, _⟩ := IntsV.ofOwn ho1 HC.out.2; have HI := Lib.hid hint; clear ho1 hint))
  go_ret2
  exact ⟨a', c', rfl, hk1, HI.out⟩
set_option maxRecDepth 100000 in
theorem meet47_at {a ax ay : Option Addr} {n c cx cy : Nat} {h : List Ln} {X Y : List Int} {w : World} (hv : LnsV w a n c h) (hk : HOk h) (hx : IntsV w ax 8 cx X) (hy : IntsV w ay 8 cy Y) (cX : CutOk h X) (cY : CutOk h Y) :
    Calls Try.prog 47 #[.slice a n c, .slice ax 8 cx, .slice ay 8 cy] w fun e w' => ∃ a' c', e = .returned (.tuple #[.slice a' 8 c', .int .i64 0]) ∧ Keep [] w w' ∧ IntsV w' a' 8 c' (bothL min X Y) := by
  have H := Lib.hid (both73_any hv hk hx hy cX cY)
  have HC := Lib.hid (cut_wf (meet_ok cX cY) hk.len)
  clear hv hk hx hy cX cY
  go_enter Try.func47, Try.ntmps47
  go_wp2_with (first | (go_at_call 71; refine H.out.mono ?_; rintro e w1 ⟨v, rfl, hk1, ho1⟩; obtain ⟨a', c', rfl, hint, _⟩ := IntsV.ofOwn ho1 HC.out.2; have HI := Lib.hid hint; clear ho1 hint))
  go_ret2
  exact ⟨a', c', rfl, hk1, HI.out⟩
set_option maxRecDepth 100000 in
set_option maxHeartbeats 8000000 in
theorem cutLattice_walk (a : Option Addr) (len cap : Nat) (zs : List Int) (b : Option Addr) (lenb capb : Nat) (bs : List Int) (d : Option Addr) (lend capd : Nat) (ds : List Int) (w : World) (hv : IntsV w a len cap zs) (hvb : IntsV w b lenb capb bs) (hvd : IntsV w d lend capd ds) :
    Calls Try.prog 13 #[.slice a len cap, .slice b lenb capb, .slice d lend capd] w fun e w' => e = .returned (.bool true) ∧ Keep [] w w' := by
  obtain ⟨N, hN⟩ : ∃ N, (hist zs).length = N := ⟨_, rfl⟩
  have hok : HOk (hist zs) := (hist_inv zs).ok
  have HV := Lib.hid hv
  have HVB := Lib.hid hvb
  have HVD := Lib.hid hvd
  have HOK := Lib.hid hok
  have HN := Lib.hid hN
  clear hv hvb hvd hok hN
  go_enter Try.func13, Try.ntmps13
  go_wp2_with (first | (go_at_call 28; refine (cbegun28_any _).mono ?_; rintro e w0 ⟨rfl, hk0⟩) | (go_at_call 20; refine (history_at (HV.out.keep hk0 (by simp)) HN).mono ?_; rintro e w2 ⟨a2, c2, rfl, hk2, hv2⟩; have HV2 := Lib.hid hv2; have hD2 := hk0.trans hk2; clear hv2) | (go_at_call 29; (with_reducible refine (cut29_any HV2.out HOK.out (HVB.out.keep hD2 (by simp))).mono ?_); rintro e w3 ⟨g, C, rfl, hk3, hi3, hC⟩; have HV3 := Lib.hid (HV2.out.keep hk3 (by simp)); have HC3 := Lib.hid hi3; have HCO := Lib.hid hC; have hD3 := hD2.trans hk3; clear hi3 hC) | (go_at_call 30; (with_reducible refine (least30_any HV3.out HOK.out HC3.out HCO.out).mono ?_); rintro e w4 ⟨ax, cx, X, rfl, hk4, hi4, hl4, hw4⟩; have HV4 := Lib.hid (HV3.out.keep hk4 (by simp)); have HX4 := Lib.hid hi4; have HXO := Lib.hid hl4.ok; have HWX := Lib.hid hw4; have hD4 := hD3.trans hk4; clear hi4 hl4 hw4) | (go_at_call 29; (with_reducible refine (cut29_any HV4.out HOK.out (HVD.out.keep hD4 (by simp))).mono ?_); rintro e w5 ⟨gd, D, rfl, hk5, hi5, hD⟩; have HV5 := Lib.hid (HV4.out.keep hk5 (by simp)); have HD5 := Lib.hid hi5; have HDO := Lib.hid hD; clear hi5 hD) | (go_at_call 31; (with_reducible refine (most31_any HV5.out HOK.out HD5.out HDO.out).mono ?_); rintro e w6 ⟨ay, cy, Y, rfl, hk6, hi6, hl6, hw6⟩; have HV6 := Lib.hid (HV5.out.keep hk6 (by simp)); have HX6 := Lib.hid (HX4.out.keep (hk5.trans hk6) (by simp)); have HY6 := Lib.hid hi6; have HYO := Lib.hid hl6.ok; have HWY := Lib.hid hw6; have hD6 := (hD4.trans hk5).trans hk6; clear hi6 hl6 hw6) | (go_at_call 45; (with_reducible refine (join45_at HV6.out HOK.out HX6.out HY6.out HXO.out HYO.out).mono ?_); rintro e w7 ⟨aj, cj, rfl, hk7, hi7⟩; have HV7 := Lib.hid (HV6.out.keep hk7 (by simp)); have HX7 := Lib.hid (HX6.out.keep hk7 (by simp)); have HY7 := Lib.hid (HY6.out.keep hk7 (by simp)); have HJ7 := Lib.hid hi7; clear hi7) | (go_at_call 47; (with_reducible refine (meet47_at HV7.out HOK.out HX7.out HY7.out HXO.out HYO.out).mono ?_); rintro e w8 ⟨am, cm, rfl, hk8, hi8⟩; have HV8 := Lib.hid (HV7.out.keep hk8 (by simp)); have HX8 := Lib.hid (HX7.out.keep hk8 (by simp)); have HY8 := Lib.hid (HY7.out.keep hk8 (by simp)); have HJ8 := Lib.hid (HJ7.out.keep hk8 (by simp)); have HM8 := Lib.hid hi8; clear hi8) | (go_at_call 32; (with_reducible refine (whole32_at HV8.out HOK.out HJ8.out (join_ok HXO.out HYO.out) (join_whole HOK.out HWX.out HWY.out)).mono ?_); rintro e w9 ⟨rfl, hk9⟩; have HV9 := Lib.hid (HV8.out.keep hk9 (by simp)); have HM9 := Lib.hid (HM8.out.keep hk9 (by simp))) | (go_at_call 32; (with_reducible refine (whole32_at HV9.out HOK.out HM9.out (meet_ok HXO.out HYO.out) (meet_whole HOK.out HWX.out HWY.out)).mono ?_); rintro e wl ⟨rfl, hkl⟩; have hkw : Keep [] w wl := ((((hD6.trans hk7).trans hk8).trans hk9).trans hkl)))
  have HBL := Lib.hid (blk_new wl (.cells #[.int .i64 0, .int .i64 0, .int .i64 0, .int .i64 0, .int .i64 0, .int .i64 0] 23))
  obtain ⟨Q, hQ⟩ : ∃ Q, wl.heap.size = Q := ⟨_, rfl⟩
  have HXl := Lib.hid (HX8.out.keep (hk9.trans hkl) (by simp))
  have HYl := Lib.hid (HY8.out.keep (hk9.trans hkl) (by simp))
  have HJl := Lib.hid (HJ8.out.keep (hk9.trans hkl) (by simp))
  have HMl := Lib.hid (HM9.out.keep hkl (by simp))
  rw [hQ] at HBL ⊢
  have HI1 := Lib.hid (insB_iff.2 (meet_left X Y))
  have HI2 := Lib.hid (insB_iff.2 (join_left X Y))
  have HI3 := Lib.hid (insB_iff.2 (meet_right X Y))
  have HI4 := Lib.hid (insB_iff.2 (join_right X Y))
  clear HV2 HV3 HV4 HV5 HV6 HV7 HV8 HV9 HC3 HX4 HX6 HX7 HX8 HD5 HY6 HY7 HY8 HJ7 HJ8 HM8 HM9 hk0 hk2 hk3 hk4 hk5 hk6 hk7 hk8 hk9 hkl hQ hD2 hD3 hD4 hD6
  go_loopw [21, 76] (fun _ j wr => ∃ k : Nat, k ≤ 6 ∧ j = .int .i64 k ∧ wr = wl.alloc (.cells #[.int .i64 0, .int .i64 0, .int .i64 0, .int .i64 0, .int .i64 0, .int .i64 0] 23)) (fun _ j _ => 6 - (intOf j).toNat)
  case atStart => exact ⟨0, by omega, rfl, by trivial⟩
  case round =>
    obtain ⟨k, hk, rfl, hwr⟩ := hrel
    by_cases hlt : k < 6
    · have hc : wr.cell? ⟨Q, k, none⟩ = some (.int .i64 0) := by
        rw [hwr, cellAt HBL.out]
        rcases (by omega : k = 0 ∨ k = 1 ∨ k = 2 ∨ k = 3 ∨ k = 4 ∨ k = 5) with h | h | h | h | h | h <;> (subst h; rfl)
      have HWR := Lib.hid hwr
      clear hwr
      go_wp2_with fail
      go_roundw
      case measure => simp [intOf]; omega
      case rel => exact ⟨k + 1, by omega, by go_num, HWR.out⟩
    · have hkm : Keep [] wl wr := by rw [hwr]; exact (Keep.refl _ _).alloc _
      clear hwr
      go_wp2_with (first | (go_at_call 33; (with_reducible refine (inside_at (HMl.out.keep hkm (by simp)) (HXl.out.keep hkm (by simp)) HI1.out).mono ?_); rintro e wA ⟨rfl, hkA⟩; have hA := hkm.trans hkA) | (go_at_call 33; (with_reducible refine (inside_at (HXl.out.keep hA (by simp)) (HJl.out.keep hA (by simp)) HI2.out).mono ?_); rintro e wB ⟨rfl, hkB⟩; have hB := hA.trans hkB) | (go_at_call 33; (with_reducible refine (inside_at (HMl.out.keep hB (by simp)) (HYl.out.keep hB (by simp)) HI3.out).mono ?_); rintro e wC ⟨rfl, hkC⟩; have hC := hB.trans hkC) | (go_at_call 33; (with_reducible refine (inside_at (HYl.out.keep hC (by simp)) (HJl.out.keep hC (by simp)) HI4.out).mono ?_); rintro e wE ⟨rfl, hkE⟩; have hE := hC.trans hkE))
      go_ret
      exact ⟨rfl, hkw.trans hE⟩
end Go.Proofs.Ytkhchfjhmplaiaa
