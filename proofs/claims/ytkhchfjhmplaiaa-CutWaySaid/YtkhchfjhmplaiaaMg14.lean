/- Texts laid together: CW3. -/
import Derived.Test.YtkhchfjhmplaiaaMg13
/- CutWay: the walk. -/
namespace Go
open Go.RowKit
theorem cntL_pre (h : List Ln) (n : Nat) : IsPre h n (cntL h n) := fun _ hp => cntL_at h n hp
theorem cntL_cut {h : List Ln} {n : Nat} (hn : n ≤ h.length) : CutOk h (cntL h n) := ⟨cntL_len h n, fun p hp => by rw [cntL_at h n hp]; exact ⟨by omega, by have := rk_mono (plQ h p) hn; omega⟩⟩
theorem cnt_ints {w : World} {A k : Nat} {h : List Ln} (hb : w.heap[A]? = some (.cells ((cntL h k).map (Value.int .i64)).toArray 3 (0, 0))) (hk : k ≤ 200) : IntsV w (some ⟨A, 0, none⟩) 8 8 (cntL h k) := by
  refine ⟨cntL_len h k, Nat.le_refl _, by decide, fun x hx => ?_, fun _ => ⟨A, 0, rfl, fun i hi => ?_⟩⟩
  · obtain ⟨p, hp, rfl⟩ := List.mem_map.1 hx
    have := rk_le' (plQ h p) k
    exact wf_msg (by omega) (by omega)
  · have := cntL_len h k
    rw [Nat.zero_add, cellAt hb]
    simp [List.getD_eq_getElem?_getD, this, hi]
end Go
namespace Go.Proofs.Ytkhchfjhmplaiaa
open Go.RowKit
theorem _root_.Go.Keep.mono0' {S : List Nat} {w w' : World} (h : Keep [] w w') : Keep S w w' := ⟨h.os, h.tape, h.output, h.size, fun i hi _ => h.block i hi (by simp)⟩
set_option maxRecDepth 100000 in
set_option maxHeartbeats 8000000 in
theorem cutWay_walk (a : Option Addr) (len cap : Nat) (zs : List Int) (n0 : Int) (w : World) (hv : IntsV w a len cap zs) :
    Calls Try.prog 18 #[.slice a len cap, .int .i64 n0] w fun e w' => e = .returned (.bool true) ∧ Keep [] w w' := by
  obtain ⟨h, hh⟩ : ∃ h, hist zs = h := ⟨_, rfl⟩
  obtain ⟨N, hN⟩ : ∃ N, h.length = N := ⟨_, rfl⟩
  have hok : HOk h := by rw [← hh]; exact (hist_inv zs).ok
  have hN2 : N ≤ 200 := by rw [← hN]; exact hok.len
  have HV := Lib.hid hv
  have HOK := Lib.hid hok
  have HH := Lib.hid hh
  have HN : Hid ((hist zs).length = N) := Lib.hid (by rw [hh, hN])
  have HNH := Lib.hid hN
  obtain ⟨K, hKr, hKN⟩ : ∃ K : Nat, restI n0 ((N : Int) + 1) = K ∧ K ≤ N := by
    have h1 := restI_lo n0 (n := (N : Int) + 1) (by omega)
    have h2 := restI_hi n0 (n := (N : Int) + 1) (by omega)
    exact ⟨(restI n0 ((N : Int) + 1)).toNat, by omega, by omega⟩
  have HKR := Lib.hid hKr
  obtain ⟨i3, hi3, hy0, hy1, hy2⟩ := info_parts info3
  have HMK := mk22
  clear hv hok hh hN hKr
  go_enter Try.func18, Try.ntmps18
  go_wp2_with (first | (with_reducible refine Txt.wp_region_text mixed quiet (by decide +kernel) ?_) | (with_reducible refine Txt.text_done (by kernel_rfl) ?_) | (go_at_call 28; refine (cbegun28_any _).mono ?_; rintro e w0 ⟨rfl, hk0⟩) | (go_at_call 20; refine (history_at (HV.out.keep hk0 (by simp)) HN).mono ?_; rintro e w2 ⟨a2, c2, rfl, hk2, hv2⟩; have hr2 := hv2.room; have hm2 := hv2.most; unfold maxLen at hm2; rw [HH.out] at hv2; have HV2 := Lib.hid hv2; have HK2 := Lib.hid (hk0.trans hk2); clear hv2 hk0 hk2) | (go_at_call 21; (with_reducible refine (rest_at HKR (by omega) (by omega)).mono ?_); rintro e w3 ⟨rfl, rfl⟩))
  obtain ⟨A, hA1⟩ : ∃ A, w2.heap.size = A := ⟨_, rfl⟩
  have hA := blk_new w2 (.cells #[.int .i64 0, .int .i64 0, .int .i64 0, .int .i64 0, .int .i64 0, .int .i64 0, .int .i64 0, .int .i64 0] 3)
  rw [hA1] at hA ⊢
  have HA1 := Lib.hid hA1
  have HA0 : Hid ((w2.alloc (.cells #[.int .i64 0, .int .i64 0, .int .i64 0, .int .i64 0, .int .i64 0, .int .i64 0, .int .i64 0, .int .i64 0] 3)).heap[A]? = some (.cells ((cntL h 0).map (Value.int .i64)).toArray 3 (0, 0))) := Lib.hid (by rw [cntL_zero]; exact hA)
  clear hA hA1 HMK HV HKR
  obtain ⟨W1, hW1⟩ : ∃ W1, W1 = w2 := ⟨_, rfl⟩
  subst hW1
  go_loopw [7, 28] (fun v j wr => ∃ k : Nat, k ≤ K ∧ j = .int .i64 k ∧ Hid (Keep [] W1 wr) ∧ Hid (wr.heap[A]? = some (.cells ((cntL h k).map (Value.int .i64)).toArray 3 (0, 0))) ∧ Hid (wr.ownsRow (A + 1) 3 1 v (wayL h k).length ((wayL h k).map (Value.int .i64)))) (fun _ j _ => K - (intOf j).toNat)
  case atStart => exact ⟨0, by omega, rfl, Lib.hid ((Keep.refl _ _).alloc _), HA0, Lib.hid (World.ownsRow_nil _ _ _ _)⟩
  case round =>
    obtain ⟨k, hk, rfl, HKK, HB, HO⟩ := hrel
    by_cases hlt : k < K
    · have hlh : k < h.length := by rw [HNH.out]; omega
      have HLH := Lib.hid hlh
      have he := HOK.out.ev k hlh
      obtain ⟨b2, o2, rfl, c0, c1, c2'⟩ := (HV2.out.keep HKK.out (by simp)).at_ (show k < N by omega)
      have hsu := fun q => @cntL_succ h k q
      have hw1 := fun (h3 : (lat h k).g ≠ 3) (h2 : (lat h k).g ≠ 2) => wayL_other h3 h2
      have hw2 := fun (h2 : (lat h k).g = 2) => wayL_send HOK.out hlh h2
      have hw3 := fun (h3 : (lat h k).g = 3) => wayL_take h3
      have hw4 := fun (h3 : (lat h k).g = 3) => wayL_there HOK.out hlh h3
      obtain ⟨⟨q', gg, u⟩, hL⟩ : ∃ L, lat h k = L := ⟨_, rfl⟩
      rw [hL] at he c0 c1 c2' hsu hw1 hw2 hw3 hw4
      dsimp only at he c0 c1 c2' hsu hw1 hw2 hw3 hw4
      clear hL
      obtain ⟨q, rfl⟩ : ∃ q : Nat, q' = q := ⟨q'.toNat, by omega⟩
      have hq8 : q < 8 := by omega
      have HSU := Lib.hid (hsu q rfl hq8)
      have HW1 := Lib.hid hw1
      have HW2 := Lib.hid hw2
      have HW3 := Lib.hid hw3
      have HW4 := Lib.hid hw4
      have hca : wr.cell? ⟨A, q, none⟩ = some (.int .i64 (rk (plQ h q) k)) := by
        rw [cellAt HB.out, ← cntL_at h k hq8]
        have := cntL_len h k
        simp [List.getD_eq_getElem?_getD, this, hq8]
      have hza := thaw HB.out
      have hrk := rk_le' (plQ h q) k
      obtain ⟨m, hm⟩ : ∃ m, rk (plQ h q) k = m := ⟨_, rfl⟩
      rw [hm] at hca HSU hrk
      have hbl := lt_of_blk HB.out
      obtain ⟨E, hE⟩ : ∃ E, wr.heap.size = E := ⟨_, rfl⟩
      have hkE : Keep [] wr (wr.alloc (.cells #[.int .i64 q, .int .i64 gg, .int .i64 u] 27)) := (Keep.refl _ _).alloc _
      have hca2 := hkE.cell hca (by simp)
      have hza2 := thaw (hkE.at HB.out (by simp))
      have hwl := wayL_len h k
      obtain ⟨M, hM⟩ : ∃ M, (wayL h k).length = M := ⟨_, rfl⟩
      rw [hM] at HO hwl
      have HM := Lib.hid hM
      have hgA : ∀ g, u7.ownBlock = some g → A + 1 ≤ g ∧ g < E := fun g hg => by have := ownLtW HO.out g hg; rw [hE] at this; exact ⟨this.1, this.2.1⟩
      have HGA := Lib.hid hgA
      have HX : Hid (((wr.alloc (.cells #[.int .i64 q, .int .i64 gg, .int .i64 u] 27)).setCell ⟨A, q, none⟩ (.int .i64 ((m : Int) + 1))).heap[A]? = some (.cells ((cntL h (k + 1)).map (Value.int .i64)).toArray 3 (0, 0))) := Lib.hid (by
        rw [HSU.out, blk_setCell, if_pos rfl, hkE.at HB.out (by simp)]
        simp only [Option.map_some, Obj.put_cells, List.setIfInBounds_toArray, List.map_set])
      have HKX : Hid (Keep [A] wr ((wr.alloc (.cells #[.int .i64 q, .int .i64 gg, .int .i64 u] 27)).setCell ⟨A, q, none⟩ (.int .i64 ((m : Int) + 1)))) := Lib.hid (((Keep.refl [A] wr).alloc _).setCell (.inl (by simp)) _)
      have HKX2 : Hid (Keep [] W1 ((wr.alloc (.cells #[.int .i64 q, .int .i64 gg, .int .i64 u] 27)).setCell ⟨A, q, none⟩ (.int .i64 ((m : Int) + 1)))) := Lib.hid ((HKK.out.alloc _).setCell (.inr (by rw [HA1.out]; exact Nat.le_refl _)) _)
      have HOX : Hid (((wr.alloc (.cells #[.int .i64 q, .int .i64 gg, .int .i64 u] 27)).setCell ⟨A, q, none⟩ (.int .i64 ((m : Int) + 1))).ownsRow (A + 1) 3 1 u7 M ((wayL h k).map (Value.int .i64))) := Lib.hid (own_keep HO.out HKX.out (fun g hg hmm => by have := (hgA g hg).1; have := List.mem_singleton.1 hmm; omega))
      have HEX : Hid (((wr.alloc (.cells #[.int .i64 q, .int .i64 gg, .int .i64 u] 27)).setCell ⟨A, q, none⟩ (.int .i64 ((m : Int) + 1))).heap[E]? = some (.cells #[.int .i64 q, .int .i64 gg, .int .i64 u] 27 (0, 0))) := Lib.hid (by
        rw [blk_setCell, if_neg (by omega), ← hE]; exact blk_new wr _)
      have HSZ : Hid (A + 1 ≤ ((wr.alloc (.cells #[.int .i64 q, .int .i64 gg, .int .i64 u] 27)).setCell ⟨A, q, none⟩ (.int .i64 ((m : Int) + 1))).heap.size) := Lib.hid (by have := HKX.out.size; omega)
      obtain ⟨x0, x1, x2, -⟩ := row3 HEX.out
      obtain ⟨WX, hWX⟩ : ∃ WX, (wr.alloc (.cells #[.int .i64 q, .int .i64 gg, .int .i64 u] 27)).setCell ⟨A, q, none⟩ (.int .i64 ((m : Int) + 1)) = WX := ⟨_, rfl⟩
      clear hsu hm hw1 hw2 hw3 hw4 hgA hkE hM
      go_upto_region 11 with (first | (with_reducible refine Txt.wp_region_text mixed quiet (by decide +kernel) ?_) | (with_reducible refine Txt.text_done (by kernel_rfl) ?_))
      rw [hWX] at HX HKX HKX2 HOX HEX HSZ x0 x1 x2
      clear hWX hca hca2 hza hza2 hbl HB HO
      have hMl : M ≤ 200 := by omega
      rcases (by omega : gg = 2 ∨ gg = 3 ∨ gg = 1) with rfl | rfl | rfl
      · have hew := HW2.out rfl
        have HEW := Lib.hid hew
        clear hew
        go_wp2_with (first | (at_builtin; refine wpList_append_own _ rfl _ _ 22 rfl (A + 1) 3 i3 (.int .i64 0) 1 8 Try.underlying22 hi3 hy0 hy1 hy2 rfl (by decide) u7 M ((wayL h k).map (Value.int .i64)) rfl (own_keep HOX.out ((Keep.refl [] _).alloc _) (by simp)) ⟨_, 0, none⟩ 1 1 [.int .i64 u] rfl rfl (cells_new _ _ _ _) (by intro y hy; simp at hy; subst hy; rfl) (by unfold maxLen; omega) (by omega) (Nat.le_trans HSZ.out ((Keep.refl [] _).alloc _).size) ?_; intro v6 w6 hown6 hgr6 _; have HO6 := Lib.hid hown6; have hk6 : Keep u7.ownBlock.toList WX w6 := ((Keep.refl [] WX).alloc _).mono0'.trans (Keep.ofGrown hgr6 (S := u7.ownBlock.toList) (fun k hk => by simp [hk])); have HK6 := Lib.hid hk6; clear hown6 hgr6 hk6) | (with_reducible refine Txt.wp_region_text mixed quiet (by decide +kernel) ?_) | (with_reducible refine Txt.text_done (by kernel_rfl) ?_))
        exact ⟨⟨k + 1, hlt, by go_num, Lib.hid (HKX2.out.call HK6.out (fun g hg => .inr (by have := (HGA.out g (by simpa using hg)).1; have := HA1.out; omega))), Lib.hid (HK6.out.at HX.out (fun hm => by have := (HGA.out A (by simpa using hm)).1; omega)), Lib.hid (by have h9 := HO6.out; rw [HEW.out]; simpa [HM.out] using h9)⟩, by simp [intOf]; omega⟩
      · have hew := HW3.out rfl
        have hmem := HW4.out rfl
        have HEW := Lib.hid hew
        have h0M : 0 < M := by have := List.length_pos_of_mem hmem; have := HM.out; omega
        have HDL := Lib.hid (delete54_own HEX.out HOX.out h0M (by omega))
        clear hew hmem
        go_wp2_with (first | (with_reducible refine Txt.wp_region_text mixed quiet (by decide +kernel) ?_) | (with_reducible refine Txt.text_done (by kernel_rfl) ?_) | (go_at_call 54; (with_reducible refine HDL.out.mono ?_); rintro e w6 ⟨v6, rfl, ho6, hk6⟩; have HO6 := Lib.hid ho6; have HK6 := Lib.hid hk6; clear ho6 hk6))
        exact ⟨⟨k + 1, hlt, by go_num, Lib.hid (HKX2.out.call HK6.out (fun g hg => .inr (by have := (HGA.out g (by simpa using hg)).1; have := HA1.out; omega))), Lib.hid (HK6.out.at HX.out (fun hm => by have := (HGA.out A (by simpa using hm)).1; omega)), Lib.hid (by rw [HEW.out]; exact HO6.out)⟩, by simp [intOf]; omega⟩
      · have hew := HW1.out (by decide) (by decide)
        have HEW := Lib.hid hew
        clear hew
        go_wp2_with (first | (with_reducible refine Txt.wp_region_text mixed quiet (by decide +kernel) ?_) | (with_reducible refine Txt.text_done (by kernel_rfl) ?_))
        exact ⟨⟨k + 1, hlt, by go_num, HKX2, HX, Lib.hid (by rw [HEW.out, HM.out]; exact HOX.out)⟩, by simp [intOf]; omega⟩
    · obtain rfl : k = K := by omega
      have hKh : k ≤ h.length := by rw [HNH.out]; exact hKN
      have hwl := wayL_len h k
      have hgA : ∀ g, u7.ownBlock = some g → A + 1 ≤ g := fun g hg => (ownLtW HO.out g hg).1
      have HSO := Lib.hid (sort56_own HO.out (by omega))
      have HCI := Lib.hid (cnt_ints HB.out (by omega))
      have HGA := Lib.hid hgA
      have HCUT := Lib.hid (cntL_cut hKh)
      have HWH := Lib.hid (whole_pre' HOK.out (cntL_pre h k))
      have HWF : Hid (∀ x ∈ sortI (wayL h k), (Lit.int .i64 x).wf = true) := Lib.hid (fun x hx => wayL_wf HOK.out hKh x ((sortI_perm _).mem_iff.1 hx))
      have HSAME : Hid (∀ out : List Int, out.Nodup → (∀ x, x ∈ out ↔ goes h (cntL h k) x) → sortI out = sortI (wayL h k)) := Lib.hid (fun out hn hm => sorted_ext ((sortI_perm out).nodup_iff.2 hn) ((sortI_perm _).nodup_iff.2 (wayL_nodup HOK.out hKh)) (sortI_sorted _) (sortI_sorted _) (fun x => by rw [(sortI_perm out).mem_iff, (sortI_perm _).mem_iff, hm x]; exact goes_pre HOK.out (cntL_pre h k) hKh))
      clear hgA HO HB hwl
      go_wp2_with (first | (with_reducible refine Txt.wp_region_text mixed quiet (by decide +kernel) ?_) | (with_reducible refine Txt.text_done (by kernel_rfl) ?_) | (go_at_call 56; (with_reducible refine HSO.out.mono ?_); rintro e w3 ⟨rfl, ho3, hk3⟩; obtain ⟨a3, c3, rfl, hv3⟩ := IntsV.ofOwn0 ho3 HWF.out; have HI3 := Lib.hid hv3; have HK3 := Lib.hid (HKK.out.call hk3 (fun g hg => .inr (by have := HGA.out g (by simpa using hg); have := HA1.out; omega))); have HC3 := Lib.hid (HCI.out.keep hk3 (fun x hx hm => by cases hx; have := HGA.out A (by simpa using hm); omega)); have HL3 := Lib.hid (HV2.out.keep HK3.out (by simp)); clear ho3 hk3 hv3) | (go_at_call 32; (with_reducible refine (whole32_at HL3.out HOK.out HC3.out HCUT.out HWH.out).mono ?_); rintro e w4 ⟨rfl, hk4⟩; have HK4 := Lib.hid hk4; have HC4 := Lib.hid (HC3.out.keep hk4 (by simp)); have HL4 := Lib.hid (HL3.out.keep hk4 (by simp)); clear hk4) | (go_at_call 57; (with_reducible refine (way57_any HL4.out HOK.out HC4.out HCUT.out).mono ?_); rintro e w5 ⟨v5, out, rfl, ho5, hn5, hm5, hk5⟩; have hs5 := HSAME.out out hn5 hm5; rw [hs5] at ho5; obtain ⟨a5, c5, rfl, hv5⟩ := IntsV.ofOwn0 ho5 HWF.out; have HI5 := Lib.hid hv5; have HK5 := Lib.hid hk5; have HI3b := Lib.hid (HI3.out.keep (HK4.out.trans hk5) (by simp)); clear ho5 hn5 hm5 hk5 hs5 hv5) | (go_at_call 34; (with_reducible refine (equal_at HI5.out HI3b.out (decide_eq_true rfl)).mono ?_); rintro e w6 ⟨rfl, hk6⟩; have HK6 := Lib.hid hk6; clear hk6))
      go_ret
      exact ⟨by first | rfl | (simp; done), (((HK2.out.trans HK3.out).trans HK4.out).trans HK5.out).trans HK6.out⟩
end Go.Proofs.Ytkhchfjhmplaiaa
