import Derived.Test.YtkhchfjhmplaiaaHRst
import Derived.Test.YtkhchfjhmplaiaaHP1
import Derived.Test.YtkhchfjhmplaiaaM1
import Derived.Outline
namespace Go.Proofs.Ytkhchfjhmplaiaa
open Go.RowKit
theorem zeroB (w : World) : (zeroValue 4).run Try.prog w = .ok (.bool false) w := by kernel_rfl
set_option maxRecDepth 100000 in
set_option maxHeartbeats 2000000 in
theorem check_ok {a : Option Addr} {n c : Nat} {h : List Ln} {w : World} (hv : LnsV w a n c h) (hk : HOk h) :
    Calls Try.prog 51 #[.slice a n c] w fun e w' => e = .returned (.int .i64 0) ∧ Keep [] w w' := by
  have hmm := @run_makeMap Try.prog
  have hn2 : n ≤ 200 := by have := hk.len; have := hv.len; omega
  have HV := Lib.hid hv
  have HK := Lib.hid hk
  have HL := Lib.hid hv.len
  clear hv hk
  go_enter Try.func51, Try.ntmps51
  go_wp2_with fail
  go_loopw [14] (fun i wr => ∃ k : Nat, k ≤ n ∧ i = .int .i64 k ∧ Keep [] w wr ∧ Hid (MapF wr Try.prog 3 w.heap.size k (markF h 2 k)) ∧ Hid (MapF wr Try.prog 3 (w.heap.size + 1) k (markF h 3 k))) (fun i _ => n - (intOf i).toNat)
  case atStart =>
    have e2 : markF h 2 0 = fun _ => none := funext fun x => by simp [markF, saidB]
    have e3 : markF h 3 0 = fun _ => none := funext fun x => by simp [markF, saidB]
    refine ⟨0, by omega, rfl, ((Keep.refl _ _).alloc _).alloc _, Lib.hid ?_, Lib.hid ?_⟩
    · rw [e2]; exact (MapF.made w Try.prog 3).keep ((Keep.refl [] _).alloc _) (by simp)
    · rw [e3]; have h9 := MapF.made (w.alloc (.map #[] 0)) Try.prog 3; rwa [show (w.alloc (.map #[] 0)).heap.size = w.heap.size + 1 by simp] at h9
  case round =>
    obtain ⟨k, hk, rfl, hkw, HS, HT⟩ := hrel
    by_cases hlt : k < n
    · have hlk : k < h.length := by rw [HL.out]; exact hlt
      have he := HK.out.ev k hlk
      obtain ⟨b, off, rfl, c0, c1, c2⟩ := (HV.out.keep hkw (by simp)).at_ hlt
      have hsend := Lib.hid (mark_send HK.out hlk)
      have htake := Lib.hid (mark_take HK.out hlk)
      have hsame2 := Lib.hid (markF_same (h := h) (g := 2) (k := k))
      have hsame3 := Lib.hid (markF_same (h := h) (g := 3) (k := k))
      have hput2 := Lib.hid (markF_put (h := h) (g := 2) (k := k))
      have hput3 := Lib.hid (markF_put (h := h) (g := 3) (k := k))
      have hwf := wf_msg he.2.2.2.2.1 he.2.2.2.2.2
      generalize lat h k = L at *
      obtain ⟨q, g, u⟩ := L
      dsimp only at *
      have HWF := Lib.hid hwf
      clear hwf
      obtain ⟨b1, b2, b3, b4⟩ : decide (g < 1) = false ∧ decide (3 < g) = false ∧ decide (q < 0) = false ∧ decide (8 ≤ q) = false := by simp; omega
      obtain ⟨b5, b6⟩ : decide (u < 0) = false ∧ decide (999 < u) = false := by simp; omega
      rcases (by omega : g = 1 ∨ g = 2 ∨ g = 3) with hg | hg | hg
      · subst hg
        have HS1 : Hid (MapF (wr.alloc (.cells #[.int .i64 q, .int .i64 1, .int .i64 u] 27)) Try.prog 3 w.heap.size (k + 1) (markF h 2 (k + 1))) := Lib.hid (by rw [hsame2.out (by decide)]; exact (HS.out.keep ((Keep.refl [] _).alloc _) (by simp)).mono (by omega))
        have HT1 : Hid (MapF (wr.alloc (.cells #[.int .i64 q, .int .i64 1, .int .i64 u] 27)) Try.prog 3 (w.heap.size + 1) (k + 1) (markF h 3 (k + 1))) := Lib.hid (by rw [hsame3.out (by decide)]; exact (HT.out.keep ((Keep.refl [] _).alloc _) (by simp)).mono (by omega))
        go_wp2_with (first | (with_reducible refine Txt.wp_region_text mixed quiet (by decide +kernel) ?_) | (with_reducible refine Txt.text_done (by kernel_rfl) ?_))
        go_roundw
        case measure => simp [intOf]; omega
        case rel => exact ⟨k + 1, by omega, by go_num, hkw.alloc _, HS1, HT1⟩
      · subst hg
        have hn0 := hsend.out rfl
        have HSa := Lib.hid (HS.out.keep ((Keep.refl [] _).alloc (.cells #[.int .i64 q, .int .i64 2, .int .i64 u] 27)) (by simp))
        have HTa := Lib.hid (HT.out.keep ((Keep.refl [] _).alloc (.cells #[.int .i64 q, .int .i64 2, .int .i64 u] 27)) (by simp))
        go_wp2_with (first | (with_reducible refine Txt.wp_region_text mixed quiet (by decide +kernel) ?_) | (with_reducible refine Txt.text_done (by kernel_rfl) ?_) | (at_lookup; refine wpList_lookup_f _ rfl _ _ 103 rfl 3 4 Try.underlying103 Try.underlying3 (.bool false) (zeroB _) w.heap.size k (markF h 2 k) rfl HSa.out u rfl HWF.out ?_) | (at_mapUpdate; refine wpList_update_f _ rfl _ _ _ 103 rfl 3 4 Try.underlying103 Try.underlying3 w.heap.size k (markF h 2 k) rfl HSa.out (by unfold maxLen; omega) u (.bool true) rfl rfl HWF.out ?_; intro w2 hm2 hgr2; have HM2 := Lib.hid hm2; have HGR := Lib.hid hgr2; clear hm2 hgr2))
        go_roundw
        case measure => simp [intOf]; omega
        case rel =>
          refine ⟨k + 1, by omega, by go_num, (hkw.alloc (.cells #[.int .i64 q, .int .i64 2, .int .i64 u] 27)).grown HGR.out (fun x hx => by cases hx; exact .inr (Nat.le_refl _)), Lib.hid ?_, Lib.hid ?_⟩
          · rw [hput2.out (by trivial)]; exact HM2.out
          · rw [hsame3.out (by decide)]
            exact (HTa.out.keep (Keep.ofGrown (S := [w.heap.size]) HGR.out (fun x hx => by cases hx; simp)) (by simp)).mono (by omega)
      · subst hg
        obtain ⟨hn0, hn1⟩ := htake.out rfl
        have HSa := Lib.hid (HS.out.keep ((Keep.refl [] _).alloc (.cells #[.int .i64 q, .int .i64 3, .int .i64 u] 27)) (by simp))
        have HTa := Lib.hid (HT.out.keep ((Keep.refl [] _).alloc (.cells #[.int .i64 q, .int .i64 3, .int .i64 u] 27)) (by simp))
        go_wp2_with (first | (with_reducible refine Txt.wp_region_text mixed quiet (by decide +kernel) ?_) | (with_reducible refine Txt.text_done (by kernel_rfl) ?_) | (at_lookup; refine wpList_lookup_f _ rfl _ _ 103 rfl 3 4 Try.underlying103 Try.underlying3 (.bool false) (zeroB _) (w.heap.size + 1) k (markF h 3 k) rfl HTa.out u rfl HWF.out ?_) | (at_lookup; refine wpList_lookup_f _ rfl _ _ 103 rfl 3 4 Try.underlying103 Try.underlying3 (.bool false) (zeroB _) w.heap.size k (markF h 2 k) rfl HSa.out u rfl HWF.out ?_) | (at_mapUpdate; refine wpList_update_f _ rfl _ _ _ 103 rfl 3 4 Try.underlying103 Try.underlying3 (w.heap.size + 1) k (markF h 3 k) rfl HTa.out (by unfold maxLen; omega) u (.bool true) rfl rfl HWF.out ?_; intro w2 hm2 hgr2; have HM2 := Lib.hid hm2; have HGR := Lib.hid hgr2; clear hm2 hgr2))
        go_roundw
        case measure => simp [intOf]; omega
        case rel =>
          refine ⟨k + 1, by omega, by go_num, (hkw.alloc (.cells #[.int .i64 q, .int .i64 3, .int .i64 u] 27)).grown HGR.out (fun x hx => by cases hx; exact .inr (Nat.le_succ _)), Lib.hid ?_, Lib.hid ?_⟩
          · rw [hsame2.out (by decide)]
            exact (HSa.out.keep (Keep.ofGrown (S := [(w.heap.size + 1)]) HGR.out (fun x hx => by cases hx; simp)) (by simp)).mono (by omega)
          · rw [hput3.out (by trivial)]; exact HM2.out
    · go_wp2_with fail
      go_ret
      exact ⟨rfl, hkw⟩
end Go.Proofs.Ytkhchfjhmplaiaa
