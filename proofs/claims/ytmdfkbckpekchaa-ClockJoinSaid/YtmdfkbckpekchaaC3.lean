import Derived.Test.YtmdfkbckpekchaaC2
namespace Go
theorem eqTo_iff {xs ys : List Int} (h : xs.length = ys.length) : eqTo xs ys xs.length = true ↔ xs = ys := by
  constructor
  · intro he
    refine List.ext_getElem h fun i h1 h2 => ?_
    have := List.all_eq_true.1 he i (List.mem_range.2 h1)
    simpa [List.getD_eq_getElem?_getD, h1, h2] using this
  · rintro rfl
    exact List.all_eq_true.2 fun i _ => by simp
theorem lowTo_succ (zs : List Int) (k : Nat) (h : k < zs.length) : lowL (zs.take (k + 1)) = lowL (zs.take k) ++ [max (zs.getD k 0) 0] := by
  rw [List.take_succ_eq_append_getElem h, lowL, lowL, List.map_append]
  congr 1
  simp [List.getD_eq_getElem?_getD, h]
end Go
namespace Go.Proofs.Ytmdfkbckpekchaa
open Go.RowKit
set_option maxHeartbeats 1000000 in
theorem equal_any {a1 a2 : Option Addr} {n1 c1 n2 c2 : Nat} {xs ys : List Int} {w : World} (hx : IntsV w a1 n1 c1 xs) (hy : IntsV w a2 n2 c2 ys) :
    Calls Try.prog 13 #[.slice a1 n1 c1, .slice a2 n2 c2] w fun e w' => e = .returned (.bool (decide (xs = ys))) ∧ Keep [] w w' := by
  have hl1 := hx.len
  have hl2 := hy.len
  have hb1 := hx.room
  have hb2 := hx.most
  unfold maxLen at hb2
  have HX := Lib.hid hx
  have HY := Lib.hid hy
  have HL1 := Lib.hid hl1
  have HL2 := Lib.hid hl2
  clear hx hy hl1 hl2
  by_cases hn : n1 = n2
  · subst hn
    go_enter Try.func13, Try.ntmps13
    go_wp2_with fail
    go_loopw [13] (fun i wr => ∃ k : Nat, k ≤ n1 ∧ i = .int .i64 k ∧ Keep [] w wr ∧ Hid (eqTo xs ys k = true)) (fun i _ => n1 - (intOf i).toNat)
    case atStart => exact ⟨0, by omega, rfl, Keep.refl _ _, rfl⟩
    case round =>
      obtain ⟨k, hk, rfl, hkw, hge⟩ := hrel
      by_cases hlt : k < n1
      · have e2 := Lib.hid (eqTo_succ xs ys k)
        have e3 := Lib.hid (@eqTo_no xs ys k n1 hlt)
        obtain ⟨b1, o1, rfl, hc1⟩ := HX.out.cells (by omega)
        obtain ⟨b2, o2, rfl, hc2⟩ := HY.out.cells (by omega)
        have hd1 := hkw.cell (hc1 k hlt) (by simp)
        have hd2 := hkw.cell (hc2 k hlt) (by simp)
        clear hc1 hc2 HX HY
        generalize xs.getD k 0 = x at *
        generalize ys.getD k 0 = y at *
        go_wp2_with (first | (with_reducible refine Txt.wp_region_text mixed quiet (by kernel_rfl) ?_) | (with_reducible refine Txt.text_done (by kernel_rfl) ?_))
        all_goals first | (go_ret; exact ⟨ret_bool (by
            have hne : ¬ xs = ys := fun he => by
              have h1 := (eqTo_iff (HL1.out.trans HL2.out.symm)).2 he
              rw [HL1.out, e3.out (by simp_all)] at h1
              cases h1
            simp [hne]), hkw.drew⟩) | go_roundw
        all_goals first | (case rel => exact ⟨k + 1, by omega, by go_num, hkw.drew, by show eqTo xs ys (k + 1) = true; rw [e2.out, hge.out]; simp_all⟩) | (case measure => simp [intOf]; omega) | skip
      · have hkn := Lib.hid (show n1 = k by omega)
        go_wp2_with fail
        go_ret
        exact ⟨ret_bool (by
          have he := (eqTo_iff (HL1.out.trans HL2.out.symm)).1 (by rw [HL1.out, hkn.out]; exact hge.out)
          simp [he]), hkw⟩
  · have hne : ((n1 : Int) != (n2 : Int)) = true := by rw [bne_iff_ne]; omega
    go_enter Try.func13, Try.ntmps13
    go_wp2_with fail
    go_ret
    exact ⟨ret_bool (by
      have : ¬ xs = ys := fun he => hn (by rw [← HL1.out, ← HL2.out, he])
      simp [this]), Keep.refl _ _⟩
set_option maxHeartbeats 1000000 in
theorem low_any {a1 : Option Addr} {n1 c1 : Nat} {xs : List Int} {w : World} (hx : IntsV w a1 n1 c1 xs) (hr1 : n1 * 8 ≤ 140737488351232) :
    Calls Try.prog 17 #[.slice a1 n1 c1] w fun e w' => ∃ a c, e = .returned (.slice a n1 c) ∧ Keep [] w w' ∧ IntsV w' a n1 c (lowL xs) := by
  have HL := Lib.hid hx.len
  have HX := Lib.hid hx
  clear hx
  obtain ⟨i0, hi, hz0, hz1, hz2⟩ := info_parts info3
  go_enter Try.func17, Try.ntmps17
  go_wp2_with fail
  go_loopw [3, 8] (fun out i wr => ∃ k : Nat, k ≤ n1 ∧ i = .int .i64 k ∧ Keep [] w wr ∧ wr.ownsRow w.heap.size 3 1 out k ((lowL (xs.take k)).map (Value.int .i64))) (fun _ i _ => n1 - (intOf i).toNat)
  case atStart => exact ⟨0, by omega, rfl, Keep.refl _ _, World.ownsRow_nil _ _ _ _⟩
  case round =>
    obtain ⟨k, hk, rfl, hkw, hown⟩ := hrel
    by_cases hlt : k < n1
    · have e1 := Lib.hid (lowTo_succ xs k (by rw [HL.out]; omega))
      obtain ⟨b1, o1, rfl, hc1⟩ := HX.out.cells (by omega)
      have hd1 := hkw.cell (hc1 k hlt) (by simp)
      clear hc1 HX
      have HOWN := Lib.hid hown
      clear hown
      have hsz := hkw.size
      generalize lowL (xs.take k) = js at *
      generalize xs.getD k 0 = x at *
      by_cases hxy : x < 0
      · have HMX := Lib.hid (show max x 0 = 0 by omega)
        go_wp2_with (first | (at_builtin; refine wpList_append_own _ rfl _ _ 22 rfl w.heap.size 3 i0 (.int .i64 0) 1 8 Try.underlying22 hi hz0 hz1 hz2 rfl (by decide) _ _ _ rfl (HOWN.out.alloc _) ⟨wr.heap.size, 0, none⟩ 1 1 [.int .i64 0] rfl rfl (cell_one_new _ _ _) (by intro u hu; simp at hu; subst hu; rfl) (by unfold maxLen; omega) (by omega) (by simp; omega) ?_; intro v' w1 hown1 hgr1 _))
        go_roundw
        case rel => exact ⟨k + 1, by omega, by go_num, (hkw.alloc _).grown hgr1 (fun b hb => .inr (HOWN.out.lt b hb).1), by rw [e1.out, HMX.out, List.map_append]; exact hown1⟩
        case measure => simp [intOf]; omega
      · have HMX := Lib.hid (show max x 0 = x by omega)
        go_wp2_with (first | (at_builtin; refine wpList_append_own _ rfl _ _ 22 rfl w.heap.size 3 i0 (.int .i64 0) 1 8 Try.underlying22 hi hz0 hz1 hz2 rfl (by decide) _ _ _ rfl (HOWN.out.alloc _) ⟨wr.heap.size, 0, none⟩ 1 1 [.int .i64 x] rfl rfl (cell_one_new _ _ _) (by intro u hu; simp at hu; subst hu; rfl) (by unfold maxLen; omega) (by omega) (by simp; omega) ?_; intro v' w1 hown1 hgr1 _))
        go_roundw
        case rel => exact ⟨k + 1, by omega, by go_num, (hkw.alloc _).grown hgr1 (fun b hb => .inr (HOWN.out.lt b hb).1), by rw [e1.out, HMX.out, List.map_append]; exact hown1⟩
        case measure => simp [intOf]; omega
    · have HK := Lib.hid (show k = n1 by omega)
      go_wp2_with fail
      go_ret
      have hz : lowL (xs.take k) = lowL xs := by rw [HK.out, ← HL.out, List.take_length]
      obtain ⟨a, c, hv, hi⟩ := IntsV.ofOwn (zs := lowL (xs.take k)) hown (fun z hz => by
        obtain ⟨j, hj, rfl⟩ := List.mem_map.1 hz
        exact wf_max (HX.out.wf j (List.mem_of_mem_take hj)) (by decide))
      exact ⟨a, c, by rw [← HK.out, ← hv]; rfl, hkw, by rw [← hz, ← HK.out]; exact hi⟩
end Go.Proofs.Ytmdfkbckpekchaa
