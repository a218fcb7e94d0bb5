import Derived.Test.YtkhchfjhmplaiaaH1
import Derived.Test.YtkhchfjhmplaiaaHP2
namespace Go.Proofs.Ytkhchfjhmplaiaa
open Go.RowKit
set_option maxHeartbeats 400000 in
theorem part_any {a : Option Addr} {n c : Nat} {zs : List Int} {w : World} (hv : IntsV w a n c zs) (k : Nat) :
    Calls Try.prog 62 #[.slice a n c, .int .i64 k] w fun e w' => e = .returned (.int .i64 (zs.getD k 0)) ∧ w = w' := by
  have hl := hv.len
  by_cases hk : k < n
  · obtain ⟨b, off, rfl, hc⟩ := hv.cells (by omega)
    have hck := hc k hk
    clear hc hv hl
    generalize zs.getD k 0 = z at *
    go_enter Try.func62, Try.ntmps62
    go_wp2_with fail
    go_ret
    exact ⟨rfl, rfl⟩
  · have hz : zs.getD k 0 = 0 := by simp [List.getD_eq_getElem?_getD, List.getElem?_eq_none (show zs.length ≤ k by omega)]
    rw [hz]
    clear hz hv hl
    go_enter Try.func62, Try.ntmps62
    go_wp2_with fail
    go_ret
    exact ⟨rfl, rfl⟩
set_option maxHeartbeats 1000000 in
theorem less_any {a1 a2 : Option Addr} {n1 c1 n2 c2 : Nat} {xs ys : List Int} {w : World} (hx : IntsV w a1 n1 c1 xs) (hy : IntsV w a2 n2 c2 ys) :
    Calls Try.prog 27 #[.slice a1 n1 c1, .slice a2 n2 c2] w fun e w' => e = .returned (.bool (lessL xs ys)) ∧ w = w' := by
  have hM : max xs.length ys.length = max n1 n2 := by rw [hx.len, hy.len]
  have hM2 : max n1 n2 ≤ maxLen := by have := hx.room; have := hx.most; have := hy.room; have := hy.most; omega
  unfold maxLen at hM2
  have HX := Lib.hid hx
  have HY := Lib.hid hy
  have HM := Lib.hid hM
  clear hx hy hM
  go_enter Try.func27, Try.ntmps27
  go_wp2_with fail
  all_goals
    go_loop [5, 14] (fun ls i => ∃ k : Nat, k ≤ max n1 n2 ∧ i = .int .i64 k ∧ ls = .bool (ltTo xs ys k) ∧ Hid (geTo xs ys k = true)) (fun _ i => max n1 n2 - (intOf i).toNat)
    case atStart => exact ⟨0, by omega, rfl, rfl, rfl⟩
    case round =>
      obtain ⟨k, hk, rfl, rfl, hge⟩ := hrel
      by_cases hlt : k < max n1 n2
      · have e1 := Lib.hid (ltTo_succ xs ys k)
        have e2 := Lib.hid (geTo_succ xs ys k)
        have e3 := Lib.hid (@geTo_no xs ys k (max n1 n2) hlt)
        generalize hb : ltTo xs ys k = b at *
        have HB := Lib.hid hb
        clear hb
        have hpx := Lib.hid (part_any HX.out k)
        have hpy := Lib.hid (part_any HY.out k)
        generalize xs.getD k 0 = x at *
        generalize ys.getD k 0 = y at *
        go_wp2_with (first | (go_at_call 62; (with_reducible refine (hpx.out).mono ?_); rintro e w' ⟨rfl, rfl⟩) | (go_at_call 62; (with_reducible refine (hpy.out).mono ?_); rintro e w' ⟨rfl, rfl⟩))
        · go_ret
          exact ⟨ret_bool (by rw [lessL, HM.out, e3.out (by assumption)]; rfl), rfl⟩
        all_goals
          go_round
          case rel => exact ⟨k + 1, by omega, by go_num, by rw [e1.out]; simp_all, by show geTo xs ys (k + 1) = true; rw [e2.out, hge.out]; simp_all⟩
          case measure => simp [intOf]; omega
      · go_wp2_with fail
        go_ret
        exact ⟨ret_bool (by rw [lessL, HM.out, show max n1 n2 = k by omega, hge.out]; rfl), rfl⟩
set_option maxHeartbeats 1000000 in
theorem equal_any {a1 a2 : Option Addr} {n1 c1 n2 c2 : Nat} {xs ys : List Int} {w : World} (hx : IntsV w a1 n1 c1 xs) (hy : IntsV w a2 n2 c2 ys) :
    Calls Try.prog 34 #[.slice a1 n1 c1, .slice a2 n2 c2] w fun e w' => e = .returned (.bool (decide (xs = ys))) ∧ Keep [] w w' := by
  have hl1 := hx.len
  have hl2 := hy.len
  have hb1 := hx.room
  have hb2 := hx.most
  unfold maxLen at hb2
  have HX := Lib.hid hx
  have HY := Lib.hid hy
  have HL1 := Lib.hid hl1
  have HL2 := Lib.hid hl2
  clear hx hy hl1 hl2
  by_cases hn : n1 = n2
  · subst hn
    go_enter Try.func34, Try.ntmps34
    go_wp2_with fail
    go_loopw [13] (fun i wr => ∃ k : Nat, k ≤ n1 ∧ i = .int .i64 k ∧ Keep [] w wr ∧ Hid (eqTo xs ys k = true)) (fun i _ => n1 - (intOf i).toNat)
    case atStart => exact ⟨0, by omega, rfl, Keep.refl _ _, rfl⟩
    case round =>
      obtain ⟨k, hk, rfl, hkw, hge⟩ := hrel
      by_cases hlt : k < n1
      · have e2 := Lib.hid (eqTo_succ xs ys k)
        have e3 := Lib.hid (@eqTo_no xs ys k n1 hlt)
        obtain ⟨b1, o1, rfl, hc1⟩ := HX.out.cells (by omega)
        obtain ⟨b2, o2, rfl, hc2⟩ := HY.out.cells (by omega)
        have hd1 := hkw.cell (hc1 k hlt) (by simp)
        have hd2 := hkw.cell (hc2 k hlt) (by simp)
        clear hc1 hc2 HX HY
        generalize xs.getD k 0 = x at *
        generalize ys.getD k 0 = y at *
        go_wp2_with (first | (with_reducible refine Txt.wp_region_text mixed quiet (by decide +kernel) ?_) | (with_reducible refine Txt.text_done (by kernel_rfl) ?_))
        all_goals first | (go_ret; exact ⟨ret_bool (by
            have hne : ¬ xs = ys := fun he => by
              have h1 := (eqTo_iff (HL1.out.trans HL2.out.symm)).2 he
              rw [HL1.out, e3.out (by simp_all)] at h1
              cases h1
            simp [hne]), hkw.drew⟩) | go_roundw
        all_goals first | (case rel => exact ⟨k + 1, by omega, by go_num, hkw.drew, by show eqTo xs ys (k + 1) = true; rw [e2.out, hge.out]; simp_all⟩) | (case measure => simp [intOf]; omega) | skip
      · have hkn := Lib.hid (show n1 = k by omega)
        go_wp2_with fail
        go_ret
        exact ⟨ret_bool (by
          have he := (eqTo_iff (HL1.out.trans HL2.out.symm)).1 (by rw [HL1.out, hkn.out]; exact hge.out)
          simp [he]), hkw⟩
  · have hne : ((n1 : Int) != (n2 : Int)) = true := by rw [bne_iff_ne]; omega
    go_enter Try.func34, Try.ntmps34
    go_wp2_with fail
    go_ret
    exact ⟨ret_bool (by
      have : ¬ xs = ys := fun he => hn (by rw [← HL1.out, ← HL2.out, he])
      simp [this]), Keep.refl _ _⟩
def joinTo (xs ys : List Int) (k : Nat) : List Int := (List.range k).map fun j => max (xs.getD j 0) (ys.getD j 0)
set_option maxRecDepth 100000 in
set_option maxHeartbeats 1000000 in
theorem join_any {a1 a2 : Option Addr} {n1 c1 n2 c2 : Nat} {xs ys : List Int} {w : World} (hx : IntsV w a1 n1 c1 xs) (hy : IntsV w a2 n2 c2 ys) (hr1 : n1 * 8 ≤ 140737488351232) (hr2 : n2 * 8 ≤ 140737488351232) :
    Calls Try.prog 61 #[.slice a1 n1 c1, .slice a2 n2 c2] w fun e w' => ∃ v, e = .returned v ∧ Keep [] w w' ∧ w'.ownsRow w.heap.size 3 1 v (max n1 n2) ((joinL xs ys).map (Value.int .i64)) := by
  have hM : max xs.length ys.length = max n1 n2 := by rw [hx.len, hy.len]
  have HX := Lib.hid hx
  have HY := Lib.hid hy
  have HM := Lib.hid hM
  clear hx hy hM
  obtain ⟨i0, hi, hz0, hz1, hz2⟩ := info_parts info3
  go_enter Try.func61, Try.ntmps61
  go_wp2_with fail
  all_goals
    go_loopw [5, 12] (fun out i wr => ∃ k : Nat, k ≤ max n1 n2 ∧ i = .int .i64 k ∧ Keep [] w wr ∧ wr.ownsRow w.heap.size 3 1 out k ((joinTo xs ys k).map (Value.int .i64))) (fun _ i _ => max n1 n2 - (intOf i).toNat)
    case atStart => exact ⟨0, by omega, rfl, Keep.refl _ _, World.ownsRow_nil _ _ _ _⟩
    case round =>
      obtain ⟨k, hk, rfl, hkw, hown⟩ := hrel
      by_cases hlt : k < max n1 n2
      · have e1 := Lib.hid (show joinTo xs ys (k + 1) = joinTo xs ys k ++ [max (xs.getD k 0) (ys.getD k 0)] from joinTo_succ xs ys k)
        have hpx := Lib.hid (part_any (HX.out.keep hkw (by simp)) k)
        have hpy := Lib.hid (part_any (HY.out.keep hkw (by simp)) k)
        have HOWN := Lib.hid hown
        clear hown
        generalize joinTo xs ys k = js at *
        generalize xs.getD k 0 = x at *
        generalize ys.getD k 0 = y at *
        by_cases hxy : x < y
        · have hmx : max x y = y := by omega
          have HMX := Lib.hid hmx
          clear hmx
          have hsz := hkw.size
          go_wp2_with (first | (go_at_call 62; (with_reducible refine (hpx.out).mono ?_); rintro e w' ⟨rfl, rfl⟩) | (go_at_call 62; (with_reducible refine (hpy.out).mono ?_); rintro e w' ⟨rfl, rfl⟩) | (at_builtin; refine wpList_append_own _ rfl _ _ 22 rfl w.heap.size 3 i0 (.int .i64 0) 1 8 Try.underlying22 hi hz0 hz1 hz2 rfl (by decide) _ _ _ rfl (HOWN.out.alloc _) ⟨wr.heap.size, 0, none⟩ 1 1 [.int .i64 y] rfl rfl (cell_one_new _ _ _) (by intro u hu; simp at hu; subst hu; rfl) (by unfold maxLen; omega) (by omega) (by simp; omega) ?_; intro v' w1 hown1 hgr1 _))
          go_roundw
          case rel => exact ⟨k + 1, by omega, by go_num, (hkw.alloc _).grown hgr1 (fun b hb => .inr (HOWN.out.lt b hb).1), by rw [e1.out, HMX.out, List.map_append]; exact hown1⟩
          case measure => simp [intOf]; omega
        · have hmx : max x y = x := by omega
          have HMX := Lib.hid hmx
          clear hmx
          have hsz := hkw.size
          go_wp2_with (first | (go_at_call 62; (with_reducible refine (hpx.out).mono ?_); rintro e w' ⟨rfl, rfl⟩) | (go_at_call 62; (with_reducible refine (hpy.out).mono ?_); rintro e w' ⟨rfl, rfl⟩) | (at_builtin; refine wpList_append_own _ rfl _ _ 22 rfl w.heap.size 3 i0 (.int .i64 0) 1 8 Try.underlying22 hi hz0 hz1 hz2 rfl (by decide) _ _ _ rfl (HOWN.out.alloc _) ⟨wr.heap.size, 0, none⟩ 1 1 [.int .i64 x] rfl rfl (cell_one_new _ _ _) (by intro u hu; simp at hu; subst hu; rfl) (by unfold maxLen; omega) (by omega) (by simp; omega) ?_; intro v' w1 hown1 hgr1 _))
          go_roundw
          case rel => exact ⟨k + 1, by omega, by go_num, (hkw.alloc _).grown hgr1 (fun b hb => .inr (HOWN.out.lt b hb).1), by rw [e1.out, HMX.out, List.map_append]; exact hown1⟩
          case measure => simp [intOf]; omega
      · have hkM : k = max n1 n2 := by omega
        have HK := Lib.hid hkM
        clear hkM
        go_wp2_with fail
        go_ret
        have hz : joinTo xs ys k = joinL xs ys := by rw [HK.out, ← HM.out]; rfl
        exact ⟨_, rfl, hkw, by rw [← hz, ← HK.out]; exact hown⟩
end Go.Proofs.Ytkhchfjhmplaiaa
