/- Texts laid together: H1 H2 H3a H3. -/
import Derived.Test.YtkhchfjhmplaiaaMg4
import Derived.Outline
namespace Go.Proofs.Ytkhchfjhmplaiaa
open Go.RowKit
theorem zeroB (w : World) : (zeroValue 4).run Try.prog w = .ok (.bool false) w := by kernel_rfl
set_option maxRecDepth 100000 in
set_option maxHeartbeats 2000000 in
theorem check_ok {a : Option Addr} {n c : Nat} {h : List Ln} {w : World} (hv : LnsV w a n c h) (hk : HOk h) :
    Calls Try.prog 51 #[.slice a n c] w fun e w' => e = .returned (.int .i64 0) ∧ Keep [] w w' := by
  have hmm := @run_makeMap Try.prog
  have hn2 : n ≤ 200 := by have := hk.len; have := hv.len; omega
  have HV := Lib.hid hv
  have HK := Lib.hid hk
  have HL := Lib.hid hv.len
  clear hv hk
  go_enter Try.func51, Try.ntmps51
  go_wp2_with fail
  go_loopw [14] (fun i wr => ∃ k : Nat, k ≤ n ∧ i = .int .i64 k ∧ Keep [] w wr ∧ Hid (MapF wr Try.prog 3 w.heap.size k (markF h 2 k)) ∧ Hid (MapF wr Try.prog 3 (w.heap.size + 1) k (markF h 3 k))) (fun i _ => n - (intOf i).toNat)
  case atStart =>
    have e2 : markF h 2 0 = fun _ => none := funext fun x => by simp [markF, saidB]
    have e3 : markF h 3 0 = fun _ => none := funext fun x => by simp [markF, saidB]
    refine ⟨0, by omega, rfl, ((Keep.refl _ _).alloc _).alloc _, Lib.hid ?_, Lib.hid ?_⟩
    · rw [e2]; exact (MapF.made w Try.prog 3).keep ((Keep.refl [] _).alloc _) (by simp)
    · rw [e3]; have h9 := MapF.made (w.alloc (.map #[] 0)) Try.prog 3; rwa [show (w.alloc (.map #[] 0)).heap.size = w.heap.size + 1 by simp] at h9
  case round =>
    obtain ⟨k, hk, rfl, hkw, HS, HT⟩ := hrel
    by_cases hlt : k < n
    · have hlk : k < h.length := by rw [HL.out]; exact hlt
      have he := HK.out.ev k hlk
      obtain ⟨b, off, rfl, c0, c1, c2⟩ := (HV.out.keep hkw (by simp)).at_ hlt
      have hsend := Lib.hid (mark_send HK.out hlk)
      have htake := Lib.hid (mark_take HK.out hlk)
      have hsame2 := Lib.hid (markF_same (h := h) (g := 2) (k := k))
      have hsame3 := Lib.hid (markF_same (h := h) (g := 3) (k := k))
      have hput2 := Lib.hid (markF_put (h := h) (g := 2) (k := k))
      have hput3 := Lib.hid (markF_put (h := h) (g := 3) (k := k))
      have hwf := wf_msg he.2.2.2.2.1 he.2.2.2.2.2
      generalize lat h k = L at *
      obtain ⟨q, g, u⟩ := L
      dsimp only at *
      have HWF := Lib.hid hwf
      clear hwf
      obtain ⟨b1, b2, b3, b4⟩ : decide (g < 1) = false ∧ decide (3 < g) = false ∧ decide (q < 0) = false ∧ decide (8 ≤ q) = false := by simp; omega
      obtain ⟨b5, b6⟩ : decide (u < 0) = false ∧ decide (999 < u) = false := by simp; omega
      rcases (by omega : g = 1 ∨ g = 2 ∨ g = 3) with hg | hg | hg
      · subst hg
        have HS1 : Hid (MapF (wr.alloc (.cells #[.int .i64 q, .int .i64 1, .int .i64 u] 27)) Try.prog 3 w.heap.size (k + 1) (markF h 2 (k + 1))) := Lib.hid (by rw [hsame2.out (by decide)]; exact (HS.out.keep ((Keep.refl [] _).alloc _) (by simp)).mono (by omega))
        have HT1 : Hid (MapF (wr.alloc (.cells #[.int .i64 q, .int .i64 1, .int .i64 u] 27)) Try.prog 3 (w.heap.size + 1) (k + 1) (markF h 3 (k + 1))) := Lib.hid (by rw [hsame3.out (by decide)]; exact (HT.out.keep ((Keep.refl [] _).alloc _) (by simp)).mono (by omega))
        go_wp2_with (first | (with_reducible refine Txt.wp_region_text mixed quiet (by decide +kernel) ?_) | (with_reducible refine Txt.text_done (by kernel_rfl) ?_))
        go_roundw
        case measure => simp [intOf]; omega
        case rel => exact ⟨k + 1, by omega, by go_num, hkw.alloc _, HS1, HT1⟩
      · subst hg
        have hn0 := hsend.out rfl
        have HSa := Lib.hid (HS.out.keep ((Keep.refl [] _).alloc (.cells #[.int .i64 q, .int .i64 2, .int .i64 u] 27)) (by simp))
        have HTa := Lib.hid (HT.out.keep ((Keep.refl [] _).alloc (.cells #[.int .i64 q, .int .i64 2, .int .i64 u] 27)) (by simp))
        go_wp2_with (first | (with_reducible refine Txt.wp_region_text mixed quiet (by decide +kernel) ?_) | (with_reducible refine Txt.text_done (by kernel_rfl) ?_) | (at_lookup; refine wpList_lookup_f _ rfl _ _ 103 rfl 3 4 Try.underlying103 Try.underlying3 (.bool false) (zeroB _) w.heap.size k (markF h 2 k) rfl HSa.out u rfl HWF.out ?_) | (at_mapUpdate; refine wpList_update_f _ rfl _ _ _ 103 rfl 3 4 Try.underlying103 Try.underlying3 w.heap.size k (markF h 2 k) rfl HSa.out (by unfold maxLen; omega) u (.bool true) rfl rfl HWF.out ?_; intro w2 hm2 hgr2; have HM2 := Lib.hid hm2; have HGR := Lib.hid hgr2; clear hm2 hgr2))
        go_roundw
        case measure => simp [intOf]; omega
        case rel =>
          refine ⟨k + 1, by omega, by go_num, (hkw.alloc (.cells #[.int .i64 q, .int .i64 2, .int .i64 u] 27)).grown HGR.out (fun x hx => by cases hx; exact .inr (Nat.le_refl _)), Lib.hid ?_, Lib.hid ?_⟩
          · rw [hput2.out (by trivial)]; exact HM2.out
          · rw [hsame3.out (by decide)]
            exact (HTa.out.keep (Keep.ofGrown (S := [w.heap.size]) HGR.out (fun x hx => by cases hx; simp)) (by simp)).mono (by omega)
      · subst hg
        obtain ⟨hn0, hn1⟩ := htake.out rfl
        have HSa := Lib.hid (HS.out.keep ((Keep.refl [] _).alloc (.cells #[.int .i64 q, .int .i64 3, .int .i64 u] 27)) (by simp))
        have HTa := Lib.hid (HT.out.keep ((Keep.refl [] _).alloc (.cells #[.int .i64 q, .int .i64 3, .int .i64 u] 27)) (by simp))
        go_wp2_with (first | (with_reducible refine Txt.wp_region_text mixed quiet (by decide +kernel) ?_) | (with_reducible refine Txt.text_done (by kernel_rfl) ?_) | (at_lookup; refine wpList_lookup_f _ rfl _ _ 103 rfl 3 4 Try.underlying103 Try.underlying3 (.bool false) (zeroB _) (w.heap.size + 1) k (markF h 3 k) rfl HTa.out u rfl HWF.out ?_) | (at_lookup; refine wpList_lookup_f _ rfl _ _ 103 rfl 3 4 Try.underlying103 Try.underlying3 (.bool false) (zeroB _) w.heap.size k (markF h 2 k) rfl HSa.out u rfl HWF.out ?_) | (at_mapUpdate; refine wpList_update_f _ rfl _ _ _ 103 rfl 3 4 Try.underlying103 Try.underlying3 (w.heap.size + 1) k (markF h 3 k) rfl HTa.out (by unfold maxLen; omega) u (.bool true) rfl rfl HWF.out ?_; intro w2 hm2 hgr2; have HM2 := Lib.hid hm2; have HGR := Lib.hid hgr2; clear hm2 hgr2))
        go_roundw
        case measure => simp [intOf]; omega
        case rel =>
          refine ⟨k + 1, by omega, by go_num, (hkw.alloc (.cells #[.int .i64 q, .int .i64 3, .int .i64 u] 27)).grown HGR.out (fun x hx => by cases hx; exact .inr (Nat.le_succ _)), Lib.hid ?_, Lib.hid ?_⟩
          · rw [hsame2.out (by decide)]
            exact (HSa.out.keep (Keep.ofGrown (S := [(w.heap.size + 1)]) HGR.out (fun x hx => by cases hx; simp)) (by simp)).mono (by omega)
          · rw [hput3.out (by trivial)]; exact HM2.out
    · go_wp2_with fail
      go_ret
      exact ⟨rfl, hkw⟩
end Go.Proofs.Ytkhchfjhmplaiaa
namespace Go.Proofs.Ytkhchfjhmplaiaa
open Go.RowKit
set_option maxHeartbeats 400000 in
theorem part_any {a : Option Addr} {n c : Nat} {zs : List Int} {w : World} (hv : IntsV w a n c zs) (k : Nat) :
    Calls Try.prog 62 #[.slice a n c, .int .i64 k] w fun e w' => e = .returned (.int .i64 (zs.getD k 0)) ∧ w = w' := by
  have hl := hv.len
  by_cases hk : k < n
  · obtain ⟨b, off, rfl, hc⟩ := hv.cells (by omega)
    have hck := hc k hk
    clear hc hv hl
    generalize zs.getD k 0 = z at *
    go_enter Try.func62, Try.ntmps62
    go_wp2_with fail
    go_ret
    exact ⟨rfl, rfl⟩
  · have hz : zs.getD k 0 = 0 := by simp [List.getD_eq_getElem?_getD, List.getElem?_eq_none (show zs.length ≤ k by omega)]
    rw [hz]
    clear hz hv hl
    go_enter Try.func62, Try.ntmps62
    go_wp2_with fail
    go_ret
    exact ⟨rfl, rfl⟩
set_option maxHeartbeats 1000000 in
theorem less_any {a1 a2 : Option Addr} {n1 c1 n2 c2 : Nat} {xs ys : List Int} {w : World} (hx : IntsV w a1 n1 c1 xs) (hy : IntsV w a2 n2 c2 ys) :
    Calls Try.prog 27 #[.slice a1 n1 c1, .slice a2 n2 c2] w fun e w' => e = .returned (.bool (lessL xs ys)) ∧ w = w' := by
  have hM : max xs.length ys.length = max n1 n2 := by rw [hx.len, hy.len]
  have hM2 : max n1 n2 ≤ maxLen := by have := hx.room; have := hx.most; have := hy.room; have := hy.most; omega
  unfold maxLen at hM2
  have HX := Lib.hid hx
  have HY := Lib.hid hy
  have HM := Lib.hid hM
  clear hx hy hM
  go_enter Try.func27, Try.ntmps27
  go_wp2_with fail
  all_goals
    go_loop [5, 14] (fun ls i => ∃ k : Nat, k ≤ max n1 n2 ∧ i = .int .i64 k ∧ ls = .bool (ltTo xs ys k) ∧ Hid (geTo xs ys k = true)) (fun _ i => max n1 n2 - (intOf i).toNat)
    case atStart => exact ⟨0, by omega, rfl, rfl, rfl⟩
    case round =>
      obtain ⟨k, hk, rfl, rfl, hge⟩ := hrel
      by_cases hlt : k < max n1 n2
      · have e1 := Lib.hid (ltTo_succ xs ys k)
        have e2 := Lib.hid (geTo_succ xs ys k)
        have e3 := Lib.hid (@geTo_no xs ys k (max n1 n2) hlt)
        generalize hb : ltTo xs ys k = b at *
        have HB := Lib.hid hb
        clear hb
        have hpx := Lib.hid (part_any HX.out k)
        have hpy := Lib.hid (part_any HY.out k)
        generalize xs.getD k 0 = x at *
        generalize ys.getD k 0 = y at *
        go_wp2_with (first | (go_at_call 62; (with_reducible refine (hpx.out).mono ?_); rintro e w' ⟨rfl, rfl⟩) | (go_at_call 62; (with_reducible refine (hpy.out).mono ?_); rintro e w' ⟨rfl, rfl⟩))
        · go_ret
          exact ⟨ret_bool (by rw [lessL, HM.out, e3.out (by assumption)]; rfl), rfl⟩
        all_goals
          go_round
          case rel => exact ⟨k + 1, by omega, by go_num, by rw [e1.out]; simp_all, by show geTo xs ys (k + 1) = true; rw [e2.out, hge.out]; simp_all⟩
          case measure => simp [intOf]; omega
      · go_wp2_with fail
        go_ret
        exact ⟨ret_bool (by rw [lessL, HM.out, show max n1 n2 = k by omega, hge.out]; rfl), rfl⟩
set_option maxHeartbeats 1000000 in
theorem equal_any {a1 a2 : Option Addr} {n1 c1 n2 c2 : Nat} {xs ys : List Int} {w : World} (hx : IntsV w a1 n1 c1 xs) (hy : IntsV w a2 n2 c2 ys) :
    Calls Try.prog 34 #[.slice a1 n1 c1, .slice a2 n2 c2] w fun e w' => e = .returned (.bool (decide (xs = ys))) ∧ Keep [] w w' := by
  have hl1 := hx.len
  have hl2 := hy.len
  have hb1 := hx.room
  have hb2 := hx.most
  unfold maxLen at hb2
  have HX := Lib.hid hx
  have HY := Lib.hid hy
  have HL1 := Lib.hid hl1
  have HL2 := Lib.hid hl2
  clear hx hy hl1 hl2
  by_cases hn : n1 = n2
  · subst hn
    go_enter Try.func34, Try.ntmps34
    go_wp2_with fail
    go_loopw [13] (fun i wr => ∃ k : Nat, k ≤ n1 ∧ i = .int .i64 k ∧ Keep [] w wr ∧ Hid (eqTo xs ys k = true)) (fun i _ => n1 - (intOf i).toNat)
    case atStart => exact ⟨0, by omega, rfl, Keep.refl _ _, rfl⟩
    case round =>
      obtain ⟨k, hk, rfl, hkw, hge⟩ := hrel
      by_cases hlt : k < n1
      · have e2 := Lib.hid (eqTo_succ xs ys k)
        have e3 := Lib.hid (@eqTo_no xs ys k n1 hlt)
        obtain ⟨b1, o1, rfl, hc1⟩ := HX.out.cells (by omega)
        obtain ⟨b2, o2, rfl, hc2⟩ := HY.out.cells (by omega)
        have hd1 := hkw.cell (hc1 k hlt) (by simp)
        have hd2 := hkw.cell (hc2 k hlt) (by simp)
        clear hc1 hc2 HX HY
        generalize xs.getD k 0 = x at *
        generalize ys.getD k 0 = y at *
        go_wp2_with (first | (with_reducible refine Txt.wp_region_text mixed quiet (by decide +kernel) ?_) | (with_reducible refine Txt.text_done (by kernel_rfl) ?_))
        all_goals first | (go_ret; exact ⟨ret_bool (by
            have hne : ¬ xs = ys := fun he => by
              have h1 := (eqTo_iff (HL1.out.trans HL2.out.symm)).2 he
              rw [HL1.out, e3.out (by simp_all)] at h1
              cases h1
            simp [hne]), hkw.drew⟩) | go_roundw
        all_goals first | (case rel => exact ⟨k + 1, by omega, by go_num, hkw.drew, by show eqTo xs ys (k + 1) = true; rw [e2.out, hge.out]; simp_all⟩) | (case measure => simp [intOf]; omega) | skip
      · have hkn := Lib.hid (show n1 = k by omega)
        go_wp2_with fail
        go_ret
        exact ⟨ret_bool (by
          have he := (eqTo_iff (HL1.out.trans HL2.out.symm)).1 (by rw [HL1.out, hkn.out]; exact hge.out)
          simp [he]), hkw⟩
  · have hne : ((n1 : Int) != (n2 : Int)) = true := by rw [bne_iff_ne]; omega
    go_enter Try.func34, Try.ntmps34
    go_wp2_with fail
    go_ret
    exact ⟨ret_bool (by
      have : ¬ xs = ys := fun he => hn (by rw [← HL1.out, ← HL2.out, he])
      simp [this]), Keep.refl _ _⟩
def joinTo (xs ys : List Int) (k : Nat) : List Int := (List.range k).map fun j => max (xs.getD j 0) (ys.getD j 0)
set_option maxRecDepth 100000 in
set_option maxHeartbeats 1000000 in
theorem join_any {a1 a2 : Option Addr} {n1 c1 n2 c2 : Nat} {xs ys : List Int} {w : World} (hx : IntsV w a1 n1 c1 xs) (hy : IntsV w a2 n2 c2 ys) (hr1 : n1 * 8 ≤ 140737488351232) (hr2 : n2 * 8 ≤ 140737488351232) :
    Calls Try.prog 61 #[.slice a1 n1 c1, .slice a2 n2 c2] w fun e w' => ∃ v, e = .returned v ∧ Keep [] w w' ∧ w'.ownsRow w.heap.size 3 1 v (max n1 n2) ((joinL xs ys).map (Value.int .i64)) := by
  have hM : max xs.length ys.length = max n1 n2 := by rw [hx.len, hy.len]
  have HX := Lib.hid hx
  have HY := Lib.hid hy
  have HM := Lib.hid hM
  clear hx hy hM
  obtain ⟨i0, hi, hz0, hz1, hz2⟩ := info_parts info3
  go_enter Try.func61, Try.ntmps61
  go_wp2_with fail
  all_goals
    go_loopw [5, 12] (fun out i wr => ∃ k : Nat, k ≤ max n1 n2 ∧ i = .int .i64 k ∧ Keep [] w wr ∧ wr.ownsRow w.heap.size 3 1 out k ((joinTo xs ys k).map (Value.int .i64))) (fun _ i _ => max n1 n2 - (intOf i).toNat)
    case atStart => exact ⟨0, by omega, rfl, Keep.refl _ _, World.ownsRow_nil _ _ _ _⟩
    case round =>
      obtain ⟨k, hk, rfl, hkw, hown⟩ := hrel
      by_cases hlt : k < max n1 n2
      · have e1 := Lib.hid (show joinTo xs ys (k + 1) = joinTo xs ys k ++ [max (xs.getD k 0) (ys.getD k 0)] from joinTo_succ xs ys k)
        have hpx := Lib.hid (part_any (HX.out.keep hkw (by simp)) k)
        have hpy := Lib.hid (part_any (HY.out.keep hkw (by simp)) k)
        have HOWN := Lib.hid hown
        clear hown
        generalize joinTo xs ys k = js at *
        generalize xs.getD k 0 = x at *
        generalize ys.getD k 0 = y at *
        by_cases hxy : x < y
        · have hmx : max x y = y := by omega
          have HMX := Lib.hid hmx
          clear hmx
          have hsz := hkw.size
          go_wp2_with (first | (go_at_call 62; (with_reducible refine (hpx.out).mono ?_); rintro e w' ⟨rfl, rfl⟩) | (go_at_call 62; (with_reducible refine (hpy.out).mono ?_); rintro e w' ⟨rfl, rfl⟩) | (at_builtin; refine wpList_append_own _ rfl _ _ 22 rfl w.heap.size 3 i0 (.int .i64 0) 1 8 Try.underlying22 hi hz0 hz1 hz2 rfl (by decide) _ _ _ rfl (HOWN.out.alloc _) ⟨wr.heap.size, 0, none⟩ 1 1 [.int .i64 y] rfl rfl (cell_one_new _ _ _) (by intro u hu; simp at hu; subst hu; rfl) (by unfold maxLen; omega) (by omega) (by simp; omega) ?_; intro v' w1 hown1 hgr1 _))
          go_roundw
          case rel => exact ⟨k + 1, by omega, by go_num, (hkw.alloc _).grown hgr1 (fun b hb => .inr (HOWN.out.lt b hb).1), by rw [e1.out, HMX.out, List.map_append]; exact hown1⟩
          case measure => simp [intOf]; omega
        · have hmx : max x y = x := by omega
          have HMX := Lib.hid hmx
          clear hmx
          have hsz := hkw.size
          go_wp2_with (first | (go_at_call 62; (with_reducible refine (hpx.out).mono ?_); rintro e w' ⟨rfl, rfl⟩) | (go_at_call 62; (with_reducible refine (hpy.out).mono ?_); rintro e w' ⟨rfl, rfl⟩) | (at_builtin; refine wpList_append_own _ rfl _ _ 22 rfl w.heap.size 3 i0 (.int .i64 0) 1 8 Try.underlying22 hi hz0 hz1 hz2 rfl (by decide) _ _ _ rfl (HOWN.out.alloc _) ⟨wr.heap.size, 0, none⟩ 1 1 [.int .i64 x] rfl rfl (cell_one_new _ _ _) (by intro u hu; simp at hu; subst hu; rfl) (by unfold maxLen; omega) (by omega) (by simp; omega) ?_; intro v' w1 hown1 hgr1 _))
          go_roundw
          case rel => exact ⟨k + 1, by omega, by go_num, (hkw.alloc _).grown hgr1 (fun b hb => .inr (HOWN.out.lt b hb).1), by rw [e1.out, HMX.out, List.map_append]; exact hown1⟩
          case measure => simp [intOf]; omega
      · have hkM : k = max n1 n2 := by omega
        have HK := Lib.hid hkM
        clear hkM
        go_wp2_with fail
        go_ret
        have hz : joinTo xs ys k = joinL xs ys := by rw [HK.out, ← HM.out]; rfl
        exact ⟨_, rfl, hkw, by rw [← hz, ← HK.out]; exact hown⟩
end Go.Proofs.Ytkhchfjhmplaiaa
namespace Go.Proofs.Ytkhchfjhmplaiaa
open Go.RowKit
theorem info22 : (Try.prog.info? 22).map (fun i => (i.zero, i.size, i.bytes)) = some (some (.slice none 0 0), 1, 24) := by kernel_rfl
theorem zeroS (w : World) : (zeroValue 22).run Try.prog w = .ok (.slice none 0 0) w := by kernel_rfl
theorem mk37 (w : World) : (Instr.makeSlice 37 (.int .i64 8) (.int .i64 8)).run Try.prog w = .ok (.slice (some ⟨w.heap.size, 0, none⟩) 8 8) (w.alloc (.cells #[.slice none 0 0, .slice none 0 0, .slice none 0 0, .slice none 0 0, .slice none 0 0, .slice none 0 0, .slice none 0 0, .slice none 0 0] 22)) := by kernel_rfl
theorem mk22 (w : World) : (Instr.makeSlice 22 (.int .i64 8) (.int .i64 8)).run Try.prog w = .ok (.slice (some ⟨w.heap.size, 0, none⟩) 8 8) (w.alloc (.cells #[.int .i64 0, .int .i64 0, .int .i64 0, .int .i64 0, .int .i64 0, .int .i64 0, .int .i64 0, .int .i64 0] 3)) := by kernel_rfl
/-- The clocks of k events in memory: where the last one of each place lies, and the one of each message. -/
structure Kept (w : World) (B Lb Sb k : Nat) (h : List Ln) (V Z : Nat → Value) : Prop where
  clk : ∀ i, i < k → w.ownsRow B 3 1 (V i) 8 ((Go.clk h i).map (Value.int .i64))
  zero : ∀ p, p < 8 → w.ownsRow B 3 1 (Z p) 8 (zeros8.map (Value.int .i64))
  last : w.heap[Lb]? = some (.cells ((List.range 8).map fun (p : Nat) => (lastIx h (p : Int) k).elim (Z p) V).toArray 22 (0, 0))
  sent : MapF w Try.prog 3 Sb k (fun x => (sendIx h x k).map V)
theorem own_form {w : World} {B e n : Nat} {v : Value} {zs : List Int} (h : w.ownsRow B e 1 v n (zs.map (Value.int .i64))) (hn : 0 < n) : ∃ g cap, v = .slice (some ⟨g, 0, none⟩) n cap ∧ B ≤ g ∧ g < w.heap.size ∧ n ≤ cap ∧ cap ≤ maxLen ∧ (∀ i, i < n → w.cell? ⟨g, i, none⟩ = some (.int .i64 (zs.getD i 0))) ∧ ∀ i, w.frozen? ⟨g, i, none⟩ = false := by
  obtain ⟨hl, h⟩ := h
  have hlen : zs.length = n := by simpa using hl
  rcases h with ⟨_, h0⟩ | ⟨g, cap, cur, rfl, hb, hg, hnc, hcm, hcs, ht⟩
  · omega
  · refine ⟨g, cap, rfl, hb, (Array.getElem?_eq_some_iff.1 hg).1, hnc, hcm, fun i hi => ?_, thaw hg⟩
    rw [cell_of_row w g i cur e (0, 0) hg]
    have : (cur.toList.take (n * 1))[i]? = (zs.map (Value.int .i64))[i]? := by rw [ht]
    rw [List.getElem?_take, if_pos (by omega)] at this
    simp only [Array.getElem?_toList] at this
    rw [this]
    simp [List.getD_eq_getElem?_getD, hlen ▸ hi]
/-- One cell of a row of one's own is written. -/
theorem own_put {w : World} {B e n : Nat} {g cap : Nat} {zs : List Int} (h : w.ownsRow B e 1 (.slice (some ⟨g, 0, none⟩) n cap) n (zs.map (Value.int .i64))) {i : Nat} (x : Int) :
    (w.setCell ⟨g, i, none⟩ (.int .i64 x)).ownsRow B e 1 (.slice (some ⟨g, 0, none⟩) n cap) n ((zs.set i x).map (Value.int .i64)) := by
  obtain ⟨hl, h⟩ := h
  refine ⟨by simpa using hl, ?_⟩
  rcases h with ⟨h0, _⟩ | ⟨g', cap', cur, hv, hb, hg, hnc, hcm, hcs, ht⟩
  · cases h0
  · cases hv
    refine .inr ⟨g, cap, cur.setIfInBounds i (.int .i64 x), rfl, hb, by rw [blk_setCell, if_pos rfl, hg]; rfl, hnc, hcm, by simpa using hcs, ?_⟩
    rw [List.map_set, ← ht]
    simp only [Array.toList_setIfInBounds, Nat.mul_one]
    rw [List.take_set]
theorem Kept.keep {S : List Nat} {w w' : World} {B Lb Sb k : Nat} {h : List Ln} {V Z : Nat → Value} (q : Kept w B Lb Sb k h V Z) (hk : Keep S w w') (h1 : ∀ b ∈ S, b ≠ Lb ∧ b ≠ Sb) (h2 : ∀ b ∈ S, ∀ i, i < k → (V i).ownBlock ≠ some b) (h3 : ∀ b ∈ S, ∀ p, p < 8 → (Z p).ownBlock ≠ some b) : Kept w' B Lb Sb k h V Z :=
  ⟨fun i hi => own_keep (q.clk i hi) hk (fun b hb hm => h2 b hm i hi hb), fun p hp => own_keep (q.zero p hp) hk (fun b hb hm => h3 b hm p hp hb), hk.at q.last (fun hm => (h1 _ hm).1 rfl), q.sent.keep hk (fun hm => (h1 _ hm).2 rfl)⟩
theorem Kept.keep0 {w w' : World} {B Lb Sb k : Nat} {h : List Ln} {V Z : Nat → Value} (q : Kept w B Lb Sb k h V Z) (hk : Keep [] w w') : Kept w' B Lb Sb k h V Z := q.keep hk (by simp) (by simp) (by simp)
theorem cell_one_at {X : World} {s : Nat} (hs : X.heap.size = s) (x : Value) (t : TypeId) : ∀ j u, [x][j]? = some u → (X.alloc (.cells #[x] t)).cell? ((⟨s, 0, none⟩ : Addr).add j) = some u := by
  subst hs
  exact cell_one_new _ _ _
theorem Kept.append {w w' : World} {B B' Lb Sb k n : Nat} {h : List Ln} {V Z : Nat → Value} {v : Value} {xs : List Value} (q : Kept w B Lb Sb k h V Z) (ho : w.ownsRow B' 22 1 v n xs) (hB : Lb < B') (hg : w.grownBy w' v.ownBlock) : Kept w' B Lb Sb k h V Z := by
  refine ⟨fun i hi => (q.clk i hi).kept hg (own_sep (q.clk i hi) ho (by decide)), fun p hp => (q.zero p hp).kept hg (own_sep (q.zero p hp) ho (by decide)), ?_, q.sent.block (hg.block Sb q.sent.lt (fun e => ?_))⟩
  · rw [hg.block Lb (lt_of_blk q.last) (fun e => by have := (ho.lt Lb e.symm).1; omega)]
    exact q.last
  · rcases ho.2 with ⟨rfl, _⟩ | ⟨g, cap, cur, rfl, _, hgg, _⟩
    · cases e
    · have e1 : Sb = g := by simpa [Value.ownBlock] using e
      exact q.sent.notCells hgg e1
theorem lastIx_elim {h : List Ln} {k : Nat} {V : Nat → Value} {cv z : Value} {pl : Int} (x : Int) (hq : (lat h k).q = pl) : (lastIx h x (k + 1)).elim z (fun i => if i = k then cv else V i) = if pl = x then cv else (lastIx h x k).elim z V := by
  rw [lastIx, hq]
  by_cases e : pl = x
  · rw [if_pos e, if_pos e]; simp
  · rw [if_neg e, if_neg e]
    cases hl : lastIx h x k with
    | none => rfl
    | some i => have := (lastIx_lt hl).1; simp; omega
theorem sendIx_map_same {h : List Ln} {k : Nat} {V : Nat → Value} {cv : Value} (hg : (lat h k).g ≠ 2) : (fun x => (sendIx h x (k + 1)).map fun i => if i = k then cv else V i) = fun x => (sendIx h x k).map V := by
  funext x
  rw [sendIx, if_neg (fun h => hg h.1)]
  cases hl : sendIx h x k with
  | none => rfl
  | some i => have := (sendIx_lt hl).1; simp; omega
theorem sendIx_map_put {h : List Ln} {k : Nat} {V : Nat → Value} {cv : Value} (hg : (lat h k).g = 2) : (fun x => (sendIx h x (k + 1)).map fun i => if i = k then cv else V i) = fun x => if x = (lat h k).u then some cv else (sendIx h x k).map V := by
  funext x
  rw [sendIx]
  by_cases e : x = (lat h k).u
  · rw [if_pos ⟨hg, e.symm⟩, if_pos e]; simp
  · rw [if_neg (fun h => e h.2.symm), if_neg e]
    cases hl : sendIx h x k with
    | none => rfl
    | some i => have := (sendIx_lt hl).1; simp; omega
theorem Kept.step {w : World} {B Lb Sb k pl : Nat} {h : List Ln} {V Z : Nat → Value} {cv : Value} (hclk : ∀ i, i < k → w.ownsRow B 3 1 (V i) 8 ((Go.clk h i).map (Value.int .i64))) (hzero : ∀ p, p < 8 → w.ownsRow B 3 1 (Z p) 8 (zeros8.map (Value.int .i64)))
    (hlast : w.heap[Lb]? = some (.cells ((List.range 8).map fun (p : Nat) => (lastIx h (p : Int) k).elim (Z p) V).toArray 22 (0, 0))) (hsent : MapF w Try.prog 3 Sb (k + 1) (fun x => (sendIx h x (k + 1)).map fun i => if i = k then cv else V i))
    (hc : w.ownsRow B 3 1 cv 8 ((Go.clk h k).map (Value.int .i64))) (hq : (lat h k).q = pl) : Kept (w.setCell ⟨Lb, pl, none⟩ cv) B Lb Sb (k + 1) h (fun i => if i = k then cv else V i) Z := by
  have hks : Keep [Lb] w (w.setCell ⟨Lb, pl, none⟩ cv) := (Keep.refl _ _).setCell (.inl (by simp)) _
  have hown : ∀ {v : Value} {zs : List Value}, w.ownsRow B 3 1 v 8 zs → (w.setCell ⟨Lb, pl, none⟩ cv).ownsRow B 3 1 v 8 zs := fun ho => own_keep ho hks (fun g hg hm => own_ne ho hlast (by decide) g hg (by simpa using hm))
  refine ⟨fun i hi => ?_, fun p hp => hown (hzero p hp), ?_, hsent.keep hks (by simpa using hsent.notCells hlast)⟩
  · show World.ownsRow _ _ _ _ (if i = k then cv else V i) _ _
    by_cases e : i = k
    · rw [if_pos e, e]; exact hown hc
    · rw [if_neg e]; exact hown (hclk i (by omega))
  · rw [blk_setCell, if_pos rfl, hlast]
    simp only [Option.map_some, Obj.put_cells, List.setIfInBounds_toArray]
    congr 3
    refine List.ext_getElem (by simp) fun p h1 h2 => ?_
    simp only [List.getElem_set, List.getElem_map, List.getElem_range]
    rw [lastIx_elim (pl := pl) (p : Int) hq]
    by_cases e : pl = p
    · subst e; simp
    · have : ¬ (pl : Int) = p := by omega
      rw [if_neg e, if_neg this]
end Go.Proofs.Ytkhchfjhmplaiaa
namespace Go.Proofs.Ytkhchfjhmplaiaa
open Go.RowKit
set_option maxRecDepth 100000 in
set_option maxHeartbeats 8000000 in
theorem clocks_ok {a : Option Addr} {n c : Nat} {h : List Ln} {w : World} (hv : LnsV w a n c h) (hk : HOk h) :
    Calls Try.prog 25 #[.slice a n c] w fun e w' => ∃ v V, e = .returned (.tuple #[v, .int .i64 0]) ∧ Keep [] w w' ∧ w'.ownsRow w.heap.size 22 1 v n ((List.range n).map V) ∧ ∀ i, i < n → w'.ownsRow w.heap.size 3 1 (V i) 8 ((clk h i).map (Value.int .i64)) := by
  have hmm := @run_makeMap Try.prog
  have hmk1 := mk37
  have hmk2 := mk22
  have hn2 : n ≤ 200 := by have := hk.len; have := hv.len; omega
  have HV := Lib.hid hv
  have HK := Lib.hid hk
  have HL := Lib.hid hv.len
  obtain ⟨i1, hi1, hx0, hx1, hx2⟩ := info_parts info22
  clear hv hk
  go_enter Try.func25, Try.ntmps25
  go_wp2_with (first | (go_at_call 51; refine (check_ok HV.out HK.out).mono ?_; rintro e w1 ⟨rfl, hk1⟩) | (with_reducible refine Txt.wp_region_text mixed quiet (by decide +kernel) ?_) | (with_reducible refine Txt.text_done (by kernel_rfl) ?_))
  have hsz1 := hk1.size
  go_loopw [20] (fun i wr => ∃ (j : Nat) (Z : Nat → Value), j ≤ 8 ∧ i = .int .i64 j ∧ Keep [] w wr ∧ w1.heap.size < wr.heap.size ∧ Hid (∀ p, p < j → wr.ownsRow w.heap.size 3 1 (Z p) 8 (zeros8.map (Value.int .i64))) ∧ Hid (wr.heap[w1.heap.size]? = some (.cells ((List.range 8).map fun p => if p < j then Z p else .slice none 0 0).toArray 22 (0, 0)))) (fun i _ => 8 - (intOf i).toNat)
  case atStart => exact ⟨0, fun _ => .slice none 0 0, by omega, rfl, hk1.alloc _, by simp, fun p hp => absurd hp (by omega), blk_new _ _⟩
  case round =>
    obtain ⟨j, Z, hj, rfl, hkw, hsz, HZ, HB⟩ := hrel
    by_cases hlt : j < 8
    · have hb := HB.out
      have hc := cellAt hb j
      have hf := thaw hb
      have hcj : wr.cell? ⟨w1.heap.size, j, none⟩ = some (.slice none 0 0) := by
        rw [hc, List.getElem?_toArray, List.getElem?_map, List.getElem?_range hlt]; simp
      clear hb hc
      go_wp2_with fail
      go_roundw
      case measure => simp [intOf]; omega
      case rel =>
        refine ⟨j + 1, fun p => if p = j then .slice (some ⟨wr.heap.size, 0, none⟩) 8 8 else Z p, by omega, by go_num, ?_, by simp; omega, Lib.hid (fun p hp => ?_), Lib.hid ?_⟩
        · repeat (first | exact hkw | apply Keep.drew | apply Keep.alloc | refine Keep.setCell ?_ (.inr (by omega)) _)
        · show World.ownsRow _ _ _ _ (if p = j then _ else _) _ _
          by_cases e : p = j
          · rw [if_pos e]
            refine ⟨rfl, .inr ⟨wr.heap.size, 8, #[.int .i64 0, .int .i64 0, .int .i64 0, .int .i64 0, .int .i64 0, .int .i64 0, .int .i64 0, .int .i64 0], rfl, by omega, ?_, by omega, by decide, rfl, rfl⟩⟩
            have h9 := blk_new (wr.setCell ⟨w1.heap.size, j, none⟩ (.slice (some ⟨wr.heap.size, 0, none⟩) 8 8)) (.cells #[.int .i64 0, .int .i64 0, .int .i64 0, .int .i64 0, .int .i64 0, .int .i64 0, .int .i64 0, .int .i64 0] 3)
            rw [show (wr.setCell ⟨w1.heap.size, j, none⟩ (.slice (some ⟨wr.heap.size, 0, none⟩) 8 8)).heap.size = wr.heap.size by simp] at h9
            exact h9
          · rw [if_neg e]
            have h9 := HZ.out p (by omega)
            have hks : Keep [w1.heap.size] wr (wr.setCell ⟨w1.heap.size, j, none⟩ (.slice (some ⟨wr.heap.size, 0, none⟩) 8 8)) := (Keep.refl _ _).setCell (.inl (by simp)) _
            exact (own_keep h9 hks (fun g hg hm => own_ne h9 HB.out (by decide) g hg (by simpa using hm))).alloc _
        · have h9 := HB.out
          have h10 : (wr.setCell ⟨w1.heap.size, j, none⟩ (.slice (some ⟨wr.heap.size, 0, none⟩) 8 8)).heap[w1.heap.size]? = some (.cells (((List.range 8).map fun p => if p < j then Z p else .slice none 0 0).set j (.slice (some ⟨wr.heap.size, 0, none⟩) 8 8)).toArray 22 (0, 0)) := by
            rw [blk_setCell, if_pos rfl, h9]; simp
          have h11 : ((List.range 8).map fun p => if p < j then Z p else .slice none 0 0).set j (.slice (some ⟨wr.heap.size, 0, none⟩) 8 8) = (List.range 8).map fun p => if p < j + 1 then (if p = j then .slice (some ⟨wr.heap.size, 0, none⟩) 8 8 else Z p) else .slice none 0 0 := by
            refine List.ext_getElem (by simp) fun p h1 h2 => ?_
            simp only [List.getElem_set, List.getElem_map, List.getElem_range]
            by_cases e : j = p
            · subst e; simp
            · rw [if_neg e]
              by_cases h3 : p < j
              · rw [if_pos h3, if_pos (by omega), if_neg (fun h => e h.symm)]
              · rw [if_neg h3, if_neg (by omega)]
          rw [h11] at h10
          exact ((Keep.refl [] _).alloc _).at h10 (by simp)
    · have hj8 := Lib.hid (show j = 8 by omega)
      have hb := HB.out
      rw [hj8.out] at hb
      have h11 : ((List.range 8).map fun p => if p < 8 then Z p else .slice none 0 0) = (List.range 8).map fun (p : Nat) => (lastIx h (p : Int) 0).elim (Z p) (fun _ => .slice none 0 0) := List.map_congr_left fun p hp => by rw [if_pos (List.mem_range.1 hp)]; rfl
      rw [h11] at hb
      have HK0 : Hid (Kept (wr.alloc (.map #[] 0)) w.heap.size w1.heap.size wr.heap.size 0 h (fun _ => .slice none 0 0) Z) := Lib.hid ⟨fun i hi => absurd hi (by omega), fun p hp => (HZ.out p (by rw [hj8.out]; exact hp)).alloc _, ((Keep.refl [] _).alloc _).at hb (by simp), MapF.made wr Try.prog 3⟩
      clear hb h11 HB hmk1 hmk2
      go_wp2_with fail
      obtain ⟨wo, rfl⟩ : ∃ wo : World, wo = wr := ⟨_, rfl⟩
      go_loopw [8, 31] (fun v i wr => ∃ (k : Nat) (V : Nat → Value), k ≤ n ∧ i = .int .i64 k ∧ Keep [] w wr ∧ Hid (Kept wr w.heap.size w1.heap.size wo.heap.size k h V Z) ∧ Hid (wr.ownsRow wo.heap.size 22 1 v k ((List.range k).map V))) (fun _ i _ => n - (intOf i).toNat)
      case atStart => exact ⟨0, fun _ => .slice none 0 0, by omega, rfl, hkw.alloc _, HK0, World.ownsRow_nil _ _ _ _⟩
      case round =>
        obtain ⟨k, V, hk, rfl, hkw2, HQ, HO⟩ := hrel
        by_cases hlk : k < n
        · have hlh : k < h.length := by rw [HL.out]; exact hlk
          have he := HK.out.ev k hlh
          obtain ⟨b, off, rfl, c0, c1, c2⟩ := (HV.out.keep hkw2 (by simp)).at_ hlk
          have hsz2 := hkw2.size
          have hclk := clk_eq h k
          have hstake := sendIx_take HK.out hlh
          have HC := Lib.hid (fun i (hi : i < k) => (clk_ok HK.out i (by omega)).more (B' := 200) (by omega))
          obtain ⟨⟨q, g, u⟩, hL⟩ : ∃ L, lat h k = L := ⟨_, rfl⟩
          rw [hL] at he c0 c1 c2 hclk hstake
          dsimp only at he c0 c1 c2 hclk hstake
          obtain ⟨p, rfl⟩ : ∃ p : Nat, q = p := ⟨q.toNat, by omega⟩
          have HLL := Lib.hid hL
          have HWF := Lib.hid (wf_msg he.2.2.2.2.1 he.2.2.2.2.2)
          clear hL
          -- the last clock of the place
          obtain ⟨lv, hlv⟩ : ∃ lv, (lastIx h (p : Int) k).elim (Z p) V = lv := ⟨_, rfl⟩
          obtain ⟨lc, hlc⟩ : ∃ lc, (lastIx h (p : Int) k).elim zeros8 (clk h) = lc := ⟨_, rfl⟩
          have hlo : wr.ownsRow w.heap.size 3 1 lv 8 (lc.map (Value.int .i64)) ∧ Clk 200 lc := by
            rw [← hlv, ← hlc]
            cases hx : lastIx h (p : Int) k with
            | none => exact ⟨HQ.out.zero p (by omega), zeros8_clk.more (by omega)⟩
            | some i => exact ⟨HQ.out.clk i (lastIx_lt hx).1, HC.out i (lastIx_lt hx).1⟩
          have hlcell : wr.cell? ⟨w1.heap.size, p, none⟩ = some lv := by
            rw [cellAt HQ.out.last, List.getElem?_toArray, List.getElem?_map, List.getElem?_range (by omega)]
            show some ((lastIx h (p : Int) k).elim (Z p) V) = some lv
            rw [hlv]
          have hlfz := thaw HQ.out.last
          have hLlt : w1.heap.size < wr.heap.size := lt_of_blk HQ.out.last
          have hLne : ¬ w1.heap.size = wr.heap.size := by omega
          have hble : b < wr.heap.size := World.block_lt_of_cell? _ _ c0
          have hbne : ¬ b = wr.heap.size := by omega
          rw [hlc] at hclk
          have HLV := Lib.hid hlv
          have HLO := Lib.hid hlo.1
          have HLC := Lib.hid hlo.2
          clear hlv hlc hlo
          obtain ⟨gl, cl, rfl, _, hgl, _, _, _, _⟩ := own_form HLO.out (by omega)
          obtain ⟨al, cl', hve, hlint, _⟩ := IntsV.ofOwn HLO.out (fun z hz => wf_small (by have := HLC.out.bd z hz; omega) (by have := HLC.out.bd z hz; omega))
          cases hve
          have HLINT := Lib.hid hlint
          clear hlint
          have hjn := Lib.hid (join_nil HLC.out (by omega))
          have hjlen := Lib.hid HLC.out.len
          have hkA : Keep [] wr (wr.alloc (.cells #[.int .i64 p, .int .i64 g, .int .i64 u] 27)) := (Keep.refl [] _).alloc _
          go_wp2_with fail
          refine (join_any (HLINT.out.keep hkA (by simp)) (IntsV.nil _) (by omega) (by omega)).mono ?_
          rintro e w3 ⟨v3, rfl, hk3, ho3⟩
          have hn3 := hk3.at (k := wr.heap.size) (o := .cells #[.int .i64 p, .int .i64 g, .int .i64 u] 27 (0, 0)) (by exact blk_new _ _) (by simp)
          obtain ⟨n0, n1, n2, _⟩ := row3 hn3
          have HN3 := Lib.hid hn3
          rw [hjn.out, show max 8 0 = 8 from rfl] at ho3
          have ho3' := ho3.mono (show w.heap.size ≤ (wr.alloc (.cells #[.int .i64 p, .int .i64 g, .int .i64 u] 27)).heap.size by simp; omega)
          have hk13 : Keep [] wr w3 := hkA.trans hk3
          have HQ3 := Lib.hid (HQ.out.keep0 hk13)
          have HOU3 := Lib.hid (own_keep HO.out hk13 (by simp))
          have hlast3 := cellAt HQ3.out.last p
          obtain ⟨oldp, holdp⟩ : ∃ x, ((List.range 8).map fun (p : Nat) => (lastIx h (p : Int) k).elim (Z p) V)[p]? = some x := ⟨_, List.getElem?_eq_getElem (by simp; omega)⟩
          rw [List.getElem?_toArray, holdp] at hlast3
          have HOLD := Lib.hid holdp
          have hlz3 := thaw HQ3.out.last
          have hsz3 := hk13.size
          have hge3 : ∀ gg, v3.ownBlock = some gg → wr.heap.size < gg := fun gg hgg => by have := (ho3.lt gg hgg).1; simp at this; omega
          have HO3 := Lib.hid ho3'
          have HGE3 := Lib.hid hge3
          clear ho3 ho3' hn3 holdp hge3 hlcell hlfz c0 c1 c2
          have hrng : ∀ cv : Value, (List.range (k + 1)).map (fun i => if i = k then cv else V i) = (List.range k).map V ++ [cv] := fun cv => by
            rw [List.range_succ, List.map_append]
            congr 1
            · exact List.map_congr_left fun i hi => by rw [if_neg (by have := List.mem_range.1 hi; omega)]
            · simp
          have hkw0 : Keep [] w w3 := hkw2.trans hk13
          have hQs := HQ.out.sent.lt
          by_cases hg3 : g = 3
          · subst hg3
            obtain ⟨js, hjs⟩ := hstake rfl
            have hjk := (sendIx_lt hjs).1
            rw [if_pos rfl, hjs] at hclk
            have hclk0 : clk h k = bump (joinL lc (clk h js)) ((p : Int)).toNat := hclk
            clear hclk
            have HCJ := Lib.hid (HC.out js hjk)
            have hVo := HQ3.out.clk js hjk
            obtain ⟨g3, cap3, rfl, hg3b, hg3l, hc38, hc3m, hcell3, hfz3⟩ := own_form HO3.out (by omega)
            obtain ⟨a3, c3', hve3, hint3, _⟩ := IntsV.ofOwn HO3.out (fun z hz => wf_small (by have := HLC.out.bd z hz; omega) (by have := HLC.out.bd z hz; omega))
            cases hve3
            obtain ⟨gj, cj, hVj, _, _, _, _, _, _⟩ := own_form hVo (by omega)
            rw [hVj] at hVo
            obtain ⟨aj, cj', hvej, hintj, _⟩ := IntsV.ofOwn hVo (fun z hz => wf_small (by have := HCJ.out.bd z hz; omega) (by have := HCJ.out.bd z hz; omega))
            cases hvej
            have HI3 := Lib.hid hint3
            have HIJ := Lib.hid hintj
            have hjc := Lib.hid (join_clk HLC.out HCJ.out (by omega))
            clear hcell3 hint3 hintj hVo hfz3
            go_wp2_with (first | (with_reducible refine Txt.wp_region_text mixed quiet (by decide +kernel) ?_) | (with_reducible refine Txt.text_done (by kernel_rfl) ?_) | (at_lookup; refine wpList_lookup_f _ rfl _ _ 82 rfl 3 22 Try.underlying82 Try.underlying3 (.slice none 0 0) (zeroS _) wo.heap.size k (fun x => (sendIx h x k).map V) rfl HQ3.out.sent u rfl HWF.out ?_))
            refine (join_any HI3.out HIJ.out (by omega) (by omega)).mono ?_
            rintro e w4 ⟨v4, rfl, hk4, ho4⟩
            rw [show max 8 8 = 8 from rfl] at ho4
            have HO4 := Lib.hid (ho4.mono (show w.heap.size ≤ w3.heap.size by omega))
            have HGE4 : Hid (∀ gg, v4.ownBlock = some gg → w3.heap.size ≤ gg) := Lib.hid (fun gg hgg => (ho4.lt gg hgg).1)
            have HQ4 := Lib.hid (HQ3.out.keep0 hk4)
            have HOU4 := Lib.hid (own_keep HOU3.out hk4 (by simp))
            have m0 := hk4.cell n0 (by simp)
            have m1 := hk4.cell n1 (by simp)
            have hlast4 := hk4.cell hlast3 (by simp)
            have hlz4 := thaw HQ4.out.last
            have hsz4 := hk4.size
            have hkw4 : Keep [] w w4 := hkw0.trans hk4
            clear n0 n1 n2 hlast3 hlz3 ho4 hkw0 hVj
            have hkw0 := hkw4
            obtain ⟨gc, capc, rfl, hgcb, hgcl, hcc8, hccm, hcellc, hfzc⟩ := own_form HO4.out (by omega)
            have hcp := hcellc p (by omega)
            have hbd := hjc.out.at_ (by omega) p
            obtain ⟨x, hx⟩ : ∃ x, (joinL lc (clk h js)).getD p 0 = x := ⟨_, rfl⟩
            rw [hx] at hcp hbd
            have HX := Lib.hid hx
            have hgew0 : w3.heap.size ≤ gc := HGE4.out gc rfl
            have hwr3 : wr.heap.size < w3.heap.size := lt_of_blk HN3.out
            have hgew : wr.heap.size < gc := by omega
            have hne1 : ¬ gc = wr.heap.size := by omega
            have hg2 : ¬ (3 : Int) = 2 := by decide
            have hclk := Lib.hid hclk0
            clear hcellc hx hclk0 hkw4
            have hXk : Keep [gc] w4 (w4.setCell ⟨gc, p, none⟩ (.int .i64 (x + 1))) := (Keep.refl _ _).setCell (.inl (by simp)) _
            have hVg : ∀ i, i < k → (V i).ownBlock ≠ some gc := fun i hi e => by have := ((HQ.out.clk i hi).lt gc e).2; omega
            have hZg : ∀ p, p < 8 → (Z p).ownBlock ≠ some gc := fun p hp e => by have := ((HQ.out.zero p hp).lt gc e).2; omega
            have HQX := Lib.hid (HQ4.out.keep hXk (fun b hb => by simp at hb; subst hb; exact ⟨by omega, by have := HQ.out.sent.lt; omega⟩) (fun b hb => by simp at hb; subst hb; exact hVg) (fun b hb => by simp at hb; subst hb; exact hZg))
            have HCX : Hid ((w4.setCell ⟨gc, p, none⟩ (.int .i64 (x + 1))).ownsRow w.heap.size 3 1 (.slice (some ⟨gc, 0, none⟩) 8 capc) 8 ((clk h k).map (Value.int .i64))) := Lib.hid (by
              have h9 := own_put HO4.out (i := p) (x + 1)
              have h10 : (joinL lc (clk h js)).set p (x + 1) = clk h k := by rw [hclk.out, bump, show ((p : Int)).toNat = p from rfl, HX.out]
              rw [h10] at h9; exact h9)
            have HOX : Hid ((w4.setCell ⟨gc, p, none⟩ (.int .i64 (x + 1))).ownsRow wo.heap.size 22 1 u8 k ((List.range k).map V)) := Lib.hid (own_keep HOU4.out hXk (fun g hg hm => by have := (HO.out.lt g hg).2; simp at hm; omega))
            have hcl : u8.ownBlock ≠ some w1.heap.size := fun e => by have := (HO.out.lt _ e).1; omega
            have HNE : Hid (∀ b, u8.ownBlock = some b → b ∉ [w1.heap.size]) := Lib.hid (fun b hb hm => by simp at hm; subst hm; exact hcl hb)
            have HNE2 : Hid (∀ b, u8.ownBlock = some b → b ∉ [gc, w1.heap.size]) := Lib.hid (fun b hb hm => by
              simp at hm
              rcases hm with hm | hm
              · have := (HO.out.lt b hb).2; omega
              · subst hm; exact hcl hb)
            clear hXk hVg hZg hcl
            have HS4 := Lib.hid (show (∀ i, i < k → (w4.setCell ⟨gc, p, none⟩ (.int .i64 (x + 1))).ownsRow w.heap.size 3 1 (V i) 8 ((Go.clk h i).map (Value.int .i64))) ∧ _ ∧ _ ∧ MapF (w4.setCell ⟨gc, p, none⟩ (.int .i64 (x + 1))) Try.prog 3 wo.heap.size (k + 1) (fun x => (sendIx h x (k + 1)).map fun i => if i = k then (.slice (some ⟨gc, 0, none⟩) 8 capc) else V i) ∧ _ from ⟨HQX.out.clk, HQX.out.zero, HQX.out.last, by rw [sendIx_map_same (show (lat h k).g ≠ 2 by rw [HLL.out]; exact hg2)]; exact HQX.out.sent.mono (by omega), HCX.out⟩)
            go_wp2_with (first | (with_reducible refine Txt.wp_region_text mixed quiet (by decide +kernel) ?_) | (with_reducible refine Txt.text_done (by kernel_rfl) ?_) | (at_builtin; refine wpList_append_own _ rfl _ _ 37 rfl wo.heap.size 22 i1 (.slice none 0 0) 1 24 Try.underlying37 hi1 hx0 hx1 hx2 rfl (by decide) _ _ _ rfl (own_keep HOU4.out (by repeat (first | exact Keep.refl _ _ | apply Keep.drew | apply Keep.alloc | refine Keep.setCell ?_ (.inl (by simp)) _)) HNE2.out) ⟨w4.heap.size, 0, none⟩ 1 1 [.slice (some ⟨gc, 0, none⟩) 8 capc] rfl rfl (cell_one_at (by simp) _ _) (by intro u hu; simp at hu; subst hu; rfl) (by unfold maxLen; omega) (by omega) (by simp; omega) ?_; intro v5 w5 hown5 hgr5 _; have HO5 := Lib.hid hown5; have HGR5 := Lib.hid hgr5; clear hown5 hgr5))
            go_roundw
            case measure => simp [intOf]; omega
            case rel =>
              have hstep := Kept.step HS4.out.1 HS4.out.2.1 HS4.out.2.2.1 HS4.out.2.2.2.1 HS4.out.2.2.2.2 (show (lat h k).q = (p : Int) by rw [HLL.out])
              have ho4 : World.ownsRow ((w4.setCell ⟨gc, p, none⟩ (.int .i64 (x + 1))).setCell ⟨w1.heap.size, p, none⟩ (.slice (some ⟨gc, 0, none⟩) 8 capc)) wo.heap.size 22 1 u8 k ((List.range k).map V) := own_keep HOX.out ((Keep.refl [w1.heap.size] _).setCell (.inl (by simp)) _) HNE.out
              have hst2 := Kept.keep0 hstep ((Keep.refl [] _).alloc (.cells #[.slice (some ⟨gc, 0, none⟩) 8 capc] 22))
              have hfin := Kept.append hst2 (ho4.alloc (.cells #[.slice (some ⟨gc, 0, none⟩) 8 capc] 22)) (by omega) HGR5.out
              have hkf : Keep [] w w5 := by
                refine Keep.grown ?_ HGR5.out (fun g hg => .inr (by have := (HO.out.lt g hg).1; omega))
                repeat (first | exact hkw0 | apply Keep.drew | apply Keep.alloc | refine Keep.setCell ?_ (.inr (by omega)) _)
              refine ⟨k + 1, fun i => if i = k then (.slice (some ⟨gc, 0, none⟩) 8 capc) else V i, by omega, by go_num, hkf, Lib.hid hfin, Lib.hid ?_⟩
              rw [hrng]; exact HO5.out
          · have hgb : (g == 3) = false := by simpa using hg3
            rw [if_neg hg3] at hclk
            obtain ⟨gc, capc, rfl, hg3b, hg3l, hc38, hc3m, hcell3, hfz3⟩ := own_form HO3.out (by omega)
            have hcp := hcell3 p (by omega)
            have hbd := HLC.out.at_ (by omega) p
            obtain ⟨x, hx⟩ : ∃ x, lc.getD p 0 = x := ⟨_, rfl⟩
            rw [hx] at hcp hbd
            have HX := Lib.hid hx
            have hne1 : ¬ gc = wr.heap.size := by have := HGE3.out gc rfl; omega
            have hgew : wr.heap.size < gc := HGE3.out gc rfl
            have hclk' := Lib.hid hclk
            clear hcell3 hx hclk
            have hclk := hclk'
            clear hclk'
            by_cases hg2 : g = 2
            · subst hg2
              have hXk : Keep [gc] w3 (w3.setCell ⟨gc, p, none⟩ (.int .i64 (x + 1))) := (Keep.refl _ _).setCell (.inl (by simp)) _
              have hVg : ∀ i, i < k → (V i).ownBlock ≠ some gc := fun i hi e => by have := ((HQ.out.clk i hi).lt gc e).2; omega
              have hZg : ∀ p, p < 8 → (Z p).ownBlock ≠ some gc := fun p hp e => by have := ((HQ.out.zero p hp).lt gc e).2; omega
              have HQX := Lib.hid (HQ3.out.keep hXk (fun b hb => by simp at hb; subst hb; exact ⟨by omega, by have := HQ.out.sent.lt; omega⟩) (fun b hb => by simp at hb; subst hb; exact hVg) (fun b hb => by simp at hb; subst hb; exact hZg))
              have HCX : Hid ((w3.setCell ⟨gc, p, none⟩ (.int .i64 (x + 1))).ownsRow w.heap.size 3 1 (.slice (some ⟨gc, 0, none⟩) 8 capc) 8 ((clk h k).map (Value.int .i64))) := Lib.hid (by
                have h9 := own_put HO3.out (i := p) (x + 1)
                have h10 : lc.set p (x + 1) = clk h k := by rw [hclk.out, bump, show ((p : Int)).toNat = p from rfl, HX.out]
                rw [h10] at h9; exact h9)
              have HOX : Hid ((w3.setCell ⟨gc, p, none⟩ (.int .i64 (x + 1))).ownsRow wo.heap.size 22 1 u8 k ((List.range k).map V)) := Lib.hid (own_keep HOU3.out hXk (fun g hg hm => by have := (HO.out.lt g hg).2; simp at hm; omega))
              have hcl : u8.ownBlock ≠ some w1.heap.size := fun e => by have := (HO.out.lt _ e).1; omega
              have HNE : Hid (∀ b, u8.ownBlock = some b → b ∉ [w1.heap.size]) := Lib.hid (fun b hb hm => by simp at hm; subst hm; exact hcl hb)
              have HNE2 : Hid (∀ b, u8.ownBlock = some b → b ∉ [gc, w1.heap.size]) := Lib.hid (fun b hb hm => by
                simp at hm
                rcases hm with hm | hm
                · have := (HO.out.lt b hb).2; omega
                · subst hm; exact hcl hb)
              clear hXk hVg hZg hcl
              have HNS : Hid (∀ b, u8.ownBlock = some b → b ∉ [wo.heap.size]) := Lib.hid (fun b hb hm => by
                simp at hm
                subst hm
                rcases HOX.out.2 with ⟨he0, _⟩ | ⟨g9, cap9, cur9, he9, _, hgg9, _⟩
                · rw [he0] at hb; cases hb
                · rw [he9] at hb
                  have e1 : g9 = wo.heap.size := by simpa [Value.ownBlock] using hb
                  exact HQX.out.sent.notCells hgg9 e1.symm)
              have HN0X := Lib.hid (((Keep.refl [gc] w3).setCell (a := gc) (i := p) (.inl (by simp)) (.int .i64 (x + 1))).cell n0 (by simp; omega))
              go_wp2_with (first | (with_reducible refine Txt.wp_region_text mixed quiet (by decide +kernel) ?_) | (with_reducible refine Txt.text_done (by kernel_rfl) ?_) | (at_mapUpdate; refine wpList_update_f _ rfl _ _ _ 82 rfl 3 22 Try.underlying82 Try.underlying3 wo.heap.size k (fun x => (sendIx h x k).map V) rfl HQX.out.sent (by unfold maxLen; omega) u (.slice (some ⟨gc, 0, none⟩) 8 capc) rfl rfl HWF.out ?_; intro w4 hm4 hgr4; have HM4 := Lib.hid hm4; have HGR4 := Lib.hid hgr4; have hk4 : Keep [wo.heap.size] (w3.setCell ⟨gc, p, none⟩ (.int .i64 (x + 1))) w4 := Keep.ofGrown hgr4 (fun x hx => by cases hx; simp); have hsz4 : w3.heap.size ≤ w4.heap.size := (by have h9 := hk4.size; simpa using h9); have n40 := hk4.cell HN0X.out (by simp; omega); have HOX4 := Lib.hid (own_keep HOX.out hk4 HNS.out); have h4l := hk4.at HQX.out.last (by simp; omega); have h4c := cellAt h4l p; rw [List.getElem?_toArray, HOLD.out] at h4c; have h4z := thaw h4l; clear hm4 hgr4 h4l) | (at_builtin; refine wpList_append_own _ rfl _ _ 37 rfl wo.heap.size 22 i1 (.slice none 0 0) 1 24 Try.underlying37 hi1 hx0 hx1 hx2 rfl (by decide) _ _ _ rfl (own_keep HOX4.out (by repeat (first | exact Keep.refl _ _ | apply Keep.drew | apply Keep.alloc | refine Keep.setCell ?_ (.inl (by simp)) _)) HNE.out) ⟨w4.heap.size, 0, none⟩ 1 1 [.slice (some ⟨gc, 0, none⟩) 8 capc] rfl rfl (cell_one_at (by simp) _ _) (by intro u hu; simp at hu; subst hu; rfl) (by unfold maxLen; omega) (by omega) (by simp; omega) ?_; intro v5 w5 hown5 hgr5 _; have HO5 := Lib.hid hown5; have HGR5 := Lib.hid hgr5; clear hown5 hgr5))
              go_roundw
              case measure => simp [intOf]; omega
              case rel =>
                have hnS : ∀ (vv : Value) (zs : List Value), World.ownsRow (w3.setCell ⟨gc, p, none⟩ (.int .i64 (x + 1))) w.heap.size 3 1 vv 8 zs → w4.ownsRow w.heap.size 3 1 vv 8 zs := fun vv zs ho => own_keep ho hk4 (fun g hg hm => by
                  simp at hm
                  subst hm
                  rcases ho.2 with ⟨he0, _⟩ | ⟨g9, cap9, cur9, he9, _, hgg9, _⟩
                  · rw [he0] at hg; cases hg
                  · rw [he9] at hg
                    have e1 : g9 = wo.heap.size := by simpa [Value.ownBlock] using hg
                    exact HQX.out.sent.notCells hgg9 e1.symm)
                have hmap : MapF w4 Try.prog 3 wo.heap.size (k + 1) (fun x => (sendIx h x (k + 1)).map fun i => if i = k then (.slice (some ⟨gc, 0, none⟩) 8 capc) else V i) := by
                  rw [sendIx_map_put (show (lat h k).g = 2 by rw [HLL.out]), HLL.out]; exact HM4.out
                have hstep := Kept.step (cv := .slice (some ⟨gc, 0, none⟩) 8 capc) (fun i hi => hnS _ _ (HQX.out.clk i hi)) (fun p hp => hnS _ _ (HQX.out.zero p hp)) (hk4.at HQX.out.last (by simp; omega)) hmap (hnS _ _ HCX.out) (show (lat h k).q = (p : Int) by rw [HLL.out])
                have ho4 : World.ownsRow (w4.setCell ⟨w1.heap.size, p, none⟩ (.slice (some ⟨gc, 0, none⟩) 8 capc)) wo.heap.size 22 1 u8 k ((List.range k).map V) := own_keep HOX4.out ((Keep.refl [w1.heap.size] _).setCell (.inl (by simp)) _) HNE.out
                have hst2 := Kept.keep0 hstep ((Keep.refl [] _).alloc (.cells #[.slice (some ⟨gc, 0, none⟩) 8 capc] 22))
                have hfin := Kept.append hst2 (ho4.alloc (.cells #[.slice (some ⟨gc, 0, none⟩) 8 capc] 22)) (by omega) HGR5.out
                have hkf : Keep [] w w5 := by
                  refine Keep.grown ?_ HGR5.out (fun g hg => .inr (by have := (HO.out.lt g hg).1; omega))
                  have hkx : Keep [] w w4 := Keep.call (hkw0.setCell (a := gc) (i := p) (.inr (by omega)) (.int .i64 (x + 1))) hk4 (fun z hz => .inr (by simp at hz; omega))
                  repeat (first | exact hkx | apply Keep.drew | apply Keep.alloc | refine Keep.setCell ?_ (.inr (by omega)) _)
                refine ⟨k + 1, fun i => if i = k then (.slice (some ⟨gc, 0, none⟩) 8 capc) else V i, by omega, by go_num, hkf, Lib.hid hfin, Lib.hid ?_⟩
                rw [hrng]; exact HO5.out
            · have hgc : (g == 2) = false := by simpa using hg2
              have hXk : Keep [gc] w3 (w3.setCell ⟨gc, p, none⟩ (.int .i64 (x + 1))) := (Keep.refl _ _).setCell (.inl (by simp)) _
              have hVg : ∀ i, i < k → (V i).ownBlock ≠ some gc := fun i hi e => by have := ((HQ.out.clk i hi).lt gc e).2; omega
              have hZg : ∀ p, p < 8 → (Z p).ownBlock ≠ some gc := fun p hp e => by have := ((HQ.out.zero p hp).lt gc e).2; omega
              have HQX := Lib.hid (HQ3.out.keep hXk (fun b hb => by simp at hb; subst hb; exact ⟨by omega, by have := HQ.out.sent.lt; omega⟩) (fun b hb => by simp at hb; subst hb; exact hVg) (fun b hb => by simp at hb; subst hb; exact hZg))
              have HCX : Hid ((w3.setCell ⟨gc, p, none⟩ (.int .i64 (x + 1))).ownsRow w.heap.size 3 1 (.slice (some ⟨gc, 0, none⟩) 8 capc) 8 ((clk h k).map (Value.int .i64))) := Lib.hid (by
                have h9 := own_put HO3.out (i := p) (x + 1)
                have h10 : lc.set p (x + 1) = clk h k := by rw [hclk.out, bump, show ((p : Int)).toNat = p from rfl, HX.out]
                rw [h10] at h9; exact h9)
              have HOX : Hid ((w3.setCell ⟨gc, p, none⟩ (.int .i64 (x + 1))).ownsRow wo.heap.size 22 1 u8 k ((List.range k).map V)) := Lib.hid (own_keep HOU3.out hXk (fun g hg hm => by have := (HO.out.lt g hg).2; simp at hm; omega))
              have hcl : u8.ownBlock ≠ some w1.heap.size := fun e => by have := (HO.out.lt _ e).1; omega
              have HNE : Hid (∀ b, u8.ownBlock = some b → b ∉ [w1.heap.size]) := Lib.hid (fun b hb hm => by simp at hm; subst hm; exact hcl hb)
              have HNE2 : Hid (∀ b, u8.ownBlock = some b → b ∉ [gc, w1.heap.size]) := Lib.hid (fun b hb hm => by
                simp at hm
                rcases hm with hm | hm
                · have := (HO.out.lt b hb).2; omega
                · subst hm; exact hcl hb)
              clear hXk hVg hZg hcl
              have HS4 := Lib.hid (show (∀ i, i < k → (w3.setCell ⟨gc, p, none⟩ (.int .i64 (x + 1))).ownsRow w.heap.size 3 1 (V i) 8 ((Go.clk h i).map (Value.int .i64))) ∧ _ ∧ _ ∧ MapF (w3.setCell ⟨gc, p, none⟩ (.int .i64 (x + 1))) Try.prog 3 wo.heap.size (k + 1) (fun x => (sendIx h x (k + 1)).map fun i => if i = k then (.slice (some ⟨gc, 0, none⟩) 8 capc) else V i) ∧ _ from ⟨HQX.out.clk, HQX.out.zero, HQX.out.last, by rw [sendIx_map_same (show (lat h k).g ≠ 2 by rw [HLL.out]; exact hg2)]; exact HQX.out.sent.mono (by omega), HCX.out⟩)
              go_wp2_with (first | (with_reducible refine Txt.wp_region_text mixed quiet (by decide +kernel) ?_) | (with_reducible refine Txt.text_done (by kernel_rfl) ?_) | (at_builtin; refine wpList_append_own _ rfl _ _ 37 rfl wo.heap.size 22 i1 (.slice none 0 0) 1 24 Try.underlying37 hi1 hx0 hx1 hx2 rfl (by decide) _ _ _ rfl (own_keep HOU3.out (by repeat (first | exact Keep.refl _ _ | apply Keep.drew | apply Keep.alloc | refine Keep.setCell ?_ (.inl (by simp)) _)) HNE2.out) ⟨w3.heap.size, 0, none⟩ 1 1 [.slice (some ⟨gc, 0, none⟩) 8 capc] rfl rfl (cell_one_at (by simp) _ _) (by intro u hu; simp at hu; subst hu; rfl) (by unfold maxLen; omega) (by omega) (by simp; omega) ?_; intro v5 w5 hown5 hgr5 _; have HO5 := Lib.hid hown5; have HGR5 := Lib.hid hgr5; clear hown5 hgr5))
              go_roundw
              case measure => simp [intOf]; omega
              case rel =>
                have hstep := Kept.step HS4.out.1 HS4.out.2.1 HS4.out.2.2.1 HS4.out.2.2.2.1 HS4.out.2.2.2.2 (show (lat h k).q = (p : Int) by rw [HLL.out])
                have ho4 : World.ownsRow ((w3.setCell ⟨gc, p, none⟩ (.int .i64 (x + 1))).setCell ⟨w1.heap.size, p, none⟩ (.slice (some ⟨gc, 0, none⟩) 8 capc)) wo.heap.size 22 1 u8 k ((List.range k).map V) := own_keep HOX.out ((Keep.refl [w1.heap.size] _).setCell (.inl (by simp)) _) HNE.out
                have hst2 := Kept.keep0 hstep ((Keep.refl [] _).alloc (.cells #[.slice (some ⟨gc, 0, none⟩) 8 capc] 22))
                have hfin := Kept.append hst2 (ho4.alloc (.cells #[.slice (some ⟨gc, 0, none⟩) 8 capc] 22)) (by omega) HGR5.out
                have hkf : Keep [] w w5 := by
                  refine Keep.grown ?_ HGR5.out (fun g hg => .inr (by have := (HO.out.lt g hg).1; omega))
                  repeat (first | exact hkw0 | apply Keep.drew | apply Keep.alloc | refine Keep.setCell ?_ (.inr (by omega)) _)
                refine ⟨k + 1, fun i => if i = k then (.slice (some ⟨gc, 0, none⟩) 8 capc) else V i, by omega, by go_num, hkf, Lib.hid hfin, Lib.hid ?_⟩
                rw [hrng]; exact HO5.out
        · have hkn := Lib.hid (show k = n by omega)
          go_wp2_with fail
          go_ret2
          exact ⟨_, V, rfl, hkw2, by rw [← hkn.out]; exact HO.out.mono (by omega), fun i hi => HQ.out.clk i (by rw [hkn.out]; exact hi)⟩
end Go.Proofs.Ytkhchfjhmplaiaa
