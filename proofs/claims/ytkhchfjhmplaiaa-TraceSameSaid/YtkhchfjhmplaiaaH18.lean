import Derived.Test.YtkhchfjhmplaiaaH17
namespace Go
open Go.RowKit
/-- The events of a place. -/
def plB (h : List Ln) (p : Int) (j : Nat) : Bool := decide ((lat h j).q = p)
def atTo (h : List Ln) (p : Int) (k : Nat) : List Ln := subL h (plB h p) k
def atL (h : List Ln) (p : Int) : List Ln := atTo h p h.length
theorem subL_succ (h : List Ln) (P : Nat → Bool) (k : Nat) : subL h P (k + 1) = subL h P k ++ (if P k = true then [lat h k] else []) := by
  unfold subL
  rw [List.range_succ, List.filter_append, List.map_append]
  by_cases e : P k = true
  · simp [e]
  · simp [e]
theorem rk_le (P : Nat → Bool) (k : Nat) : rk P k ≤ k := by unfold rk; exact Nat.le_trans (List.length_filter_le _ _) (by simp)
end Go
namespace Go.Proofs.Ytkhchfjhmplaiaa
open Go.RowKit
set_option maxRecDepth 100000 in
set_option maxHeartbeats 1000000 in
theorem at67_any {a : Option Addr} {n c : Nat} {p : Int} {h : List Ln} {w : World} (hv : LnsV w a n c h) (hn2 : n ≤ 200) :
    Calls Try.prog 67 #[.slice a n c, .int .i64 p] w fun e w' => ∃ a' m c', e = .returned (.slice a' m c') ∧ Keep [] w w' ∧ LnsV w' a' m c' (atL h p) := by
  have HV := Lib.hid hv
  have HL := Lib.hid hv.len
  obtain ⟨i0, hi0, hz0, hz1, hz2⟩ := info_parts info27
  clear hv
  go_enter Try.func67, Try.ntmps67
  go_wp2_with fail
  go_loopw [5, 7, 10] (fun v _ j wr => ∃ (k m : Nat), k ≤ n ∧ j = .int .i64 k ∧ Keep [] w wr ∧ Hid (wr.ownsRow w.heap.size 27 3 v m (lanesC (atTo h p k)))) (fun _ _ j _ => n - (intOf j).toNat)
  case atStart => exact ⟨0, 0, by omega, rfl, Keep.refl _ _, Lib.hid (World.ownsRow_nil _ _ _ _)⟩
  case round =>
    obtain ⟨k, m, hk, rfl, hkw, HO⟩ := hrel
    have hm : m ≤ k := by
      have h1 := HO.out.1
      have h2 := rk_le (plB h p) k
      rw [lanesC_len, atTo, subL_len] at h1
      omega
    have hsw := hkw.size
    by_cases hlt : k < n
    · obtain ⟨b, off, rfl, c0, c1, c2⟩ := (HV.out.keep hkw (by simp)).at_ hlt
      have hls := subL_succ h (plB h p) k
      have hpl : plB h p k = decide ((lat h k).q = p) := rfl
      obtain ⟨⟨q, g, u⟩, hL⟩ : ∃ L, lat h k = L := ⟨_, rfl⟩
      rw [hL] at c0 c1 c2 hls hpl
      dsimp only at c0 c1 c2 hpl
      rw [hpl] at hls
      clear hL hpl
      have hkA : Keep [] wr (wr.alloc (.cells #[.int .i64 q, .int .i64 g, .int .i64 u] 27)) := (Keep.refl [] _).alloc _
      have HOA := Lib.hid (own_keep HO.out hkA (by simp))
      have hkwA := hkw.trans hkA
      by_cases hq : q = p
      · have hqb : (q == p) = true := by rw [hq]; exact beq_self_eq_true _
        have HLS : Hid (atTo h p (k + 1) = atTo h p k ++ [⟨q, g, u⟩]) := Lib.hid (by unfold atTo; rw [hls, decide_eq_true hq, if_pos rfl])
        clear hls hq
        go_wp2_with (first | (with_reducible refine Txt.wp_region_text mixed quiet (by decide +kernel) ?_) | (with_reducible refine Txt.text_done (by kernel_rfl) ?_) | (at_builtin; refine wpList_append_own _ rfl _ _ 28 rfl w.heap.size 27 i0 (.agg #[.int .i64 0, .int .i64 0, .int .i64 0]) 3 24 Try.underlying28 hi0 hz0 hz1 hz2 rfl (by decide) _ _ _ rfl (HOA.out.alloc _) ⟨wr.heap.size + 1, 0, none⟩ 1 1 [.int .i64 q, .int .i64 g, .int .i64 u] rfl rfl (cells_new2 _ _ _ _) (by intro u hu; simp at hu; rcases hu with hu | hu | hu <;> (subst hu; rfl)) (by unfold maxLen; omega) (by omega) (by simp; omega) ?_; intro v6 w6 hown6 hgr6 _; have HO6 := Lib.hid hown6; have HGR6 := Lib.hid hgr6; clear hown6 hgr6))
        go_roundw
        case measure => simp [intOf]; omega
        case rel =>
          have hgr : ((wr.alloc (.cells #[.int .i64 q, .int .i64 g, .int .i64 u] 27)).alloc (.cells #[.int .i64 q, .int .i64 g, .int .i64 u] 27)).grownBy w6 u5.ownBlock := HGR6.out
          exact ⟨k + 1, m + 1, by omega, by go_num, (hkwA.alloc _).grown hgr (fun x hx => .inr (HO.out.lt x hx).1), Lib.hid (by rw [HLS.out]; simpa [lanesC_snoc, Ln.cells] using HO6.out)⟩
      · have hqb : (q == p) = false := beq_eq_false_iff_ne.2 hq
        have HLS : Hid (atTo h p (k + 1) = atTo h p k) := Lib.hid (by unfold atTo; rw [hls, decide_eq_false hq]; simp)
        clear hls hq
        go_wp2_with fail
        go_roundw
        case measure => simp [intOf]; omega
        case rel => exact ⟨k + 1, m, by omega, by go_num, hkwA, Lib.hid (by rw [HLS.out]; exact HOA.out)⟩
    · have hkn := Lib.hid (show k = n by omega)
      go_wp2_with fail
      go_ret
      have h9 := HO.out
      rw [hkn.out, ← HL.out] at h9
      obtain ⟨a', c', rfl, hv', _⟩ := LnsV.ofOwn h9
      exact ⟨a', m, c', rfl, hkw, hv'⟩
set_option maxRecDepth 100000 in
theorem ev69_same (q g u : Int) (w : World) :
    Calls Try.prog 69 #[.agg #[.int .i64 q, .int .i64 g, .int .i64 u], .agg #[.int .i64 q, .int .i64 g, .int .i64 u]] w fun e w' => e = .returned (.bool true) ∧ Keep [] w w' := by
  go_enter Try.func69, Try.ntmps69
  go_wp2_with fail
  all_goals go_ret
  all_goals exact ⟨rfl, ((Keep.refl _ _).alloc _).alloc _⟩
set_option maxRecDepth 100000 in
set_option maxHeartbeats 1000000 in
theorem ev70_same {a1 a2 : Option Addr} {n c1 c2 : Nat} {h : List Ln} {w : World} (hx : LnsV w a1 n c1 h) (hy : LnsV w a2 n c2 h) :
    Calls Try.prog 70 #[.slice a1 n c1, .slice a2 n c2, .func (.func 69) #[] #[]] w fun e w' => e = .returned (.bool true) ∧ Keep [] w w' := by
  have HX := Lib.hid hx
  have HY := Lib.hid hy
  have h1 := hx.room
  have h2 := hx.most
  have h3 := hy.room
  have h4 := hy.most
  unfold maxLen at h2 h4
  clear hx hy
  go_enter Try.func70, Try.ntmps70
  go_wp2_with fail
  go_loopw [17] (fun i wr => ∃ k : Nat, k ≤ n ∧ i = .int .i64 k ∧ Keep [] w wr) (fun i _ => n - (intOf i).toNat)
  case atStart => exact ⟨0, by omega, rfl, Keep.refl _ _⟩
  case round =>
    obtain ⟨k, hk, rfl, hkw⟩ := hrel
    by_cases hlt : k < n
    · obtain ⟨b, off, rfl, c0, c1', c2'⟩ := (HX.out.keep hkw (by simp)).at_ hlt
      obtain ⟨b', off', rfl, d0, d1, d2⟩ := (HY.out.keep hkw (by simp)).at_ hlt
      obtain ⟨⟨q, g, u⟩, hL⟩ : ∃ L, lat h k = L := ⟨_, rfl⟩
      rw [hL] at c0 c1' c2' d0 d1 d2
      dsimp only at c0 c1' c2' d0 d1 d2
      clear hL
      have hkA : Keep [] wr (wr.alloc (.cells #[.int .i64 q, .int .i64 g, .int .i64 u] 27)) := (Keep.refl [] _).alloc _
      have e0 := hkA.cell d0 (by simp)
      have e1 := hkA.cell d1 (by simp)
      have e2 := hkA.cell d2 (by simp)
      go_wp2_with (first | (go_at_call 69; refine (ev69_same q g u _).mono ?_; rintro e w1 ⟨rfl, hk1⟩))
      go_roundw
      case measure => simp [intOf]; omega
      case rel => exact ⟨k + 1, by omega, by go_num, ((hkw.alloc _).alloc _).trans hk1⟩
    · go_wp2_with fail
      go_ret
      exact ⟨rfl, hkw⟩
theorem ev70_len {a1 a2 : Option Addr} {n1 n2 c1 c2 : Nat} {w : World} (hn : n1 ≠ n2) :
    Calls Try.prog 70 #[.slice a1 n1 c1, .slice a2 n2 c2, .func (.func 69) #[] #[]] w fun e w' => e = .returned (.bool false) ∧ Keep [] w w' := by
  have hb : ((n1 : Int) == (n2 : Int)) = false := beq_eq_false_iff_ne.2 (fun e => hn (by omega))
  go_enter Try.func70, Try.ntmps70
  go_wp2_with fail
  go_ret
  exact ⟨rfl, Keep.refl _ _⟩
set_option maxRecDepth 100000 in
theorem at36_any {a : Option Addr} {n c p : Nat} {h : List Ln} {w : World} (hv : LnsV w a n c h) (hk : HOk h) (hp : p < 8) :
    Calls Try.prog 36 #[.slice a n c, .int .i64 p] w fun e w' => ∃ a' m c', e = .returned (.tuple #[.slice a' m c', .int .i64 0]) ∧ Keep [] w w' ∧ LnsV w' a' m c' (atL h p) := by
  have hn2 : n ≤ 200 := by have := hk.len; have := hv.len; omega
  have HV := Lib.hid hv
  have HK := Lib.hid hk
  have hd1 : ¬ ((p : Int) < 0) := by omega
  have hd2 : ¬ (8 ≤ (p : Int)) := by omega
  clear hv hk
  go_enter Try.func36, Try.ntmps36
  go_wp2_with (first | (go_at_call 51; refine (check_ok HV.out HK.out).mono ?_; rintro e w1 ⟨rfl, hk1⟩) | (go_at_call 67; refine (at67_any (HV.out.keep hk1 (by simp)) hn2).mono ?_; rintro e w2 ⟨a2, m, c2, rfl, hk2, hv2⟩; have HV2 := Lib.hid hv2; clear hv2))
  go_ret2
  exact ⟨a2, m, c2, rfl, hk1.trans hk2, HV2.out⟩
/-- The two histories part at place r, or nowhere. -/
structure Part8 (a b : List Ln) (r : Nat) : Prop where
  le : r ≤ 8
  same : ∀ p : Nat, p < r → atL a p = atL b p
  diff : r < 8 → (atL a (r : Nat)).length ≠ (atL b (r : Nat)).length
set_option maxRecDepth 100000 in
set_option maxHeartbeats 2000000 in
theorem same40_any {a1 a2 : Option Addr} {n1 n2 c1 c2 r : Nat} {x y : List Ln} {w : World} {R : Bool} (hx : LnsV w a1 n1 c1 x) (hy : LnsV w a2 n2 c2 y) (hkx : HOk x) (hky : HOk y) (hp : Part8 x y r) (hR : R = decide (r = 8)) :
    Calls Try.prog 40 #[.slice a1 n1 c1, .slice a2 n2 c2] w fun e w' => e = .returned (.tuple #[.bool R, .int .i64 0]) ∧ Keep [] w w' := by
  have hn1 : n1 ≤ 200 := by have := hkx.len; have := hx.len; omega
  have hn2 : n2 ≤ 200 := by have := hky.len; have := hy.len; omega
  have HX := Lib.hid hx
  have HY := Lib.hid hy
  have HKX := Lib.hid hkx
  have HKY := Lib.hid hky
  have HP := Lib.hid hp
  have HR := Lib.hid hR
  have hr8 := hp.le
  clear hx hy hkx hky hp hR
  have HB := Lib.hid (blk_new w (.cells #[.slice a1 n1 c1, .slice a2 n2 c2] 28))
  go_enter Try.func40, Try.ntmps40
  go_wp2_with fail
  go_loopw [7, 8, 15] (fun _ _ j wr => ∃ k : Nat, k ≤ 2 ∧ j = .int .i64 k ∧ Keep [] (w.alloc (.cells #[.slice a1 n1 c1, .slice a2 n2 c2] 28)) wr) (fun _ _ j _ => 2 - (intOf j).toNat)
  case atStart => exact ⟨0, by omega, rfl, Keep.refl _ _⟩
  case round =>
    obtain ⟨k, hk, rfl, hkw⟩ := hrel
    have hb := hkw.at HB.out (by simp)
    have hkw0 : Keep [] w wr := ((Keep.refl _ _).alloc _).trans hkw
    by_cases hlt : k < 2
    · have hcases : k = 0 ∨ k = 1 := by omega
      rcases hcases with rfl | rfl
      · have c0 : wr.cell? ⟨w.heap.size, 0, none⟩ = some (.slice a1 n1 c1) := by rw [cellAt hb]; rfl
        clear hb
        go_wp2_with (first | (go_at_call 51; refine (check_ok (HX.out.keep hkw0 (by simp)) HKX.out).mono ?_; rintro e w1 ⟨rfl, hk1⟩))
        go_roundw
        case measure => simp [intOf]
        case rel => exact ⟨1, by omega, by go_num, hkw.trans hk1⟩
      · have c0 : wr.cell? ⟨w.heap.size, 1, none⟩ = some (.slice a2 n2 c2) := by rw [cellAt hb]; rfl
        clear hb
        go_wp2_with (first | (go_at_call 51; refine (check_ok (HY.out.keep hkw0 (by simp)) HKY.out).mono ?_; rintro e w1 ⟨rfl, hk1⟩))
        go_roundw
        case measure => simp [intOf]
        case rel => exact ⟨2, by omega, by go_num, hkw.trans hk1⟩
    · have hdec : decide ((k : Int) < 2) = false := by simp; omega
      clear hb hkw
      go_wp2_with fail
      obtain ⟨wo, rfl⟩ : ∃ wo : World, wo = wr := ⟨_, rfl⟩
      go_loopw [10, 25] (fun _ j wr => ∃ p : Nat, p ≤ r ∧ j = .int .i64 p ∧ Keep [] w wr) (fun _ j _ => 8 - (intOf j).toNat)
      case atStart => exact ⟨0, by omega, rfl, hkw0⟩
      case round =>
        obtain ⟨p, hpr, rfl, hkp⟩ := hrel
        by_cases hlp : p < 8
        · by_cases hpe : p = r
          · have hdf := HP.out.diff (by omega)
            rw [← hpe] at hdf
            have HDF := Lib.hid hdf
            have hRf := Lib.hid (show R = false by rw [HR.out]; exact decide_eq_false (by omega))
            clear hpe hdf
            go_wp2_with (first | (go_at_call 67; (with_reducible refine (at67_any (p := (p : Int)) (HX.out.keep hkp (by simp)) hn1).mono ?_); rintro e w3 ⟨a3, m3, c3, rfl, hk3, hv3⟩; have HV3 := Lib.hid hv3; clear hv3) | (go_at_call 67; (with_reducible refine (at67_any (p := (p : Int)) ((HY.out.keep hkp (by simp)).keep hk3 (by simp)) hn2).mono ?_); rintro e w4 ⟨a4, m4, c4, rfl, hk4, hv4⟩; have HV4 := Lib.hid hv4; have HNE : Hid (m3 ≠ m4) := Lib.hid (by rw [← HV3.out.len, ← hv4.len]; exact HDF.out); clear hv4) | (go_at_call 70; refine (ev70_len HNE.out).mono ?_; rintro e w5 ⟨rfl, hk5⟩))
            go_ret2
            exact ⟨by rw [hRf.out]; rfl, ((hkp.trans hk3).trans hk4).trans hk5⟩
          · have HSM := Lib.hid (HP.out.same p (by omega))
            go_wp2_with (first | (go_at_call 67; (with_reducible refine (at67_any (p := (p : Int)) (HX.out.keep hkp (by simp)) hn1).mono ?_); rintro e w3 ⟨a3, m3, c3, rfl, hk3, hv3⟩; have HV3 := Lib.hid hv3; clear hv3) | (go_at_call 67; (with_reducible refine (at67_any (p := (p : Int)) ((HY.out.keep hkp (by simp)).keep hk3 (by simp)) hn2).mono ?_); rintro e w4 ⟨a4, m4, c4, rfl, hk4, hv4⟩; have hm34 : m4 = m3 := (by rw [← HV3.out.len, ← hv4.len, HSM.out]); subst hm34; rw [← HSM.out] at hv4; have HV4 := Lib.hid hv4; clear hv4) | (go_at_call 70; refine (ev70_same (HV3.out.keep hk4 (by simp)) HV4.out).mono ?_; rintro e w5 ⟨rfl, hk5⟩))
            go_roundw
            case measure => simp [intOf]; omega
            case rel => exact ⟨p + 1, by omega, by go_num, ((hkp.trans hk3).trans hk4).trans hk5⟩
        · have hr : r = 8 := by omega
          have hRt := Lib.hid (show R = true by rw [HR.out]; exact decide_eq_true hr)
          go_wp2_with fail
          go_ret2
          exact ⟨by rw [hRt.out]; rfl, hkp⟩
end Go.Proofs.Ytkhchfjhmplaiaa
