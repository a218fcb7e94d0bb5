import Derived.Test.YtkhchfjhmplaiaaH15
namespace Go
open Go.RowKit
def ledB (h : List Ln) (i k : Nat) : Bool := decide (k = i) || lessL (clk h k) (clk h i)
/-- The event i and what led to it, of the first k. -/
def ledTo (h : List Ln) (i k : Nat) : List Ln := ((List.range k).filter (ledB h i)).map (lat h)
theorem ledTo_succ (h : List Ln) (i k : Nat) : ledTo h i (k + 1) = ledTo h i k ++ (if ledB h i k = true then [lat h k] else []) := by
  unfold ledTo
  rw [List.range_succ, List.filter_append, List.map_append]
  congr 1
  by_cases e : ledB h i k = true
  · rw [if_pos e]; simp [e]
  · rw [if_neg e]; simp [e]
theorem ledTo_len (h : List Ln) (i k : Nat) : (ledTo h i k).length ≤ k := by
  unfold ledTo
  rw [List.length_map]
  exact Nat.le_trans (List.length_filter_le _ _) (by simp)
end Go
namespace Go.Proofs.Ytkhchfjhmplaiaa
open Go.RowKit
set_option maxRecDepth 100000 in
set_option maxHeartbeats 1000000 in
/-- slices.Equal of equal histories. -/
theorem eqe_same {a1 a2 : Option Addr} {n c1 c2 : Nat} {h : List Ln} {w : World} (hx : LnsV w a1 n c1 h) (hy : LnsV w a2 n c2 h) :
    Calls Try.prog 44 #[.slice a1 n c1, .slice a2 n c2] w fun e w' => e = .returned (.bool true) ∧ Keep [] w w' := by
  have HX := Lib.hid hx
  have HY := Lib.hid hy
  have h1 := hx.room
  have h2 := hx.most
  have h3 := hy.room
  have h4 := hy.most
  unfold maxLen at h2 h4
  clear hx hy
  go_enter Try.func44, Try.ntmps44
  go_wp2_with fail
  go_loopw [13] (fun i wr => ∃ k : Nat, k ≤ n ∧ i = .int .i64 k ∧ Keep [] w wr) (fun i _ => n - (intOf i).toNat)
  case atStart => exact ⟨0, by omega, rfl, Keep.refl _ _⟩
  case round =>
    obtain ⟨k, hk, rfl, hkw⟩ := hrel
    by_cases hlt : k < n
    · obtain ⟨b, off, rfl, c0, c1', c2'⟩ := (HX.out.keep hkw (by simp)).at_ hlt
      obtain ⟨b', off', rfl, d0, d1, d2⟩ := (HY.out.keep hkw (by simp)).at_ hlt
      obtain ⟨⟨q, g, u⟩, hL⟩ : ∃ L, lat h k = L := ⟨_, rfl⟩
      rw [hL] at c0 c1' c2' d0 d1 d2
      dsimp only at c0 c1' c2' d0 d1 d2
      clear hL
      go_wp2_with fail
      go_region
      go_wp2_with fail
      go_roundw
      case measure => simp [intOf]; omega
      case rel => exact ⟨k + 1, by omega, by go_num, by repeat (first | exact hkw | apply Keep.drew)⟩
    · go_wp2_with fail
      go_ret
      exact ⟨rfl, hkw⟩
set_option maxRecDepth 100000 in
set_option maxHeartbeats 1000000 in
/-- slices.Equal of equal histories, in a region that only reads. -/
theorem eqe_q {a1 a2 : Option Addr} {n c1 c2 : Nat} {h : List Ln} {r : Nat} {w : World} (hx : LnsV w a1 n c1 h) (hy : LnsV w a2 n c2 h) :
    Calls Try.prog 44 #[.slice a1 n c1, .slice a2 n c2] (w.drewN r) fun e w' => e = .returned (.bool true) ∧ ∃ m, w' = w.drewN m := by
  have HX := Lib.hid hx
  have HY := Lib.hid hy
  have h1 := hx.room
  have h2 := hx.most
  have h3 := hy.room
  have h4 := hy.most
  unfold maxLen at h2 h4
  clear hx hy
  go_enter Try.func44, Try.ntmps44
  go_wp2_with fail
  go_loopw [13] (fun i wr => ∃ k : Nat, k ≤ n ∧ i = .int .i64 k ∧ ∃ m, wr = w.drewN m) (fun i _ => n - (intOf i).toNat)
  case atStart => exact ⟨0, by omega, rfl, r, rfl⟩
  case round =>
    obtain ⟨k, hk, rfl, m, hwm⟩ := hrel
    have HW := Lib.hid hwm
    have hkw : Keep [] w wr := by rw [hwm]; exact keep_drewN (Keep.refl _ _) _
    clear hwm
    by_cases hlt : k < n
    · obtain ⟨b, off, rfl, c0, c1', c2'⟩ := (HX.out.keep hkw (by simp)).at_ hlt
      obtain ⟨b', off', rfl, d0, d1, d2⟩ := (HY.out.keep hkw (by simp)).at_ hlt
      obtain ⟨⟨q, g, u⟩, hL⟩ : ∃ L, lat h k = L := ⟨_, rfl⟩
      rw [hL] at c0 c1' c2' d0 d1 d2
      dsimp only at c0 c1' c2' d0 d1 d2
      clear hL
      go_wp2_with fail
      go_region
      go_wp2_with fail
      go_roundw
      case measure => simp [intOf]; omega
      case rel => exact ⟨k + 1, by omega, by go_num, m + 1, by rw [HW.out]; rfl⟩
    · go_wp2_with fail
      go_ret
      exact ⟨rfl, m, HW.out⟩
set_option maxHeartbeats 1000000 in
theorem eqi_q {a1 a2 : Option Addr} {n c1 c2 r : Nat} {xs ys : List Int} {w : World} (hx : IntsV w a1 n c1 xs) (hy : IntsV w a2 n c2 ys) (he : Hid (xs = ys)) :
    Calls Try.prog 34 #[.slice a1 n c1, .slice a2 n c2] (w.drewN r) fun e w' => e = .returned (.bool true) ∧ ∃ m, w' = w.drewN m := by
  obtain rfl := he.out
  have hb1 := hx.room
  have hb2 := hx.most
  have hb3 := hy.room
  have hb4 := hy.most
  unfold maxLen at hb2 hb4
  have HX := Lib.hid hx
  have HY := Lib.hid hy
  clear hx hy he
  go_enter Try.func34, Try.ntmps34
  go_wp2_with fail
  go_loopw [13] (fun i wr => ∃ k : Nat, k ≤ n ∧ i = .int .i64 k ∧ ∃ m, wr = w.drewN m) (fun i _ => n - (intOf i).toNat)
  case atStart => exact ⟨0, by omega, rfl, r, rfl⟩
  case round =>
    obtain ⟨k, hk, rfl, m, hwm⟩ := hrel
    have HW := Lib.hid hwm
    have hkw : Keep [] w wr := by rw [hwm]; exact keep_drewN (Keep.refl _ _) _
    clear hwm
    by_cases hlt : k < n
    · obtain ⟨b1, o1, rfl, hc1⟩ := HX.out.cells (by omega)
      obtain ⟨b2, o2, rfl, hc2⟩ := HY.out.cells (by omega)
      have hd1 := hkw.cell (hc1 k hlt) (by simp)
      have hd2 := hkw.cell (hc2 k hlt) (by simp)
      clear hc1 hc2 HX HY
      generalize xs.getD k 0 = x at *
      go_wp2_with fail
      go_region
      go_wp2_with fail
      go_roundw
      case measure => simp [intOf]; omega
      case rel => exact ⟨k + 1, by omega, by go_num, m + 1, by rw [HW.out]; rfl⟩
    · go_wp2_with fail
      go_ret
      exact ⟨rfl, m, HW.out⟩
set_option maxRecDepth 100000 in
set_option maxHeartbeats 2000000 in
theorem led_any {a : Option Addr} {n c i : Nat} {h : List Ln} {w : World} (hv : LnsV w a n c h) (hk : HOk h) (hi : i < n) :
    Calls Try.prog 43 #[.slice a n c, .int .i64 i] w fun e w' => ∃ v m, e = .returned (.tuple #[v, .int .i64 0]) ∧ Keep [] w w' ∧ w'.ownsRow w.heap.size 27 3 v m (lanesC (ledTo h i n)) := by
  have hc := Lib.hid (clocks_at hv hk (by omega))
  have HV := Lib.hid hv
  have HL := Lib.hid hv.len
  have hn2 : n ≤ 200 := by have := hk.len; have := hv.len; omega
  have HK := Lib.hid hk
  obtain ⟨i0, hi0, hz0, hz1, hz2⟩ := info_parts info27
  clear hv hk
  have hd1 : decide ((i : Int) < 0) = false := by simp
  have hd2 : decide ((n : Int) ≤ (i : Int)) = false := by simp; omega
  have hd3 : decide (n ≤ i) = false := by simp; omega
  go_enter Try.func43, Try.ntmps43
  go_wp2_with (first | (go_at_call 25; refine hc.out.mono ?_; rintro e w1 ⟨g1, cap, rfl, hk1, hg, hgl, hnc, hcm, hcs⟩; have HCS : Hid (ClksV w1 g1 n h) := Lib.hid hcs; unfold maxLen at hcm; clear hcs))
  go_loopw [8, 9, 10, 31] (fun v _ _ j wr => ∃ (k m : Nat), k ≤ n ∧ j = .int .i64 k ∧ Keep [] w1 wr ∧ Hid (wr.ownsRow w1.heap.size 27 3 v m (lanesC (ledTo h i k)))) (fun _ _ _ j _ => n - (intOf j).toNat)
  case atStart => exact ⟨0, 0, by omega, rfl, Keep.refl _ _, Lib.hid (World.ownsRow_nil _ _ _ _)⟩
  case round =>
    obtain ⟨k, m, hk, rfl, hkw, HO⟩ := hrel
    have HX := Lib.hid (HCS.out.keep hkw)
    have hm : m ≤ k := by have h1 := HO.out.1; have h2 := ledTo_len h i k; rw [lanesC_len] at h1; omega
    have hsw := hkw.size
    by_cases hlt : k < n
    · obtain ⟨b, off, rfl, c0, c1, c2⟩ := (HV.out.keep (hk1.trans hkw) (by simp)).at_ hlt
      obtain ⟨gi, ci, hci, hii⟩ := HX.out i hi
      obtain ⟨gk, ck, hck, hik⟩ := HX.out k hlt
      have hls := ledTo_succ h i k
      obtain ⟨⟨q, g, u⟩, hL⟩ : ∃ L, lat h k = L := ⟨_, rfl⟩
      rw [hL] at c0 c1 c2 hls
      dsimp only at c0 c1 c2
      clear hL
      have hkA : Keep [] wr (wr.alloc (.cells #[.int .i64 q, .int .i64 g, .int .i64 u] 27)) := (Keep.refl [] _).alloc _
      have HII := Lib.hid (hii.keep hkA (by simp))
      have HIK := Lib.hid (hik.keep hkA (by simp))
      have HOA := Lib.hid (own_keep HO.out hkA (by simp))
      have hkwA := hkw.trans hkA
      have hci' := hkA.cell hci (by simp)
      have hck' := hkA.cell hck (by simp)
      have HEV := Lib.hid (blk_new wr (.cells #[.int .i64 q, .int .i64 g, .int .i64 u] 27))
      have f1 : (i : Int) < (n : Int) := by omega
      have f2 : (k : Int) < (n : Int) := by omega
      clear hii hik hci hck
      by_cases hki : k = i
      · have hee : ((k : Int) == (i : Int)) = true := by rw [hki]; exact beq_self_eq_true _
        have hled : ledB h i k = true := by unfold ledB; rw [decide_eq_true hki]; rfl
        rw [hled, if_pos rfl] at hls
        have HLS := Lib.hid hls
        clear hls hled hki
        go_wp2_with fail
        go_quiet (first | (go_at_call 27; exact less_q HIK.out HII.out HB))
        obtain ⟨w5, hw5⟩ : ∃ w5, (wr.alloc (.cells #[.int .i64 q, .int .i64 g, .int .i64 u] 27)).drewN nq = w5 := ⟨_, rfl⟩
        have hk5 : Keep [] (wr.alloc (.cells #[.int .i64 q, .int .i64 g, .int .i64 u] 27)) ((wr.alloc (.cells #[.int .i64 q, .int .i64 g, .int .i64 u] 27)).drewN nq) := keep_drewN (Keep.refl [] _) _
        rw [hw5] at hk5 ⊢
        have HO5 := Lib.hid (own_keep HOA.out hk5 (by simp))
        have hkw5 := hkwA.trans hk5
        have hs5 := hkw5.size
        obtain ⟨n0, n1, n2, _⟩ := row3 (hk5.at HEV.out (by simp))
        clear hw5 hk5
        go_wp2_with (first | (with_reducible refine Txt.wp_region_text mixed quiet (by decide +kernel) ?_) | (with_reducible refine Txt.text_done (by kernel_rfl) ?_) | (at_builtin; refine wpList_append_own _ rfl _ _ 28 rfl w1.heap.size 27 i0 (.agg #[.int .i64 0, .int .i64 0, .int .i64 0]) 3 24 Try.underlying28 hi0 hz0 hz1 hz2 rfl (by decide) _ _ _ rfl (HO5.out.alloc _) ⟨w5.heap.size, 0, none⟩ 1 1 [.int .i64 q, .int .i64 g, .int .i64 u] rfl rfl (cells_new _ _ _ _) (by intro u hu; simp at hu; rcases hu with hu | hu | hu <;> (subst hu; rfl)) (by unfold maxLen; omega) (by omega) (by simp; omega) ?_; intro v6 w6 hown6 hgr6 _; have HO6 := Lib.hid hown6; have HGR6 := Lib.hid hgr6; clear hown6 hgr6))
        go_roundw
        case measure => simp [intOf]; omega
        case rel =>
          have hgr : (w5.alloc (.cells #[.int .i64 q, .int .i64 g, .int .i64 u] 27)).grownBy w6 u8.ownBlock := HGR6.out
          exact ⟨k + 1, m + 1, by omega, by go_num, (hkw5.alloc _).grown hgr (fun x hx => .inr (HO.out.lt x hx).1), Lib.hid (by rw [HLS.out]; simpa [lanesC_snoc, Ln.cells] using HO6.out)⟩
      · have hne : ((k : Int) == (i : Int)) = false := beq_eq_false_iff_ne.2 (fun e => hki (by omega))
        obtain ⟨bb, hb⟩ : ∃ bb, lessL (clk h k) (clk h i) = bb := ⟨_, rfl⟩
        have hled : ledB h i k = bb := by unfold ledB; rw [hb, decide_eq_false hki]; rfl
        rw [hled] at hls
        have HB := Lib.hid hb
        clear hb hled
        cases bb
        · have HLS := Lib.hid hls
          clear hls
          go_wp2_with fail
          go_quiet (first | (go_at_call 27; exact less_q HIK.out HII.out HB))
          go_wp2_with fail
          go_roundw
          case measure => simp [intOf]; omega
          case rel => exact ⟨k + 1, m, by omega, by go_num, keep_drewN hkwA _, Lib.hid (by rw [HLS.out]; simpa using own_keep HOA.out (keep_drewN (Keep.refl [] _) _) (by simp))⟩
        · have HLS := Lib.hid hls
          clear hls
          go_wp2_with fail
          go_quiet (first | (go_at_call 27; exact less_q HIK.out HII.out HB))
          obtain ⟨w5, hw5⟩ : ∃ w5, (wr.alloc (.cells #[.int .i64 q, .int .i64 g, .int .i64 u] 27)).drewN nq = w5 := ⟨_, rfl⟩
          have hk5 : Keep [] (wr.alloc (.cells #[.int .i64 q, .int .i64 g, .int .i64 u] 27)) ((wr.alloc (.cells #[.int .i64 q, .int .i64 g, .int .i64 u] 27)).drewN nq) := keep_drewN (Keep.refl [] _) _
          rw [hw5] at hk5 ⊢
          have HO5 := Lib.hid (own_keep HOA.out hk5 (by simp))
          have hkw5 := hkwA.trans hk5
          have hs5 := hkw5.size
          obtain ⟨n0, n1, n2, _⟩ := row3 (hk5.at HEV.out (by simp))
          clear hw5 hk5
          go_wp2_with (first | (with_reducible refine Txt.wp_region_text mixed quiet (by decide +kernel) ?_) | (with_reducible refine Txt.text_done (by kernel_rfl) ?_) | (at_builtin; refine wpList_append_own _ rfl _ _ 28 rfl w1.heap.size 27 i0 (.agg #[.int .i64 0, .int .i64 0, .int .i64 0]) 3 24 Try.underlying28 hi0 hz0 hz1 hz2 rfl (by decide) _ _ _ rfl (HO5.out.alloc _) ⟨w5.heap.size, 0, none⟩ 1 1 [.int .i64 q, .int .i64 g, .int .i64 u] rfl rfl (cells_new _ _ _ _) (by intro u hu; simp at hu; rcases hu with hu | hu | hu <;> (subst hu; rfl)) (by unfold maxLen; omega) (by omega) (by simp; omega) ?_; intro v6 w6 hown6 hgr6 _; have HO6 := Lib.hid hown6; have HGR6 := Lib.hid hgr6; clear hown6 hgr6))
          go_roundw
          case measure => simp [intOf]; omega
          case rel =>
            have hgr : (w5.alloc (.cells #[.int .i64 q, .int .i64 g, .int .i64 u] 27)).grownBy w6 u8.ownBlock := HGR6.out
            exact ⟨k + 1, m + 1, by omega, by go_num, (hkw5.alloc _).grown hgr (fun x hx => .inr (HO.out.lt x hx).1), Lib.hid (by rw [HLS.out]; simpa [lanesC_snoc, Ln.cells] using HO6.out)⟩
    · have hkn := Lib.hid (show k = n by omega)
      go_wp2_with fail
      go_ret2
      exact ⟨_, m, rfl, hk1.trans hkw, by rw [← hkn.out]; exact HO.out.mono hk1.size⟩
end Go.Proofs.Ytkhchfjhmplaiaa
