/- Texts laid together: H16 H17 H18 H19 H20. -/
import Derived.Test.YtkhchfjhmplaiaaMg7
namespace Go
open Go.RowKit
def ledB (h : List Ln) (i k : Nat) : Bool := decide (k = i) || lessL (clk h k) (clk h i)
/-- The event i and what led to it, of the first k. -/
def ledTo (h : List Ln) (i k : Nat) : List Ln := ((List.range k).filter (ledB h i)).map (lat h)
theorem ledTo_succ (h : List Ln) (i k : Nat) : ledTo h i (k + 1) = ledTo h i k ++ (if ledB h i k = true then [lat h k] else []) := by
  unfold ledTo
  rw [List.range_succ, List.filter_append, List.map_append]
  congr 1
  by_cases e : ledB h i k = true
  · rw [if_pos e]; simp [e]
  · rw [if_neg e]; simp [e]
theorem ledTo_len (h : List Ln) (i k : Nat) : (ledTo h i k).length ≤ k := by
  unfold ledTo
  rw [List.length_map]
  exact Nat.le_trans (List.length_filter_le _ _) (by simp)
end Go
namespace Go.Proofs.Ytkhchfjhmplaiaa
open Go.RowKit
set_option maxRecDepth 100000 in
set_option maxHeartbeats 1000000 in
/-- slices.Equal of equal histories. -/
theorem eqe_same {a1 a2 : Option Addr} {n c1 c2 : Nat} {h : List Ln} {w : World} (hx : LnsV w a1 n c1 h) (hy : LnsV w a2 n c2 h) :
    Calls Try.prog 44 #[.slice a1 n c1, .slice a2 n c2] w fun e w' => e = .returned (.bool true) ∧ Keep [] w w' := by
  have HX := Lib.hid hx
  have HY := Lib.hid hy
  have h1 := hx.room
  have h2 := hx.most
  have h3 := hy.room
  have h4 := hy.most
  unfold maxLen at h2 h4
  clear hx hy
  go_enter Try.func44, Try.ntmps44
  go_wp2_with fail
  go_loopw [13] (fun i wr => ∃ k : Nat, k ≤ n ∧ i = .int .i64 k ∧ Keep [] w wr) (fun i _ => n - (intOf i).toNat)
  case atStart => exact ⟨0, by omega, rfl, Keep.refl _ _⟩
  case round =>
    obtain ⟨k, hk, rfl, hkw⟩ := hrel
    by_cases hlt : k < n
    · obtain ⟨b, off, rfl, c0, c1', c2'⟩ := (HX.out.keep hkw (by simp)).at_ hlt
      obtain ⟨b', off', rfl, d0, d1, d2⟩ := (HY.out.keep hkw (by simp)).at_ hlt
      obtain ⟨⟨q, g, u⟩, hL⟩ : ∃ L, lat h k = L := ⟨_, rfl⟩
      rw [hL] at c0 c1' c2' d0 d1 d2
      dsimp only at c0 c1' c2' d0 d1 d2
      clear hL
      go_wp2_with fail
      go_region
      go_wp2_with fail
      go_roundw
      case measure => simp [intOf]; omega
      case rel => exact ⟨k + 1, by omega, by go_num, by repeat (first | exact hkw | apply Keep.drew)⟩
    · go_wp2_with fail
      go_ret
      exact ⟨rfl, hkw⟩
set_option maxRecDepth 100000 in
set_option maxHeartbeats 1000000 in
/-- slices.Equal of equal histories, in a region that only reads. -/
theorem eqe_q {a1 a2 : Option Addr} {n c1 c2 : Nat} {h : List Ln} {r : Nat} {w : World} (hx : LnsV w a1 n c1 h) (hy : LnsV w a2 n c2 h) :
    Calls Try.prog 44 #[.slice a1 n c1, .slice a2 n c2] (w.drewN r) fun e w' => e = .returned (.bool true) ∧ ∃ m, w' = w.drewN m := by
  have HX := Lib.hid hx
  have HY := Lib.hid hy
  have h1 := hx.room
  have h2 := hx.most
  have h3 := hy.room
  have h4 := hy.most
  unfold maxLen at h2 h4
  clear hx hy
  go_enter Try.func44, Try.ntmps44
  go_wp2_with fail
  go_loopw [13] (fun i wr => ∃ k : Nat, k ≤ n ∧ i = .int .i64 k ∧ ∃ m, wr = w.drewN m) (fun i _ => n - (intOf i).toNat)
  case atStart => exact ⟨0, by omega, rfl, r, rfl⟩
  case round =>
    obtain ⟨k, hk, rfl, m, hwm⟩ := hrel
    have HW := Lib.hid hwm
    have hkw : Keep [] w wr := by rw [hwm]; exact keep_drewN (Keep.refl _ _) _
    clear hwm
    by_cases hlt : k < n
    · obtain ⟨b, off, rfl, c0, c1', c2'⟩ := (HX.out.keep hkw (by simp)).at_ hlt
      obtain ⟨b', off', rfl, d0, d1, d2⟩ := (HY.out.keep hkw (by simp)).at_ hlt
      obtain ⟨⟨q, g, u⟩, hL⟩ : ∃ L, lat h k = L := ⟨_, rfl⟩
      rw [hL] at c0 c1' c2' d0 d1 d2
      dsimp only at c0 c1' c2' d0 d1 d2
      clear hL
      go_wp2_with fail
      go_region
      go_wp2_with fail
      go_roundw
      case measure => simp [intOf]; omega
      case rel => exact ⟨k + 1, by omega, by go_num, m + 1, by rw [HW.out]; rfl⟩
    · go_wp2_with fail
      go_ret
      exact ⟨rfl, m, HW.out⟩
set_option maxHeartbeats 1000000 in
theorem eqi_q {a1 a2 : Option Addr} {n c1 c2 r : Nat} {xs ys : List Int} {w : World} (hx : IntsV w a1 n c1 xs) (hy : IntsV w a2 n c2 ys) (he : Hid (xs = ys)) :
    Calls Try.prog 34 #[.slice a1 n c1, .slice a2 n c2] (w.drewN r) fun e w' => e = .returned (.bool true) ∧ ∃ m, w' = w.drewN m := by
  obtain rfl := he.out
  have hb1 := hx.room
  have hb2 := hx.most
  have hb3 := hy.room
  have hb4 := hy.most
  unfold maxLen at hb2 hb4
  have HX := Lib.hid hx
  have HY := Lib.hid hy
  clear hx hy he
  go_enter Try.func34, Try.ntmps34
  go_wp2_with fail
  go_loopw [13] (fun i wr => ∃ k : Nat, k ≤ n ∧ i = .int .i64 k ∧ ∃ m, wr = w.drewN m) (fun i _ => n - (intOf i).toNat)
  case atStart => exact ⟨0, by omega, rfl, r, rfl⟩
  case round =>
    obtain ⟨k, hk, rfl, m, hwm⟩ := hrel
    have HW := Lib.hid hwm
    have hkw : Keep [] w wr := by rw [hwm]; exact keep_drewN (Keep.refl _ _) _
    clear hwm
    by_cases hlt : k < n
    · obtain ⟨b1, o1, rfl, hc1⟩ := HX.out.cells (by omega)
      obtain ⟨b2, o2, rfl, hc2⟩ := HY.out.cells (by omega)
      have hd1 := hkw.cell (hc1 k hlt) (by simp)
      have hd2 := hkw.cell (hc2 k hlt) (by simp)
      clear hc1 hc2 HX HY
      generalize xs.getD k 0 = x at *
      go_wp2_with fail
      go_region
      go_wp2_with fail
      go_roundw
      case measure => simp [intOf]; omega
      case rel => exact ⟨k + 1, by omega, by go_num, m + 1, by rw [HW.out]; rfl⟩
    · go_wp2_with fail
      go_ret
      exact ⟨rfl, m, HW.out⟩
set_option maxRecDepth 100000 in
set_option maxHeartbeats 2000000 in
theorem led_any {a : Option Addr} {n c i : Nat} {h : List Ln} {w : World} (hv : LnsV w a n c h) (hk : HOk h) (hi : i < n) :
    Calls Try.prog 43 #[.slice a n c, .int .i64 i] w fun e w' => ∃ v m, e = .returned (.tuple #[v, .int .i64 0]) ∧ Keep [] w w' ∧ w'.ownsRow w.heap.size 27 3 v m (lanesC (ledTo h i n)) := by
  have hc := Lib.hid (clocks_at hv hk (by omega))
  have HV := Lib.hid hv
  have HL := Lib.hid hv.len
  have hn2 : n ≤ 200 := by have := hk.len; have := hv.len; omega
  have HK := Lib.hid hk
  obtain ⟨i0, hi0, hz0, hz1, hz2⟩ := info_parts info27
  clear hv hk
  have hd1 : decide ((i : Int) < 0) = false := by simp
  have hd2 : decide ((n : Int) ≤ (i : Int)) = false := by simp; omega
  have hd3 : decide (n ≤ i) = false := by simp; omega
  go_enter Try.func43, Try.ntmps43
  go_wp2_with (first | (go_at_call 25; refine hc.out.mono ?_; rintro e w1 ⟨g1, cap, rfl, hk1, hg, hgl, hnc, hcm, hcs⟩; have HCS : Hid (ClksV w1 g1 n h) := Lib.hid hcs; unfold maxLen at hcm; clear hcs))
  go_loopw [8, 9, 10, 31] (fun v _ _ j wr => ∃ (k m : Nat), k ≤ n ∧ j = .int .i64 k ∧ Keep [] w1 wr ∧ Hid (wr.ownsRow w1.heap.size 27 3 v m (lanesC (ledTo h i k)))) (fun _ _ _ j _ => n - (intOf j).toNat)
  case atStart => exact ⟨0, 0, by omega, rfl, Keep.refl _ _, Lib.hid (World.ownsRow_nil _ _ _ _)⟩
  case round =>
    obtain ⟨k, m, hk, rfl, hkw, HO⟩ := hrel
    have HX := Lib.hid (HCS.out.keep hkw)
    have hm : m ≤ k := by have h1 := HO.out.1; have h2 := ledTo_len h i k; rw [lanesC_len] at h1; omega
    have hsw := hkw.size
    by_cases hlt : k < n
    · obtain ⟨b, off, rfl, c0, c1, c2⟩ := (HV.out.keep (hk1.trans hkw) (by simp)).at_ hlt
      obtain ⟨gi, ci, hci, hii⟩ := HX.out i hi
      obtain ⟨gk, ck, hck, hik⟩ := HX.out k hlt
      have hls := ledTo_succ h i k
      obtain ⟨⟨q, g, u⟩, hL⟩ : ∃ L, lat h k = L := ⟨_, rfl⟩
      rw [hL] at c0 c1 c2 hls
      dsimp only at c0 c1 c2
      clear hL
      have hkA : Keep [] wr (wr.alloc (.cells #[.int .i64 q, .int .i64 g, .int .i64 u] 27)) := (Keep.refl [] _).alloc _
      have HII := Lib.hid (hii.keep hkA (by simp))
      have HIK := Lib.hid (hik.keep hkA (by simp))
      have HOA := Lib.hid (own_keep HO.out hkA (by simp))
      have hkwA := hkw.trans hkA
      have hci' := hkA.cell hci (by simp)
      have hck' := hkA.cell hck (by simp)
      have HEV := Lib.hid (blk_new wr (.cells #[.int .i64 q, .int .i64 g, .int .i64 u] 27))
      have f1 : (i : Int) < (n : Int) := by omega
      have f2 : (k : Int) < (n : Int) := by omega
      clear hii hik hci hck
      by_cases hki : k = i
      · have hee : ((k : Int) == (i : Int)) = true := by rw [hki]; exact beq_self_eq_true _
        have hled : ledB h i k = true := by unfold ledB; rw [decide_eq_true hki]; rfl
        rw [hled, if_pos rfl] at hls
        have HLS := Lib.hid hls
        clear hls hled hki
        go_wp2_with fail
        go_quiet (first | (go_at_call 27; exact less_q HIK.out HII.out HB))
        obtain ⟨w5, hw5⟩ : ∃ w5, (wr.alloc (.cells #[.int .i64 q, .int .i64 g, .int .i64 u] 27)).drewN nq = w5 := ⟨_, rfl⟩
        have hk5 : Keep [] (wr.alloc (.cells #[.int .i64 q, .int .i64 g, .int .i64 u] 27)) ((wr.alloc (.cells #[.int .i64 q, .int .i64 g, .int .i64 u] 27)).drewN nq) := keep_drewN (Keep.refl [] _) _
        rw [hw5] at hk5 ⊢
        have HO5 := Lib.hid (own_keep HOA.out hk5 (by simp))
        have hkw5 := hkwA.trans hk5
        have hs5 := hkw5.size
        obtain ⟨n0, n1, n2, _⟩ := row3 (hk5.at HEV.out (by simp))
        clear hw5 hk5
        go_wp2_with (first | (with_reducible refine Txt.wp_region_text mixed quiet (by decide +kernel) ?_) | (with_reducible refine Txt.text_done (by kernel_rfl) ?_) | (at_builtin; refine wpList_append_own _ rfl _ _ 28 rfl w1.heap.size 27 i0 (.agg #[.int .i64 0, .int .i64 0, .int .i64 0]) 3 24 Try.underlying28 hi0 hz0 hz1 hz2 rfl (by decide) _ _ _ rfl (HO5.out.alloc _) ⟨w5.heap.size, 0, none⟩ 1 1 [.int .i64 q, .int .i64 g, .int .i64 u] rfl rfl (cells_new _ _ _ _) (by intro u hu; simp at hu; rcases hu with hu | hu | hu <;> (subst hu; rfl)) (by unfold maxLen; omega) (by omega) (by simp; omega) ?_; intro v6 w6 hown6 hgr6 _; have HO6 := Lib.hid hown6; have HGR6 := Lib.hid hgr6; clear hown6 hgr6))
        go_roundw
        case measure => simp [intOf]; omega
        case rel =>
          have hgr : (w5.alloc (.cells #[.int .i64 q, .int .i64 g, .int .i64 u] 27)).grownBy w6 u8.ownBlock := HGR6.out
          exact ⟨k + 1, m + 1, by omega, by go_num, (hkw5.alloc _).grown hgr (fun x hx => .inr (HO.out.lt x hx).1), Lib.hid (by rw [HLS.out]; simpa [lanesC_snoc, Ln.cells] using HO6.out)⟩
      · have hne : ((k : Int) == (i : Int)) = false := beq_eq_false_iff_ne.2 (fun e => hki (by omega))
        obtain ⟨bb, hb⟩ : ∃ bb, lessL (clk h k) (clk h i) = bb := ⟨_, rfl⟩
        have hled : ledB h i k = bb := by unfold ledB; rw [hb, decide_eq_false hki]; rfl
        rw [hled] at hls
        have HB := Lib.hid hb
        clear hb hled
        cases bb
        · have HLS := Lib.hid hls
          clear hls
          go_wp2_with fail
          go_quiet (first | (go_at_call 27; exact less_q HIK.out HII.out HB))
          go_wp2_with fail
          go_roundw
          case measure => simp [intOf]; omega
          case rel => exact ⟨k + 1, m, by omega, by go_num, keep_drewN hkwA _, Lib.hid (by rw [HLS.out]; simpa using own_keep HOA.out (keep_drewN (Keep.refl [] _) _) (by simp))⟩
        · have HLS := Lib.hid hls
          clear hls
          go_wp2_with fail
          go_quiet (first | (go_at_call 27; exact less_q HIK.out HII.out HB))
          obtain ⟨w5, hw5⟩ : ∃ w5, (wr.alloc (.cells #[.int .i64 q, .int .i64 g, .int .i64 u] 27)).drewN nq = w5 := ⟨_, rfl⟩
          have hk5 : Keep [] (wr.alloc (.cells #[.int .i64 q, .int .i64 g, .int .i64 u] 27)) ((wr.alloc (.cells #[.int .i64 q, .int .i64 g, .int .i64 u] 27)).drewN nq) := keep_drewN (Keep.refl [] _) _
          rw [hw5] at hk5 ⊢
          have HO5 := Lib.hid (own_keep HOA.out hk5 (by simp))
          have hkw5 := hkwA.trans hk5
          have hs5 := hkw5.size
          obtain ⟨n0, n1, n2, _⟩ := row3 (hk5.at HEV.out (by simp))
          clear hw5 hk5
          go_wp2_with (first | (with_reducible refine Txt.wp_region_text mixed quiet (by decide +kernel) ?_) | (with_reducible refine Txt.text_done (by kernel_rfl) ?_) | (at_builtin; refine wpList_append_own _ rfl _ _ 28 rfl w1.heap.size 27 i0 (.agg #[.int .i64 0, .int .i64 0, .int .i64 0]) 3 24 Try.underlying28 hi0 hz0 hz1 hz2 rfl (by decide) _ _ _ rfl (HO5.out.alloc _) ⟨w5.heap.size, 0, none⟩ 1 1 [.int .i64 q, .int .i64 g, .int .i64 u] rfl rfl (cells_new _ _ _ _) (by intro u hu; simp at hu; rcases hu with hu | hu | hu <;> (subst hu; rfl)) (by unfold maxLen; omega) (by omega) (by simp; omega) ?_; intro v6 w6 hown6 hgr6 _; have HO6 := Lib.hid hown6; have HGR6 := Lib.hid hgr6; clear hown6 hgr6))
          go_roundw
          case measure => simp [intOf]; omega
          case rel =>
            have hgr : (w5.alloc (.cells #[.int .i64 q, .int .i64 g, .int .i64 u] 27)).grownBy w6 u8.ownBlock := HGR6.out
            exact ⟨k + 1, m + 1, by omega, by go_num, (hkw5.alloc _).grown hgr (fun x hx => .inr (HO.out.lt x hx).1), Lib.hid (by rw [HLS.out]; simpa [lanesC_snoc, Ln.cells] using HO6.out)⟩
    · have hkn := Lib.hid (show k = n by omega)
      go_wp2_with fail
      go_ret2
      exact ⟨_, m, rfl, hk1.trans hkw, by rw [← hkn.out]; exact HO.out.mono hk1.size⟩
end Go.Proofs.Ytkhchfjhmplaiaa
namespace Go
open Go.RowKit
theorem led_closed {h : List Ln} (hk : HOk h) {i : Nat} (_ : i < h.length) : Closed h (ledB h i) := ⟨fun j k hjk hkl hp he => by
  have h1 := reach_le hk (.step .here hjk he) hkl
  have h2 := le_less hk hjk hkl h1
  unfold ledB at hp ⊢
  rw [Bool.or_eq_true, decide_eq_true_eq] at hp ⊢
  rcases hp with hp | hp
  · rw [← hp]; exact .inr h2
  · exact .inr (lessL_trans h2 hp)⟩
theorem led_le {h : List Ln} (hk : HOk h) {i k : Nat} (hi : i < h.length) (hl : k < h.length) (hp : ledB h i k = true) : k ≤ i := by
  unfold ledB at hp
  rw [Bool.or_eq_true, decide_eq_true_eq] at hp
  rcases hp with hp | hp
  · omega
  · have := lessL_lt hk hl hi hp; omega
theorem led_self (h : List Ln) (i : Nat) : ledB h i i = true := by unfold ledB; simp
theorem led_last {h : List Ln} (hk : HOk h) {i : Nat} (hi : i < h.length) : rk (ledB h i) h.length = rk (ledB h i) i + 1 := by
  have h1 : ∀ m, i + 1 ≤ m → m ≤ h.length → rk (ledB h i) m = rk (ledB h i) (i + 1) := fun m => by
    induction m with
    | zero => intro h; omega
    | succ m ih =>
      intro h2 h3
      by_cases e : i = m
      · rw [e]
      · rw [rk_succ, ih (by omega) (by omega), if_neg, Nat.add_zero]
        intro hp
        have := led_le hk hi (show m < h.length by omega) hp
        omega
  rw [h1 _ (by omega) (Nat.le_refl _), rk_succ, if_pos (led_self h i)]
/-- The past of the last of a past is all of it. -/
theorem led_again {h : List Ln} (hk : HOk h) {i : Nat} (hi : i < h.length) : ledTo (ledTo h i h.length) (rk (ledB h i) i) (ledTo h i h.length).length = ledTo h i h.length := by
  have hc := led_closed hk hi
  have hlen : (ledTo h i h.length).length = rk (ledB h i) h.length := subL_len h (ledB h i) h.length
  have hall : ∀ x, x < (ledTo h i h.length).length → ledB (ledTo h i h.length) (rk (ledB h i) i) x = true := fun x hx => by
    rw [hlen] at hx
    obtain ⟨k, h1, h2, rfl⟩ := rk_inv hx
    unfold ledB
    rw [Bool.or_eq_true, decide_eq_true_eq]
    have e1 : clk (ledTo h i h.length) (rk (ledB h i) k) = clk h k := sub_clk hk hc (Nat.le_refl _) (k + 1) k (by omega) h1 h2
    have e2 : clk (ledTo h i h.length) (rk (ledB h i) i) = clk h i := sub_clk hk hc (Nat.le_refl _) (i + 1) i (by omega) hi (led_self h i)
    have h3 := h2
    unfold ledB at h3
    rw [Bool.or_eq_true, decide_eq_true_eq] at h3
    rcases h3 with h3 | h3
    · rw [h3]; exact .inl rfl
    · exact .inr (by rw [show clk (ledTo h i h.length) (rk (fun k => decide (k = i) || lessL (clk h k) (clk h i)) k) = clk h k from e1, show clk (ledTo h i h.length) (rk (fun k => decide (k = i) || lessL (clk h k) (clk h i)) i) = clk h i from e2]; exact h3)
  generalize ledTo h i h.length = a at *
  rw [ledTo, List.filter_eq_self.2 (fun x hx => hall x (List.mem_range.1 hx))]
  refine List.ext_getElem (by simp) fun p h1 h2 => ?_
  simp [lat, List.getD_eq_getElem?_getD, h2]
end Go
namespace Go.Proofs.Ytkhchfjhmplaiaa
open Go.RowKit
theorem led_at {a : Option Addr} {n c i M : Nat} {I : Int} {h g : List Ln} {w : World} (hv : LnsV w a n c h) (hk : HOk h) (hi : i < n) (hI : I = (i : Int)) (hg : ledTo h i n = g) (hM : g.length = M) :
    Calls Try.prog 43 #[.slice a n c, .int .i64 I] w fun e w' => ∃ a' c', e = .returned (.tuple #[.slice a' M c', .int .i64 0]) ∧ Keep [] w w' ∧ LnsV w' a' M c' g := by
  subst hI
  refine (led_any hv hk hi).mono ?_
  rintro e w' ⟨v, m, rfl, hk1, ho⟩
  rw [hg] at ho
  obtain ⟨a', c', rfl, hv', _⟩ := LnsV.ofOwn ho
  have : m = M := by rw [← hM]; exact hv'.len.symm
  subst this
  exact ⟨a', c', rfl, hk1, hv'⟩
theorem equal_same {a1 a2 : Option Addr} {n1 c1 n2 c2 : Nat} {xs ys : List Int} {w : World} (hx : IntsV w a1 n1 c1 xs) (hy : IntsV w a2 n2 c2 ys) (he : xs = ys) :
    Calls Try.prog 34 #[.slice a1 n1 c1, .slice a2 n2 c2] w fun e w' => e = .returned (.bool true) ∧ Keep [] w w' := by
  have h := equal_any hx hy
  rw [decide_eq_true he] at h
  exact h
set_option maxRecDepth 100000 in
set_option maxHeartbeats 4000000 in
theorem traceLed_walk (a : Option Addr) (len cap : Nat) (zs : List Int) (x : Int) (w : World) (hv : IntsV w a len cap zs) :
    Calls Try.prog 11 #[.slice a len cap, .int .i64 x] w fun e w' => e = .returned (.bool true) ∧ Keep [] w w' := by
  obtain ⟨N, hN⟩ : ∃ N, (hist zs).length = N := ⟨_, rfl⟩
  have hok : HOk (hist zs) := (hist_inv zs).ok
  have hN60 := hist_len zs
  rw [hN] at hN60
  have hNle : N ≤ 60 := by omega
  have HV := Lib.hid hv
  have HOK := Lib.hid hok
  clear hv hN60
  by_cases h0 : N = 0
  · have HN := Lib.hid (hN.trans h0)
    clear hN h0 hNle hok
    go_enter Try.func11, Try.ntmps11
    go_wp2_with (first | (go_at_call 35; refine (tbegun_any _).mono ?_; rintro e w0 ⟨rfl, hk0⟩) | (go_at_call 22; refine (begun_any _).mono ?_; rintro e w1 ⟨rfl, hk1⟩) | (go_at_call 20; refine (history_at (HV.out.keep (hk0.trans hk1) (by simp)) HN).mono ?_; rintro e w2 ⟨a2, c2, rfl, hk2, hv2⟩; clear hv2))
    go_ret
    exact ⟨rfl, (hk0.trans hk1).trans hk2⟩
  · obtain ⟨i, hi, hi1⟩ := at_nat x (show 0 < N by omega)
    obtain ⟨A, hA⟩ : ∃ A, ledTo (hist zs) i N = A := ⟨_, rfl⟩
    obtain ⟨M, hM⟩ : ∃ M, A.length = M := ⟨_, rfl⟩
    have hMr : M = rk (ledB (hist zs) i) i + 1 := by
      rw [← hM, ← hA, ← hN]
      exact (subL_len _ _ _).trans (led_last hok (by omega))
    have hMN : M ≤ N := by rw [← hM, ← hA]; exact ledTo_len _ _ _
    have hAok : HOk A := by rw [← hA, ← hN]; exact sub_ok hok (led_closed hok (by omega)) (Nat.le_refl _)
    have hag : ledTo A (M - 1) M = A := by
      have h9 := led_again hok (show i < (hist zs).length by omega)
      rw [hN, hA, hM] at h9
      rw [show M - 1 = rk (ledB (hist zs) i) i by omega]; exact h9
    have hcl : clk A (M - 1) = clk (hist zs) i := by
      rw [show M - 1 = rk (ledB (hist zs) i) i by omega, ← hA, ← hN]
      exact sub_clk hok (led_closed hok (by omega)) (Nat.le_refl _) (i + 1) i (by omega) (by omega) (led_self _ _)
    have HI := Lib.hid hi
    have HN := Lib.hid hN
    have HA := Lib.hid hA
    have HM := Lib.hid hM
    have HAOK := Lib.hid hAok
    have HAG := Lib.hid hag
    have HCL := Lib.hid hcl.symm
    have hM0 : 0 < M := by omega
    clear hi hN hA hM hMr hAok hag hcl hok
    go_enter Try.func11, Try.ntmps11
    go_wp2_with (first | (go_at_call 35; refine (tbegun_any _).mono ?_; rintro e w0 ⟨rfl, hk0⟩) | (go_at_call 22; refine (begun_any _).mono ?_; rintro e w1 ⟨rfl, hk1⟩) | (go_at_call 20; refine (history_at (HV.out.keep (hk0.trans hk1) (by simp)) HN).mono ?_; rintro e w2 ⟨a2, c2, rfl, hk2, hv2⟩; have HV2 := Lib.hid hv2; clear hv2) | (go_at_call 21; (with_reducible refine (rest_at HI (by omega) (by omega)).mono ?_); rintro e w' ⟨rfl, rfl⟩) | (go_at_call 43; (with_reducible refine (led_at HV2.out HOK.out hi1 rfl HA.out HM.out).mono ?_); rintro e w3 ⟨a3, c3, rfl, hk3, hv3⟩; have HV3 := Lib.hid (HV2.out.keep hk3 (by simp)); have HA3 := Lib.hid hv3; clear hv3) | (go_at_call 25; (with_reducible refine (clocks_at HV3.out HOK.out (by omega)).mono ?_); rintro e w4 ⟨g4, cg4, rfl, hk4, _, _, hnc4, hcm4, hcs4⟩; have HQ4 := Lib.hid hcs4; have HA4 := Lib.hid (HA3.out.keep hk4 (by simp)); unfold maxLen at hcm4; clear hcs4) | (go_at_call 25; (with_reducible refine (clocks_at HA4.out HAOK.out hM0).mono ?_); rintro e w5 ⟨g5, cg5, rfl, hk5, _, _, hnc5, hcm5, hcs5⟩; have HQ5 := Lib.hid hcs5; have HA5 := Lib.hid (HA4.out.keep hk5 (by simp)); unfold maxLen at hcm5; clear hcs5) | (go_at_call 43; (with_reducible refine (led_at HA5.out HAOK.out (show M - 1 < M by omega) (by omega) HAG.out HM.out).mono ?_); rintro e w6 ⟨a6, c6, rfl, hk6, hv6⟩; have HA6 := Lib.hid (HA5.out.keep hk6 (by simp)); have HB6 := Lib.hid hv6; clear hv6))
    have hIN : (i : Int) < (N : Int) := by omega
    have hMi : (M : Int) - 1 < (M : Int) := by omega
    obtain ⟨gi, ci, hci, hii⟩ := HQ4.out i hi1
    have hci6 := hk6.cell (hk5.cell hci (by simp)) (by simp)
    obtain ⟨gm, cm, hcm, him⟩ := HQ5.out (M - 1) (by omega)
    have hcm6 := hk6.cell hcm (by simp)
    have HII := Lib.hid ((hii.keep hk5 (by simp)).keep hk6 (by simp))
    have HIM := Lib.hid (him.keep hk6 (by simp))
    clear hci hii hcm him
    go_quiet (first | (go_at_call 44; exact eqe_q HB6.out HA6.out) | (go_at_call 34; exact eqi_q HII.out HIM.out HCL))
    go_wp2_with fail
    go_ret
    exact ⟨rfl, keep_drewN ((((((hk0.trans hk1).trans hk2).trans hk3).trans hk4).trans hk5).trans hk6) _⟩
end Go.Proofs.Ytkhchfjhmplaiaa
namespace Go
open Go.RowKit
/-- The events of a place. -/
def plB (h : List Ln) (p : Int) (j : Nat) : Bool := decide ((lat h j).q = p)
def atTo (h : List Ln) (p : Int) (k : Nat) : List Ln := subL h (plB h p) k
def atL (h : List Ln) (p : Int) : List Ln := atTo h p h.length
theorem subL_succ (h : List Ln) (P : Nat → Bool) (k : Nat) : subL h P (k + 1) = subL h P k ++ (if P k = true then [lat h k] else []) := by
  unfold subL
  rw [List.range_succ, List.filter_append, List.map_append]
  by_cases e : P k = true
  · simp [e]
  · simp [e]
theorem rk_le (P : Nat → Bool) (k : Nat) : rk P k ≤ k := by unfold rk; exact Nat.le_trans (List.length_filter_le _ _) (by simp)
end Go
namespace Go.Proofs.Ytkhchfjhmplaiaa
open Go.RowKit
set_option maxRecDepth 100000 in
set_option maxHeartbeats 1000000 in
theorem at67_any {a : Option Addr} {n c : Nat} {p : Int} {h : List Ln} {w : World} (hv : LnsV w a n c h) (hn2 : n ≤ 200) :
    Calls Try.prog 67 #[.slice a n c, .int .i64 p] w fun e w' => ∃ a' m c', e = .returned (.slice a' m c') ∧ Keep [] w w' ∧ LnsV w' a' m c' (atL h p) := by
  have HV := Lib.hid hv
  have HL := Lib.hid hv.len
  obtain ⟨i0, hi0, hz0, hz1, hz2⟩ := info_parts info27
  clear hv
  go_enter Try.func67, Try.ntmps67
  go_wp2_with fail
  go_loopw [5, 7, 10] (fun v _ j wr => ∃ (k m : Nat), k ≤ n ∧ j = .int .i64 k ∧ Keep [] w wr ∧ Hid (wr.ownsRow w.heap.size 27 3 v m (lanesC (atTo h p k)))) (fun _ _ j _ => n - (intOf j).toNat)
  case atStart => exact ⟨0, 0, by omega, rfl, Keep.refl _ _, Lib.hid (World.ownsRow_nil _ _ _ _)⟩
  case round =>
    obtain ⟨k, m, hk, rfl, hkw, HO⟩ := hrel
    have hm : m ≤ k := by
      have h1 := HO.out.1
      have h2 := rk_le (plB h p) k
      rw [lanesC_len, atTo, subL_len] at h1
      omega
    have hsw := hkw.size
    by_cases hlt : k < n
    · obtain ⟨b, off, rfl, c0, c1, c2⟩ := (HV.out.keep hkw (by simp)).at_ hlt
      have hls := subL_succ h (plB h p) k
      have hpl : plB h p k = decide ((lat h k).q = p) := rfl
      obtain ⟨⟨q, g, u⟩, hL⟩ : ∃ L, lat h k = L := ⟨_, rfl⟩
      rw [hL] at c0 c1 c2 hls hpl
      dsimp only at c0 c1 c2 hpl
      rw [hpl] at hls
      clear hL hpl
      have hkA : Keep [] wr (wr.alloc (.cells #[.int .i64 q, .int .i64 g, .int .i64 u] 27)) := (Keep.refl [] _).alloc _
      have HOA := Lib.hid (own_keep HO.out hkA (by simp))
      have hkwA := hkw.trans hkA
      by_cases hq : q = p
      · have hqb : (q == p) = true := by rw [hq]; exact beq_self_eq_true _
        have HLS : Hid (atTo h p (k + 1) = atTo h p k ++ [⟨q, g, u⟩]) := Lib.hid (by unfold atTo; rw [hls, decide_eq_true hq, if_pos rfl])
        clear hls hq
        go_wp2_with (first | (with_reducible refine Txt.wp_region_text mixed quiet (by decide +kernel) ?_) | (with_reducible refine Txt.text_done (by kernel_rfl) ?_) | (at_builtin; refine wpList_append_own _ rfl _ _ 28 rfl w.heap.size 27 i0 (.agg #[.int .i64 0, .int .i64 0, .int .i64 0]) 3 24 Try.underlying28 hi0 hz0 hz1 hz2 rfl (by decide) _ _ _ rfl (HOA.out.alloc _) ⟨wr.heap.size + 1, 0, none⟩ 1 1 [.int .i64 q, .int .i64 g, .int .i64 u] rfl rfl (cells_new2 _ _ _ _) (by intro u hu; simp at hu; rcases hu with hu | hu | hu <;> (subst hu; rfl)) (by unfold maxLen; omega) (by omega) (by simp; omega) ?_; intro v6 w6 hown6 hgr6 _; have HO6 := Lib.hid hown6; have HGR6 := Lib.hid hgr6; clear hown6 hgr6))
        go_roundw
        case measure => simp [intOf]; omega
        case rel =>
          have hgr : ((wr.alloc (.cells #[.int .i64 q, .int .i64 g, .int .i64 u] 27)).alloc (.cells #[.int .i64 q, .int .i64 g, .int .i64 u] 27)).grownBy w6 u5.ownBlock := HGR6.out
          exact ⟨k + 1, m + 1, by omega, by go_num, (hkwA.alloc _).grown hgr (fun x hx => .inr (HO.out.lt x hx).1), Lib.hid (by rw [HLS.out]; simpa [lanesC_snoc, Ln.cells] using HO6.out)⟩
      · have hqb : (q == p) = false := beq_eq_false_iff_ne.2 hq
        have HLS : Hid (atTo h p (k + 1) = atTo h p k) := Lib.hid (by unfold atTo; rw [hls, decide_eq_false hq]; simp)
        clear hls hq
        go_wp2_with fail
        go_roundw
        case measure => simp [intOf]; omega
        case rel => exact ⟨k + 1, m, by omega, by go_num, hkwA, Lib.hid (by rw [HLS.out]; exact HOA.out)⟩
    · have hkn := Lib.hid (show k = n by omega)
      go_wp2_with fail
      go_ret
      have h9 := HO.out
      rw [hkn.out, ← HL.out] at h9
      obtain ⟨a', c', rfl, hv', _⟩ := LnsV.ofOwn h9
      exact ⟨a', m, c', rfl, hkw, hv'⟩
set_option maxRecDepth 100000 in
theorem ev69_same (q g u : Int) (w : World) :
    Calls Try.prog 69 #[.agg #[.int .i64 q, .int .i64 g, .int .i64 u], .agg #[.int .i64 q, .int .i64 g, .int .i64 u]] w fun e w' => e = .returned (.bool true) ∧ Keep [] w w' := by
  go_enter Try.func69, Try.ntmps69
  go_wp2_with fail
  all_goals go_ret
  all_goals exact ⟨rfl, ((Keep.refl _ _).alloc _).alloc _⟩
set_option maxRecDepth 100000 in
set_option maxHeartbeats 1000000 in
theorem ev70_same {a1 a2 : Option Addr} {n c1 c2 : Nat} {h : List Ln} {w : World} (hx : LnsV w a1 n c1 h) (hy : LnsV w a2 n c2 h) :
    Calls Try.prog 70 #[.slice a1 n c1, .slice a2 n c2, .func (.func 69) #[] #[]] w fun e w' => e = .returned (.bool true) ∧ Keep [] w w' := by
  have HX := Lib.hid hx
  have HY := Lib.hid hy
  have h1 := hx.room
  have h2 := hx.most
  have h3 := hy.room
  have h4 := hy.most
  unfold maxLen at h2 h4
  clear hx hy
  go_enter Try.func70, Try.ntmps70
  go_wp2_with fail
  go_loopw [17] (fun i wr => ∃ k : Nat, k ≤ n ∧ i = .int .i64 k ∧ Keep [] w wr) (fun i _ => n - (intOf i).toNat)
  case atStart => exact ⟨0, by omega, rfl, Keep.refl _ _⟩
  case round =>
    obtain ⟨k, hk, rfl, hkw⟩ := hrel
    by_cases hlt : k < n
    · obtain ⟨b, off, rfl, c0, c1', c2'⟩ := (HX.out.keep hkw (by simp)).at_ hlt
      obtain ⟨b', off', rfl, d0, d1, d2⟩ := (HY.out.keep hkw (by simp)).at_ hlt
      obtain ⟨⟨q, g, u⟩, hL⟩ : ∃ L, lat h k = L := ⟨_, rfl⟩
      rw [hL] at c0 c1' c2' d0 d1 d2
      dsimp only at c0 c1' c2' d0 d1 d2
      clear hL
      have hkA : Keep [] wr (wr.alloc (.cells #[.int .i64 q, .int .i64 g, .int .i64 u] 27)) := (Keep.refl [] _).alloc _
      have e0 := hkA.cell d0 (by simp)
      have e1 := hkA.cell d1 (by simp)
      have e2 := hkA.cell d2 (by simp)
      go_wp2_with (first | (go_at_call 69; refine (ev69_same q g u _).mono ?_; rintro e w1 ⟨rfl, hk1⟩))
      go_roundw
      case measure => simp [intOf]; omega
      case rel => exact ⟨k + 1, by omega, by go_num, ((hkw.alloc _).alloc _).trans hk1⟩
    · go_wp2_with fail
      go_ret
      exact ⟨rfl, hkw⟩
theorem ev70_len {a1 a2 : Option Addr} {n1 n2 c1 c2 : Nat} {w : World} (hn : n1 ≠ n2) :
    Calls Try.prog 70 #[.slice a1 n1 c1, .slice a2 n2 c2, .func (.func 69) #[] #[]] w fun e w' => e = .returned (.bool false) ∧ Keep [] w w' := by
  have hb : ((n1 : Int) == (n2 : Int)) = false := beq_eq_false_iff_ne.2 (fun e => hn (by omega))
  go_enter Try.func70, Try.ntmps70
  go_wp2_with fail
  go_ret
  exact ⟨rfl, Keep.refl _ _⟩
set_option maxRecDepth 100000 in
theorem at36_any {a : Option Addr} {n c p : Nat} {h : List Ln} {w : World} (hv : LnsV w a n c h) (hk : HOk h) (hp : p < 8) :
    Calls Try.prog 36 #[.slice a n c, .int .i64 p] w fun e w' => ∃ a' m c', e = .returned (.tuple #[.slice a' m c', .int .i64 0]) ∧ Keep [] w w' ∧ LnsV w' a' m c' (atL h p) := by
  have hn2 : n ≤ 200 := by have := hk.len; have := hv.len; omega
  have HV := Lib.hid hv
  have HK := Lib.hid hk
  have hd1 : ¬ ((p : Int) < 0) := by omega
  have hd2 : ¬ (8 ≤ (p : Int)) := by omega
  clear hv hk
  go_enter Try.func36, Try.ntmps36
  go_wp2_with (first | (go_at_call 51; refine (check_ok HV.out HK.out).mono ?_; rintro e w1 ⟨rfl, hk1⟩) | (go_at_call 67; refine (at67_any (HV.out.keep hk1 (by simp)) hn2).mono ?_; rintro e w2 ⟨a2, m, c2, rfl, hk2, hv2⟩; have HV2 := Lib.hid hv2; clear hv2))
  go_ret2
  exact ⟨a2, m, c2, rfl, hk1.trans hk2, HV2.out⟩
/-- The two histories part at place r, or nowhere. -/
structure Part8 (a b : List Ln) (r : Nat) : Prop where
  le : r ≤ 8
  same : ∀ p : Nat, p < r → atL a p = atL b p
  diff : r < 8 → (atL a (r : Nat)).length ≠ (atL b (r : Nat)).length
set_option maxRecDepth 100000 in
set_option maxHeartbeats 2000000 in
theorem same40_any {a1 a2 : Option Addr} {n1 n2 c1 c2 r : Nat} {x y : List Ln} {w : World} {R : Bool} (hx : LnsV w a1 n1 c1 x) (hy : LnsV w a2 n2 c2 y) (hkx : HOk x) (hky : HOk y) (hp : Part8 x y r) (hR : R = decide (r = 8)) :
    Calls Try.prog 40 #[.slice a1 n1 c1, .slice a2 n2 c2] w fun e w' => e = .returned (.tuple #[.bool R, .int .i64 0]) ∧ Keep [] w w' := by
  have hn1 : n1 ≤ 200 := by have := hkx.len; have := hx.len; omega
  have hn2 : n2 ≤ 200 := by have := hky.len; have := hy.len; omega
  have HX := Lib.hid hx
  have HY := Lib.hid hy
  have HKX := Lib.hid hkx
  have HKY := Lib.hid hky
  have HP := Lib.hid hp
  have HR := Lib.hid hR
  have hr8 := hp.le
  clear hx hy hkx hky hp hR
  have HB := Lib.hid (blk_new w (.cells #[.slice a1 n1 c1, .slice a2 n2 c2] 28))
  go_enter Try.func40, Try.ntmps40
  go_wp2_with fail
  go_loopw [7, 8, 15] (fun _ _ j wr => ∃ k : Nat, k ≤ 2 ∧ j = .int .i64 k ∧ Keep [] (w.alloc (.cells #[.slice a1 n1 c1, .slice a2 n2 c2] 28)) wr) (fun _ _ j _ => 2 - (intOf j).toNat)
  case atStart => exact ⟨0, by omega, rfl, Keep.refl _ _⟩
  case round =>
    obtain ⟨k, hk, rfl, hkw⟩ := hrel
    have hb := hkw.at HB.out (by simp)
    have hkw0 : Keep [] w wr := ((Keep.refl _ _).alloc _).trans hkw
    by_cases hlt : k < 2
    · have hcases : k = 0 ∨ k = 1 := by omega
      rcases hcases with rfl | rfl
      · have c0 : wr.cell? ⟨w.heap.size, 0, none⟩ = some (.slice a1 n1 c1) := by rw [cellAt hb]; rfl
        clear hb
        go_wp2_with (first | (go_at_call 51; refine (check_ok (HX.out.keep hkw0 (by simp)) HKX.out).mono ?_; rintro e w1 ⟨rfl, hk1⟩))
        go_roundw
        case measure => simp [intOf]
        case rel => exact ⟨1, by omega, by go_num, hkw.trans hk1⟩
      · have c0 : wr.cell? ⟨w.heap.size, 1, none⟩ = some (.slice a2 n2 c2) := by rw [cellAt hb]; rfl
        clear hb
        go_wp2_with (first | (go_at_call 51; refine (check_ok (HY.out.keep hkw0 (by simp)) HKY.out).mono ?_; rintro e w1 ⟨rfl, hk1⟩))
        go_roundw
        case measure => simp [intOf]
        case rel => exact ⟨2, by omega, by go_num, hkw.trans hk1⟩
    · have hdec : decide ((k : Int) < 2) = false := by simp; omega
      clear hb hkw
      go_wp2_with fail
      obtain ⟨wo, rfl⟩ : ∃ wo : World, wo = wr := ⟨_, rfl⟩
      go_loopw [10, 25] (fun _ j wr => ∃ p : Nat, p ≤ r ∧ j = .int .i64 p ∧ Keep [] w wr) (fun _ j _ => 8 - (intOf j).toNat)
      case atStart => exact ⟨0, by omega, rfl, hkw0⟩
      case round =>
        obtain ⟨p, hpr, rfl, hkp⟩ := hrel
        by_cases hlp : p < 8
        · by_cases hpe : p = r
          · have hdf := HP.out.diff (by omega)
            rw [← hpe] at hdf
            have HDF := Lib.hid hdf
            have hRf := Lib.hid (show R = false by rw [HR.out]; exact decide_eq_false (by omega))
            clear hpe hdf
            go_wp2_with (first | (go_at_call 67; (with_reducible refine (at67_any (p := (p : Int)) (HX.out.keep hkp (by simp)) hn1).mono ?_); rintro e w3 ⟨a3, m3, c3, rfl, hk3, hv3⟩; have HV3 := Lib.hid hv3; clear hv3) | (go_at_call 67; (with_reducible refine (at67_any (p := (p : Int)) ((HY.out.keep hkp (by simp)).keep hk3 (by simp)) hn2).mono ?_); rintro e w4 ⟨a4, m4, c4, rfl, hk4, hv4⟩; have HV4 := Lib.hid hv4; have HNE : Hid (m3 ≠ m4) := Lib.hid (by rw [← HV3.out.len, ← hv4.len]; exact HDF.out); clear hv4) | (go_at_call 70; refine (ev70_len HNE.out).mono ?_; rintro e w5 ⟨rfl, hk5⟩))
            go_ret2
            exact ⟨by rw [hRf.out]; rfl, ((hkp.trans hk3).trans hk4).trans hk5⟩
          · have HSM := Lib.hid (HP.out.same p (by omega))
            go_wp2_with (first | (go_at_call 67; (with_reducible refine (at67_any (p := (p : Int)) (HX.out.keep hkp (by simp)) hn1).mono ?_); rintro e w3 ⟨a3, m3, c3, rfl, hk3, hv3⟩; have HV3 := Lib.hid hv3; clear hv3) | (go_at_call 67; (with_reducible refine (at67_any (p := (p : Int)) ((HY.out.keep hkp (by simp)).keep hk3 (by simp)) hn2).mono ?_); rintro e w4 ⟨a4, m4, c4, rfl, hk4, hv4⟩; have hm34 : m4 = m3 := (by rw [← HV3.out.len, ← hv4.len, HSM.out]); subst hm34; rw [← HSM.out] at hv4; have HV4 := Lib.hid hv4; clear hv4) | (go_at_call 70; refine (ev70_same (HV3.out.keep hk4 (by simp)) HV4.out).mono ?_; rintro e w5 ⟨rfl, hk5⟩))
            go_roundw
            case measure => simp [intOf]; omega
            case rel => exact ⟨p + 1, by omega, by go_num, ((hkp.trans hk3).trans hk4).trans hk5⟩
        · have hr : r = 8 := by omega
          have hRt := Lib.hid (show R = true by rw [HR.out]; exact decide_eq_true hr)
          go_wp2_with fail
          go_ret2
          exact ⟨by rw [hRt.out]; rfl, hkp⟩
end Go.Proofs.Ytkhchfjhmplaiaa
namespace Go
open Go.RowKit
theorem subL_place {h : List Ln} {p : Int} {k : Nat} : ∀ x ∈ atTo h p k, x.q = p := by
  intro x hx
  unfold atTo subL at hx
  obtain ⟨j, hj, rfl⟩ := List.mem_map.1 hx
  have := (List.mem_filter.1 hj).2
  exact of_decide_eq_true this
/-- The events of the first places, counted. -/
def sumAt (h : List Ln) (k : Nat) : Nat → Nat
  | 0 => 0
  | p + 1 => sumAt h k p + rk (plB h p) k
theorem sumAt_succ {h : List Ln} {k : Nat} (h0 : 0 ≤ (lat h k).q) (m : Nat) : sumAt h (k + 1) m = sumAt h k m + (if (lat h k).q < m then 1 else 0) := by
  induction m with
  | zero => rw [if_neg (by omega)]; rfl
  | succ m ih =>
    rw [sumAt, sumAt, ih, rk_succ]
    unfold plB
    generalize lat h k = L at *
    by_cases e1 : L.q = m
    · rw [if_neg (by omega), if_pos (by simpa using e1), if_pos (by omega)]; omega
    · by_cases e2 : L.q < m
      · rw [if_pos e2, if_neg (by simpa using e1), if_pos (by omega)]; omega
      · rw [if_neg e2, if_neg (by simpa using e1), if_neg (by omega)]; omega
theorem sumAt_all {h : List Ln} (hk : HOk h) : ∀ k, k ≤ h.length → sumAt h k 8 = k := by
  intro k
  induction k with
  | zero => intro _; rfl
  | succ k ih =>
    intro hl
    have he := hk.ev k (by omega)
    rw [sumAt_succ he.1, ih (by omega), if_pos (show (lat h k).q < ((8 : Nat) : Int) from he.2.1)]
theorem sumAt_le {h : List Ln} {k p : Nat} : sumAt h k p ≤ p * k := by
  induction p with
  | zero => simp [sumAt]
  | succ p ih => have := rk_le (plB h p) k; rw [sumAt, Nat.succ_mul]; omega
/-- One event more. -/
def moreL (h : List Ln) (r : Int) : List Ln := h ++ [⟨r, 1, 0⟩]
theorem lat_more {h : List Ln} {r : Int} (j : Nat) : lat (moreL h r) j = if j < h.length then lat h j else if j = h.length then ⟨r, 1, 0⟩ else ⟨0, 0, 0⟩ := by
  unfold moreL lat
  rw [List.getD_eq_getElem?_getD]
  by_cases e : j < h.length
  · rw [if_pos e, List.getElem?_append_left e, List.getD_eq_getElem?_getD]
  · rw [if_neg e, List.getElem?_append_right (by omega)]
    by_cases e2 : j = h.length
    · rw [if_pos e2, e2]; simp
    · rw [if_neg e2, List.getElem?_eq_none (by simp; omega)]; rfl
theorem more_ok {h : List Ln} (hk : HOk h) {r : Int} (h0 : 0 ≤ r) (h1 : r < 8) (hl : h.length ≤ 100) : HOk (moreL h r) := by
  have hlen : (moreL h r).length = h.length + 1 := by simp [moreL]
  have hlt : ∀ j, j < (moreL h r).length → j < h.length ∧ lat (moreL h r) j = lat h j ∨ lat (moreL h r) j = ⟨r, 1, 0⟩ := fun j hj => by
    rw [lat_more]
    by_cases e : j < h.length
    · rw [if_pos e]; exact .inl ⟨e, rfl⟩
    · rw [if_neg e, if_pos (by omega)]; exact .inr rfl
  have uniq : ∀ g : Int, g ≠ 1 → (∀ x y, x < y → y < h.length → (lat h x).g = g → (lat h y).g = g → (lat h x).u ≠ (lat h y).u) → ∀ x y, x < y → y < (moreL h r).length → (lat (moreL h r) x).g = g → (lat (moreL h r) y).g = g → (lat (moreL h r) x).u ≠ (lat (moreL h r) y).u := fun g hg hu x y hxy hy e1 e2 => by
    rcases hlt y hy with ⟨h3, h4⟩ | h4
    · rcases hlt x (by omega) with ⟨h5, h6⟩ | h6
      · rw [h6] at e1 ⊢
        rw [h4] at e2 ⊢
        exact hu x y hxy h3 e1 e2
      · rw [h6] at e1; exact absurd e1.symm hg
    · rw [h4] at e2; exact absurd e2.symm hg
  refine ⟨by omega, fun j hj => ?_, uniq 2 (by decide) hk.sends, uniq 3 (by decide) hk.takes, fun j hj hg => ?_⟩
  · rcases hlt j hj with ⟨h3, h4⟩ | h4
    · rw [h4]; exact hk.ev j h3
    · rw [h4]; refine ⟨h0, h1, ?_, ?_, ?_, ?_⟩ <;> (dsimp only; omega)
  · rcases hlt j hj with ⟨h3, h4⟩ | h4
    · rw [h4] at hg ⊢
      obtain ⟨i, hi, h5, h6⟩ := hk.sent j h3 hg
      refine ⟨i, hi, ?_, ?_⟩ <;> (rw [lat_more, if_pos (show i < h.length by omega)]; assumption)
    · rw [h4] at hg; exact absurd hg (show ¬ (1 : Int) = 3 by decide)
theorem at_more {h : List Ln} {r p : Int} : atL (moreL h r) p = atL h p ++ (if r = p then [⟨r, 1, 0⟩] else []) := by
  unfold atL atTo
  rw [show (moreL h r).length = h.length + 1 by simp [moreL], subL_succ]
  have h1 : ∀ k, k ≤ h.length → subL (moreL h r) (plB (moreL h r) p) k = subL h (plB h p) k := fun k => by
    induction k with
    | zero => intro _; rfl
    | succ k ih =>
      intro hk
      have e1 : lat (moreL h r) k = lat h k := by rw [lat_more, if_pos (by omega)]
      have e2 : plB (moreL h r) p k = plB h p k := by unfold plB; rw [e1]
      rw [subL_succ, subL_succ, ih (by omega), e1, e2]
  rw [h1 _ (Nat.le_refl _)]
  have e1 : lat (moreL h r) h.length = ⟨r, 1, 0⟩ := by rw [lat_more, if_neg (by omega), if_pos rfl]
  have e2 : plB (moreL h r) p h.length = decide (r = p) := by unfold plB; rw [e1]
  rw [e1, e2]
  congr 1
  by_cases e : r = p
  · rw [if_pos e, if_pos (by simpa using e)]
  · rw [if_neg e, if_neg (by simpa using e)]
end Go
namespace Go.Proofs.Ytkhchfjhmplaiaa
open Go.RowKit
theorem more_part {h : List Ln} {r : Nat} (hr : r < 8) : Part8 h (moreL h (r : Int)) r := by
  refine ⟨by omega, fun p hp => ?_, fun _ => ?_⟩
  · rw [at_more, if_neg (by omega), List.append_nil]
  · rw [at_more, if_pos rfl]; simp
theorem self_part (h : List Ln) : Part8 h h 8 := ⟨Nat.le_refl _, fun _ _ => rfl, fun h => absurd h (by decide)⟩
set_option maxRecDepth 100000 in
theorem ev38_no {q p g u : Int} {P : Nat} {w : World} (hc : w.cell? ⟨P, 0, none⟩ = some (.int .i64 p)) (hq : q = p) :
    Calls Try.prog 38 #[.agg #[.int .i64 q, .int .i64 g, .int .i64 u], .pointer (some ⟨P, 0, none⟩)] w fun e w' => e = .returned (.bool false) ∧ Keep [] w w' := by
  subst hq
  have hP := World.block_lt_of_cell? _ _ hc
  dsimp only at hP
  have hc2 := ((Keep.refl [] w).alloc (.cells #[.int .i64 q, .int .i64 g, .int .i64 u] 27)).cell hc (by simp)
  go_enter Try.func38, Try.ntmps38
  go_wp2_with fail
  go_ret
  exact ⟨rfl, (Keep.refl _ _).alloc _⟩
set_option maxRecDepth 100000 in
set_option maxHeartbeats 1000000 in
theorem ix68_no {a : Option Addr} {n c P : Nat} {p : Int} {h : List Ln} {w : World} (hx : LnsV w a n c h) (hc : w.cell? ⟨P, 0, none⟩ = some (.int .i64 p)) (hp : ∀ x ∈ h, x.q = p) :
    Calls Try.prog 68 #[.slice a n c, .func (.func 38) #[] #[.pointer (some ⟨P, 0, none⟩)]] w fun e w' => e = .returned (.int .i64 (-1)) ∧ Keep [] w w' := by
  have HX := Lib.hid hx
  have HP := Lib.hid hp
  have HL := Lib.hid hx.len
  have h1 := hx.room
  have h2 := hx.most
  unfold maxLen at h2
  have HC := Lib.hid hc
  clear hx hp hc
  go_enter Try.func68, Try.ntmps68
  go_wp2_with fail
  go_loopw [8] (fun i wr => ∃ k : Nat, k ≤ n ∧ i = .int .i64 k ∧ Keep [] w wr) (fun i _ => n - (intOf i).toNat)
  case atStart => exact ⟨0, by omega, rfl, Keep.refl _ _⟩
  case round =>
    obtain ⟨k, hk, rfl, hkw⟩ := hrel
    by_cases hlt : k < n
    · obtain ⟨b, off, rfl, c0, c1', c2'⟩ := (HX.out.keep hkw (by simp)).at_ hlt
      have hq : (lat h k).q = p := HP.out _ (lat_mem (by rw [HL.out]; exact hlt))
      obtain ⟨⟨q, g, u⟩, hL⟩ : ∃ L, lat h k = L := ⟨_, rfl⟩
      rw [hL] at c0 c1' c2' hq
      dsimp only at c0 c1' c2' hq
      have HQ := Lib.hid hq
      clear hL hq
      go_wp2_with (first | (go_at_call 38; refine (ev38_no (hkw.cell HC.out (by simp)) HQ.out).mono ?_; rintro e w1 ⟨rfl, hk1⟩))
      go_roundw
      case measure => simp [intOf]; omega
      case rel => exact ⟨k + 1, by omega, by go_num, hkw.trans hk1⟩
    · go_wp2_with fail
      go_ret
      exact ⟨rfl, hkw⟩
theorem has37_no {a : Option Addr} {n c P : Nat} {p : Int} {h : List Ln} {w : World} (hx : LnsV w a n c h) (hc : w.cell? ⟨P, 0, none⟩ = some (.int .i64 p)) (hp : ∀ x ∈ h, x.q = p) :
    Calls Try.prog 37 #[.slice a n c, .func (.func 38) #[] #[.pointer (some ⟨P, 0, none⟩)]] w fun e w' => e = .returned (.bool false) ∧ Keep [] w w' := by
  have H := Lib.hid (ix68_no hx hc hp)
  clear hx hc hp
  go_enter Try.func37, Try.ntmps37
  go_wp2_with (first | (go_at_call 68; refine H.out.mono ?_; rintro e w1 ⟨rfl, hk1⟩))
  go_ret
  exact ⟨rfl, hk1⟩
end Go.Proofs.Ytkhchfjhmplaiaa
namespace Go.Proofs.Ytkhchfjhmplaiaa
open Go.RowKit
set_option maxRecDepth 100000 in
theorem clone_empty {a : Option Addr} {c : Nat} {w : World} : Calls Try.prog 39 #[.slice a 0 c] w fun e w' => ∃ v, e = .returned v ∧ Keep [] w w' ∧ w'.ownsRow w.heap.size 27 3 v 0 [] := by
  obtain ⟨i0, hi0, hz0, hz1, hz2⟩ := info_parts info27
  cases a with
  | none =>
    have hb1 : (binOp BinOp.eql 28 (.slice none 0 c) (.slice none 0 0)).run Try.prog w = .ok (.bool true) w := by kernel_rfl
    go_enter Try.func39, Try.ntmps39
    go_wp2_with fail
    go_ret
    exact ⟨_, rfl, Keep.refl _ _, World.ownsRow_nil _ _ _ _⟩
  | some ad =>
    have hb1 : (binOp BinOp.eql 28 (.slice (some ad) 0 c) (.slice none 0 0)).run Try.prog w = .ok (.bool false) w := by kernel_rfl
    have ho : (w.alloc (.cells #[] 27)).ownsRow w.heap.size 27 3 (.slice (some ⟨w.heap.size, 0, none⟩) 0 0) 0 [] := ⟨rfl, .inr ⟨w.heap.size, 0, #[], rfl, Nat.le_refl _, blk_new w _, Nat.le_refl _, Nat.zero_le _, rfl, rfl⟩⟩
    have HO := Lib.hid ho
    clear ho
    go_enter Try.func39, Try.ntmps39
    go_wp2_with (first | (at_builtin; refine wpList_append_own _ rfl _ _ 28 rfl w.heap.size 27 i0 (.agg #[.int .i64 0, .int .i64 0, .int .i64 0]) 3 24 Try.underlying28 hi0 hz0 hz1 hz2 rfl (by decide) _ _ _ rfl HO.out ad 0 c [] rfl rfl (by intro j u hu; simp at hu) (by intro u hu; simp at hu) (by unfold maxLen; omega) (by omega) (by simp) ?_; intro v6 w6 hown6 hgr6 _; have HO6 := Lib.hid hown6; have HGR6 := Lib.hid hgr6; clear hown6 hgr6))
    go_ret
    have hgr : (w.alloc (.cells #[] 27)).grownBy w6 (some w.heap.size) := HGR6.out
    exact ⟨_, rfl, ((Keep.refl _ _).alloc _).grown hgr (fun g hg => .inr (by cases hg; exact Nat.le_refl _)), HO6.out⟩
theorem clone_gen {a : Option Addr} {n c : Nat} {h : List Ln} {w : World} (hv : LnsV w a n c h) (hn2 : n ≤ 200) :
    Calls Try.prog 39 #[.slice a n c] w fun e w' => ∃ v, e = .returned v ∧ Keep [] w w' ∧ w'.ownsRow w.heap.size 27 3 v n (lanesC h) := by
  by_cases h0 : n = 0
  · subst h0
    have : h = [] := List.eq_nil_of_length_eq_zero hv.len
    subst this
    exact clone_empty
  · refine (clone_any hv (by omega) hn2).mono ?_
    rintro e w' ⟨g, cap, rfl, hk, ho⟩
    exact ⟨_, rfl, hk, ho⟩
set_option maxRecDepth 100000 in
set_option maxHeartbeats 4000000 in
theorem tracePlaces_walk (a : Option Addr) (len cap : Nat) (zs : List Int) (x : Int) (w : World) (hv : IntsV w a len cap zs) :
    Calls Try.prog 9 #[.slice a len cap, .int .i64 x] w fun e w' => e = .returned (.bool true) ∧ Keep [] w w' := by
  obtain ⟨N, hN⟩ : ∃ N, (hist zs).length = N := ⟨_, rfl⟩
  have hok : HOk (hist zs) := (hist_inv zs).ok
  have hN60 := hist_len zs
  rw [hN] at hN60
  have hNle : N ≤ 60 := by omega
  have hsum : sumAt (hist zs) N 8 = N := sumAt_all hok N (by omega)
  have HSL := Lib.hid (fun p => @sumAt_le (hist zs) N p)
  have HV := Lib.hid hv
  have HOK := Lib.hid hok
  obtain ⟨r, hr, hr8⟩ := at_nat x (show 0 < 8 by omega)
  have hmok := more_ok hok (r := (r : Int)) (by omega) (by omega) (by omega)
  have HR : Hid (restI x 8 = (r : Int)) := Lib.hid hr
  have HMOK := Lib.hid hmok
  have HN := Lib.hid hN
  have HSUM := Lib.hid hsum
  have HRF : Hid (false = decide (r = 8)) := Lib.hid (decide_eq_false (by omega)).symm
  obtain ⟨i0, hi0, hz0, hz1, hz2⟩ := info_parts info27
  clear hv hN60 hN hok hr hmok hsum
  go_enter Try.func9, Try.ntmps9
  go_wp2_with (first | (go_at_call 35; refine (tbegun_any _).mono ?_; rintro e w0 ⟨rfl, hk0⟩) | (go_at_call 20; refine (history_at (HV.out.keep hk0 (by simp)) HN).mono ?_; rintro e w2 ⟨a2, c2, rfl, hk2, hv2⟩; have HV2 := Lib.hid hv2; clear hv2))
  have hk02 := hk0.trans hk2
  go_loopw [6, 7, 8, 9, 19] (fun v _ _ _ j wr => ∃ p : Nat, p ≤ 8 ∧ v = .int .i64 (sumAt (hist zs) N p) ∧ j = .int .i64 p ∧ Keep [] w2 wr) (fun _ _ _ _ j _ => 8 - (intOf j).toNat)
  case atStart => exact ⟨0, by omega, rfl, rfl, Keep.refl _ _⟩
  case round =>
    obtain ⟨p, hp, rfl, rfl, hkw⟩ := hrel
    have hsl := HSL.out p
    by_cases hlt : p < 8
    · have hslp : sumAt (hist zs) N p ≤ 480 := by
        have : p * N ≤ 8 * 60 := Nat.mul_le_mul hp hNle
        omega
      clear hsl
      have hsucc : sumAt (hist zs) N (p + 1) = sumAt (hist zs) N p + rk (plB (hist zs) p) N := rfl
      have hrk := rk_le (plB (hist zs) p) N
      have hlen : (atL (hist zs) (p : Int)).length = rk (plB (hist zs) p) N := by unfold atL atTo; rw [subL_len, HN.out]
      obtain ⟨S, hS⟩ : ∃ S, sumAt (hist zs) N p = S := ⟨_, rfl⟩
      obtain ⟨M, hM⟩ : ∃ M, rk (plB (hist zs) p) N = M := ⟨_, rfl⟩
      rw [hS, hM] at hsucc
      rw [hM] at hrk hlen
      rw [hS] at hslp ⊢
      have HSC := Lib.hid hsucc
      have HLN := Lib.hid hlen
      have HPB := Lib.hid (blk_new wr (.cells #[.int .i64 p] 3))
      have hkA : Keep [] wr (wr.alloc (.cells #[.int .i64 p] 3)) := (Keep.refl [] _).alloc _
      have HPL : Hid (∀ x ∈ atL (hist zs) (p : Int), x.q = (p : Int)) := Lib.hid subL_place
      clear hS hM hsucc hlen
      go_wp2_with (first | (go_at_call 36; refine (at36_any ((HV2.out.keep hkw (by simp)).keep hkA (by simp)) HOK.out hlt).mono ?_; rintro e w3 ⟨a3, m3, c3, rfl, hk3, hv3⟩; have hm3 : m3 = M := (by rw [← hv3.len]; exact HLN.out); subst hm3; have HV3 := Lib.hid hv3; have hcp := cellAt (hk3.at HPB.out (by simp)) 0; have HCP : Hid (w3.cell? ⟨wr.heap.size, 0, none⟩ = some (.int .i64 p)) := Lib.hid hcp; clear hv3 hcp) | (go_at_call 37; refine (has37_no HV3.out HCP.out HPL.out).mono ?_; rintro e w4 ⟨rfl, hk4⟩))
      go_roundw
      case measure => simp [intOf]; omega
      case rel => exact ⟨p + 1, by omega, by rw [HSC.out]; simp, by go_num, ((hkw.trans hkA).trans hk3).trans hk4⟩
    · have hp8 := Lib.hid (show p = 8 by omega)
      have hS8 : sumAt (hist zs) N p = N := by rw [hp8.out]; exact HSUM.out
      rw [hS8]
      clear hS8 hsl
      have HVR := Lib.hid (HV2.out.keep hkw (by simp))
      have hkr := hk02.trans hkw
      go_wp2_with (first | (go_at_call 39; refine (clone_gen HVR.out (by omega)).mono ?_; rintro e w5 ⟨v5, rfl, hk5, ho5⟩; have HO5 := Lib.hid ho5; have HV5 := Lib.hid (HVR.out.keep hk5 (by simp)); clear ho5) | (go_at_call 21; (with_reducible refine (rest_at HR (by omega) (by omega)).mono ?_); rintro e w' ⟨rfl, rfl⟩) | (at_builtin; refine wpList_append_own _ rfl _ _ 28 rfl wr.heap.size 27 i0 (.agg #[.int .i64 0, .int .i64 0, .int .i64 0]) 3 24 Try.underlying28 hi0 hz0 hz1 hz2 rfl (by decide) _ _ _ rfl (HO5.out.alloc _) ⟨w5.heap.size, 0, none⟩ 1 1 [.int .i64 r, .int .i64 1, .int .i64 0] rfl rfl (cells_new _ _ _ _) (by intro u hu; simp at hu; rcases hu with hu | hu | hu <;> (subst hu; rfl)) (by unfold maxLen; omega) (by omega) (by have := hk5.size; simp; omega) ?_; intro v6 w6 hown6 hgr6 _; have hk6 : Keep [] wr w6 := (hk5.alloc _).grown hgr6 (fun g hg => .inr (HO5.out.lt g hg).1); have HV6 := Lib.hid (HVR.out.keep hk6 (by simp)); obtain ⟨a6, c6, rfl, hm6, _⟩ := LnsV.ofOwn (show w6.ownsRow wr.heap.size 27 3 v6 (N + 1) (lanesC (moreL (hist zs) r)) by rw [moreL, lanesC_snoc]; exact hown6); have HM6 := Lib.hid hm6; clear hown6 hgr6 hm6) | (go_at_call 40; (with_reducible refine (same40_any (R := false) HV6.out HM6.out HOK.out HMOK.out (more_part hr8) HRF.out).mono ?_); rintro e w7 ⟨rfl, hk7⟩; have HV7 := Lib.hid (HV6.out.keep hk7 (by simp))) | (go_at_call 40; (with_reducible refine (same40_any (R := true) HV7.out HV7.out HOK.out HOK.out (self_part _) rfl).mono ?_); rintro e w8 ⟨rfl, hk8⟩))
      go_ret
      exact ⟨rfl, ((hkr.trans hk6).trans hk7).trans hk8⟩
end Go.Proofs.Ytkhchfjhmplaiaa
