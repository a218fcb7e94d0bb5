import Derived.Test.YtkhchfjhmplaiaaH6
import Derived.Test.YtkhchfjhmplaiaaHP7
namespace Go.Proofs.Ytkhchfjhmplaiaa
open Go.RowKit
theorem info4 : (Try.prog.info? 4).map (fun i => (i.zero, i.size, i.bytes)) = some (some (.bool false), 1, 1) := by kernel_rfl
theorem mk36 (n : Nat) (hn : n ≤ 1000) (w : World) : (Instr.makeSlice 36 (.int .i64 (n : Int)) (.int .i64 (n : Int))).run Try.prog w = .ok (.slice (some ⟨w.heap.size, 0, none⟩) n n) (w.alloc (.cells ((List.replicate n false).map Value.bool).toArray 4)) := by
  obtain ⟨i4, hi, hz, hs, hb⟩ := info_parts info4
  have := run_make (P := Try.prog) w 36 4 i4 (.bool false) Try.underlying36 hi hz .i64 .i64 n n (by omega) (by omega) (by rw [hb]; omega) (by omega)
  rw [this, hs]
  have hc : madeCells (Value.bool false).cells ((n : Int).toNat * 1) = ((List.replicate n false).map Value.bool).toArray := by
    refine Array.ext (by simp [madeCells]) fun j h1 h2 => ?_
    have : (Value.bool false).cells = #[Value.bool false] := rfl
    simp [madeCells, this, Nat.mod_one]
  rw [hc]
  rfl
theorem row_all {w : World} {b off n c : Nat} {ls : List Ln} (h : LnsV w (some ⟨b, off, none⟩) n c ls) {i : Nat} (hi : i < n) {q g u : Int} (hL : lat ls i = ⟨q, g, u⟩) : w.cell? ⟨b, off + i * 3, none⟩ = some (.int .i64 q) ∧ w.cell? ⟨b, off + i * 3 + 1, none⟩ = some (.int .i64 g) ∧ w.cell? ⟨b, off + i * 3 + 2, none⟩ = some (.int .i64 u) := by
  obtain ⟨b', off', he, c0, c1, c2⟩ := h.at_ hi
  cases he
  rw [hL] at c0 c1 c2
  exact ⟨c0, c1, c2⟩
theorem mark_cell {w : World} {C n Y : Nat} {h : List Ln} {i : Nat} {b : Bool} (hb : w.heap[C]? = some (.cells ((marks h i n Y b).map Value.bool).toArray 4 (0, 0))) {x : Nat} (hx : x < n) : w.cell? ⟨C, x, none⟩ = some (.bool (if x < Y then comeB h i x else if x = Y then b else false)) := by
  rw [cellAt hb, List.getElem?_toArray, List.getElem?_map, marks_at _ _ _ _ _ hx]; rfl
theorem mark_put {w : World} {C n Y : Nat} {h : List Ln} {i : Nat} {b : Bool} (hb : w.heap[C]? = some (.cells ((marks h i n Y b).map Value.bool).toArray 4 (0, 0))) : (w.setCell ⟨C, Y, none⟩ (.bool true)).heap[C]? = some (.cells ((marks h i n Y true).map Value.bool).toArray 4 (0, 0)) := by
  rw [blk_setCell, if_pos rfl, hb]
  simp only [Option.map_some, Obj.put_cells, List.setIfInBounds_toArray]
  rw [← List.map_set, marks_set]
set_option maxRecDepth 100000 in
set_option maxHeartbeats 8000000 in
theorem clockExact_walk (a : Option Addr) (len cap : Nat) (zs : List Int) (x y : Int) (w : World) (hv : IntsV w a len cap zs) :
    Calls Try.prog 5 #[.slice a len cap, .int .i64 x, .int .i64 y] w fun e w' => e = .returned (.bool true) ∧ Keep [] w w' := by
  obtain ⟨N, hN⟩ : ∃ N, (hist zs).length = N := ⟨_, rfl⟩
  have hok : HOk (hist zs) := (hist_inv zs).ok
  have hN60 := hist_len zs
  rw [hN] at hN60
  have hNle : N ≤ 60 := by omega
  have HV := Lib.hid hv
  clear hv hN60
  by_cases h0 : N = 0
  · have HN := Lib.hid (hN.trans h0)
    clear hN h0 hNle hok
    go_enter Try.func5, Try.ntmps5
    go_wp2_with (first | (go_at_call 22; refine (begun_any _).mono ?_; rintro e w1 ⟨rfl, hk1⟩) | (go_at_call 20; refine (history_at (HV.out.keep hk1 (by simp)) HN).mono ?_; rintro e w2 ⟨a2, c2, rfl, hk2, hv2⟩; clear hv2))
    go_ret
    exact ⟨rfl, hk1.trans hk2⟩
  · obtain ⟨i, hi, hi1⟩ := at_nat x (show 0 < N by omega)
    obtain ⟨k, hk, hk1'⟩ := at_nat y (show 0 < N by omega)
    have HMK := mk36 N (by omega)
    have HLAW := Lib.hid (clockExact_law hok (i := i) (k := k) (by omega) (by omega))
    have HN := Lib.hid hN
    have HOK := Lib.hid hok
    have HI := Lib.hid hi
    have HKK := Lib.hid hk
    clear hN hok hi hk
    obtain ⟨A, hA⟩ : ∃ A, (decide (i ≠ k) && comeB (hist zs) i k) = A := ⟨_, rfl⟩
    have HA : Hid (lessL (clk (hist zs) i) (clk (hist zs) k) = A) := Lib.hid (HLAW.out.trans hA)
    have HAA := Lib.hid hA
    clear hA HLAW
    go_enter Try.func5, Try.ntmps5
    go_wp2_with (first | (go_at_call 22; refine (begun_any _).mono ?_; rintro e w1 ⟨rfl, hk1⟩) | (go_at_call 20; refine (history_at (HV.out.keep hk1 (by simp)) HN).mono ?_; rintro e w2 ⟨a2, c2, rfl, hk2, hv2⟩; obtain ⟨b, off, rfl, hc0, _⟩ := hv2.at_ hi1; have hb2 := World.block_lt_of_cell? _ _ hc0; have HV2 := Lib.hid hv2; have hr2 := hv2.room; have hm2 := hv2.most; unfold maxLen at hm2; clear hv2 hc0) | (go_at_call 21; (with_reducible refine (rest_at HI (by omega) (by omega)).mono ?_); rintro e w' ⟨rfl, rfl⟩) | (go_at_call 21; (with_reducible refine (rest_at HKK (by omega) (by omega)).mono ?_); rintro e w' ⟨rfl, rfl⟩) | (go_at_call 23; (with_reducible refine (ahead_at HV2.out HOK hi1 hk1' HA).mono ?_); rintro e w3 ⟨rfl, hk3⟩; have HV3 := Lib.hid (HV2.out.keep hk3 (by simp)); have hs3 := hk3.size) | (with_reducible refine Txt.wp_region_text mixed quiet (by decide +kernel) ?_) | (with_reducible refine Txt.text_done (by kernel_rfl) ?_))
    have hkw3 : Keep [] w w3 := (hk1.trans hk2).trans hk3
    have hC := hkw3.size
    have hbC : b ≠ w3.heap.size := by omega
    have HM0 : Hid ((w3.alloc (.cells ((Array.replicate N (Value.bool false)).setIfInBounds i (Value.bool true)) 4)).heap[w3.heap.size]? = some (.cells ((marks (hist zs) i N (i + 1) false).map Value.bool).toArray 4 (0, 0))) := Lib.hid (by
      rw [blk_new, ← marks_made, List.map_set, List.map_replicate, ← List.setIfInBounds_toArray, List.toArray_replicate])
    have HBC : Hid (∀ x, some (⟨b, off, none⟩ : Addr) = some x → x.block ∉ [w3.heap.size]) := Lib.hid (by intro x hx; cases hx; simp; omega)
    have HV4 : Hid (LnsV (w3.alloc (.cells ((Array.replicate N (Value.bool false)).setIfInBounds i (Value.bool true)) 4)) (some ⟨b, off, none⟩) N c2 (hist zs)) := Lib.hid (HV3.out.keep (S := [w3.heap.size]) ((Keep.refl _ _).alloc _) HBC.out)
    have hk4 : Keep [] w (w3.alloc (.cells ((Array.replicate N (Value.bool false)).setIfInBounds i (Value.bool true)) 4)) := hkw3.alloc _
    have HK4 := Lib.hid hk4
    clear hk4 HMK
    go_loopw [11, 12] (fun yv _ wr => ∃ Y : Nat, i < Y ∧ Y ≤ N ∧ yv = .int .i64 Y ∧ Keep [] w wr ∧ Hid (LnsV wr (some ⟨b, off, none⟩) N c2 (hist zs)) ∧ Hid (wr.heap[w3.heap.size]? = some (.cells ((marks (hist zs) i N Y false).map Value.bool).toArray 4 (0, 0)))) (fun yv _ _ => N - (intOf yv).toNat)
    case atStart => exact ⟨i + 1, by omega, by omega, by go_num, HK4.out, HV4, HM0⟩
    case round =>
      obtain ⟨Y, hY, hYN, rfl, hkw, HVY, HMY⟩ := hrel
      by_cases hlt : Y < N
      · have hdec : decide ((Y : Int) < N) = true := by simpa using hlt
        go_wp2_with fail
        go_loopw [12] (fun xv wr => ∃ X : Nat, i ≤ X ∧ X ≤ Y ∧ xv = .int .i64 X ∧ Keep [] w wr ∧ Hid (LnsV wr (some ⟨b, off, none⟩) N c2 (hist zs)) ∧ Hid (wr.heap[w3.heap.size]? = some (.cells ((marks (hist zs) i N Y (anyTo (hist zs) i Y X)).map Value.bool).toArray 4 (0, 0)))) (fun xv _ => Y - (intOf xv).toNat)
        case atStart => exact ⟨i, by omega, by omega, rfl, hkw, HVY, by rw [anyTo_start]; exact HMY⟩
        case round =>
          obtain ⟨X, hX, hXY, rfl, hkx, HVX, HMX⟩ := hrel
          by_cases hxy : X < Y
          · have hcc := mark_cell HMX.out (show X < N by omega)
            rw [if_pos hxy] at hcc
            have hcy := mark_cell HMX.out (show Y < N by omega)
            rw [if_neg (Nat.lt_irrefl Y), if_pos rfl] at hcy
            have hfz := thaw HMX.out
            obtain ⟨⟨qx, gx, ux⟩, hLX⟩ : ∃ L, lat (hist zs) X = L := ⟨_, rfl⟩
            obtain ⟨⟨qy, gy, uy⟩, hLY⟩ : ∃ L, lat (hist zs) Y = L := ⟨_, rfl⟩
            obtain ⟨x0, x1, x2⟩ := row_all HVX.out (show X < N by omega) hLX
            obtain ⟨y0, y1, y2⟩ := row_all HVX.out (show Y < N by omega) hLY
            have HE : Hid (edgeB (hist zs) X Y = (decide (qx = qy) || (decide (gx = 2) && (decide (gy = 3) && decide (ux = uy))))) := Lib.hid (by unfold edgeB; rw [hLX, hLY])
            have HAN := Lib.hid (anyTo_succ (hist zs) i Y X hX)
            obtain ⟨cv, hcv⟩ : ∃ cv, comeB (hist zs) i X = cv := ⟨_, rfl⟩
            rw [hcv] at hcc
            have HCV := Lib.hid hcv
            clear hcv hLX hLY
            cases cv with
            | false => as_aux_lemma =>
              go_wp2_with (first | (with_reducible refine Txt.wp_region_text mixed quiet (by decide +kernel) ?_) | (with_reducible refine Txt.text_done (by kernel_rfl) ?_))
              go_roundw
              case measure => simp [intOf]; omega
              case rel =>
                refine ⟨X + 1, by omega, by omega, by go_num, (by first | exact hkx | exact hkx.drew), (by first | exact HVX | exact Lib.hid (HVX.out.keep (Keep.refl [] _).drew (by simp))), ?_⟩
                have e9 : anyTo (hist zs) i Y (X + 1) = anyTo (hist zs) i Y X := by rw [HAN.out, HCV.out]; simp
                rw [e9]
                first | exact HMX | exact Lib.hid ((Keep.refl [] _).drew.at HMX.out (by simp))
            | true =>
              by_cases hq : qx = qy
              · as_aux_lemma =>
                subst hq
                go_wp2_with (first | (with_reducible refine Txt.wp_region_text mixed quiet (by decide +kernel) ?_) | (with_reducible refine Txt.text_done (by kernel_rfl) ?_))
                go_roundw
                case measure => simp [intOf]; omega
                case rel =>
                  have e9 : anyTo (hist zs) i Y (X + 1) = true := by rw [HAN.out, HCV.out, HE.out]; simp
                  refine ⟨X + 1, by omega, by omega, by go_num, ?_, Lib.hid (HVX.out.keep (S := [w3.heap.size]) ?_ HBC.out), ?_⟩
                  · first | exact (hkx.setCell (.inr (by omega)) _).drew | exact hkx.setCell (.inr (by omega)) _ | exact hkx.drew.setCell (.inr (by omega)) _
                  · first | exact ((Keep.refl _ _).setCell (.inl (by simp)) _).drew | exact (Keep.refl _ _).setCell (.inl (by simp)) _ | exact (Keep.refl _ _).drew.setCell (.inl (by simp)) _
                  · rw [e9]
                    first | exact Lib.hid ((Keep.refl [] _).drew.at (mark_put HMX.out) (by simp)) | exact Lib.hid (mark_put HMX.out) | exact Lib.hid (mark_put ((Keep.refl [] _).drew.at HMX.out (by simp)))
              · by_cases hg : gx = 2
                · subst hg
                  by_cases hg2 : gy = 3
                  · subst hg2
                    by_cases hu : ux = uy
                    · as_aux_lemma =>
                      subst hu
                      go_wp2_with (first | (with_reducible refine Txt.wp_region_text mixed quiet (by decide +kernel) ?_) | (with_reducible refine Txt.text_done (by kernel_rfl) ?_))
                      go_roundw
                      case measure => simp [intOf]; omega
                      case rel =>
                        have e9 : anyTo (hist zs) i Y (X + 1) = true := by rw [HAN.out, HCV.out, HE.out]; simp
                        refine ⟨X + 1, by omega, by omega, by go_num, ?_, Lib.hid (HVX.out.keep (S := [w3.heap.size]) ?_ HBC.out), ?_⟩
                        · first | exact (hkx.setCell (.inr (by omega)) _).drew | exact hkx.setCell (.inr (by omega)) _ | exact hkx.drew.setCell (.inr (by omega)) _
                        · first | exact ((Keep.refl _ _).setCell (.inl (by simp)) _).drew | exact (Keep.refl _ _).setCell (.inl (by simp)) _ | exact (Keep.refl _ _).drew.setCell (.inl (by simp)) _
                        · rw [e9]
                          first | exact Lib.hid ((Keep.refl [] _).drew.at (mark_put HMX.out) (by simp)) | exact Lib.hid (mark_put HMX.out) | exact Lib.hid (mark_put ((Keep.refl [] _).drew.at HMX.out (by simp)))
                    · as_aux_lemma =>
                      have hub : (ux == uy) = false := by simpa using hu
                      have hqb : (qx == qy) = false := by simpa using hq
                      go_wp2_with (first | (with_reducible refine Txt.wp_region_text mixed quiet (by decide +kernel) ?_) | (with_reducible refine Txt.text_done (by kernel_rfl) ?_))
                      go_roundw
                      case measure => simp [intOf]; omega
                      case rel =>
                        refine ⟨X + 1, by omega, by omega, by go_num, (by first | exact hkx | exact hkx.drew), (by first | exact HVX | exact Lib.hid (HVX.out.keep (Keep.refl [] _).drew (by simp))), ?_⟩
                        have e9 : anyTo (hist zs) i Y (X + 1) = anyTo (hist zs) i Y X := by rw [HAN.out, HCV.out, HE.out, decide_eq_false hq, decide_eq_false hu]; simp
                        rw [e9]
                        first | exact HMX | exact Lib.hid ((Keep.refl [] _).drew.at HMX.out (by simp))
                  · as_aux_lemma =>
                    go_wp2_with (first | (with_reducible refine Txt.wp_region_text mixed quiet (by decide +kernel) ?_) | (with_reducible refine Txt.text_done (by kernel_rfl) ?_))
                    go_roundw
                    case measure => simp [intOf]; omega
                    case rel =>
                      refine ⟨X + 1, by omega, by omega, by go_num, (by first | exact hkx | exact hkx.drew), (by first | exact HVX | exact Lib.hid (HVX.out.keep (Keep.refl [] _).drew (by simp))), ?_⟩
                      have e9 : anyTo (hist zs) i Y (X + 1) = anyTo (hist zs) i Y X := by rw [HAN.out, HCV.out, HE.out, decide_eq_false hq, decide_eq_false hg2]; simp
                      rw [e9]
                      first | exact HMX | exact Lib.hid ((Keep.refl [] _).drew.at HMX.out (by simp))
                · as_aux_lemma =>
                  go_wp2_with (first | (with_reducible refine Txt.wp_region_text mixed quiet (by decide +kernel) ?_) | (with_reducible refine Txt.text_done (by kernel_rfl) ?_))
                  go_roundw
                  case measure => simp [intOf]; omega
                  case rel =>
                    refine ⟨X + 1, by omega, by omega, by go_num, (by first | exact hkx | exact hkx.drew), (by first | exact HVX | exact Lib.hid (HVX.out.keep (Keep.refl [] _).drew (by simp))), ?_⟩
                    have e9 : anyTo (hist zs) i Y (X + 1) = anyTo (hist zs) i Y X := by rw [HAN.out, HCV.out, HE.out, decide_eq_false hq, decide_eq_false hg]; simp
                    rw [e9]
                    first | exact HMX | exact Lib.hid ((Keep.refl [] _).drew.at HMX.out (by simp))
          · have HXY := Lib.hid (show X = Y by omega)
            go_wp2_with fail
            go_roundw
            case measure => simp [intOf]; omega
            case rel =>
              refine ⟨Y + 1, by omega, by omega, by go_num, hkx, HVX, ?_⟩
              have hm := HMX.out
              rw [HXY.out, anyTo_end _ _ _ hY, marks_next] at hm
              exact Lib.hid hm
      · have HYN := Lib.hid (show Y = N by omega)
        have hcc := mark_cell HMY.out hk1'
        rw [if_pos (by omega)] at hcc
        obtain ⟨cv, hcv⟩ : ∃ cv, comeB (hist zs) i k = cv := ⟨_, rfl⟩
        rw [hcv] at hcc
        have HCV := Lib.hid hcv
        clear hcv
        by_cases hik : i = k
        · subst hik
          go_wp2_with fail
          all_goals
            go_ret
            exact ⟨ret_bool (by rw [← HAA.out]; simp), hkw⟩
        · go_wp2_with fail
          all_goals
            go_ret
            refine ⟨ret_bool ?_, hkw⟩
            rw [← HAA.out, HCV.out]
            have e1 : decide (i ≠ k) = true := by simpa using hik
            have e2 : ((i : Int) != (k : Int)) = true := bne_iff_ne.2 (fun h => hik (by omega))
            rw [e1]
            first | (rw [e2]; cases cv <;> rfl) | (cases cv <;> simp; done) | (cases cv <;> simp <;> omega)
end Go.Proofs.Ytkhchfjhmplaiaa
