import Derived.Test.YtmdfkbckpekchaaC4
namespace Go.Proofs.Ytmdfkbckpekchaa
open Go.RowKit
set_option maxRecDepth 100000 in
set_option maxHeartbeats 600000 in
theorem clockJoin_walk (a1 : Option Addr) (n1 c1 : Nat) (xs : List Int) (a2 : Option Addr) (n2 c2 : Nat) (ys : List Int) (a3 : Option Addr) (n3 c3 : Nat) (zs : List Int) (w : World)
    (hx : IntsV w a1 n1 c1 xs) (hy : IntsV w a2 n2 c2 ys) (hz : IntsV w a3 n3 c3 zs) (r1 : n1 * 8 ≤ 140737488351232) (r2 : n2 * 8 ≤ 140737488351232) (r3 : n3 * 8 ≤ 140737488351232) :
    Calls Try.prog 3 #[.slice a1 n1 c1, .slice a2 n2 c2, .slice a3 n3 c3] w fun e w' => e = .returned (.bool true) ∧ Keep [] w w' := by
  have HX := Lib.hid hx
  have HY := Lib.hid hy
  have HZ := Lib.hid hz
  clear hx hy hz
  have e1 : lessL [1] [1, 2] = true := by decide
  have e2 : decide (joinL [1, 5] [3, 2] = [3, 5]) = true := by decide
  have e3 := below_low xs ys
  have e4 := alike_comm xs ys
  have e5 := alike_assoc xs ys zs
  have e6 := Lib.hid (@below_join xs ys zs)
  go_enter Try.func3, Try.ntmps3
  go_wp2_with fail
  refine (less_any (IntsV.lit [1] 1 (heap_alloc2_old _ _ _) rfl rfl (by unfold maxLen; omega) (by decide)) (IntsV.lit [1, 2] 2 (heap_alloc2_new _ _ _) rfl rfl (by unfold maxLen; omega) (by decide))).mono ?_
  rintro e w1 ⟨rfl, hw1⟩
  have hk1 : Keep [] w w1 := hw1 ▸ ((Keep.refl _ _).alloc _).alloc _
  clear hw1
  go_wp2_with fail
  refine (join_any (IntsV.lit [1, 5] 2 (heap_alloc2_old _ _ _) rfl rfl (by unfold maxLen; omega) (by decide)) (IntsV.lit [3, 2] 2 (heap_alloc2_new _ _ _) rfl rfl (by unfold maxLen; omega) (by decide)) (by omega) (by omega)).mono ?_
  rintro e w2 ⟨a4, n4, c4, rfl, hn4, hk2, hj1⟩
  obtain rfl : n4 = 2 := by omega
  clear hn4
  have hk2 : Keep [] w w2 := ((hk1.alloc _).alloc _).trans hk2
  clear hk1
  go_wp2_with fail
  refine (equal_any (hj1.keep ((Keep.refl [] _).alloc _) (by simp)) (IntsV.lit [3, 5] 2 (blk_new _ _) rfl rfl (by unfold maxLen; omega) (by decide))).mono ?_
  rintro e w3 ⟨rfl, hk3⟩
  have hk3 : Keep [] w w3 := (hk2.alloc _).trans hk3
  clear hk2 hj1
  go_wp2_with fail
  refine (join_any (HX.out.keep hk3 (by simp)) (HY.out.keep hk3 (by simp)) r1 r2).mono ?_
  rintro e w4 ⟨aj, nj, cj, rfl, hnj, hk4, HJ⟩
  have hk4 : Keep [] w w4 := hk3.trans hk4
  have rj : nj * 8 ≤ 140737488351232 := by omega
  have HJ := Lib.hid HJ
  have HNJ := Lib.hid hnj
  clear hk3 hnj
  go_wp2_with fail
  refine (low_any (HX.out.keep hk4 (by simp)) r1).mono ?_
  rintro e w5 ⟨ax, cx, rfl, hk5, hlx⟩
  have HJ := Lib.hid (HJ.out.keep hk5 (by simp))
  have hk5 : Keep [] w w5 := hk4.trans hk5
  clear hk4
  go_wp2_with fail
  refine (low_any (HX.out.keep hk5 (by simp)) r1).mono ?_
  rintro e w6 ⟨ax2, cx2, rfl, hk6, hlx2⟩
  have HJ := Lib.hid (HJ.out.keep hk6 (by simp))
  have hlx := hlx.keep hk6 (by simp)
  have hk6 : Keep [] w w6 := hk5.trans hk6
  clear hk5
  go_wp2_with fail
  refine (low_any (HY.out.keep hk6 (by simp)) r2).mono ?_
  rintro e w7 ⟨ay, cy, rfl, hk7, hly⟩
  have HJ := Lib.hid (HJ.out.keep hk7 (by simp))
  have hlx := hlx.keep hk7 (by simp)
  have hlx2 := hlx2.keep hk7 (by simp)
  have hk7 : Keep [] w w7 := hk6.trans hk7
  clear hk6
  go_wp2_with fail
  refine (join_any hlx2 hly (by omega) (by omega)).mono ?_
  rintro e w8 ⟨al, nl, cl, rfl, hnl, hk8, hll⟩
  have HJ := Lib.hid (HJ.out.keep hk8 (by simp))
  have hlx := hlx.keep hk8 (by simp)
  have hk8 : Keep [] w w8 := hk7.trans hk8
  have HNL := Lib.hid hnl
  clear hk7 hlx2 hly hnl
  go_wp2_with fail
  refine (below_any hlx hll).mono ?_
  rintro e w9 ⟨rfl, rfl⟩
  clear hlx hll
  go_wp2_with fail
  refine (join_any (HY.out.keep hk8 (by simp)) (HX.out.keep hk8 (by simp)) (by omega) (by omega)).mono ?_
  rintro e w9 ⟨ab, nb, cb, rfl, hnb, hk9, hyx⟩
  have HJ := Lib.hid (HJ.out.keep hk9 (by simp))
  have hk9 : Keep [] w w9 := hk8.trans hk9
  have HNB := Lib.hid hnb
  clear hk8 hnb
  go_wp2_with fail
  refine (alike_any HJ.out hyx).mono ?_
  rintro e w10 ⟨rfl, rfl⟩
  clear hyx
  have b1 := Lib.hid (below_any (HX.out.keep hk9 (by simp)) (HZ.out.keep hk9 (by simp)))
  have b2 := Lib.hid (below_any (HY.out.keep hk9 (by simp)) (HZ.out.keep hk9 (by simp)))
  have b3 := Lib.hid (below_any HJ.out (HZ.out.keep hk9 (by simp)))
  generalize belowL xs zs = q1 at *
  generalize belowL ys zs = q2 at *
  generalize belowL (joinL xs ys) zs = q3 at *
  cases q1 <;> cases q2
  case' true.true => obtain rfl : q3 = true := e6.out rfl rfl
  all_goals
    go_wp2_with (first | (go_at_call 15; (with_reducible refine (b1.out).mono ?_); rintro e w' ⟨rfl, rfl⟩) | (go_at_call 15; (with_reducible refine (b2.out).mono ?_); rintro e w' ⟨rfl, rfl⟩) | (go_at_call 15; (with_reducible refine (b3.out).mono ?_); rintro e w' ⟨rfl, rfl⟩))
    refine (join_any HJ.out (HZ.out.keep hk9 (by simp)) (by omega) (by omega)).mono ?_
    rintro e w10 ⟨am, nm, cm, rfl, hnm, hk10, hjz⟩
    have hk10 : Keep [] w w10 := hk9.trans hk10
    have HNM := Lib.hid hnm
    clear hk9 hnm
    go_wp2_with fail
    refine (join_any (HY.out.keep hk10 (by simp)) (HZ.out.keep hk10 (by simp)) (by omega) (by omega)).mono ?_
    rintro e w11 ⟨ao, no, co, rfl, hno, hk11, hyz⟩
    have hjz := hjz.keep hk11 (by simp)
    have hk11 : Keep [] w w11 := hk10.trans hk11
    have ro : no * 8 ≤ 140737488351232 := by omega
    have HNO := Lib.hid hno
    clear hk10 hno
    go_wp2_with fail
    refine (join_any (HX.out.keep hk11 (by simp)) hyz (by omega) (by omega)).mono ?_
    rintro e w12 ⟨ap, np, cp, rfl, hnp, hk12, hxyz⟩
    have hjz := hjz.keep hk12 (by simp)
    have hk12 : Keep [] w w12 := hk11.trans hk12
    have HNP := Lib.hid hnp
    clear hk11 hnp
    go_wp2_with fail
    refine (alike_any hjz hxyz).mono ?_
    rintro e w13 ⟨rfl, rfl⟩
    go_wp2_with fail
    go_ret
    exact ⟨rfl, hk12⟩
end Go.Proofs.Ytmdfkbckpekchaa
