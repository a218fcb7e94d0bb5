import Derived.Test.YtmdfkbckpekchaaC1
namespace Go
theorem joinTo_succ (xs ys : List Int) (k : Nat) : ((List.range (k + 1)).map fun j => max (xs.getD j 0) (ys.getD j 0)) = ((List.range k).map fun j => max (xs.getD j 0) (ys.getD j 0)) ++ [max (xs.getD k 0) (ys.getD k 0)] := by simp [List.range_succ]
end Go
namespace Go.Proofs.Ytmdfkbckpekchaa
open Go.RowKit
theorem info3 : (Try.prog.info? 3).map (fun i => (i.zero, i.size, i.bytes)) = some (some (.int .i64 0), 1, 8) := by kernel_rfl
def joinTo (xs ys : List Int) (k : Nat) : List Int := (List.range k).map fun j => max (xs.getD j 0) (ys.getD j 0)
set_option maxHeartbeats 1000000 in
theorem join_any {a1 a2 : Option Addr} {n1 c1 n2 c2 : Nat} {xs ys : List Int} {w : World} (hx : IntsV w a1 n1 c1 xs) (hy : IntsV w a2 n2 c2 ys) (hr1 : n1 * 8 ≤ 140737488351232) (hr2 : n2 * 8 ≤ 140737488351232) :
    Calls Try.prog 14 #[.slice a1 n1 c1, .slice a2 n2 c2] w fun e w' => ∃ a n c, e = .returned (.slice a n c) ∧ n = max n1 n2 ∧ Keep [] w w' ∧ IntsV w' a n c (joinL xs ys) := by
  have hM : max xs.length ys.length = max n1 n2 := by rw [hx.len, hy.len]
  have HX := Lib.hid hx
  have HY := Lib.hid hy
  have HM := Lib.hid hM
  clear hx hy hM
  obtain ⟨i0, hi, hz0, hz1, hz2⟩ := info_parts info3
  go_enter Try.func14, Try.ntmps14
  go_wp2_with fail
  all_goals
    go_loopw [5, 12] (fun out i wr => ∃ k : Nat, k ≤ max n1 n2 ∧ i = .int .i64 k ∧ Keep [] w wr ∧ wr.ownsRow w.heap.size 3 1 out k ((joinTo xs ys k).map (Value.int .i64))) (fun _ i _ => max n1 n2 - (intOf i).toNat)
    case atStart => exact ⟨0, by omega, rfl, Keep.refl _ _, World.ownsRow_nil _ _ _ _⟩
    case round =>
      obtain ⟨k, hk, rfl, hkw, hown⟩ := hrel
      by_cases hlt : k < max n1 n2
      · have e1 := Lib.hid (show joinTo xs ys (k + 1) = joinTo xs ys k ++ [max (xs.getD k 0) (ys.getD k 0)] from joinTo_succ xs ys k)
        have hpx := Lib.hid (part_any (HX.out.keep hkw (by simp)) k)
        have hpy := Lib.hid (part_any (HY.out.keep hkw (by simp)) k)
        have HOWN := Lib.hid hown
        clear hown
        generalize joinTo xs ys k = js at *
        generalize xs.getD k 0 = x at *
        generalize ys.getD k 0 = y at *
        by_cases hxy : x < y
        · have hmx : max x y = y := by omega
          have HMX := Lib.hid hmx
          clear hmx
          have hsz := hkw.size
          go_wp2_with (first | (go_at_call 41; (with_reducible refine (hpx.out).mono ?_); rintro e w' ⟨rfl, rfl⟩) | (go_at_call 41; (with_reducible refine (hpy.out).mono ?_); rintro e w' ⟨rfl, rfl⟩) | (at_builtin; refine wpList_append_own _ rfl _ _ 22 rfl w.heap.size 3 i0 (.int .i64 0) 1 8 Try.underlying22 hi hz0 hz1 hz2 rfl (by decide) _ _ _ rfl (HOWN.out.alloc _) ⟨wr.heap.size, 0, none⟩ 1 1 [.int .i64 y] rfl rfl (cell_one_new _ _ _) (by intro u hu; simp at hu; subst hu; rfl) (by unfold maxLen; omega) (by omega) (by simp; omega) ?_; intro v' w1 hown1 hgr1 _))
          go_roundw
          case rel => exact ⟨k + 1, by omega, by go_num, (hkw.alloc _).grown hgr1 (fun b hb => .inr (HOWN.out.lt b hb).1), by rw [e1.out, HMX.out, List.map_append]; exact hown1⟩
          case measure => simp [intOf]; omega
        · have hmx : max x y = x := by omega
          have HMX := Lib.hid hmx
          clear hmx
          have hsz := hkw.size
          go_wp2_with (first | (go_at_call 41; (with_reducible refine (hpx.out).mono ?_); rintro e w' ⟨rfl, rfl⟩) | (go_at_call 41; (with_reducible refine (hpy.out).mono ?_); rintro e w' ⟨rfl, rfl⟩) | (at_builtin; refine wpList_append_own _ rfl _ _ 22 rfl w.heap.size 3 i0 (.int .i64 0) 1 8 Try.underlying22 hi hz0 hz1 hz2 rfl (by decide) _ _ _ rfl (HOWN.out.alloc _) ⟨wr.heap.size, 0, none⟩ 1 1 [.int .i64 x] rfl rfl (cell_one_new _ _ _) (by intro u hu; simp at hu; subst hu; rfl) (by unfold maxLen; omega) (by omega) (by simp; omega) ?_; intro v' w1 hown1 hgr1 _))
          go_roundw
          case rel => exact ⟨k + 1, by omega, by go_num, (hkw.alloc _).grown hgr1 (fun b hb => .inr (HOWN.out.lt b hb).1), by rw [e1.out, HMX.out, List.map_append]; exact hown1⟩
          case measure => simp [intOf]; omega
      · have hkM : k = max n1 n2 := by omega
        have HK := Lib.hid hkM
        clear hkM
        go_wp2_with fail
        go_ret
        have hz : joinTo xs ys k = joinL xs ys := by rw [HK.out, ← HM.out]; rfl
        obtain ⟨a, c, hv, hi⟩ := IntsV.ofOwn (zs := joinTo xs ys k) hown (fun z hz => by
          obtain ⟨j, _, rfl⟩ := List.mem_map.1 hz
          exact wf_max (HX.out.wfAt j) (HY.out.wfAt j))
        exact ⟨a, k, c, by rw [← hv]; rfl, HK.out, hkw, hz ▸ hi⟩
end Go.Proofs.Ytmdfkbckpekchaa
