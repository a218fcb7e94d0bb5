import Derived.Test.YtkhchfjhmplaiaaH11
import Derived.Test.YtkhchfjhmplaiaaHP10
import Derived.BigRegion
namespace Go.Proofs
open Go.Shelf
def Try.laysSlE041_f39_ren : Go.Shelf.Ren := ⟨fun | 41 => 39 | n => n, fun | 22 => 28 | 23 => 27 | 4 => 4 | n => n, fun | n => n⟩
theorem Try.laysSlE041_f39 : Go.Proofs.SlLaysE0.n41 Try.prog Try.laysSlE041_f39_ren := {
  mixed := by kernel_rfl
  f41 := ⟨Try.f39.name, by decide, Try.func39.trans (congrArg some (by kernel_rfl))⟩
  t4 := Try.underlying4
  a4 := Try.isAgg4
  z4 := Try.sizeOf4
  v4 := Try.zeroValue4
  t22 := Try.underlying28
  a22 := Try.isAgg28
  z22 := Try.sizeOf28
  v22 := Try.zeroValue28 }
end Go.Proofs
namespace Go.Proofs.Ytkhchfjhmplaiaa
open Go.RowKit
theorem lns_own_cells {w : World} {a : Option Addr} {n c : Nat} {h : List Ln} (hv : LnsV w a n c h) (hn : 0 < n) : ∃ b off, a = some ⟨b, off, none⟩ ∧ ∀ j u, (lanesC h)[j]? = some u → w.cell? ⟨b, off + j, none⟩ = some u := by
  obtain ⟨b, off, rfl, hc⟩ := hv.cells hn
  refine ⟨b, off, rfl, fun j u hu => ?_⟩
  have h1 := lanesC_len h
  have h2 := hv.len
  have h3 := (List.getElem?_eq_some_iff.1 hu).1
  rw [hc j (by omega)]; exact hu
/-- A history is cloned. -/
theorem clone_any {a : Option Addr} {n c : Nat} {h : List Ln} {w : World} (hv : LnsV w a n c h) (hn : 0 < n) (hn2 : n ≤ 200) :
    Calls Try.prog 39 #[.slice a n c] w fun e w' => ∃ g cap, e = .returned (.slice (some ⟨g, 0, none⟩) n cap) ∧ Keep [] w w' ∧ w'.ownsRow w.heap.size 27 3 (.slice (some ⟨g, 0, none⟩) n cap) n (lanesC h) := by
  obtain ⟨b, off, rfl, hc⟩ := lns_own_cells hv hn
  obtain ⟨i0, hi0, hz0, hz1, hz2⟩ := info_parts info27
  have hl := lanesC_len h
  have hl2 := hv.len
  have h9 : Calls Try.prog 39 #[.slice (some ⟨b, off, none⟩) n c] w fun e w' => ∃ v', e = .returned v' ∧ w'.ownsRow w.heap.size 27 3 v' n (lanesC h) ∧ v' ≠ .slice none 0 0 ∧ Below w.heap.size w w' :=
    Go.Proofs.AnyE.slices_Clone Try.laysSlE041_f39 i0 _ 3 24 hi0 hz0 hz1 hz2 rfl (by decide) (fun w => by kernel_rfl) b off n c (lanesC h) w (by rw [hl, hl2]; omega) (by unfold maxLen; omega) (by omega) hc (fun u hu => by
      obtain ⟨L, hL, hu⟩ := List.mem_flatMap.1 hu
      simp [Ln.cells] at hu
      rcases hu with hu | hu | hu <;> (subst hu; rfl))
  refine h9.mono ?_
  rintro e w' ⟨v, rfl, ho, _, hb⟩
  have ho2 := ho
  rcases ho.2 with ⟨_, h0⟩ | ⟨g, cap, cur, rfl, _⟩
  · omega
  · exact ⟨g, cap, rfl, ⟨hb.os, hb.tape, hb.output, hb.size, fun i hi _ => hb.block i hi⟩, ho2⟩
theorem own_put_cell {w : World} {B e m n : Nat} {g cap : Nat} {xs : List Value} (h : w.ownsRow B e m (.slice (some ⟨g, 0, none⟩) n cap) n xs) (j : Nat) (x : Value) :
    (w.setCell ⟨g, j, none⟩ x).ownsRow B e m (.slice (some ⟨g, 0, none⟩) n cap) n (xs.set j x) := by
  obtain ⟨hl, h⟩ := h
  refine ⟨by simpa using hl, ?_⟩
  rcases h with ⟨h0, _⟩ | ⟨g', cap', cur, hv, hb, hg, hnc, hcm, hcs, ht⟩
  · cases h0
  · cases hv
    refine .inr ⟨g, cap, cur.setIfInBounds j x, rfl, hb, by rw [blk_setCell, if_pos rfl, hg]; rfl, hnc, hcm, by simpa using hcs, ?_⟩
    rw [← ht]
    simp only [Array.toList_setIfInBounds]
    rw [List.take_set]
theorem own_put3 {w : World} {B e n : Nat} {g cap : Nat} {ls : List Ln} (h : w.ownsRow B e 3 (.slice (some ⟨g, 0, none⟩) n cap) n (lanesC ls)) {i : Nat} (hi : i < ls.length) (x y z : Int) :
    (((w.setCell ⟨g, i * 3, none⟩ (.int .i64 x)).setCell ⟨g, i * 3 + 1, none⟩ (.int .i64 y)).setCell ⟨g, i * 3 + 2, none⟩ (.int .i64 z)).ownsRow B e 3 (.slice (some ⟨g, 0, none⟩) n cap) n (lanesC (ls.set i ⟨x, y, z⟩)) := by
  have h1 := own_put_cell (own_put_cell (own_put_cell h (i * 3) (.int .i64 x)) (i * 3 + 1) (.int .i64 y)) (i * 3 + 2) (.int .i64 z)
  have e0 := lanes_put ls i 0 (.int .i64 x) ⟨x, (lat ls i).g, (lat ls i).u⟩ hi (by omega) rfl
  have e1 := lanes_put (ls.set i ⟨x, (lat ls i).g, (lat ls i).u⟩) i 1 (.int .i64 y) ⟨x, y, (lat ls i).u⟩ (by simpa using hi) (by omega) (by rw [lat_set _ _ _ _ hi, if_pos rfl]; rfl)
  have e2 := lanes_put (ls.set i ⟨x, y, (lat ls i).u⟩) i 2 (.int .i64 z) ⟨x, y, z⟩ (by simpa using hi) (by omega) (by rw [lat_set _ _ _ _ hi, if_pos rfl]; rfl)
  rw [List.set_set] at e1 e2
  rw [Nat.add_zero] at e0
  rw [e0, e1, e2] at h1
  exact h1
/-- Two slices of rows are compared. -/
def RowsC (w : World) (g n : Nat) (R : Nat → List Int) : Prop := ∀ i, i < n → ∃ a m c, w.cell? ⟨g, i, none⟩ = some (.slice a m c) ∧ IntsV w a m c (R i)
theorem RowsC.keep {w w' : World} {g n : Nat} {R : Nat → List Int} (h : RowsC w g n R) (hk : Keep [] w w') : RowsC w' g n R := fun i hi =>
  let ⟨a, m, c, h1, h2⟩ := h i hi
  ⟨a, m, c, hk.cell h1 (by simp), h2.keep hk (by simp)⟩
theorem eqc_any {a1 a2 : Option Addr} {n1 c1 n2 c2 : Nat} {xs : List Int} {w : World} (hx : IntsV w a1 n1 c1 xs) (hy : IntsV w a2 n2 c2 xs) :
    Calls Try.prog 42 #[.slice a1 n1 c1, .slice a2 n2 c2] w fun e w' => e = .returned (.bool true) ∧ Keep [] w w' := by
  have h := equal_any hx hy
  rw [decide_eq_true rfl] at h
  have H := Lib.hid h
  clear h hx hy
  go_enter Try.func42, Try.ntmps42
  go_wp2_with (first | (go_at_call 34; refine H.out.mono ?_; rintro e w1 ⟨rfl, hk1⟩))
  go_ret
  exact ⟨rfl, hk1⟩
theorem eqf_any {g1 c1 g2 c2 n : Nat} {R : Nat → List Int} {w : World} (hx : RowsC w g1 n R) (hy : RowsC w g2 n R) (h1 : n ≤ c1) (h2 : n ≤ c2) (hm1 : c1 ≤ maxLen) (hm2 : c2 ≤ maxLen) :
    Calls Try.prog 41 #[.slice (some ⟨g1, 0, none⟩) n c1, .slice (some ⟨g2, 0, none⟩) n c2, .func (.func 42) #[] #[]] w fun e w' => e = .returned (.bool true) ∧ Keep [] w w' := by
  have HX0 := Lib.hid hx
  have HY0 := Lib.hid hy
  unfold maxLen at hm1 hm2
  clear hx hy
  go_enter Try.func41, Try.ntmps41
  go_wp2_with fail
  go_loopw [17] (fun i wr => ∃ k : Nat, k ≤ n ∧ i = .int .i64 k ∧ Keep [] w wr ∧ Hid (RowsC wr g1 n R) ∧ Hid (RowsC wr g2 n R)) (fun i _ => n - (intOf i).toNat)
  case atStart => exact ⟨0, by omega, rfl, Keep.refl _ _, HX0, HY0⟩
  case round =>
    obtain ⟨k, hk, rfl, hkw, HX, HY⟩ := hrel
    by_cases hlt : k < n
    · obtain ⟨a3, m3, c3, hc3, hi3⟩ := HX.out k hlt
      obtain ⟨a4, m4, c4, hc4, hi4⟩ := HY.out k hlt
      have HI3 := Lib.hid hi3
      have HI4 := Lib.hid hi4
      clear hi3 hi4
      go_wp2_with (first | (go_at_call 42; refine (eqc_any HI3.out HI4.out).mono ?_; rintro e w1 ⟨rfl, hk1⟩))
      go_roundw
      case measure => simp [intOf]; omega
      case rel => exact ⟨k + 1, by omega, by go_num, hkw.trans hk1, Lib.hid (HX.out.keep hk1), Lib.hid (HY.out.keep hk1)⟩
    · go_wp2_with fail
      go_ret
      exact ⟨rfl, hkw⟩
end Go.Proofs.Ytkhchfjhmplaiaa
