import Derived.Test.YtmdfkbckpekchaaRst
namespace Go
/-- A component, or 0. -/
def geTo (xs ys : List Int) (k : Nat) : Bool := (List.range k).all fun j => decide (xs.getD j 0 ≤ ys.getD j 0)
def ltTo (xs ys : List Int) (k : Nat) : Bool := (List.range k).any fun j => decide (xs.getD j 0 < ys.getD j 0)
def eqTo (xs ys : List Int) (k : Nat) : Bool := (List.range k).all fun j => decide (xs.getD j 0 = ys.getD j 0)
def lessL (xs ys : List Int) : Bool := geTo xs ys (max xs.length ys.length) && ltTo xs ys (max xs.length ys.length)
def alikeL (xs ys : List Int) : Bool := eqTo xs ys (max xs.length ys.length)
def joinL (xs ys : List Int) : List Int := (List.range (max xs.length ys.length)).map fun j => max (xs.getD j 0) (ys.getD j 0)
def lowL (xs : List Int) : List Int := xs.map fun x => max x 0
theorem geTo_succ (xs ys : List Int) (k : Nat) : geTo xs ys (k + 1) = (geTo xs ys k && decide (xs.getD k 0 ≤ ys.getD k 0)) := by simp [geTo, List.range_succ]
theorem ltTo_succ (xs ys : List Int) (k : Nat) : ltTo xs ys (k + 1) = (ltTo xs ys k || decide (xs.getD k 0 < ys.getD k 0)) := by simp [ltTo, List.range_succ]
theorem eqTo_succ (xs ys : List Int) (k : Nat) : eqTo xs ys (k + 1) = (eqTo xs ys k && decide (xs.getD k 0 = ys.getD k 0)) := by simp [eqTo, List.range_succ]
theorem geTo_no {xs ys : List Int} {k m : Nat} (h : k < m) (hn : ys.getD k 0 < xs.getD k 0) : geTo xs ys m = false := by
  rw [geTo, List.all_eq_false]
  exact ⟨k, List.mem_range.2 h, by simpa using hn⟩
theorem eqTo_no {xs ys : List Int} {k m : Nat} (h : k < m) (hn : xs.getD k 0 ≠ ys.getD k 0) : eqTo xs ys m = false := by
  rw [eqTo, List.all_eq_false]
  exact ⟨k, List.mem_range.2 h, by simpa using hn⟩
/-- What the call's own appended row reads as. -/
theorem IntsV.ofOwn {w : World} {base e : Nat} {v : Value} {n : Nat} {zs : List Int} (h : w.ownsRow base e 1 v n (zs.map (Value.int .i64))) (hw : ∀ z ∈ zs, (Lit.int .i64 z).wf = true) :
    ∃ a c, v = .slice a n c ∧ IntsV w a n c zs := by
  obtain ⟨hl, h⟩ := h
  have hn : zs.length = n := by simpa using hl
  rcases h with ⟨rfl, rfl⟩ | ⟨g, cap, cur, rfl, _, hg, hnc, hcm, hcs, ht⟩
  · exact ⟨none, 0, rfl, hn, Nat.le_refl _, Nat.zero_le _, hw, fun h => absurd h (by decide)⟩
  · refine ⟨_, _, rfl, hn, hnc, hcm, hw, fun h0 => ⟨g, 0, rfl, fun i hi => ?_⟩⟩
    rw [Nat.zero_add, cell_of_row w g i cur e (0, 0) hg]
    have : (cur.toList.take (n * 1))[i]? = (zs.map (Value.int .i64))[i]? := by rw [ht]
    rw [List.getElem?_take, if_pos (by omega)] at this
    simp only [Array.getElem?_toList] at this
    rw [this]
    simp [List.getD_eq_getElem?_getD, hn ▸ hi]
theorem IntsV.wfAt {w : World} {a : Option Addr} {n c : Nat} {zs : List Int} (h : IntsV w a n c zs) (k : Nat) : (Lit.int .i64 (zs.getD k 0)).wf = true := by
  rw [List.getD_eq_getElem?_getD]
  cases hk : zs[k]? with
  | none => decide
  | some z => exact h.wf z (List.mem_of_getElem? hk)
theorem IntsV.look {w : World} {a : Option Addr} {n c : Nat} {zs : List Int} (h : IntsV w a n c zs) (k : Nat) :
    (k < n ∧ ∃ b off, a = some ⟨b, off, none⟩ ∧ w.cell? ⟨b, off + k, none⟩ = some (.int .i64 (zs.getD k 0))) ∨ (n ≤ k ∧ zs.getD k 0 = 0) := by
  by_cases hk : k < n
  · obtain ⟨b, off, rfl, hc⟩ := h.cells (by omega)
    exact .inl ⟨hk, b, off, rfl, hc k hk⟩
  · exact .inr ⟨by omega, by have := h.len; simp [List.getD_eq_getElem?_getD, List.getElem?_eq_none (show zs.length ≤ k by omega)]⟩
theorem wf_max {x y : Int} (h : (Lit.int .i64 x).wf = true) (h' : (Lit.int .i64 y).wf = true) : (Lit.int .i64 (max x y)).wf = true := by
  rcases Int.le_total x y with h1 | h1
  · rw [Int.max_eq_right h1]; exact h'
  · rw [Int.max_eq_left h1]; exact h
end Go
namespace Go.Proofs.Ytmdfkbckpekchaa
open Go.RowKit
set_option maxHeartbeats 400000 in
theorem part_any {a : Option Addr} {n c : Nat} {zs : List Int} {w : World} (hv : IntsV w a n c zs) (k : Nat) :
    Calls Try.prog 41 #[.slice a n c, .int .i64 k] w fun e w' => e = .returned (.int .i64 (zs.getD k 0)) ∧ w = w' := by
  have hl := hv.len
  by_cases hk : k < n
  · obtain ⟨b, off, rfl, hc⟩ := hv.cells (by omega)
    have hck := hc k hk
    clear hc hv hl
    generalize zs.getD k 0 = z at *
    go_enter Try.func41, Try.ntmps41
    go_wp2_with fail
    go_ret
    exact ⟨rfl, rfl⟩
  · have hz : zs.getD k 0 = 0 := by simp [List.getD_eq_getElem?_getD, List.getElem?_eq_none (show zs.length ≤ k by omega)]
    rw [hz]
    clear hz hv hl
    go_enter Try.func41, Try.ntmps41
    go_wp2_with fail
    go_ret
    exact ⟨rfl, rfl⟩
set_option maxHeartbeats 1000000 in
theorem less_any {a1 a2 : Option Addr} {n1 c1 n2 c2 : Nat} {xs ys : List Int} {w : World} (hx : IntsV w a1 n1 c1 xs) (hy : IntsV w a2 n2 c2 ys) :
    Calls Try.prog 12 #[.slice a1 n1 c1, .slice a2 n2 c2] w fun e w' => e = .returned (.bool (lessL xs ys)) ∧ w = w' := by
  have hM : max xs.length ys.length = max n1 n2 := by rw [hx.len, hy.len]
  have hM2 : max n1 n2 ≤ maxLen := by have := hx.room; have := hx.most; have := hy.room; have := hy.most; omega
  unfold maxLen at hM2
  have HX := Lib.hid hx
  have HY := Lib.hid hy
  have HM := Lib.hid hM
  clear hx hy hM
  go_enter Try.func12, Try.ntmps12
  go_wp2_with fail
  all_goals
    go_loop [5, 14] (fun ls i => ∃ k : Nat, k ≤ max n1 n2 ∧ i = .int .i64 k ∧ ls = .bool (ltTo xs ys k) ∧ Hid (geTo xs ys k = true)) (fun _ i => max n1 n2 - (intOf i).toNat)
    case atStart => exact ⟨0, by omega, rfl, rfl, rfl⟩
    case round =>
      obtain ⟨k, hk, rfl, rfl, hge⟩ := hrel
      by_cases hlt : k < max n1 n2
      · have e1 := Lib.hid (ltTo_succ xs ys k)
        have e2 := Lib.hid (geTo_succ xs ys k)
        have e3 := Lib.hid (@geTo_no xs ys k (max n1 n2) hlt)
        generalize hb : ltTo xs ys k = b at *
        have HB := Lib.hid hb
        clear hb
        have hpx := Lib.hid (part_any HX.out k)
        have hpy := Lib.hid (part_any HY.out k)
        generalize xs.getD k 0 = x at *
        generalize ys.getD k 0 = y at *
        go_wp2_with (first | (go_at_call 41; (with_reducible refine (hpx.out).mono ?_); rintro e w' ⟨rfl, rfl⟩) | (go_at_call 41; (with_reducible refine (hpy.out).mono ?_); rintro e w' ⟨rfl, rfl⟩))
        · go_ret
          exact ⟨ret_bool (by rw [lessL, HM.out, e3.out (by assumption)]; rfl), rfl⟩
        all_goals
          go_round
          case rel => exact ⟨k + 1, by omega, by go_num, by rw [e1.out]; simp_all, by show geTo xs ys (k + 1) = true; rw [e2.out, hge.out]; simp_all⟩
          case measure => simp [intOf]; omega
      · go_wp2_with fail
        go_ret
        exact ⟨ret_bool (by rw [lessL, HM.out, show max n1 n2 = k by omega, hge.out]; rfl), rfl⟩
set_option maxHeartbeats 1000000 in
theorem alike_any {a1 a2 : Option Addr} {n1 c1 n2 c2 : Nat} {xs ys : List Int} {w : World} (hx : IntsV w a1 n1 c1 xs) (hy : IntsV w a2 n2 c2 ys) :
    Calls Try.prog 16 #[.slice a1 n1 c1, .slice a2 n2 c2] w fun e w' => e = .returned (.bool (alikeL xs ys)) ∧ w = w' := by
  have hM : max xs.length ys.length = max n1 n2 := by rw [hx.len, hy.len]
  have hM2 : max n1 n2 ≤ maxLen := by have := hx.room; have := hx.most; have := hy.room; have := hy.most; omega
  have hb1 := hx.room
  have hb2 := hy.room
  unfold maxLen at hM2
  have HX := Lib.hid hx
  have HY := Lib.hid hy
  have HM := Lib.hid hM
  clear hx hy hM
  go_enter Try.func16, Try.ntmps16
  go_wp2_with fail
  all_goals
    go_loop [13] (fun i => ∃ k : Nat, k ≤ max n1 n2 ∧ i = .int .i64 k ∧ Hid (eqTo xs ys k = true)) (fun i => max n1 n2 - (intOf i).toNat)
    case atStart => exact ⟨0, by omega, rfl, rfl⟩
    case round =>
      obtain ⟨k, hk, rfl, hge⟩ := hrel
      by_cases hlt : k < max n1 n2
      · have e2 := Lib.hid (eqTo_succ xs ys k)
        have e3 := Lib.hid (@eqTo_no xs ys k (max n1 n2) hlt)
        have hlx := HX.out.look k
        have hly := HY.out.look k
        clear HX HY
        generalize xs.getD k 0 = x at *
        generalize ys.getD k 0 = y at *
        rcases hlx with ⟨h1, b1, o1, rfl, hc1⟩ | ⟨h1, rfl⟩ <;> rcases hly with ⟨h2, b2, o2, rfl, hc2⟩ | ⟨h2, rfl⟩
        all_goals go_wp2_with fail
        all_goals first | (go_ret; exact ⟨ret_bool (by rw [alikeL, HM.out, e3.out (by simp_all)]), rfl⟩) | go_round
        all_goals first | (case rel => exact ⟨k + 1, by omega, by go_num, by show eqTo xs ys (k + 1) = true; rw [e2.out, hge.out]; simp_all⟩) | (case measure => simp [intOf]; omega) | skip
      · go_wp2_with fail
        go_ret
        exact ⟨ret_bool (by rw [alikeL, HM.out, show max n1 n2 = k by omega, hge.out]), rfl⟩
end Go.Proofs.Ytmdfkbckpekchaa
