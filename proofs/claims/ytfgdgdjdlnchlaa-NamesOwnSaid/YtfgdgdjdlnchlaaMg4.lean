/- Texts laid together: N2 N3 NS1 N4 N5 N6 N7. -/
import Derived.Test.YtfgdgdjdlnchlaaMg3
import Derived.Maps.OwnSet
import Derived.Shelf.SlIter.Sorted
import Derived.Shelf.SlIter.Keys
import Derived.Shelf.SortM.Plain
import Derived.Shelf.SortM.SortNone
import Derived.Shelf.SlMaps.Clone
import Derived.Ground.GgzProg
import Derived.Ground.SlgmProg
import Derived.Ground.SlmcProg
import Derived.Shelf.AbstractIn
/- Names: valid, wins. -/
namespace Go
open Go.RowKit
open Go.Nm
open Go.Proofs (encStr)
end Go
namespace Go.Proofs.Ytfgdgdjdlnchlaa
open Go.RowKit
open Go.Nm
set_option maxRecDepth 100000 in
set_option maxHeartbeats 1000000 in
theorem wins25_any (w : World) (x y : Fin 7 × T) : Calls Try.prog 25 #[rowV x, rowV y] w fun e w' => e = .returned (.bool (wins x.2 y.2)) ∧ Keep [] w w' := by
  obtain ⟨i, r, c, n⟩ := x
  obtain ⟨j, r', c', n'⟩ := y
  unfold rowV wins
  simp only
  generalize encStr (nm i) = s1
  generalize encStr (nm j) = s2
  by_cases h1 : c = c'
  · have hb1 : (c != c') = false := by simp [h1]
    by_cases h2 : n = n'
    · have hb2 : (n != n') = false := by simp [h2]
      rw [if_neg (by simp [h1]), if_neg (by simp [h2])]
      obtain ⟨b, hb⟩ : ∃ b, decide (r > r') = b := ⟨_, rfl⟩
      rw [hb]
      clear h1 h2
      go_enter Try.func25, Try.ntmps25
      go_wp2_with (first | (with_reducible refine Txt.wp_region_text mixed quiet (by decide +kernel) ?_) | (with_reducible refine Txt.text_done (by kernel_rfl) ?_))
      go_ret
      exact ⟨rfl, by repeat (first | exact Keep.refl _ _ | refine Keep.drew ?_ | refine Keep.alloc ?_ _)⟩
    · have hb2 : (n != n') = true := by simp [h2]
      rw [if_neg (by simp [h1]), if_pos h2]
      obtain ⟨b, hb⟩ : ∃ b, decide (n > n') = b := ⟨_, rfl⟩
      rw [hb]
      clear h1 h2
      go_enter Try.func25, Try.ntmps25
      go_wp2_with (first | (with_reducible refine Txt.wp_region_text mixed quiet (by decide +kernel) ?_) | (with_reducible refine Txt.text_done (by kernel_rfl) ?_))
      go_ret
      exact ⟨rfl, by repeat (first | exact Keep.refl _ _ | refine Keep.drew ?_ | refine Keep.alloc ?_ _)⟩
  · have hb1 : (c != c') = true := by simp [h1]
    rw [if_pos h1]
    obtain ⟨b, hb⟩ : ∃ b, decide (c > c') = b := ⟨_, rfl⟩
    rw [hb]
    clear h1
    go_enter Try.func25, Try.ntmps25
    go_wp2_with (first | (with_reducible refine Txt.wp_region_text mixed quiet (by decide +kernel) ?_) | (with_reducible refine Txt.text_done (by kernel_rfl) ?_))
    go_ret
    exact ⟨rfl, by repeat (first | exact Keep.refl _ _ | refine Keep.drew ?_ | refine Keep.alloc ?_ _)⟩
set_option maxRecDepth 100000 in
set_option maxHeartbeats 1000000 in
theorem valid28_0 (w : World) : Calls Try.prog 28 #[.string ⟨#[97]⟩] w fun e w' => e = .returned (.bool true) ∧ Keep [] w w' := by
  go_enter Try.func28, Try.ntmps28
  go_wp2_with (first | (with_reducible refine Txt.wp_region_text mixed quiet (by decide +kernel) ?_) | (with_reducible refine Txt.text_done (by kernel_rfl) ?_))
  go_loopw [7] (fun j wr => ∃ k : Nat, k ≤ 1 ∧ j = .int .i64 k ∧ Hid (Keep [] w wr)) (fun j _ => 1 - (intOf j).toNat)
  case atStart => exact ⟨0, by omega, rfl, Lib.hid (by repeat (first | exact Keep.refl _ _ | refine Keep.drew ?_ | refine Keep.alloc ?_ _))⟩
  case round =>
    obtain ⟨k, hk, rfl, HK⟩ := hrel
    obtain rfl | rfl : k = 0 ∨ k = 1 := by omega
    · go_wp2_with (first | (with_reducible refine Txt.wp_region_text mixed quiet (by decide +kernel) ?_) | (with_reducible refine Txt.text_done (by kernel_rfl) ?_))
      exact ⟨⟨1, by omega, rfl, Lib.hid (by repeat (first | exact HK.out | refine Keep.drew ?_))⟩, by simp [intOf]⟩
    · go_wp2_with (first | (with_reducible refine Txt.wp_region_text mixed quiet (by decide +kernel) ?_) | (with_reducible refine Txt.text_done (by kernel_rfl) ?_))
      go_ret
      exact ⟨rfl, by repeat (first | exact HK.out | refine Keep.drew ?_)⟩
set_option maxRecDepth 100000 in
set_option maxHeartbeats 1000000 in
theorem valid28_1 (w : World) : Calls Try.prog 28 #[.string ⟨#[97, 98]⟩] w fun e w' => e = .returned (.bool true) ∧ Keep [] w w' := by
  go_enter Try.func28, Try.ntmps28
  go_wp2_with (first | (with_reducible refine Txt.wp_region_text mixed quiet (by decide +kernel) ?_) | (with_reducible refine Txt.text_done (by kernel_rfl) ?_))
  go_loopw [7] (fun j wr => ∃ k : Nat, k ≤ 2 ∧ j = .int .i64 k ∧ Hid (Keep [] w wr)) (fun j _ => 2 - (intOf j).toNat)
  case atStart => exact ⟨0, by omega, rfl, Lib.hid (by repeat (first | exact Keep.refl _ _ | refine Keep.drew ?_ | refine Keep.alloc ?_ _))⟩
  case round =>
    obtain ⟨k, hk, rfl, HK⟩ := hrel
    obtain rfl | rfl | rfl : k = 0 ∨ k = 1 ∨ k = 2 := by omega
    · go_wp2_with (first | (with_reducible refine Txt.wp_region_text mixed quiet (by decide +kernel) ?_) | (with_reducible refine Txt.text_done (by kernel_rfl) ?_))
      exact ⟨⟨1, by omega, rfl, Lib.hid (by repeat (first | exact HK.out | refine Keep.drew ?_))⟩, by simp [intOf]⟩
    · go_wp2_with (first | (with_reducible refine Txt.wp_region_text mixed quiet (by decide +kernel) ?_) | (with_reducible refine Txt.text_done (by kernel_rfl) ?_))
      exact ⟨⟨2, by omega, rfl, Lib.hid (by repeat (first | exact HK.out | refine Keep.drew ?_))⟩, by simp [intOf]⟩
    · go_wp2_with (first | (with_reducible refine Txt.wp_region_text mixed quiet (by decide +kernel) ?_) | (with_reducible refine Txt.text_done (by kernel_rfl) ?_))
      go_ret
      exact ⟨rfl, by repeat (first | exact HK.out | refine Keep.drew ?_)⟩
set_option maxRecDepth 100000 in
set_option maxHeartbeats 1000000 in
theorem valid28_2 (w : World) : Calls Try.prog 28 #[.string ⟨#[98]⟩] w fun e w' => e = .returned (.bool true) ∧ Keep [] w w' := by
  go_enter Try.func28, Try.ntmps28
  go_wp2_with (first | (with_reducible refine Txt.wp_region_text mixed quiet (by decide +kernel) ?_) | (with_reducible refine Txt.text_done (by kernel_rfl) ?_))
  go_loopw [7] (fun j wr => ∃ k : Nat, k ≤ 1 ∧ j = .int .i64 k ∧ Hid (Keep [] w wr)) (fun j _ => 1 - (intOf j).toNat)
  case atStart => exact ⟨0, by omega, rfl, Lib.hid (by repeat (first | exact Keep.refl _ _ | refine Keep.drew ?_ | refine Keep.alloc ?_ _))⟩
  case round =>
    obtain ⟨k, hk, rfl, HK⟩ := hrel
    obtain rfl | rfl : k = 0 ∨ k = 1 := by omega
    · go_wp2_with (first | (with_reducible refine Txt.wp_region_text mixed quiet (by decide +kernel) ?_) | (with_reducible refine Txt.text_done (by kernel_rfl) ?_))
      exact ⟨⟨1, by omega, rfl, Lib.hid (by repeat (first | exact HK.out | refine Keep.drew ?_))⟩, by simp [intOf]⟩
    · go_wp2_with (first | (with_reducible refine Txt.wp_region_text mixed quiet (by decide +kernel) ?_) | (with_reducible refine Txt.text_done (by kernel_rfl) ?_))
      go_ret
      exact ⟨rfl, by repeat (first | exact HK.out | refine Keep.drew ?_)⟩
set_option maxRecDepth 100000 in
set_option maxHeartbeats 1000000 in
theorem valid28_3 (w : World) : Calls Try.prog 28 #[.string ⟨#[99]⟩] w fun e w' => e = .returned (.bool true) ∧ Keep [] w w' := by
  go_enter Try.func28, Try.ntmps28
  go_wp2_with (first | (with_reducible refine Txt.wp_region_text mixed quiet (by decide +kernel) ?_) | (with_reducible refine Txt.text_done (by kernel_rfl) ?_))
  go_loopw [7] (fun j wr => ∃ k : Nat, k ≤ 1 ∧ j = .int .i64 k ∧ Hid (Keep [] w wr)) (fun j _ => 1 - (intOf j).toNat)
  case atStart => exact ⟨0, by omega, rfl, Lib.hid (by repeat (first | exact Keep.refl _ _ | refine Keep.drew ?_ | refine Keep.alloc ?_ _))⟩
  case round =>
    obtain ⟨k, hk, rfl, HK⟩ := hrel
    obtain rfl | rfl : k = 0 ∨ k = 1 := by omega
    · go_wp2_with (first | (with_reducible refine Txt.wp_region_text mixed quiet (by decide +kernel) ?_) | (with_reducible refine Txt.text_done (by kernel_rfl) ?_))
      exact ⟨⟨1, by omega, rfl, Lib.hid (by repeat (first | exact HK.out | refine Keep.drew ?_))⟩, by simp [intOf]⟩
    · go_wp2_with (first | (with_reducible refine Txt.wp_region_text mixed quiet (by decide +kernel) ?_) | (with_reducible refine Txt.text_done (by kernel_rfl) ?_))
      go_ret
      exact ⟨rfl, by repeat (first | exact HK.out | refine Keep.drew ?_)⟩
set_option maxRecDepth 100000 in
set_option maxHeartbeats 1000000 in
theorem valid28_4 (w : World) : Calls Try.prog 28 #[.string ⟨#[100]⟩] w fun e w' => e = .returned (.bool true) ∧ Keep [] w w' := by
  go_enter Try.func28, Try.ntmps28
  go_wp2_with (first | (with_reducible refine Txt.wp_region_text mixed quiet (by decide +kernel) ?_) | (with_reducible refine Txt.text_done (by kernel_rfl) ?_))
  go_loopw [7] (fun j wr => ∃ k : Nat, k ≤ 1 ∧ j = .int .i64 k ∧ Hid (Keep [] w wr)) (fun j _ => 1 - (intOf j).toNat)
  case atStart => exact ⟨0, by omega, rfl, Lib.hid (by repeat (first | exact Keep.refl _ _ | refine Keep.drew ?_ | refine Keep.alloc ?_ _))⟩
  case round =>
    obtain ⟨k, hk, rfl, HK⟩ := hrel
    obtain rfl | rfl : k = 0 ∨ k = 1 := by omega
    · go_wp2_with (first | (with_reducible refine Txt.wp_region_text mixed quiet (by decide +kernel) ?_) | (with_reducible refine Txt.text_done (by kernel_rfl) ?_))
      exact ⟨⟨1, by omega, rfl, Lib.hid (by repeat (first | exact HK.out | refine Keep.drew ?_))⟩, by simp [intOf]⟩
    · go_wp2_with (first | (with_reducible refine Txt.wp_region_text mixed quiet (by decide +kernel) ?_) | (with_reducible refine Txt.text_done (by kernel_rfl) ?_))
      go_ret
      exact ⟨rfl, by repeat (first | exact HK.out | refine Keep.drew ?_)⟩
set_option maxRecDepth 100000 in
set_option maxHeartbeats 1000000 in
theorem valid28_5 (w : World) : Calls Try.prog 28 #[.string ⟨#[101]⟩] w fun e w' => e = .returned (.bool true) ∧ Keep [] w w' := by
  go_enter Try.func28, Try.ntmps28
  go_wp2_with (first | (with_reducible refine Txt.wp_region_text mixed quiet (by decide +kernel) ?_) | (with_reducible refine Txt.text_done (by kernel_rfl) ?_))
  go_loopw [7] (fun j wr => ∃ k : Nat, k ≤ 1 ∧ j = .int .i64 k ∧ Hid (Keep [] w wr)) (fun j _ => 1 - (intOf j).toNat)
  case atStart => exact ⟨0, by omega, rfl, Lib.hid (by repeat (first | exact Keep.refl _ _ | refine Keep.drew ?_ | refine Keep.alloc ?_ _))⟩
  case round =>
    obtain ⟨k, hk, rfl, HK⟩ := hrel
    obtain rfl | rfl : k = 0 ∨ k = 1 := by omega
    · go_wp2_with (first | (with_reducible refine Txt.wp_region_text mixed quiet (by decide +kernel) ?_) | (with_reducible refine Txt.text_done (by kernel_rfl) ?_))
      exact ⟨⟨1, by omega, rfl, Lib.hid (by repeat (first | exact HK.out | refine Keep.drew ?_))⟩, by simp [intOf]⟩
    · go_wp2_with (first | (with_reducible refine Txt.wp_region_text mixed quiet (by decide +kernel) ?_) | (with_reducible refine Txt.text_done (by kernel_rfl) ?_))
      go_ret
      exact ⟨rfl, by repeat (first | exact HK.out | refine Keep.drew ?_)⟩
set_option maxRecDepth 100000 in
set_option maxHeartbeats 1000000 in
theorem valid28_6 (w : World) : Calls Try.prog 28 #[.string ⟨#[122, 122]⟩] w fun e w' => e = .returned (.bool true) ∧ Keep [] w w' := by
  go_enter Try.func28, Try.ntmps28
  go_wp2_with (first | (with_reducible refine Txt.wp_region_text mixed quiet (by decide +kernel) ?_) | (with_reducible refine Txt.text_done (by kernel_rfl) ?_))
  go_loopw [7] (fun j wr => ∃ k : Nat, k ≤ 2 ∧ j = .int .i64 k ∧ Hid (Keep [] w wr)) (fun j _ => 2 - (intOf j).toNat)
  case atStart => exact ⟨0, by omega, rfl, Lib.hid (by repeat (first | exact Keep.refl _ _ | refine Keep.drew ?_ | refine Keep.alloc ?_ _))⟩
  case round =>
    obtain ⟨k, hk, rfl, HK⟩ := hrel
    obtain rfl | rfl | rfl : k = 0 ∨ k = 1 ∨ k = 2 := by omega
    · go_wp2_with (first | (with_reducible refine Txt.wp_region_text mixed quiet (by decide +kernel) ?_) | (with_reducible refine Txt.text_done (by kernel_rfl) ?_))
      exact ⟨⟨1, by omega, rfl, Lib.hid (by repeat (first | exact HK.out | refine Keep.drew ?_))⟩, by simp [intOf]⟩
    · go_wp2_with (first | (with_reducible refine Txt.wp_region_text mixed quiet (by decide +kernel) ?_) | (with_reducible refine Txt.text_done (by kernel_rfl) ?_))
      exact ⟨⟨2, by omega, rfl, Lib.hid (by repeat (first | exact HK.out | refine Keep.drew ?_))⟩, by simp [intOf]⟩
    · go_wp2_with (first | (with_reducible refine Txt.wp_region_text mixed quiet (by decide +kernel) ?_) | (with_reducible refine Txt.text_done (by kernel_rfl) ?_))
      go_ret
      exact ⟨rfl, by repeat (first | exact HK.out | refine Keep.drew ?_)⟩
theorem valid28_any (w : World) (i : Fin 7) : Calls Try.prog 28 #[encStr (nm i)] w fun e w' => e = .returned (.bool true) ∧ Keep [] w w' := by
  rcases i with ⟨i, hi⟩
  rcases i with _ | _ | _ | _ | _ | _ | _ | i
  · exact valid28_0 w
  · exact valid28_1 w
  · exact valid28_2 w
  · exact valid28_3 w
  · exact valid28_4 w
  · exact valid28_5 w
  · exact valid28_6 w
  · omega
end Go.Proofs.Ytfgdgdjdlnchlaa
/- Names: registries in memory. -/
namespace Go
open Go.RowKit
open Go.Maps (Keyed)
open Go.WideMaps
open Go.Nm
open Go.Proofs (encStr)
theorem wpList_lookv {P : Program} {k : TypeId} (hk : P.underlying k = some .string) (w : World) {ops : Array Oper} {rest : List Oper} {o : Oper} {a : Act} {Q : Exit → Act → World → Prop}
    (hg : o.guard = none) (m x : Operand) (t : TypeId) (hop : o.op = Op.lookup t m x false)
    (e : TypeId) (ht : P.underlying t = some (.map k e)) (z : Value) (hz : (zeroValue e).run P w = .ok z w) (b : Nat) (f : Nm.F)
    (hm : a.eval m = .map (some b)) (hown : RegM P k w b f) (i : Fin 7) (hx : a.eval x = encStr (nm i)) (v : Value) (hv : Hid (((f i).map (fun t => rowV (i, t))).getD z = v))
    (hK : wpList P ops Q rest (a.put o.dst v) w) : wpList P ops Q (o :: rest) a w :=
  wpList_look hk w hg m x t hop e ht z hz b f hm hown i hx (by rw [hv.out]; exact hK)
theorem wpList_look2v {P : Program} {k : TypeId} (hk : P.underlying k = some .string) (w : World) {ops : Array Oper} {rest : List Oper} {o : Oper} {a : Act} {Q : Exit → Act → World → Prop}
    (hg : o.guard = none) (m x : Operand) (t : TypeId) (hop : o.op = Op.lookup t m x true)
    (e : TypeId) (ht : P.underlying t = some (.map k e)) (z : Value) (hz : (zeroValue e).run P w = .ok z w) (b : Nat) (f : Nm.F)
    (hm : a.eval m = .map (some b)) (hown : RegM P k w b f) (i : Fin 7) (hx : a.eval x = encStr (nm i)) (v : Value) (hv : Hid (((f i).map (fun t => rowV (i, t))).getD z = v)) (s : Bool) (hs : Hid ((f i).isSome = s))
    (hK : wpList P ops Q rest (a.put o.dst (.tuple #[v, .bool s])) w) : wpList P ops Q (o :: rest) a w :=
  wpList_look2 hk w hg m x t hop e ht z hz b f hm hown i hx (by rw [hv.out, hs.out]; exact hK)
theorem wpList_lenR {P : Program} {k : TypeId} (hk : P.underlying k = some .string) {w : World} {ops : Array Oper} {rest : List Oper} {o : Oper} {a : Act} {Q : Exit → Act → World → Prop}
    (hg : o.guard = none) (m : Operand) (t : TypeId) (hop : o.op = Op.call { callee := Callee.builtin Builtin.len, args := #[m], argTypes := #[t] })
    (e : TypeId) (ht : P.underlying t = some (.map k e)) (b : Nat) (f : Nm.F) (hm : a.eval m = .map (some b)) (hown : RegM P k w b f)
    (hK : ∀ n : Nat, n ≤ 7 → wpList P ops Q rest (a.put o.dst (.int .i64 n)) w) : wpList P ops Q (o :: rest) a w := by
  obtain ⟨D, h1, h2, h3, h4, h5⟩ := hown
  refine wpList_len_own w hg m t hop k e ht asIs b 7 D hm h1 ?_
  exact hK _ (by rw [size_rows hk h1 h4 h5]; exact rows_len _)
def upd (st : Nat → Reg) (i : Nat) (r : Reg) : Nat → Reg := fun j => if j = i then r else st j
theorem upd_same (st : Nat → Reg) (i : Nat) (r : Reg) : upd st i r i = r := if_pos rfl
theorem upd_other {st : Nat → Reg} {i j : Nat} {r : Reg} (h : j ≠ i) : upd st i r j = st j := if_neg h
/-- Blocks of cells that are no registry stay. -/
structure NK (w w' : World) : Prop where
  size : w.heap.size ≤ w'.heap.size
  blk : ∀ (b : Nat) (cs : Array Value) (T : TypeId) (g : Nat × Nat), T ≠ 58 → w.heap[b]? = some (.cells cs T g) → w'.heap[b]? = some (.cells cs T g)
theorem NK.refl (w : World) : NK w w := ⟨Nat.le_refl _, fun _ _ _ _ _ h => h⟩
theorem NK.trans {w w' w'' : World} (h : NK w w') (k : NK w' w'') : NK w w'' := ⟨Nat.le_trans h.size k.size, fun b cs T g hT hb => k.blk b cs T g hT (h.blk b cs T g hT hb)⟩
theorem NK.ofKeep {w w' : World} (h : Keep [] w w') : NK w w' := ⟨h.size, fun _ _ _ _ _ hb => h.at hb (by simp)⟩
theorem NK.own {w w' : World} {base e size n : Nat} {v : Value} {xs : List Value} (k : NK w w') (he : e ≠ 58) (h : w.ownsRow base e size v n xs) : w'.ownsRow base e size v n xs := by
  refine ⟨h.1, ?_⟩
  rcases h.2 with hn | ⟨g, cap, cur, rfl, hb, hgg, rest⟩
  · exact .inl hn
  · exact .inr ⟨g, cap, cur, rfl, hb, k.blk _ _ _ _ he hgg, rest⟩
end Go
namespace Go.Proofs.Ytfgdgdjdlnchlaa
open Go.RowKit
open Go.Nm
/-- n registries, made since w0, at ps; what they hold. -/
structure RC (w0 : World) (n : Nat) (ps : Nat → Nat) (st : Nat → Reg) (w : World) : Prop where
  keep : Keep [] w0 w
  ex : ∃ bs : Nat → Nat, (∀ i, i < n → w0.heap.size ≤ ps i ∧ w0.heap.size ≤ bs i ∧ w.heap[ps i]? = some (.cells #[.int .i64 (st i).node, .int .i64 (st i).count, .map (some (bs i))] 58 (0, 0)) ∧ RegM Try.prog 9 w (bs i) (st i).f) ∧ (∀ i j, i < n → j < n → ps i = ps j → i = j) ∧ ∀ i j, i < n → j < n → bs i = bs j → i = j
theorem RC.none (w0 : World) (ps : Nat → Nat) (st : Nat → Reg) : RC w0 0 ps st w0 := ⟨Keep.refl _ _, fun _ => 0, fun _ hi => absurd hi (Nat.not_lt_zero _), fun _ _ hi => absurd hi (Nat.not_lt_zero _), fun _ _ hi => absurd hi (Nat.not_lt_zero _)⟩
theorem RC.kept {w0 w w' : World} {n : Nat} {ps : Nat → Nat} {st : Nat → Reg} (h : RC w0 n ps st w) (hk : Keep [] w w') : RC w0 n ps st w' := by
  obtain ⟨hK, bs, h1, h2, h3⟩ := h
  exact ⟨hK.trans hk, bs, fun i hi => let ⟨a, b, c, d⟩ := h1 i hi; ⟨a, b, hk.at c (by simp), d.keep hk (by simp)⟩, h2, h3⟩
/-- What was not there when this was known may be written to. -/
theorem RC.keptS {w0 w w' : World} {n : Nat} {ps : Nat → Nat} {st : Nat → Reg} {S : List Nat} (h : RC w0 n ps st w) (hk : Keep S w w') (hS : ∀ b ∈ S, w0.heap.size ≤ b ∧ ∃ cs T g, w.heap[b]? = some (.cells cs T g) ∧ T ≠ 58) : RC w0 n ps st w' := by
  obtain ⟨hK, bs, h1, h2, h3⟩ := h
  refine ⟨hK.call hk (fun b hb => .inr (hS b hb).1), bs, fun i hi => ?_, h2, h3⟩
  obtain ⟨a, b, c, d⟩ := h1 i hi
  refine ⟨a, b, hk.at c (fun hm => ?_), d.keep hk (fun hm => ?_)⟩
  · obtain ⟨_, cs, T, g, hb, hT⟩ := hS _ hm
    rw [c] at hb
    injection hb with hb
    injection hb with _ hb _
    exact hT hb.symm
  · obtain ⟨_, cs, T, g, hb, hT⟩ := hS _ hm
    exact d.notCells hb rfl
theorem RC.more {w0 w : World} {n m : Nat} {ps : Nat → Nat} {st : Nat → Reg} (h : RC w0 n ps st w) (hm : m ≤ n) : RC w0 m ps st w := by
  obtain ⟨hK, bs, h1, h2, h3⟩ := h
  exact ⟨hK, bs, fun i hi => h1 i (by omega), fun i j hi hj => h2 i j (by omega) (by omega), fun i j hi hj => h3 i j (by omega) (by omega)⟩
theorem RC.at_ {w0 w : World} {n : Nat} {ps : Nat → Nat} {st : Nat → Reg} (h : RC w0 n ps st w) {i : Nat} (hi : i < n) : ∃ b, w.heap[ps i]? = some (.cells #[.int .i64 (st i).node, .int .i64 (st i).count, .map (some b)] 58 (0, 0)) ∧ RegM Try.prog 9 w b (st i).f ∧
    ∀ w' b' (r : Reg), Keep [ps i, b] w w' → (b' = b ∨ w.heap.size ≤ b') → w'.heap[ps i]? = some (.cells #[.int .i64 r.node, .int .i64 r.count, .map (some b')] 58 (0, 0)) → RegM Try.prog 9 w' b' r.f → RC w0 n ps (upd st i r) w' ∧ NK w w' := by
  obtain ⟨hK, bs, h1, h2, h3⟩ := h
  obtain ⟨a0, b0, c0, d0⟩ := h1 i hi
  refine ⟨bs i, c0, d0, fun w' b' r hk hb' hc' hd' => ⟨⟨hK.call hk (fun b hb => ?_), fun j => if j = i then b' else bs j, fun j hj => ?_, h2, fun j j' hj hj' he => ?_⟩, hk.size, fun b cs T g hT hb => hk.at hb (fun hm => ?_)⟩⟩
  · simp at hb
    rcases hb with rfl | rfl
    · exact .inr a0
    · exact .inr b0
  · by_cases e : j = i
    · subst e
      rw [upd_same]
      simp only [if_true]
      refine ⟨a0, ?_, hc', hd'⟩
      rcases hb' with rfl | hb'
      · exact b0
      · exact Nat.le_trans hK.size hb'
    · rw [upd_other e]
      simp only [if_neg e]
      obtain ⟨a1, b1, c1, d1⟩ := h1 j hj
      refine ⟨a1, b1, hk.at c1 (fun hm => ?_), d1.keep hk (fun hm => ?_)⟩
      · simp at hm
        rcases hm with hm | hm
        · exact e (h2 _ _ hj hi hm)
        · exact d0.notCells c1 hm.symm
      · simp at hm
        rcases hm with hm | hm
        · exact d1.notCells c0 hm
        · exact e (h3 _ _ hj hi hm)
  · by_cases e : j = i
    · by_cases e' : j' = i
      · rw [e, e']
      · simp only [if_pos e, if_neg e'] at he
        exfalso
        have hl := (h1 j' hj').2.2.2.lt
        rcases hb' with rfl | hb'
        · exact e' (h3 _ _ hj' hi he.symm)
        · omega
    · by_cases e' : j' = i
      · simp only [if_neg e, if_pos e'] at he
        exfalso
        have hl := (h1 j hj).2.2.2.lt
        rcases hb' with rfl | hb'
        · exact e (h3 _ _ hj hi he)
        · omega
      · simp only [if_neg e, if_neg e'] at he
        exact h3 _ _ hj hj' he
  · simp at hm
    rcases hm with rfl | rfl
    · rw [c0] at hb
      injection hb with hb
      injection hb with _ hb _
      exact hT hb.symm
    · exact d0.notCells hb rfl
theorem RC.add {w0 w w' : World} {n : Nat} {ps : Nat → Nat} {st : Nat → Reg} (h : RC w0 n ps st w) {p b : Nat} {r : Reg} (hk : Keep [] w w') (hp : w.heap.size ≤ p) (hb : w.heap.size ≤ b) (hc : w'.heap[p]? = some (.cells #[.int .i64 r.node, .int .i64 r.count, .map (some b)] 58 (0, 0))) (hd : RegM Try.prog 9 w' b r.f) :
    RC w0 (n + 1) (fun j => if j = n then p else ps j) (upd st n r) w' := by
  obtain ⟨hK, bs, h1, h2, h3⟩ := h
  refine ⟨hK.trans hk, fun j => if j = n then b else bs j, fun j hj => ?_, fun j j' hj hj' he => ?_, fun j j' hj hj' he => ?_⟩
  · by_cases e : j = n
    · subst e
      rw [upd_same]
      simp only [if_true]
      exact ⟨Nat.le_trans hK.size hp, Nat.le_trans hK.size hb, hc, hd⟩
    · rw [upd_other e]
      simp only [if_neg e]
      obtain ⟨a1, b1, c1, d1⟩ := h1 j (by omega)
      exact ⟨a1, b1, hk.at c1 (by simp), d1.keep hk (by simp)⟩
  · by_cases e : j = n
    · by_cases e' : j' = n
      · rw [e, e']
      · simp only [if_pos e, if_neg e'] at he
        have := lt_of_blk (h1 j' (by omega)).2.2.1
        omega
    · by_cases e' : j' = n
      · simp only [if_neg e, if_pos e'] at he
        have := lt_of_blk (h1 j (by omega)).2.2.1
        omega
      · simp only [if_neg e, if_neg e'] at he
        exact h2 _ _ (by omega) (by omega) he
  · by_cases e : j = n
    · by_cases e' : j' = n
      · rw [e, e']
      · simp only [if_pos e, if_neg e'] at he
        have := (h1 j' (by omega)).2.2.2.lt
        omega
    · by_cases e' : j' = n
      · simp only [if_neg e, if_pos e'] at he
        have := (h1 j (by omega)).2.2.2.lt
        omega
      · simp only [if_neg e, if_neg e'] at he
        exact h3 _ _ (by omega) (by omega) he
theorem zero40 (w : World) : (zeroValue 40).run Try.prog w = .ok (.agg #[.string ⟨#[]⟩, .int .i64 0, .int .i64 0, .int .i64 0]) w := by kernel_rfl
end Go.Proofs.Ytfgdgdjdlnchlaa
/- The shelf: maps.Clone, maps.Keys, slices.Sorted, slices.Sort. -/
namespace Go.Proofs
open Go.Shelf
def Try.clone24_ren : Go.Shelf.Ren := ⟨fun | 5 => 24 | 7 => 30 | n => n, fun | 23 => 55 | 25 => 9 | 3 => 40 | 4 => 4 | 20 => 20 | n => n, fun | n => n⟩
theorem Try.clone24 : Go.Proofs.SlLaysW.n5 Try.prog Try.clone24_ren := {
  mixed := by kernel_rfl
  f5 := ⟨Try.f24.name, by decide, Try.func24.trans (congrArg some (by kernel_rfl))⟩
  f7 := Try.func30.trans (congrArg some (by kernel_rfl))
  t4 := Try.underlying4
  a4 := Try.isAgg4
  z4 := Try.sizeOf4
  v4 := Try.zeroValue4
  t20 := Try.underlying20
  a20 := Try.isAgg20
  z20 := Try.sizeOf20
  v20 := Try.zeroValue20
  t23 := Try.underlying55
  a23 := Try.isAgg55
  z23 := Try.sizeOf55
  v23 := Try.zeroValue55 }
def Try.keys27_ren : Go.Shelf.Ren := ⟨fun | 7 => 27 | 10 => 33 | n => n, fun | 23 => 55 | 26 => 9 | 3 => 40 | 28 => 64 | 0 => 0 | 27 => 63 | 33 => 66 | 4 => 4 | n => n, fun | n => n⟩
theorem Try.keys27 : Go.Proofs.SlLaysZ.n7 Try.prog Try.keys27_ren := {
  mixed := by kernel_rfl
  f7 := ⟨Try.f27.name, by decide, Try.func27.trans (congrArg some (by kernel_rfl))⟩
  f10 := ⟨Try.f33.name, by decide, Try.func33.trans (congrArg some (by kernel_rfl))⟩
  t0 := Try.underlying0
  a0 := Try.isAgg0
  z0 := Try.sizeOf0
  v0 := Try.zeroValue0
  t4 := Try.underlying4
  a4 := Try.isAgg4
  z4 := Try.sizeOf4
  v4 := Try.zeroValue4
  t23 := Try.underlying55
  a23 := Try.isAgg55
  z23 := Try.sizeOf55
  v23 := Try.zeroValue55
  t26 := Try.underlying9
  a26 := Try.isAgg9
  z26 := Try.sizeOf9
  v26 := Try.zeroValue9
  t27 := Try.underlying63
  a27 := Try.isAgg63
  z27 := Try.sizeOf63
  v27 := Try.zeroValue63
  t28 := Try.underlying64
  a28 := Try.isAgg64
  z28 := Try.sizeOf64
  v28 := Try.zeroValue64
  t33 := Try.underlying66
  a33 := Try.isAgg66
  z33 := Try.sizeOf66
  v33 := Try.zeroValue66 }
def Try.sorted26_ren : Go.Shelf.Ren := ⟨fun | 6 => 26 | 8 => 31 | 9 => 32 | 11 => 34 | 13 => 36 | 12 => 35 | 23 => 46 | 24 => 47 | 14 => 37 | 15 => 38 | 16 => 39 | 17 => 40 | 18 => 41 | 19 => 42 | 20 => 43 | 21 => 44 | 22 => 45 | 25 => 48 | 26 => 49 | 27 => 50 | 28 => 51 | 29 => 52 | 30 => 53 | 31 => 54 | n => n, fun | 26 => 9 | 28 => 64 | 24 => 61 | 0 => 0 | 3 => 3 | 37 => 72 | 48 => 83 | 50 => 54 | 4 => 4 | 40 => 75 | 39 => 74 | 45 => 80 | 5 => 5 | 9 => 9 | 51 => 85 | 55 => 89 | 57 => 91 | 58 => 92 | 33 => 66 | n => n, fun | n => n⟩
theorem Try.sorted26 : Go.Proofs.SlLaysZ.n6 Try.prog Try.sorted26_ren := {
  mixed := by kernel_rfl
  f6 := ⟨Try.f26.name, by decide, Try.func26.trans (congrArg some (by kernel_rfl))⟩
  f8 := ⟨Try.f31.name, by decide, Try.func31.trans (congrArg some (by kernel_rfl))⟩
  f11 := ⟨Try.f34.name, by decide, Try.func34.trans (congrArg some (by kernel_rfl))⟩
  t0 := Try.underlying0
  a0 := Try.isAgg0
  z0 := Try.sizeOf0
  v0 := Try.zeroValue0
  t24 := Try.underlying61
  a24 := Try.isAgg61
  z24 := Try.sizeOf61
  v24 := Try.zeroValue61
  t26 := Try.underlying9
  a26 := Try.isAgg9
  z26 := Try.sizeOf9
  v26 := Try.zeroValue9
  t28 := Try.underlying64
  a28 := Try.isAgg64
  z28 := Try.sizeOf64
  v28 := Try.zeroValue64
  i26 := by kernel_rfl }
def Try.sort32_ren : Go.Shelf.Ren := ⟨fun | 6 => 32 | 8 => 36 | 9 => 35 | 19 => 46 | 20 => 47 | 21 => 37 | 22 => 38 | 23 => 39 | 24 => 40 | 25 => 41 | 26 => 42 | 27 => 43 | 28 => 44 | 29 => 45 | 36 => 48 | 31 => 49 | 32 => 50 | 37 => 51 | 38 => 52 | 39 => 53 | 41 => 54 | n => n, fun | 27 => 61 | 29 => 9 | 3 => 3 | 32 => 72 | 26 => 61 | 0 => 0 | 44 => 83 | 46 => 54 | 4 => 4 | 36 => 75 | 35 => 74 | 41 => 80 | 5 => 5 | 9 => 9 | 53 => 85 | 57 => 89 | 63 => 91 | 64 => 92 | n => n, fun | n => n⟩
theorem Try.sort32 : Go.Proofs.SlLaysM.n6 Try.prog Try.sort32_ren := {
  mixed := by kernel_rfl
  f6 := ⟨Try.f32.name, by decide, Try.func32.trans (congrArg some (by kernel_rfl))⟩
  f8 := Try.func36.trans (congrArg some (by kernel_rfl))
  f9 := ⟨Try.f35.name, by decide, Try.func35.trans (congrArg some (by kernel_rfl))⟩
  f19 := Try.func46.trans (congrArg some (by kernel_rfl))
  f20 := Try.func47.trans (congrArg some (by kernel_rfl))
  f21 := ⟨Try.f37.name, by decide, Try.func37.trans (congrArg some (by kernel_rfl))⟩
  f22 := ⟨Try.f38.name, by decide, Try.func38.trans (congrArg some (by kernel_rfl))⟩
  f23 := ⟨Try.f39.name, by decide, Try.func39.trans (congrArg some (by kernel_rfl))⟩
  f24 := ⟨Try.f40.name, by decide, Try.func40.trans (congrArg some (by kernel_rfl))⟩
  f25 := ⟨Try.f41.name, by decide, Try.func41.trans (congrArg some (by kernel_rfl))⟩
  f26 := ⟨Try.f42.name, by decide, Try.func42.trans (congrArg some (by kernel_rfl))⟩
  f27 := ⟨Try.f43.name, by decide, Try.func43.trans (congrArg some (by kernel_rfl))⟩
  f28 := ⟨Try.f44.name, by decide, Try.func44.trans (congrArg some (by kernel_rfl))⟩
  f29 := ⟨Try.f45.name, by decide, Try.func45.trans (congrArg some (by kernel_rfl))⟩
  f31 := Try.func49.trans (congrArg some (by kernel_rfl))
  f32 := Try.func50.trans (congrArg some (by kernel_rfl))
  f36 := ⟨Try.f48.name, by decide, Try.func48.trans (congrArg some (by kernel_rfl))⟩
  f37 := ⟨Try.f51.name, by decide, Try.func51.trans (congrArg some (by kernel_rfl))⟩
  f38 := ⟨Try.f52.name, by decide, Try.func52.trans (congrArg some (by kernel_rfl))⟩
  f39 := ⟨Try.f53.name, by decide, Try.func53.trans (congrArg some (by kernel_rfl))⟩
  f41 := ⟨Try.f54.name, by decide, Try.func54.trans (congrArg some (by kernel_rfl))⟩
  t0 := Try.underlying0
  a0 := Try.isAgg0
  z0 := Try.sizeOf0
  v0 := Try.zeroValue0
  t3 := Try.underlying3
  a3 := Try.isAgg3
  z3 := Try.sizeOf3
  v3 := Try.zeroValue3
  t4 := Try.underlying4
  a4 := Try.isAgg4
  z4 := Try.sizeOf4
  v4 := Try.zeroValue4
  t5 := Try.underlying5
  a5 := Try.isAgg5
  z5 := Try.sizeOf5
  v5 := Try.zeroValue5
  t9 := Try.underlying9
  a9 := Try.isAgg9
  z9 := Try.sizeOf9
  v9 := Try.zeroValue9
  t26 := Try.underlying61
  a26 := Try.isAgg61
  z26 := Try.sizeOf61
  v26 := Try.zeroValue61
  t27 := Try.underlying61
  a27 := Try.isAgg61
  z27 := Try.sizeOf61
  v27 := Try.zeroValue61
  t29 := Try.underlying9
  a29 := Try.isAgg9
  z29 := Try.sizeOf9
  v29 := Try.zeroValue9
  t32 := Try.underlying72
  a32 := Try.isAgg72
  z32 := Try.sizeOf72
  v32 := Try.zeroValue72
  t35 := Try.underlying74
  a35 := Try.isAgg74
  z35 := Try.sizeOf74
  v35 := Try.zeroValue74
  t36 := Try.underlying75
  a36 := Try.isAgg75
  z36 := Try.sizeOf75
  v36 := Try.zeroValue75
  t41 := Try.underlying80
  a41 := Try.isAgg80
  z41 := Try.sizeOf80
  v41 := Try.zeroValue80
  t44 := Try.underlying83
  a44 := Try.isAgg83
  z44 := Try.sizeOf83
  v44 := Try.zeroValue83
  t46 := Try.underlying54
  a46 := Try.isAgg54
  z46 := Try.sizeOf54
  v46 := Try.zeroValue54
  t53 := Try.underlying85
  a53 := Try.isAgg85
  z53 := Try.sizeOf85
  v53 := Try.zeroValue85
  t57 := Try.underlying89
  a57 := Try.isAgg89
  z57 := Try.sizeOf89
  v57 := Try.zeroValue89
  t63 := Try.underlying91
  a63 := Try.isAgg91
  z63 := Try.sizeOf91
  v63 := Try.zeroValue91
  t64 := Try.underlying92
  a64 := Try.isAgg92
  z64 := Try.sizeOf92
  v64 := Try.zeroValue92 }
end Go.Proofs
/- Names: the keys in their order, a copy of a map. -/
namespace Go.Proofs.Ytfgdgdjdlnchlaa
open Go.RowKit Go.Maps Go.Sort Go.Shelf Go.WideMaps
open Go.Nm
theorem Keep.ofBelow {w w' : World} (h : Below w.heap.size w w') : Keep [] w w' := by
  obtain ⟨h1, h2, h3, h4, h5⟩ := h
  exact ⟨h1, h2, h3, h4, fun k hk _ => h5 k hk⟩
theorem clone24_any {w : World} {b : Nat} {f : F} (h : RegM Try.prog 9 w b f) :
    Calls Try.prog 24 #[.map (some b)] w fun e w' => e = .returned (.map (some w.heap.size)) ∧ RegM Try.prog 9 w' w.heap.size f ∧ Keep [] w w' := by
  obtain ⟨D, h1, h2⟩ := h
  refine (AnyW.maps_Clone_owns Try.clone24 9 asIs b 7 D w h1).mono ?_
  rintro e w' ⟨rfl, ho, _, hb⟩
  exact ⟨rfl, ⟨D, ho, h2⟩, Keep.ofBelow hb⟩
theorem keys27_any (w : World) (mb : Option Nat) :
    Calls Try.prog 27 #[.map mb] w fun e w' => e = .returned (.func (.func 33) #[] #[.pointer (some ⟨w.heap.size, 0, none⟩)]) ∧ w' = w.alloc (.cells #[.map mb] 55) :=
  callsIn_wide.1 (AnyZ.keys_in Try.keys27 Fence.wide 5 trivial rfl mb w)
theorem sorts32 (m : Nat) : AnyZ.SortsIn Try.prog Try.sorted26_ren Fence.wide m :=
  ⟨fun blk off cap ss W hH hblk hsz => callsIn_wide.2 (AnyM.slices_Sort_string Try.sort32 blk off cap ss W hH hblk hsz),
   fun p cap W => callsIn_wide.2 (AnyM.slices_Sort_string_none Try.sort32 p cap W)⟩
set_option maxHeartbeats 1000000 in
theorem sorted26_any {w : World} {b : Nat} {f : F} (h : RegM Try.prog 9 w b f) :
    Calls Try.prog 26 #[.func (.func 33) #[] #[.pointer (some ⟨w.heap.size, 0, none⟩)]] (w.alloc (.cells #[.map (some b)] 55)) fun e w' => ∃ v, e = .returned v ∧ w'.ownsRow (w.heap.size + 1) 9 1 v (rows f).length ((rows f).map (fun r => encStr (nm r.1))) ∧ Keep [] (w.alloc (.cells #[.map (some b)] 55)) w' := by
  obtain ⟨D, h1, _, _, h4, h5⟩ := h
  have hu : Try.prog.underlying 9 = some .string := Try.underlying9
  have hsz := size_rows hu h1 h4 h5
  have hl := rows_len f
  have hmax : Maps.size D ≤ maxLen := by rw [hsz]; unfold maxLen; omega
  have hbytes : Maps.size D * 16 ≤ 140737488355328 := by rw [hsz]; omega
  have hbl := h1.lt
  have hseq : SeqGives Fence.wide 2 Try.prog 33 #[.pointer (some ⟨w.heap.size, 0, none⟩)] encStr (fun ss => ss.Perm (strKeys D)) (Maps.size D) (w.alloc (.cells #[.map (some b)] 55)) :=
    AnyZ.keys_gives (ρ := Try.keys27_ren) { Try.keys27 with } Fence.wide _ trivial rfl (by omega) w.heap.size b 7 D _ (by simp) (by simp) (by
      obtain ⟨es, clock, hb, Ft, hs, hD⟩ := h1
      exact ⟨es, clock, (Below.heap_alloc _ _ b hbl).trans hb, Ft, hs, hD⟩)
  have cS := AnyZ.sorted_in Try.sorted26 Fence.wide 5 trivial trivial trivial trivial rfl (by omega) (sorts32 _) (enters_of Try.func32 (by kernel_rfl) rfl) 33 #[.pointer (some ⟨w.heap.size, 0, none⟩)] trivial (enters_of Try.func33 (by kernel_rfl) rfl) _ _ hmax hbytes _ hseq
  refine (callsIn_wide.1 cS).mono ?_
  rintro e w' ⟨v, ss, rfl, hS, hrow, hnil, hb⟩
  have hp := (strKeys_rows hu h1 h4 h5).trans hS.symm
  have he := sorted_rows hp
  have hlen := hp.length_eq
  rw [List.length_map] at hlen
  refine ⟨v, rfl, ?_, Keep.ofBelow hb⟩
  have e1 : (w.alloc (.cells #[.map (some b)] 55)).heap.size = w.heap.size + 1 := by simp
  rw [e1, ← hlen, he, List.map_map] at hrow
  exact hrow
end Go.Proofs.Ytfgdgdjdlnchlaa
/- Names: the methods that write. -/
namespace Go.Proofs.Ytfgdgdjdlnchlaa
open Go.RowKit
open Go.Nm
theorem u9 : Try.prog.underlying 9 = some .string := Try.underlying9
/-- A registry after a write. -/
def wr (r : Reg) (k : Fin 7) (ref : Int) : Reg := ⟨r.node, r.count + 1, setF r.f k ⟨ref, r.count + 1, r.node⟩⟩
set_option maxRecDepth 100000 in
set_option maxHeartbeats 1000000 in
theorem write29_any {w0 w : World} {n : Nat} {ps : Nat → Nat} {st : Nat → Reg} (h : RC w0 n ps st w) {i : Nat} (hi : i < n) (k : Fin 7) (ref : Int) (hc : 0 ≤ (st i).count ∧ (st i).count ≤ 1000000) :
    Calls Try.prog 29 #[.pointer (some ⟨ps i, 0, none⟩), encStr (nm k), .int .i64 ref] w fun e w' => e = .returned (.int .i64 0) ∧ RC w0 n ps (upd st i (wr (st i) k ref)) w' ∧ NK w w' := by
  obtain ⟨b, hb, hm, close⟩ := h.at_ hi
  have HCL := Lib.hid close
  unfold wr at *
  obtain ⟨⟨nd, ct, f⟩, hr⟩ : ∃ r, st i = r := ⟨_, rfl⟩
  rw [hr] at hb hm hc ⊢
  obtain ⟨p, hp⟩ : ∃ p, ps i = p := ⟨_, rfl⟩
  rw [hp] at hb ⊢
  have HP := Lib.hid hp
  obtain ⟨c0, c1, c2, hfz⟩ := row3 hb
  have hpl := lt_of_blk hb
  have hfz1 := hfz 1
  have HBN := Lib.hid (hm.notCells hb)
  have hmn : RegM Try.prog 9 (w.setCell ⟨p, 1, none⟩ (.int .i64 (ct + 1))).drew b f := hm.block (by rw [blk_drew, blk_setCell, if_neg (fun e => HBN.out e.symm)])
  obtain ⟨w5, hrun, hm5, hk5⟩ := hmn.upd u9 Try.underlying55 k ⟨ref, ct + 1, nd⟩
  obtain ⟨s, hs⟩ : ∃ s : ByteArray, encStr (nm k) = .string s := ⟨_, rfl⟩
  unfold rowV at hrun
  simp only [hs] at hrun
  rw [hs]
  have hks : Keep [p] w (w.setCell ⟨p, 1, none⟩ (.int .i64 (ct + 1))).drew := ((Keep.refl _ w).setCell (.inl (by simp)) _).drew
  have hk6 : Keep [p, b] w w5 := (hks.more (S' := [p, b]) (by simp)).trans (hk5.more (S' := [p, b]) (by simp))
  have hb6 : w5.heap[p]? = some (.cells #[.int .i64 nd, .int .i64 (ct + 1), .map (some b)] 58 (0, 0)) := by
    rw [hk5.block p (by simpa using hpl) (by simpa using fun e => HBN.out e.symm), blk_drew, blk_setCell, if_pos rfl, hb]
    rfl
  have HE := Lib.hid (close w5 b ⟨nd, ct + 1, setF f k ⟨ref, ct + 1, nd⟩⟩ (by rw [hp]; exact hk6) (.inl rfl) (by rw [hp]; exact hb6) hm5)
  have hct : (ct == 1099511627776) = false := by simp at hc ⊢; omega
  have hwt : wrap64 (ct + 1) = ct + 1 := by simp at hc; unfold wrap64; omega
  clear close hp hr hb hm hmn h hfz hm5 hk5 hks hk6 hb6 HCL HBN HP hs hc hi
  go_enter Try.func29, Try.ntmps29
  go_upto_region 4 with (first | (with_reducible refine Txt.wp_region_text mixed quiet (by decide +kernel) ?_) | (with_reducible refine Txt.text_done (by kernel_rfl) ?_))
  go_region
  all_goals
    go_wp2_with (first | (with_reducible refine Txt.wp_region_text mixed quiet (by decide +kernel) ?_) | (with_reducible refine Txt.text_done (by kernel_rfl) ?_))
    go_ret
    exact ⟨rfl, HE.out⟩
end Go.Proofs.Ytfgdgdjdlnchlaa
/- Names: Set, Find, Drop, New. -/
namespace Go
open Go.Nm
def findR (o : Option T) : Int × Int := match o with
  | some t => if t.ref > 0 then (t.ref, 0) else (0, 4)
  | none => (0, 4)
def refZ (o : Option T) : T := o.getD ⟨0, 0, 0⟩
theorem findR_eq (o : Option T) : findR o = if (refZ o).ref > 0 then ((refZ o).ref, 0) else (0, 4) := by
  cases o with
  | none => rfl
  | some t => rfl
end Go
namespace Go.Proofs.Ytfgdgdjdlnchlaa
open Go.RowKit
open Go.Nm
theorem lenRun {w : World} {b : Nat} {f : F} (h : RegM Try.prog 9 w b f) : ∃ m : Nat, (((m : Int) == 60) = false ∧ ∀ ty, (Builtin.len_ #[55] ty #[.map (some b)]).run Try.prog w = .ok (.int .i64 m) w) ∧ m ≤ 7 := by
  obtain ⟨D, h1, h2, h3, h4, h5⟩ := h
  have h7 : Maps.size D ≤ 7 := by rw [size_rows u9 h1 h4 h5]; exact rows_len _
  refine ⟨Maps.size D, ⟨by rw [beq_eq_false_iff_ne]; omega, fun ty => h1.len Try.underlying55 ty⟩, h7⟩
theorem rowZ (o : Option T) (i : Fin 7) : ∃ s : ByteArray, (o.map (fun t => rowV (i, t))).getD (.agg #[.string ⟨#[]⟩, .int .i64 0, .int .i64 0, .int .i64 0]) = .agg #[.string s, .int .i64 (refZ o).ref, .int .i64 (refZ o).count, .int .i64 (refZ o).node] := by
  cases o with
  | none => exact ⟨_, rfl⟩
  | some t => exact ⟨_, rfl⟩
set_option maxRecDepth 100000 in
set_option maxHeartbeats 1000000 in
theorem find15_any {w0 w : World} {n : Nat} {ps : Nat → Nat} {st : Nat → Reg} (h : RC w0 n ps st w) {i : Nat} (hi : i < n) (k : Fin 7) :
    Calls Try.prog 15 #[.pointer (some ⟨ps i, 0, none⟩), encStr (nm k)] w fun e w' => e = .returned (.tuple #[.int .i64 (findR ((st i).f k)).1, .int .i64 (findR ((st i).f k)).2]) ∧ Keep [] w w' := by
  obtain ⟨b, hb, hm, -⟩ := h.at_ hi
  obtain ⟨⟨nd, ct, f⟩, hr⟩ : ∃ r, st i = r := ⟨_, rfl⟩
  rw [hr] at hb hm ⊢
  obtain ⟨p, hp⟩ : ∃ p, ps i = p := ⟨_, rfl⟩
  rw [hp] at hb ⊢
  obtain ⟨z, hz⟩ := rowZ (f k) k
  have HZ := Lib.hid hz
  have HV := Lib.hid (valid28_any w k)
  rw [findR_eq]
  simp only
  obtain ⟨⟨a1, a2, a3⟩, ha⟩ : ∃ a, refZ (f k) = a := ⟨_, rfl⟩
  rw [ha] at HZ ⊢
  simp only at HZ ⊢
  have HM := Lib.hid hm
  have HB := Lib.hid hb
  have HU := Lib.hid u9
  obtain ⟨s, hs⟩ : ∃ s : ByteArray, encStr (nm k) = .string s := ⟨_, rfl⟩
  have HS := Lib.hid hs
  rw [hs] at HV ⊢
  clear hz hr hp hm hb h hs ha
  by_cases hpos : a1 > 0
  · rw [if_pos hpos]
    simp only
    go_enter Try.func15, Try.ntmps15
    go_wp2_with (first | (with_reducible refine Txt.wp_region_text mixed quiet (by decide +kernel) ?_) | (with_reducible refine Txt.text_done (by kernel_rfl) ?_) | (go_at_call 28; (with_reducible refine HV.out.mono ?_); rintro e w1 ⟨rfl, hk1⟩; have HM1 := Lib.hid (HM.out.keep hk1 (by simp)); obtain ⟨c0, c1, c2, -⟩ := row3 (hk1.at HB.out (by simp)); have HK1 := Lib.hid hk1; clear hk1) | (at_lookup; refine wpList_lookv HU.out _ rfl _ _ 55 rfl 40 Try.underlying55 _ (zero40 _) b f rfl HM1.out k HS.out.symm _ HZ ?_))
    go_ret2
    exact ⟨rfl, by repeat (first | exact HK1.out | refine Keep.drew ?_ | refine Keep.alloc ?_ _)⟩
  · rw [if_neg hpos]
    simp only
    go_enter Try.func15, Try.ntmps15
    go_wp2_with (first | (with_reducible refine Txt.wp_region_text mixed quiet (by decide +kernel) ?_) | (with_reducible refine Txt.text_done (by kernel_rfl) ?_) | (go_at_call 28; (with_reducible refine HV.out.mono ?_); rintro e w1 ⟨rfl, hk1⟩; have HM1 := Lib.hid (HM.out.keep hk1 (by simp)); obtain ⟨c0, c1, c2, -⟩ := row3 (hk1.at HB.out (by simp)); have HK1 := Lib.hid hk1; clear hk1) | (at_lookup; refine wpList_lookv HU.out _ rfl _ _ 55 rfl 40 Try.underlying55 _ (zero40 _) b f rfl HM1.out k HS.out.symm _ HZ ?_))
    go_ret2
    exact ⟨rfl, by repeat (first | exact HK1.out | refine Keep.drew ?_ | refine Keep.alloc ?_ _)⟩
set_option maxRecDepth 100000 in
set_option maxHeartbeats 1000000 in
theorem set13_any {w0 w : World} {n : Nat} {ps : Nat → Nat} {st : Nat → Reg} (h : RC w0 n ps st w) {i : Nat} (hi : i < n) (k : Fin 7) (ref : Int) (hc : 0 ≤ (st i).count ∧ (st i).count ≤ 1000000) (href : 1 ≤ ref) :
    Calls Try.prog 13 #[.pointer (some ⟨ps i, 0, none⟩), encStr (nm k), .int .i64 ref] w fun e w' => e = .returned (.int .i64 0) ∧ RC w0 n ps (upd st i (Ytfgdgdjdlnchlaa.wr (st i) k ref)) w' ∧ NK w w' := by
  have HW : Hid (∀ w1, Keep [] w w1 → Calls Try.prog 29 #[.pointer (some ⟨ps i, 0, none⟩), encStr (nm k), .int .i64 ref] w1 fun e w' => e = .returned (.int .i64 0) ∧ RC w0 n ps (upd st i (Ytfgdgdjdlnchlaa.wr (st i) k ref)) w' ∧ NK w w') := Lib.hid (fun w1 hk => (write29_any (h.kept hk) hi k ref hc).mono (by rintro e w' ⟨h1, h2, h3⟩; exact ⟨h1, h2, (NK.ofKeep hk).trans h3⟩))
  obtain ⟨R', hR'⟩ : ∃ R', upd st i (Ytfgdgdjdlnchlaa.wr (st i) k ref) = R' := ⟨_, rfl⟩
  rw [hR'] at HW ⊢
  obtain ⟨b, hb, hm, -⟩ := h.at_ hi
  obtain ⟨⟨nd, ct, f⟩, hr⟩ : ∃ r, st i = r := ⟨_, rfl⟩
  rw [hr] at hb hm
  obtain ⟨p, hp⟩ : ∃ p, ps i = p := ⟨_, rfl⟩
  rw [hp] at hb HW ⊢
  obtain ⟨z, hz⟩ := rowZ (f k) k
  have HZ := Lib.hid hz
  have HV := Lib.hid (fun w => valid28_any w k)
  obtain ⟨⟨a1, a2, a3⟩, ha⟩ : ∃ a, refZ (f k) = a := ⟨_, rfl⟩
  rw [ha] at HZ
  simp only at HZ
  have HM := Lib.hid hm
  have HB := Lib.hid hb
  have HU := Lib.hid u9
  obtain ⟨s, hs⟩ : ∃ s : ByteArray, encStr (nm k) = .string s := ⟨_, rfl⟩
  have HS := Lib.hid hs
  rw [hs] at HV HW ⊢
  obtain ⟨c0, c1, c2, -⟩ := row3 hb
  have hdr : decide (ref < 1) = false := by simp; omega
  clear href
  obtain ⟨bt, hbt⟩ : ∃ bt, (f k).isSome = bt := ⟨_, rfl⟩
  have HBT := Lib.hid hbt
  clear hz hr hp hm hb h hs ha hc hi hR' hbt
  cases bt with
  | true =>
    go_enter Try.func13, Try.ntmps13
    go_upto_region 8 with (first | (with_reducible refine Txt.wp_region_text mixed quiet (by decide +kernel) ?_) | (with_reducible refine Txt.text_done (by kernel_rfl) ?_) | (go_at_call 28; (with_reducible refine (HV.out _).mono ?_); rintro e w1 ⟨rfl, hk1⟩; have HK1 : Hid (Keep [] w w1) := Lib.hid (((Keep.refl [] w).alloc _).trans hk1); clear hk1) | (at_lookup; refine wpList_look2v HU.out _ rfl _ _ 55 rfl 40 Try.underlying55 _ (zero40 _) b f rfl HM.out k HS.out.symm _ HZ _ HBT ?_))
    have HX := Lib.hid (HW.out _ HK1.out)
    go_wp2_with (first | (with_reducible refine Txt.wp_region_text mixed quiet (by decide +kernel) ?_) | (with_reducible refine Txt.text_done (by kernel_rfl) ?_) | (go_at_call 29; (with_reducible refine HX.out.mono ?_); rintro e w2 ⟨rfl, hrc, hnk⟩; have HRC := Lib.hid hrc; have HNK := Lib.hid hnk; clear hrc hnk))
    go_ret
    exact ⟨rfl, HRC.out, HNK.out⟩
  | false =>
    go_enter Try.func13, Try.ntmps13
    go_wp2_with (first | (with_reducible refine Txt.wp_region_text mixed quiet (by decide +kernel) ?_) | (with_reducible refine Txt.text_done (by kernel_rfl) ?_) | (go_at_call 28; (with_reducible refine (HV.out _).mono ?_); rintro e w1 ⟨rfl, hk1⟩; have HK1 : Hid (Keep [] w w1) := Lib.hid (((Keep.refl [] w).alloc _).trans hk1); have HM1 := Lib.hid (HM.out.keep HK1.out (by simp)); obtain ⟨d0, d1, d2, -⟩ := row3 (HK1.out.at HB.out (by simp)); obtain ⟨m7, ⟨hm60, hlen⟩, -⟩ := lenRun HM1.out; clear hk1) | (at_lookup; refine wpList_look2v HU.out _ rfl _ _ 55 rfl 40 Try.underlying55 _ (zero40 _) b f rfl HM.out k HS.out.symm _ HZ _ HBT ?_) | (go_at_call 29; (with_reducible refine (HW.out _ HK1.out).mono ?_); rintro e w2 ⟨rfl, hrc, hnk⟩))
    go_ret
    exact ⟨rfl, hrc, hnk⟩
def dropR (r : Reg) (k : Fin 7) : Reg := if (findR (r.f k)).2 = 0 then wr r k 0 else r
set_option maxRecDepth 100000 in
set_option maxHeartbeats 1000000 in
theorem drop14_any {w0 w : World} {n : Nat} {ps : Nat → Nat} {st : Nat → Reg} (h : RC w0 n ps st w) {i : Nat} (hi : i < n) (k : Fin 7) (hc : 0 ≤ (st i).count ∧ (st i).count ≤ 1000000) :
    Calls Try.prog 14 #[.pointer (some ⟨ps i, 0, none⟩), encStr (nm k)] w fun e w' => e = .returned (.int .i64 (findR ((st i).f k)).2) ∧ RC w0 n ps (upd st i (dropR (st i) k)) w' ∧ NK w w' := by
  have HF := Lib.hid (find15_any h hi k)
  have HW : Hid (∀ w1, Keep [] w w1 → Calls Try.prog 29 #[.pointer (some ⟨ps i, 0, none⟩), encStr (nm k), .int .i64 0] w1 fun e w' => e = .returned (.int .i64 0) ∧ RC w0 n ps (upd st i (Ytfgdgdjdlnchlaa.wr (st i) k 0)) w' ∧ NK w w') := Lib.hid (fun w1 hk => (write29_any (h.kept hk) hi k 0 hc).mono (by rintro e w' ⟨h1, h2, h3⟩; exact ⟨h1, h2, (NK.ofKeep hk).trans h3⟩))
  have H := Lib.hid h
  obtain ⟨p, hp⟩ : ∃ p, ps i = p := ⟨_, rfl⟩
  rw [hp] at HW HF ⊢
  obtain ⟨s, hs⟩ : ∃ s : ByteArray, encStr (nm k) = .string s := ⟨_, rfl⟩
  rw [hs] at HF HW ⊢
  unfold dropR
  have h04 : (findR ((st i).f k)).2 = 0 ∨ (findR ((st i).f k)).2 = 4 := by
    rw [findR_eq]; split
    · exact .inl rfl
    · exact .inr rfl
  obtain ⟨⟨q, r⟩, hq⟩ : ∃ q, findR ((st i).f k) = q := ⟨_, rfl⟩
  rw [hq] at HF h04 ⊢
  simp only at HF h04 ⊢
  have HID : Hid (upd st i (st i) = st) := Lib.hid (funext fun j => by unfold upd; split <;> simp_all)
  clear hp hs hc hi h hq
  rcases h04 with rfl | rfl
  · rw [if_pos rfl]
    go_enter Try.func14, Try.ntmps14
    go_wp2_with (first | (with_reducible refine Txt.wp_region_text mixed quiet (by decide +kernel) ?_) | (with_reducible refine Txt.text_done (by kernel_rfl) ?_) | (go_at_call 15; (with_reducible refine HF.out.mono ?_); rintro e w1 ⟨rfl, hk1⟩; have HK1 := Lib.hid hk1; clear hk1) | (go_at_call 29; (with_reducible refine (HW.out _ HK1.out).mono ?_); rintro e w2 ⟨rfl, hrc, hnk⟩))
    go_ret
    exact ⟨rfl, hrc, hnk⟩
  · rw [if_neg (by decide)]
    go_enter Try.func14, Try.ntmps14
    go_wp2_with (first | (with_reducible refine Txt.wp_region_text mixed quiet (by decide +kernel) ?_) | (with_reducible refine Txt.text_done (by kernel_rfl) ?_) | (go_at_call 15; (with_reducible refine HF.out.mono ?_); rintro e w1 ⟨rfl, hk1⟩; have HK1 := Lib.hid hk1; clear hk1))
    go_ret
    exact ⟨rfl, by rw [HID.out]; exact H.out.kept HK1.out, NK.ofKeep HK1.out⟩
set_option maxRecDepth 100000 in
set_option maxHeartbeats 1000000 in
theorem new17_any {w0 w : World} {n : Nat} {ps : Nat → Nat} {st : Nat → Reg} (h : RC w0 n ps st w) (x : Int) (hx : 1 ≤ x ∧ x ≤ 8) :
    Calls Try.prog 17 #[.int .i64 x] w fun e w' => ∃ p, e = .returned (.tuple #[.pointer (some ⟨p, 0, none⟩), .int .i64 0]) ∧ RC w0 (n + 1) (fun j => if j = n then p else ps j) (upd st n ⟨x, 0, fun _ => none⟩) w' ∧ Keep [] w w' ∧ w.heap.size ≤ p := by
  have H := Lib.hid h
  obtain ⟨h1, h8⟩ := hx
  have hmm := @run_makeMap Try.prog
  have hm0 := RegM.made Try.prog 9 w
  have hk0 : Keep [] (w.alloc (.map #[] 0)) ((w.alloc (.map #[] 0)).alloc (.cells #[.int .i64 x, .int .i64 0, .map (some w.heap.size)] 58)) := (Keep.refl [] _).alloc _
  have hk : Keep [] w ((w.alloc (.map #[] 0)).alloc (.cells #[.int .i64 x, .int .i64 0, .map (some w.heap.size)] 58)) := ((Keep.refl [] w).alloc _).trans hk0
  have hm := hm0.keep hk0 (by simp)
  have hnb : ((w.alloc (.map #[] 0)).alloc (.cells #[.int .i64 x, .int .i64 0, .map (some w.heap.size)] 58)).heap[w.heap.size + 1]? = some (.cells #[.int .i64 x, .int .i64 0, .map (some w.heap.size)] 58 (0, 0)) := by
    have := blk_new (w.alloc (.map #[] 0)) (.cells #[.int .i64 x, .int .i64 0, .map (some w.heap.size)] 58 (0, 0))
    rw [show (w.alloc (.map #[] 0)).heap.size = w.heap.size + 1 by simp] at this
    exact this
  have HR := Lib.hid (h.add (r := ⟨x, 0, fun _ => none⟩) hk (Nat.le_succ _) (Nat.le_refl _) hnb hm)
  have HK := Lib.hid hk
  clear hk hk0 hm hm0 hnb h
  go_enter Try.func17, Try.ntmps17
  go_wp2_with (first | (with_reducible refine Txt.wp_region_text mixed quiet (by decide +kernel) ?_) | (with_reducible refine Txt.text_done (by kernel_rfl) ?_))
  go_ret2
  refine ⟨w.heap.size + 1, by first | rfl | simp, ?_, ?_, by omega⟩
  · exact HR.out
  · exact HK.out
end Go.Proofs.Ytfgdgdjdlnchlaa
/- Names: State and All. -/
namespace Go
open Go.RowKit
theorem infoN {o : Option TypeInfo} {z : Option Value} {s b : Nat} (h : o.map (fun i => (i.zero, i.size, i.bytes)) = some (z, s, b)) : ∃ i, o = some i ∧ i.zero = z ∧ i.size = s ∧ i.bytes = b := by
  obtain ⟨i, hi, he⟩ := Option.map_eq_some_iff.1 h
  simp only [Prod.mk.injEq] at he
  exact ⟨i, hi, he.1, he.2.1, he.2.2⟩
theorem ownBaseN {w : World} {b b' e m n : Nat} {v : Value} {xs : List Value} (h : w.ownsRow b e m v n xs) (hb : b' ≤ b) : w.ownsRow b' e m v n xs :=
  ⟨h.1, h.2.imp id fun ⟨g, cap, cur, h1, h2, h3⟩ => ⟨g, cap, cur, h1, Nat.le_trans hb h2, h3⟩⟩
theorem ownLtN {w : World} {B e m n : Nat} {v : Value} {xs : List Value} (h : w.ownsRow B e m v n xs) : ∀ g, v.ownBlock = some g → B ≤ g ∧ g < w.heap.size ∧ ∃ cs, w.heap[g]? = some (.cells cs e (0, 0)) := by
  intro g hg
  rcases h.2 with ⟨rfl, _⟩ | ⟨g', cap, cur, rfl, hb, hgg, _⟩
  · simp [Value.ownBlock] at hg
  · simp [Value.ownBlock] at hg
    subst hg
    exact ⟨hb, (Array.getElem?_eq_some_iff.1 hgg).1, cur, hgg⟩
theorem ownSliceN {w : World} {B e m n : Nat} {v : Value} {xs : List Value} (ho : w.ownsRow B e m v n xs) : ∃ a c, v = .slice a n c ∧ n ≤ c ∧ c ≤ 9223372036854775807 := by
  rcases ho.2 with ⟨rfl, h0⟩ | ⟨g, cap, cur, rfl, hb, hg, hnc, hcm, hcs, ht⟩
  · subst h0
    exact ⟨none, 0, rfl, Nat.le_refl _, Nat.zero_le _⟩
  · exact ⟨_, _, rfl, hnc, hcm⟩
theorem flat_take {α : Type} {C : α → List Value} {l : List α} {i : Nat} {x : α} (h : l[i]? = some x) : (l.take (i + 1)).flatMap C = (l.take i).flatMap C ++ C x := by
  rw [List.take_add_one, h, Option.toList_some, List.flatMap_append]
  simp
end Go
namespace Go.Proofs.Ytfgdgdjdlnchlaa
open Go.RowKit
open Go.Nm
theorem own_any1 {w : World} {B n : Nat} {v : Value} {l : List (Fin 7 × T)} (_hn : l.length = n) (ho : w.ownsRow B 9 1 v n (l.map (fun r => encStr (nm r.1)))) : ∃ a c, v = .slice a n c ∧ n ≤ c ∧ c ≤ 9223372036854775807 ∧ (0 < n → ∃ g, a = some ⟨g, 0, none⟩ ∧ ∀ (i : Nat), i < n → ∀ r, l[i]? = some r → w.cell? ⟨g, i, none⟩ = some (encStr (nm r.1))) := by
  rcases ho.2 with ⟨rfl, h0⟩ | ⟨g, cap, cur, rfl, hb, hg, hnc, hcm, hcs, ht⟩
  · exact ⟨none, 0, by rw [h0], by omega, Nat.zero_le _, fun h => by omega⟩
  · refine ⟨_, _, rfl, hnc, hcm, fun _ => ⟨g, rfl, fun i hi r hr => ?_⟩⟩
    rw [cell_of_row w g i cur 9 (0, 0) hg]
    have : (cur.toList.take (n * 1))[i]? = (l.map (fun r => encStr (nm r.1)))[i]? := by rw [ht]
    rw [List.getElem?_take, if_pos (by omega)] at this
    simp [hr] at this
    simpa using this
theorem info40 : (Try.prog.info? 40).map (fun i => (i.zero, i.size, i.bytes)) = some (some (.agg #[.string ⟨#[]⟩, .int .i64 0, .int .i64 0, .int .i64 0]), 4, 40) := by kernel_rfl
theorem info47 : (Try.prog.info? 47).map (fun i => (i.zero, i.size, i.bytes)) = some (some (.agg #[.string ⟨#[]⟩, .int .i64 0]), 2, 24) := by kernel_rfl
theorem one4 {s : ByteArray} {x y z : Int} : ∀ u ∈ [Value.string s, .int .i64 x, .int .i64 y, .int .i64 z], u.oneCell' = true := fun u hu => by
  simp at hu
  rcases hu with hu | hu | hu | hu <;> (subst hu; rfl)
theorem one2 {s : ByteArray} {x : Int} : ∀ u ∈ [Value.string s, .int .i64 x], u.oneCell' = true := fun u hu => by
  simp at hu
  rcases hu with hu | hu <;> (subst hu; rfl)
set_option maxRecDepth 100000 in
set_option maxHeartbeats 4000000 in
theorem state12_any {w0 w : World} {n : Nat} {ps : Nat → Nat} {st : Nat → Reg} (h : RC w0 n ps st w) {i : Nat} (hi : i < n) :
    Calls Try.prog 12 #[.pointer (some ⟨ps i, 0, none⟩)] w fun e w' => ∃ v, e = .returned v ∧ Keep [] w w' ∧ w'.ownsRow w.heap.size 40 4 v (rows (st i).f).length ((rows (st i).f).flatMap rc) := by
  obtain ⟨b, hb, hm, -⟩ := h.at_ hi
  obtain ⟨⟨nd, ct, f⟩, hr⟩ : ∃ r, st i = r := ⟨_, rfl⟩
  rw [hr] at hb hm ⊢
  obtain ⟨p, hp⟩ : ∃ p, ps i = p := ⟨_, rfl⟩
  rw [hp] at hb ⊢
  simp only at hm ⊢
  have HM := Lib.hid hm
  have HB := Lib.hid hb
  have HU := Lib.hid u9
  have hl7 := rows_len f
  have HKEY := Lib.hid (keys27_any w (some b))
  have HSOR := Lib.hid (sorted26_any hm)
  obtain ⟨i40, hi40, hz0, hz1, hz2⟩ := infoN info40
  obtain ⟨m, hmm⟩ : ∃ m, (rows f).length = m := ⟨_, rfl⟩
  have HML := Lib.hid hmm
  rw [hmm] at hl7 HSOR ⊢
  obtain ⟨c0, c1, c2, -⟩ := row3 hb
  clear hr hp hm hb h hmm hi
  go_enter Try.func12, Try.ntmps12
  go_wp2_with (first | (with_reducible refine Txt.wp_region_text mixed quiet (by decide +kernel) ?_) | (with_reducible refine Txt.text_done (by kernel_rfl) ?_) | (go_at_call 27; (with_reducible refine HKEY.out.mono ?_); rintro e w1 ⟨rfl, rfl⟩) | (go_at_call 26; (with_reducible refine HSOR.out.mono ?_); rintro e w2 ⟨v2, rfl, ho2, hk2⟩; obtain ⟨a2, cc2, rfl, hcc1, hcc2, hcel⟩ := own_any1 HML.out ho2; have HCEL := Lib.hid hcel; have HO2 := Lib.hid ho2; have HK2 : Hid (Keep [] w w2) := Lib.hid (((Keep.refl [] w).alloc _).trans hk2); clear ho2 hk2 hcel))
  go_loopw [13, 3, 5] (fun j v _ wr => ∃ k : Nat, k ≤ m ∧ j = .int .i64 k ∧ Hid (wr.ownsRow w2.heap.size 40 4 v k (((rows f).take k).flatMap rc)) ∧ Hid (Keep [] w2 wr)) (fun j _ _ _ => m - (intOf j).toNat)
  case atStart => exact ⟨0, by omega, rfl, Lib.hid (World.ownsRow_nil _ _ _ _), Lib.hid (Keep.refl _ _)⟩
  case round =>
    obtain ⟨k, hk, rfl, HO, HK⟩ := hrel
    by_cases hlt : k < m
    · obtain ⟨r, hr⟩ : ∃ r, (rows f)[k]? = some r := ⟨_, List.getElem?_eq_getElem (by rw [HML.out]; exact hlt)⟩
      have hfr : f r.1 = some r.2 := mem_rows.1 (List.mem_of_getElem? hr)
      have HT := Lib.hid (flat_take (C := rc) hr)
      obtain ⟨g, hg, hgc⟩ := HCEL.out (by omega)
      have hck := HK.out.cell (hgc k hlt r hr) (by simp)
      subst hg
      obtain ⟨av, cv, hav, hcv1, hcv2⟩ := ownSliceN HO.out
      subst hav
      obtain ⟨d0, d1, d2, -⟩ := row3 ((HK2.out.trans HK.out).at HB.out (by simp))
      have HMR := Lib.hid (HM.out.keep (HK2.out.trans HK.out) (by simp))
      obtain ⟨q, t⟩ := r
      obtain ⟨t1, t2, t3⟩ := t
      obtain ⟨s, hs⟩ : ∃ s : ByteArray, encStr (nm q) = .string s := ⟨_, rfl⟩
      have HS := Lib.hid hs
      have HZ : Hid (((f q).map (fun t => rowV (q, t))).getD (.agg #[.string ⟨#[]⟩, .int .i64 0, .int .i64 0, .int .i64 0]) = .agg #[.string s, .int .i64 t1, .int .i64 t2, .int .i64 t3]) := Lib.hid (by rw [hfr, ← hs]; rfl)
      have HRC : Hid (rc (q, ⟨t1, t2, t3⟩) = [.string s, .int .i64 t1, .int .i64 t2, .int .i64 t3]) := Lib.hid (by rw [← hs]; rfl)
      simp only [hs] at hck
      have hdec : decide ((k : Int) < (m : Int)) = true := by simp; omega
      obtain ⟨W1, hW1⟩ : ∃ W1, W1 = wr := ⟨_, rfl⟩
      subst hW1
      have HSZ := Lib.hid HK.out.size
      have HOA := Lib.hid (own_keep HO.out ((Keep.refl [] W1).alloc (.cells #[.string s, .int .i64 t1, .int .i64 t2, .int .i64 t3] 40)) (fun _ _ h => absurd h List.not_mem_nil))
      clear hr hfr hgc hs
      go_wp2_with (first | (with_reducible refine Txt.wp_region_text mixed quiet (by decide +kernel) ?_) | (with_reducible refine Txt.text_done (by kernel_rfl) ?_) | (at_lookup; refine wpList_lookv HU.out _ rfl _ _ 55 rfl 40 Try.underlying55 _ (zero40 _) b f rfl HMR.out q HS.out.symm _ HZ ?_) | (at_builtin; refine wpList_append_lies _ rfl _ _ 31 rfl w2.heap.size 40 i40 (.agg #[.string ⟨#[]⟩, .int .i64 0, .int .i64 0, .int .i64 0]) 4 40 Try.underlying31 hi40 hz0 hz1 hz2 rfl (by decide) (.slice av k cv) k (((rows f).take k).flatMap rc) rfl HOA.out ⟨W1.heap.size, 0, none⟩ 1 1 [.string s, .int .i64 t1, .int .i64 t2, .int .i64 t3] rfl rfl (cells_new W1 [.string s, .int .i64 t1, .int .i64 t2, .int .i64 t3] 40 (0, 0)) one4 (by decide) (by unfold maxLen; omega) (by omega) (Nat.le_trans HSZ.out ((Keep.refl [] W1).alloc _).size) _ rfl ?_; intro g9 c9 w9 hown9 hgr9 hat9 hlt9; have HO9 := Lib.hid hown9; have HG9 := Lib.hid hgr9; clear hown9 hgr9 hat9))
      have hk9 : Keep (Value.slice av k cv).ownBlock.toList (W1.alloc (.cells #[.string s, .int .i64 t1, .int .i64 t2, .int .i64 t3] 40)) w9 := Keep.ofGrown HG9.out (fun x hx => by simp [hx])
      exact ⟨⟨k + 1, hlt, by go_num, Lib.hid (by rw [HT.out, HRC.out]; exact HO9.out), Lib.hid ((HK.out.alloc _).call hk9 (fun g hg => .inr (ownLtN HO.out g (by simpa using hg)).1))⟩, by simp [intOf]; omega⟩
    · obtain rfl : k = m := by omega
      have hdec : decide ((k : Int) < (k : Int)) = false := by simp
      obtain ⟨av, cv, hav, hcv1, hcv2⟩ := ownSliceN HO.out
      subst hav
      go_wp2_with (first | (with_reducible refine Txt.wp_region_text mixed quiet (by decide +kernel) ?_) | (with_reducible refine Txt.text_done (by kernel_rfl) ?_))
      go_ret
      refine ⟨_, rfl, HK2.out.trans HK.out, ?_⟩
      have h9 := HO.out
      rw [List.take_of_length_le (by rw [HML.out]; exact Nat.le_refl _)] at h9
      exact ownBaseN h9 HK2.out.size
end Go.Proofs.Ytfgdgdjdlnchlaa
