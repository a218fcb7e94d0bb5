/- Words of this seat's own for memory: which blocks a call may have written, and what a block holds. -/
import Derived.Test.YtkhchfjhmplaiaaRT4
import Derived.WalkKit
import Derived.WalkSpells
import Derived.WalkLawsBesides
import Derived.Lib.Hide
namespace Go
open Go.RowKit
/-- Nothing that was there has changed but for the blocks of S; the streams are as they were. -/
structure Keep (S : List Nat) (w w' : World) : Prop where
  os : w'.os = w.os
  tape : w'.tape = w.tape
  output : w'.output = w.output
  size : w.heap.size ≤ w'.heap.size
  block : ∀ k, k < w.heap.size → k ∉ S → w'.heap[k]? = w.heap[k]?
def Obj.put (o : Obj) (i : Nat) (v : Value) : Obj :=
  match o with
  | .cells c e f => .cells (c.setIfInBounds i v) e f
  | o => o
@[simp] theorem Obj.put_cells (c : Array Value) (e : TypeId) (f : Nat × Nat) (i : Nat) (v : Value) : (Obj.cells c e f).put i v = .cells (c.setIfInBounds i v) e f := rfl
section
variable {S : List Nat} {w w' w'' : World}
@[simp] theorem blk_setCell (w : World) (a i k : Nat) (v : Value) : (w.setCell ⟨a, i, none⟩ v).heap[k]? = if a = k then (w.heap[k]?).map (·.put i v) else w.heap[k]? := by
  simp only [World.setCell, Array.getElem?_modify]
  split
  · refine congrArg (fun f => Option.map f _) ?_
    funext o
    cases o <;> rfl
  · rfl
@[simp] theorem blk_drew (w : World) (k : Nat) : w.drew.heap[k]? = w.heap[k]? := rfl
@[simp] theorem blk_alloc (w : World) (o : Obj) (k : Nat) : (w.alloc o).heap[k]? = if k = w.heap.size then some o else w.heap[k]? := by
  show (w.heap.push o)[k]? = _
  rw [Array.getElem?_push]
theorem blk_new (w : World) (o : Obj) : (w.alloc o).heap[w.heap.size]? = some o := by rw [blk_alloc, if_pos rfl]
theorem Keep.refl (S : List Nat) (w : World) : Keep S w w := ⟨rfl, rfl, rfl, Nat.le_refl _, fun _ _ _ => rfl⟩
theorem Keep.trans (h : Keep S w w') (k : Keep S w' w'') : Keep S w w'' :=
  ⟨k.os.trans h.os, k.tape.trans h.tape, k.output.trans h.output, Nat.le_trans h.size k.size, fun i hi hs => (k.block i (Nat.lt_of_lt_of_le hi h.size) hs).trans (h.block i hi hs)⟩
theorem Keep.drew (h : Keep S w w') : Keep S w w'.drew := ⟨h.os, h.tape, h.output, h.size, h.block⟩
theorem Keep.alloc (h : Keep S w w') (o : Obj) : Keep S w (w'.alloc o) :=
  h.trans ⟨rfl, rfl, rfl, by simp, fun k hk _ => Below.heap_alloc _ _ _ hk⟩
theorem Keep.setCell (h : Keep S w w') {a i : Nat} (ha : a ∈ S ∨ w.heap.size ≤ a) (v : Value) : Keep S w (w'.setCell ⟨a, i, none⟩ v) :=
  ⟨h.os, h.tape, h.output, by simpa using h.size, fun k hk hs => by
    rw [Below.heap_setCell _ _ _ _ (fun e => by
      have e : k = a := e
      subst e
      rcases ha with ha | ha
      · exact hs ha
      · omega)]
    exact h.block k hk hs⟩
/-- A call inside: what it may write is in S, or was made on the way. -/
theorem Keep.call {S' : List Nat} (h : Keep S w w') (k : Keep S' w' w'') (hs : ∀ b ∈ S', b ∈ S ∨ w.heap.size ≤ b) : Keep S w w'' :=
  ⟨k.os.trans h.os, k.tape.trans h.tape, k.output.trans h.output, Nat.le_trans h.size k.size, fun i hi his =>
    (k.block i (Nat.lt_of_lt_of_le hi h.size) (fun hm => by rcases hs i hm with h1 | h1 <;> first | exact his h1 | omega)).trans (h.block i hi his)⟩
theorem Keep.at {k : Nat} {o : Obj} (h : Keep S w w') (hk : w.heap[k]? = some o) (hs : k ∉ S) : w'.heap[k]? = some o :=
  (h.block k (Array.getElem?_eq_some_iff.1 hk).1 hs).trans hk
theorem Keep.below {B : Nat} (h : Keep S w w') (hs : ∀ b ∈ S, B ≤ b) (hB : B ≤ w.heap.size) : Below B w w' :=
  ⟨h.os, h.tape, h.output, h.size, fun k hk => h.block k (by omega) (fun hm => by have := hs k hm; omega)⟩
theorem Keep.grown {v : Option Nat} (h : Keep S w w') (hg : w'.grownBy w'' v) (hv : ∀ k, v = some k → k ∈ S ∨ w.heap.size ≤ k) : Keep S w w'' :=
  ⟨hg.os.trans h.os, hg.tape.trans h.tape, hg.output.trans h.output, Nat.le_trans h.size hg.size, fun k hk hs =>
    (hg.block k (Nat.lt_of_lt_of_le hk h.size) (fun e => by
      rcases hv k e.symm with h1 | h1
      · exact hs h1
      · omega)).trans (h.block k hk hs)⟩
theorem Keep.cell {a : Addr} {v : Value} (h : Keep S w w') (hc : w.cell? a = some v) (hs : a.block ∉ S) : w'.cell? a = some v :=
  (World.cell?_of_block (w := w) (h.block a.block (World.block_lt_of_cell? w a hc) hs)).trans hc
theorem lt_of_blk {k : Nat} {o : Obj} (h : w.heap[k]? = some o) : k < w.heap.size := (Array.getElem?_eq_some_iff.1 h).1
/-- One cell of a block. -/
theorem cellAt {b : Nat} {cs : Array Value} {T : TypeId} {f : Nat × Nat} (h : w.heap[b]? = some (.cells cs T f)) (i : Nat) : w.cell? ⟨b, i, none⟩ = cs[i]? := cell_of_row w b i cs T f h
theorem thaw {b : Nat} {cs : Array Value} {T : TypeId} (h : w.heap[b]? = some (.cells cs T (0, 0))) (i : Nat) : w.frozen? ⟨b, i, none⟩ = false := frozen_of_row w b i cs T h
theorem row1 {b : Nat} {x0 : Value} {T : TypeId} (h : w.heap[b]? = some (.cells #[x0] T (0, 0))) :
    w.cell? ⟨b, 0, none⟩ = some x0 ∧ (∀ i, w.frozen? ⟨b, i, none⟩ = false) := ⟨cellAt h 0, thaw h⟩
theorem row2 {b : Nat} {x0 x1 : Value} {T : TypeId} (h : w.heap[b]? = some (.cells #[x0, x1] T (0, 0))) :
    w.cell? ⟨b, 0, none⟩ = some x0 ∧ w.cell? ⟨b, 1, none⟩ = some x1 ∧ (∀ i, w.frozen? ⟨b, i, none⟩ = false) := ⟨cellAt h 0, cellAt h 1, thaw h⟩
theorem row3 {b : Nat} {x0 x1 x2 : Value} {T : TypeId} (h : w.heap[b]? = some (.cells #[x0, x1, x2] T (0, 0))) :
    w.cell? ⟨b, 0, none⟩ = some x0 ∧ w.cell? ⟨b, 1, none⟩ = some x1 ∧ w.cell? ⟨b, 2, none⟩ = some x2 ∧ (∀ i, w.frozen? ⟨b, i, none⟩ = false) := ⟨cellAt h 0, cellAt h 1, cellAt h 2, thaw h⟩
theorem row4 {b : Nat} {x0 x1 x2 x3 : Value} {T : TypeId} (h : w.heap[b]? = some (.cells #[x0, x1, x2, x3] T (0, 0))) :
    w.cell? ⟨b, 0, none⟩ = some x0 ∧ w.cell? ⟨b, 1, none⟩ = some x1 ∧ w.cell? ⟨b, 2, none⟩ = some x2 ∧ w.cell? ⟨b, 3, none⟩ = some x3 ∧ (∀ i, w.frozen? ⟨b, i, none⟩ = false) :=
  ⟨cellAt h 0, cellAt h 1, cellAt h 2, cellAt h 3, thaw h⟩
end
/-- A slice of integers that reads as zs. -/
structure IntsV (w : World) (a : Option Addr) (n c : Nat) (zs : List Int) : Prop where
  len : zs.length = n
  room : n ≤ c
  most : c ≤ maxLen
  wf : ∀ z ∈ zs, (Lit.int .i64 z).wf = true
  cells : 0 < n → ∃ b off, a = some ⟨b, off, none⟩ ∧ ∀ i, i < n → w.cell? ⟨b, off + i, none⟩ = some (.int .i64 (zs.getD i 0))
theorem IntsV.keep {S : List Nat} {w w' : World} {a : Option Addr} {n c : Nat} {zs : List Int} (h : IntsV w a n c zs) (k : Keep S w w') (hs : ∀ x, a = some x → x.block ∉ S) : IntsV w' a n c zs :=
  ⟨h.len, h.room, h.most, h.wf, fun hn => by
    obtain ⟨b, off, rfl, hc⟩ := h.cells hn
    exact ⟨b, off, rfl, fun i hi => k.cell (hc i hi) (hs ⟨b, off, none⟩ rfl)⟩⟩
/-- A slice of slices of integers. -/
structure RowsV (w : World) (a : Option Addr) (n c : Nat) (A : Nat → Option Addr) (L C : Nat → Nat) (Z : Nat → List Int) : Prop where
  room : n ≤ c
  most : c ≤ maxLen
  cells : 0 < n → ∃ b off, a = some ⟨b, off, none⟩ ∧ ∀ i, i < n → w.cell? ⟨b, off + i, none⟩ = some (.slice (A i) (L i) (C i))
  rows : ∀ i, i < n → IntsV w (A i) (L i) (C i) (Z i)
theorem RowsV.keep {w w' : World} {a : Option Addr} {n c : Nat} {A : Nat → Option Addr} {L C : Nat → Nat} {Z : Nat → List Int} (h : RowsV w a n c A L C Z) (k : Keep [] w w') : RowsV w' a n c A L C Z :=
  ⟨h.room, h.most, fun hn => by
    obtain ⟨b, off, rfl, hc⟩ := h.cells hn
    exact ⟨b, off, rfl, fun i hi => k.cell (hc i hi) (by simp)⟩, fun i hi => (h.rows i hi).keep k (by simp)⟩
/-- The remainder that 'Rest' gives: of the number as an unsigned one. -/
def restI (k n : Int) : Int := (k % 18446744073709551616) % n
theorem restI_lo (k : Int) {n : Int} (h : 0 < n) : 0 ≤ restI k n := Int.emod_nonneg _ (by omega)
theorem restI_hi (k : Int) {n : Int} (h : 0 < n) : restI k n < n := Int.emod_lt_of_pos _ h
theorem u64_wrap (k : Int) : IntKind.u64.wrap k = k % 18446744073709551616 := by
  simp [IntKind.wrap, IntKind.bits, IntKind.signed]
theorem rest_eq (k n : Int) (hn : 0 < n) (hn1 : n ≤ 1000000000) : wrap64 ((IntKind.u64.wrap k).tmod n) = restI k n := by
  rw [u64_wrap, Int.tmod_eq_emod_of_nonneg (by omega)]
  have h1 := restI_lo k hn
  have h2 := restI_hi k hn
  unfold restI at *
  unfold wrap64
  omega
theorem ret_int {k : IntKind} {a b : Int} (h : a = b) : Ending.returned (.int k a) = .returned (.int k b) := by rw [h]
theorem ret_bool {a b : Bool} (h : a = b) : Ending.returned (.bool a) = .returned (.bool b) := by rw [h]
end Go
