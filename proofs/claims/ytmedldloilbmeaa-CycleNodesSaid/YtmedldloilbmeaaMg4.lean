/- Texts laid together: Y1 Y2 Y3 Y4. -/
import Derived.Test.YtmedldloilbmeaaMg3
import Derived.Deep.RegionLaw
/- Marking: what is known of actors, and a node, in memory. -/
namespace Go
open Go.RowKit
theorem infoY {o : Option TypeInfo} {z : Option Value} {s b : Nat} (h : o.map (fun i => (i.zero, i.size, i.bytes)) = some (z, s, b)) : ∃ i, o = some i ∧ i.zero = z ∧ i.size = s ∧ i.bytes = b := by
  obtain ⟨i, hi, he⟩ := Option.map_eq_some_iff.1 h
  simp only [Prod.mk.injEq] at he
  exact ⟨i, hi, he.1, he.2.1, he.2.2⟩
theorem neTypeY {w : World} {a b : Nat} {c1 c2 : Array Value} {t1 t2 : TypeId} {f1 f2 : Nat × Nat} (h1 : w.heap[a]? = some (.cells c1 t1 f1)) (h2 : w.heap[b]? = some (.cells c2 t2 f2)) (h : t1 ≠ t2) : a ≠ b := by
  rintro rfl
  rw [h1] at h2
  injection h2 with h2
  injection h2 with _ h2 _
  exact h h2
theorem ownBaseY {w : World} {b b' e m n : Nat} {v : Value} {xs : List Value} (h : w.ownsRow b e m v n xs) (hb : b' ≤ b) : w.ownsRow b' e m v n xs :=
  ⟨h.1, h.2.imp id fun ⟨g, cap, cur, h1, h2, h3⟩ => ⟨g, cap, cur, h1, Nat.le_trans hb h2, h3⟩⟩
theorem ownLt {w : World} {B e m n : Nat} {v : Value} {xs : List Value} (h : w.ownsRow B e m v n xs) : ∀ g, v.ownBlock = some g → B ≤ g ∧ g < w.heap.size ∧ ∃ cs, w.heap[g]? = some (.cells cs e (0, 0)) := by
  intro g hg
  rcases h.2 with ⟨rfl, _⟩ | ⟨g', cap, cur, rfl, hb, hgg, _⟩
  · simp [Value.ownBlock] at hg
  · simp [Value.ownBlock] at hg
    subst hg
    exact ⟨hb, (Array.getElem?_eq_some_iff.1 hgg).1, cur, hgg⟩
/-- A slice that the call owns, in its own words. -/
theorem ownSlice {w : World} {B e m n : Nat} {v : Value} {xs : List Value} (ho : w.ownsRow B e m v n xs) : ∃ a c, v = .slice a n c ∧ n ≤ c ∧ c ≤ maxLen ∧ (∀ x, a = some x → v.ownBlock = some x.block ∧ x = ⟨x.block, 0, none⟩) := by
  rcases ho.2 with ⟨rfl, h0⟩ | ⟨g, cap, cur, rfl, hb, hg, hnc, hcm, hcs, ht⟩
  · subst h0
    exact ⟨none, 0, rfl, Nat.le_refl _, Nat.zero_le _, fun x hx => by cases hx⟩
  · exact ⟨_, _, rfl, hnc, hcm, fun x hx => by cases hx; exact ⟨rfl, rfl⟩⟩
/-- What is known of an actor. -/
structure Kn where
  ref : Int
  awake : Bool
  root : Bool
  ra : Option Addr
  rc : Nat
  refs : List Int
def Kn.cells (x : Kn) : List Value := [.int .i64 x.ref, .bool x.awake, .bool x.root, .slice x.ra x.refs.length x.rc]
def knsC (l : List Kn) : List Value := l.flatMap Kn.cells
theorem knsC_len (l : List Kn) : (knsC l).length = l.length * 4 := by
  induction l with
  | nil => rfl
  | cons p l ih => simp only [knsC, List.flatMap_cons, List.length_append, List.length_cons] at *; rw [ih]; simp [Kn.cells]; omega
theorem knsC_snoc (l : List Kn) (x : Kn) : knsC (l ++ [x]) = knsC l ++ x.cells := by simp [knsC]
theorem knsC_at (l : List Kn) : ∀ (i j : Nat) (x : Kn), l[i]? = some x → j < 4 → (knsC l)[i * 4 + j]? = x.cells[j]? := by
  induction l with
  | nil => intro i j x h; simp at h
  | cons y l ih =>
    intro i j x h hj
    rw [knsC, List.flatMap_cons]
    have hy : y.cells.length = 4 := rfl
    cases i with
    | zero =>
      simp at h
      subst h
      rw [Nat.zero_mul, Nat.zero_add, List.getElem?_append_left (by rw [hy]; exact hj)]
    | succ i =>
      simp at h
      rw [List.getElem?_append_right (by rw [hy, Nat.succ_mul]; omega), hy, show (i + 1) * 4 + j - 4 = i * 4 + j by rw [Nat.succ_mul]; omega]
      exact ih i j x h hj
/-- What the rows of an actor read as: numbers in a block of numbers. -/
def KnOk (w : World) (x : Kn) : Prop := IntsV w x.ra x.refs.length x.rc x.refs ∧ (Lit.int .i64 x.ref).wf = true ∧ ∀ ad, x.ra = some ad → ∃ cs, w.heap[ad.block]? = some (.cells cs 3 (0, 0))
structure KnsV (w : World) (a : Option Addr) (n c : Nat) (l : List Kn) : Prop where
  len : l.length = n
  room : n ≤ c
  most : c ≤ maxLen
  cells : 0 < n → ∃ b off, a = some ⟨b, off, none⟩ ∧ (∃ cs, w.heap[b]? = some (.cells cs 38 (0, 0))) ∧ ∀ j v, (knsC l)[j]? = some v → w.cell? ⟨b, off + j, none⟩ = some v
  rows : ∀ x ∈ l, KnOk w x
def NoI (S : List Nat) (w : World) : Prop := ∀ g ∈ S, ∀ cs f, w.heap[g]? ≠ some (.cells cs 3 f)
theorem NoI.nil (w : World) : NoI [] w := fun g hg => by cases hg
theorem KnOk.keep {S : List Nat} {w w' : World} {x : Kn} (h : KnOk w x) (hk : Keep S w w') (hS : NoI S w) : KnOk w' x := by
  obtain ⟨h1, h2, h3⟩ := h
  have hn : ∀ ad, x.ra = some ad → ad.block ∉ S := fun ad ha hm => by
    obtain ⟨cs, hc⟩ := h3 ad ha
    exact hS _ hm cs _ hc
  exact ⟨h1.keep hk hn, h2, fun ad ha => by obtain ⟨cs, hc⟩ := h3 ad ha; exact ⟨cs, hk.at hc (hn ad ha)⟩⟩
theorem KnsV.keep {S : List Nat} {w w' : World} {a : Option Addr} {n c : Nat} {l : List Kn} (h : KnsV w a n c l) (hk : Keep S w w') (hS : NoI S w) (h38 : ∀ g ∈ S, ∀ cs f, w.heap[g]? ≠ some (.cells cs 38 f)) : KnsV w' a n c l :=
  ⟨h.len, h.room, h.most, fun hn => by
    obtain ⟨b, off, rfl, ⟨cs, hb⟩, hc⟩ := h.cells hn
    have hnb : b ∉ S := fun hm => h38 b hm cs _ hb
    exact ⟨b, off, rfl, ⟨cs, hk.at hb hnb⟩, fun j v hv => hk.cell (hc j v hv) hnb⟩, fun x hx => (h.rows x hx).keep hk hS⟩
theorem KnsV.keep0 {w w' : World} {a : Option Addr} {n c : Nat} {l : List Kn} (h : KnsV w a n c l) (hk : Keep [] w w') : KnsV w' a n c l := h.keep hk (NoI.nil w) (fun g hg => by cases hg)
theorem KnsV.at_ {w : World} {a : Option Addr} {n c i : Nat} {l : List Kn} {x : Kn} (h : KnsV w a n c l) (hx : l[i]? = some x) : ∃ b off, a = some ⟨b, off, none⟩ ∧ w.cell? ⟨b, off + i * 4, none⟩ = some (.int .i64 x.ref) ∧ w.cell? ⟨b, off + i * 4 + 1, none⟩ = some (.bool x.awake) ∧ w.cell? ⟨b, off + i * 4 + 2, none⟩ = some (.bool x.root) ∧ w.cell? ⟨b, off + i * 4 + 3, none⟩ = some (.slice x.ra x.refs.length x.rc) := by
  have hi := (List.getElem?_eq_some_iff.1 hx).1
  obtain ⟨b, off, rfl, _, hc⟩ := h.cells (by have := h.len; omega)
  have e : ∀ j v, j < 4 → x.cells[j]? = some v → w.cell? ⟨b, off + i * 4 + j, none⟩ = some v := fun j v hj hv => by
    rw [Nat.add_assoc]
    exact hc _ _ ((knsC_at l i j x hx hj).trans hv)
  exact ⟨b, off, rfl, e 0 _ (by decide) rfl, e 1 _ (by decide) rfl, e 2 _ (by decide) rfl, e 3 _ (by decide) rfl⟩
/-- What each actor of a node refers to, in memory. -/
def RefsOk (w : World) (H : Nat) (f : Int → Option Value) (R : Int → Option (List Int)) : Prop :=
  ∀ x, (R x = none ∧ f x = none) ∨ ∃ xs a c, R x = some xs ∧ f x = some (.slice a xs.length c) ∧ IntsV w a xs.length c xs ∧ xs.length ≤ 100 ∧ ∀ ad, a = some ad → ad.block < H ∧ ∃ cs, w.heap[ad.block]? = some (.cells cs 3 (0, 0))
/-- Blocks that hold none of the rows of numbers below H. -/
def NoR (S : List Nat) (w : World) (H : Nat) : Prop := ∀ g ∈ S, g < H → ∀ cs f, w.heap[g]? ≠ some (.cells cs 3 f)
theorem RefsOk.keep {S : List Nat} {w w' : World} {H : Nat} {f : Int → Option Value} {R : Int → Option (List Int)} (h : RefsOk w H f R) (hk : Keep S w w') (hS : NoR S w H) : RefsOk w' H f R := fun x => by
  rcases h x with h1 | ⟨xs, a, c, h1, h2, h3, h4, h5⟩
  · exact .inl h1
  · have hn : ∀ ad, a = some ad → ad.block ∉ S := fun ad ha hm => by
      obtain ⟨hlt, cs, hc⟩ := h5 ad ha
      exact hS _ hm hlt cs _ hc
    exact .inr ⟨xs, a, c, h1, h2, h3.keep hk hn, h4, fun ad ha => by obtain ⟨hlt, cs, hc⟩ := h5 ad ha; exact ⟨hlt, cs, hk.at hc (hn ad ha)⟩⟩
theorem RefsOk.some_ {w : World} {H : Nat} {f : Int → Option Value} {R : Int → Option (List Int)} (h : RefsOk w H f R) (x : Int) : (f x).isSome = (R x).isSome := by
  rcases h x with ⟨h1, h2⟩ | ⟨xs, a, c, h1, h2, _⟩ <;> rw [h1, h2] <;> rfl
/-- A node, in memory; N: no map has more entries; the rows of numbers of its actors lie below H, what is due not. -/
structure NodeAt (w : World) (P : Program) (H b bR bM bT N : Nat) (f : Int → Option Value) (R : Int → Option (List Int)) (mk tl : Int → Bool) (due : List Int) (came : Int) (vd : Value) : Prop where
  blk : w.heap[b]? = some (.cells #[.map (some bR), .map (some bM), vd, .map (some bT), .int .i64 came] 73 (0, 0))
  mr : MapF w P 3 bR N f
  rf : RefsOk w H f R
  mm : MapB w P 3 bM N mk
  mt : MapB w P 3 bT N tl
  rowD : w.ownsRow H 3 1 vd due.length (due.map (Value.int .i64))
  dwf : ∀ x ∈ due, (Lit.int .i64 x).wf = true
  ne : bR ≠ bM ∧ bR ≠ bT ∧ bM ≠ bT
def ndS (b bM bT : Nat) (vd : Value) : List Nat := b :: bM :: bT :: vd.ownBlock.toList
section
variable {w w' : World} {P : Program} {H b bR bM bT N : Nat} {f : Int → Option Value} {R : Int → Option (List Int)} {mk tl : Int → Bool} {due : List Int} {came : Int} {vd : Value}
theorem NodeAt.keep {S : List Nat} (h : NodeAt w P H b bR bM bT N f R mk tl due came vd) (hk : Keep S w w') (hR : bR ∉ S) (hb : ∀ g ∈ ndS b bM bT vd, g ∉ S) (hS : NoR S w H) : NodeAt w' P H b bR bM bT N f R mk tl due came vd := by
  exact ⟨hk.at h.blk (hb b (by simp [ndS])), h.mr.keep hk hR, h.rf.keep hk hS, h.mm.keep hk (hb bM (by simp [ndS])), h.mt.keep hk (hb bT (by simp [ndS])), own_keep h.rowD hk (fun g hg => hb g (by simp [ndS, hg])), h.dwf, h.ne⟩
theorem NodeAt.keep0 (h : NodeAt w P H b bR bM bT N f R mk tl due came vd) (hk : Keep [] w w') : NodeAt w' P H b bR bM bT N f R mk tl due came vd := h.keep hk (by simp) (by simp) (fun g hg => by cases hg)
theorem NodeAt.mono (h : NodeAt w P H b bR bM bT N f R mk tl due came vd) {N' : Nat} (hN : N ≤ N') : NodeAt w P H b bR bM bT N' f R mk tl due came vd := by
  exact ⟨h.blk, h.mr.mono hN, h.rf, MapF.mono h.mm hN, MapF.mono h.mt hN, h.rowD, h.dwf, h.ne⟩
theorem row5Y {w : World} {b : Nat} {x0 x1 x2 x3 x4 : Value} {T : TypeId} (h : w.heap[b]? = some (.cells #[x0, x1, x2, x3, x4] T (0, 0))) :
    w.cell? ⟨b, 0, none⟩ = some x0 ∧ w.cell? ⟨b, 1, none⟩ = some x1 ∧ w.cell? ⟨b, 2, none⟩ = some x2 ∧ w.cell? ⟨b, 3, none⟩ = some x3 ∧ w.cell? ⟨b, 4, none⟩ = some x4 ∧ (∀ i, w.frozen? ⟨b, i, none⟩ = false) :=
  ⟨cellAt h 0, cellAt h 1, cellAt h 2, cellAt h 3, cellAt h 4, thaw h⟩
/-- None of the node's own blocks, but what is due, is a row of numbers. -/
theorem NodeAt.noR (h : NodeAt w P H b bR bM bT N f R mk tl due came vd) : NoR (ndS b bM bT vd) w H := fun g hg hlt cs f hc => by
  simp only [ndS, List.mem_cons, Option.mem_toList] at hg
  rcases hg with rfl | rfl | rfl | hg
  · exact neTypeY h.blk hc (by decide) rfl
  · exact h.mm.notCells hc rfl
  · exact h.mt.notCells hc rfl
  · have := (ownLt h.rowD g hg).1; omega
end
end Go
namespace Go.Proofs.Ytmedldloilbmeaa
open Go.RowKit
def sortI (l : List Int) : List Int := l.mergeSort (fun x y => decide (x ≤ y))
theorem sortI_perm (l : List Int) : (sortI l).Perm l := List.mergeSort_perm l _
theorem sortI_len (l : List Int) : (sortI l).length = l.length := (sortI_perm l).length_eq
theorem sortI_sorted (l : List Int) : (sortI l).Pairwise (· ≤ ·) := by
  have := List.pairwise_mergeSort (le := fun x y : Int => decide (x ≤ y)) (fun a b c h1 h2 => by simp at *; omega) (fun a b => by simp; omega) l
  exact this.imp (fun h => by simpa using h)
theorem sort16_any {w : World} {B n : Nat} {v : Value} {xs : List Int} (ho : w.ownsRow B 3 1 v n (xs.map (Value.int .i64))) (hn : n ≤ 1000000000) :
    Calls Try.prog 16 #[v] w fun e w' => e = .returned (.tuple #[]) ∧ w'.ownsRow B 3 1 v n ((sortI xs).map (Value.int .i64)) ∧ Keep v.ownBlock.toList w w' := by
  have hl : xs.length = n := by simpa using ho.1
  rcases ho.2 with ⟨rfl, h0⟩ | ⟨g, cap, cur, rfl, hb, hg, hnc, hcm, hcs, ht⟩
  · subst h0
    have hx : xs = [] := List.eq_nil_of_length_eq_zero hl
    subst hx
    refine (Go.Proofs.Try.slices_Sort_int_none none 0 w).mono ?_
    rintro e w' ⟨rfl, rfl⟩
    exact ⟨rfl, by rw [show sortI [] = [] from List.eq_nil_of_length_eq_zero (sortI_len [])]; exact ho, Keep.refl _ _⟩
  · subst hl
    refine (Go.Proofs.Try.slices_Sort_int g 0 cap xs w (holds_of_blockI hg (by simpa using ht)) (Array.getElem?_eq_some_iff.1 hg).1 (by omega)).mono ?_
    rintro e w' ⟨rfl, n, os, rfl⟩
    exact ⟨rfl, ownsRow_sortedI (sortI_len xs) hb hg hnc hcm hcs, Keep.ofGrown (grownBy_sortedI _) (by simp [Value.ownBlock])⟩
theorem clone15_any {w : World} {a : Option Addr} {n c : Nat} {xs : List Int} (hv : IntsV w a n c xs) (hn : n ≤ 1000000) :
    Calls Try.prog 15 #[.slice a n c] w fun e w' => ∃ v, e = .returned v ∧ Keep [] w w' ∧ w'.ownsRow w.heap.size 3 1 v n (xs.map (Value.int .i64)) := by
  by_cases h0 : 0 < n
  · obtain ⟨b, off, rfl, hc⟩ := hv.cells h0
    obtain ⟨i3, hi3, hy0, hy1, hy2⟩ := infoY info3
    refine (Go.Proofs.Try.slices_Clone i3 _ 1 8 hi3 hy0 hy1 hy2 rfl (by decide) (fun w => by kernel_rfl) b off n c (xs.map (Value.int .i64)) w (by rw [List.length_map, hv.len]; omega) (by unfold maxLen; omega) (by omega) (fun j u hu => ?_) (fun u hu => ?_)).mono ?_
    · have hj : j < n := by have := (List.getElem?_eq_some_iff.1 hu).1; have := hv.len; simp at *; omega
      rw [hc j hj, ← hu, List.getElem?_map]
      simp [List.getD_eq_getElem?_getD, hv.len ▸ hj]
    · obtain ⟨z, _, rfl⟩ := List.mem_map.1 hu
      rfl
    · rintro e w' ⟨v, rfl, ho, _, hb⟩
      exact ⟨v, rfl, ⟨hb.os, hb.tape, hb.output, hb.size, fun i hi _ => hb.block i hi⟩, ho⟩
  · obtain rfl : n = 0 := by omega
    have hx : xs = [] := List.eq_nil_of_length_eq_zero hv.len
    subst hx
    cases a with
    | none =>
      refine (Go.Proofs.Try.slices_Clone_nil 0 c w).mono ?_
      rintro e w' ⟨rfl, rfl⟩
      exact ⟨_, rfl, Keep.refl _ _, World.ownsRow_nil _ _ _ _⟩
    | some ad =>
      refine (Go.Proofs.Try.slices_Clone_int_zero ad c w).mono ?_
      rintro e w' ⟨v, rfl, ho, _, hb⟩
      exact ⟨v, rfl, ⟨hb.os, hb.tape, hb.output, hb.size, fun i hi _ => hb.block i hi⟩, ho⟩
end Go.Proofs.Ytmedldloilbmeaa
/- Marking: tell. -/
namespace Go
theorem insB_same {s : Int → Bool} {x : Int} (h : s x = true) : insB s x = s := by
  funext y
  unfold insB
  by_cases hy : y = x
  · subst hy; simp [h]
  · simp [hy]
def NwY (w : World) (v v' : Value) : Prop := ∀ g, v'.ownBlock = some g → v.ownBlock = some g ∨ w.heap.size ≤ g
theorem NwY.refl (w : World) (v : Value) : NwY w v v := fun _ h => .inl h
theorem NwY.trans {w w' : World} {v v1 v2 : Value} (h1 : NwY w v v1) (hs : w.heap.size ≤ w'.heap.size) (h2 : NwY w' v1 v2) : NwY w v v2 := fun g hg => by
  rcases h2 g hg with h | h
  · exact h1 g h
  · exact .inr (Nat.le_trans hs h)
/-- What is due, and stands where it stood or in a new place, stays the node's own. -/
theorem NwY.keep {w w' w2 : World} {b bM bT : Nat} {vd vd' : Value} (hn : NwY w vd vd') (h1 : Keep (ndS b bM bT vd) w w') (h2 : Keep (ndS b bM bT vd') w' w2) : Keep (ndS b bM bT vd) w w2 :=
  h1.call h2 (fun g hg => by
    simp only [ndS, List.mem_cons, Option.mem_toList] at hg ⊢
    rcases hg with h | h | h | h
    · exact .inl (.inl h)
    · exact .inl (.inr (.inl h))
    · exact .inl (.inr (.inr (.inl h)))
    · exact (hn g h).imp (fun h => .inr (.inr (.inr h))) id)
theorem wf_dec {x : Int} (h : (Lit.int .i64 x).wf = true) : IntKind.i64.wrap x = x := by
  have h2 : IntKind.i64.min = -9223372036854775808 := by decide
  have h3 : IntKind.i64.max = 9223372036854775807 := by decide
  simp [Lit.wf, h2, h3] at h
  simp [IntKind.wrap, IntKind.bits, IntKind.signed]
  omega
theorem wf_range {x : Int} (h : (Lit.int .i64 x).wf = true) : -9223372036854775808 ≤ x ∧ x ≤ 9223372036854775807 := by
  have h2 : IntKind.i64.min = -9223372036854775808 := by decide
  have h3 : IntKind.i64.max = 9223372036854775807 := by decide
  simpa [Lit.wf, h2, h3] using h
end Go
namespace Go.Proofs.Ytmedldloilbmeaa
open Go.RowKit
theorem zero4 (w : World) : (zeroValue 4).run Try.prog w = .ok (.bool false) w := by kernel_rfl
theorem zero22 (w : World) : (zeroValue 22).run Try.prog w = .ok (.slice none 0 0) w := by kernel_rfl
set_option maxRecDepth 100000 in
set_option maxHeartbeats 2000000 in
theorem tell59_any {w : World} {H b bR bM bT N : Nat} {f : Int → Option Value} {R : Int → Option (List Int)} {mk tl : Int → Bool} {due : List Int} {came : Int} {vd : Value} {x : Int} (h : NodeAt w Try.prog H b bR bM bT N f R mk tl due came vd) (hx : (Lit.int .i64 x).wf = true) (hN : N ≤ 1000000000000000) (hd : due.length ≤ 2000000000) (hH : H ≤ w.heap.size) :
    Calls Try.prog 59 #[.pointer (some ⟨b, 0, none⟩), .int .i64 x] w fun e w' => ∃ vd', e = .returned (.tuple #[]) ∧ NodeAt w' Try.prog H b bR bM bT (N + 1) f R mk (insB tl x) (if tl x = true then due else due ++ [x]) came vd' ∧ Keep (ndS b bM bT vd) w w' ∧ NwY w vd vd' := by
  obtain ⟨c0, c1, c2, c3, c4, hz⟩ := row5Y h.blk
  have HT := Lib.hid h.mt
  have HX := Lib.hid hx
  have HH := Lib.hid h
  by_cases htx : tl x = true
  · clear h
    have HXR := Lib.hid (wf_range hx)
    clear hx
    go_enter Try.func59, Try.ntmps59
    go_wp2_with (first | (with_reducible refine Txt.wp_region_text mixed quiet (by decide +kernel) ?_) | (with_reducible refine Txt.text_done (by kernel_rfl) ?_) | (at_lookup; refine wpList_lookup_b _ rfl _ _ 71 rfl 3 4 Try.underlying71 Try.underlying3 (zero4 _) bT N _ rfl HT.out x rfl HX.out ?_))
    go_end0
    rw [insB_same htx]
    exact ⟨rfl, vd, HH.out.mono (by omega), Keep.refl _ _, NwY.refl _ _⟩
  · have htf : tl x = false := by simpa using htx
    obtain ⟨ad, cd, hvd, hd1, hd2, hd3⟩ := ownSlice h.rowD
    have HVD := Lib.hid hvd
    rw [hvd] at c2
    have HO := Lib.hid h.rowD
    obtain ⟨i3, hi3, hy0, hy1, hy2⟩ := infoY info3
    unfold maxLen at hd2
    obtain ⟨L, hL⟩ : ∃ L, due.length = L := ⟨_, rfl⟩
    have HL := Lib.hid hL
    rw [hL] at c2 hd1 hd
    have HD3 := Lib.hid hd3
    have hbl := lt_of_blk h.blk
    clear h hvd htx hL hd3 hx
    go_enter Try.func59, Try.ntmps59
    go_wp2_with (first | (with_reducible refine Txt.wp_region_text mixed quiet (by decide +kernel) ?_) | (with_reducible refine Txt.text_done (by kernel_rfl) ?_) | (at_lookup; refine wpList_lookup_b _ rfl _ _ 71 rfl 3 4 Try.underlying71 Try.underlying3 (zero4 _) bT N _ rfl HT.out x rfl HX.out ?_) | (at_mapUpdate; refine wpList_update_b _ rfl _ _ _ 71 rfl 3 4 Try.underlying71 Try.underlying3 bT N _ rfl HT.out (by unfold maxLen; omega) x rfl rfl HX.out ?_; intro w1 hm1 hk1; have hb1 := hk1.at HH.out.blk (fun hm => HH.out.mt.notCells HH.out.blk (List.mem_singleton.1 hm).symm); rw [HVD.out, HL.out] at hb1; obtain ⟨d0, d1, d2, d3, d4, hz1⟩ := row5Y hb1; have HB1 := Lib.hid hb1; have HM1 := Lib.hid hm1; have HO1 : Hid (w1.ownsRow H 3 1 (.slice ad L cd) L (due.map (Value.int .i64))) := Lib.hid (by have h9 := own_keep HO.out hk1 (fun g hg hm => by obtain ⟨_, _, cs, hc⟩ := ownLt HO.out g hg; exact HH.out.mt.notCells hc (List.mem_singleton.1 hm).symm); rw [HVD.out, HL.out] at h9; exact h9); have HK1 := Lib.hid hk1; have hbl1 := lt_of_blk hb1; have hH1 : Hid (H ≤ w1.heap.size) := Lib.hid (Nat.le_trans hH hk1.size); clear hm1 hk1 hb1) | (at_builtin; refine wpList_append_lies _ rfl _ _ 22 rfl H 3 i3 (.int .i64 0) 1 8 Try.underlying22 hi3 hy0 hy1 hy2 rfl (by decide) (.slice ad L cd) L (due.map (Value.int .i64)) rfl (own_keep HO1.out ((Keep.refl [] w1).alloc _) (by simp)) ⟨w1.heap.size, 0, none⟩ 1 1 [.int .i64 x] rfl rfl (cells_new w1 [.int .i64 x] 3 (0, 0)) (by intro u hu; rw [List.mem_singleton.1 hu]; rfl) (by decide) (by unfold maxLen; omega) (by omega) (by have := hH1.out; simp; omega) _ rfl ?_; intro g9 c9 w9 hown9 hgr9 hat9 hlt9; have hk9 : Keep (Value.slice ad L cd).ownBlock.toList (w1.alloc (.cells #[.int .i64 x] 3)) w9 := Keep.ofGrown hgr9 (fun x hx => by simp [hx]); have HK9 := Lib.hid hk9; have HO9 := Lib.hid hown9; have HA9 := Lib.hid hat9; have hb9 := hk9.at (((Keep.refl [] w1).alloc (.cells #[.int .i64 x] 3)).at HB1.out (by simp)) (fun hm => by obtain ⟨_, _, cs, hc⟩ := ownLt HO1.out b (by simpa using hm); exact neTypeY hc HB1.out (by decide) rfl); obtain ⟨f0, f1, f2, f3, f4, hz9⟩ := row5Y hb9; have HB9 := Lib.hid hb9; clear hown9 hgr9 hat9 hk9 hb9))
    all_goals
      go_end0
      have hvb : vd.ownBlock.toList = (Value.slice ad L cd).ownBlock.toList := by rw [HVD.out, HL.out]
      have hk1 : Keep (b :: bT :: vd.ownBlock.toList) w w1 := HK1.out.more (fun g hg => by rw [List.mem_singleton.1 hg]; simp)
      have hk9 : Keep (b :: bT :: vd.ownBlock.toList) w w9 := (hk1.alloc _).call HK9.out (fun g hg => .inl (by rw [← hvb] at hg; simp at hg ⊢; exact .inr (.inr hg)))
      have hkf := hk9.setCell (a := b) (i := 2) (.inl (by simp)) (.slice (some ⟨g9, 0, none⟩) (L + 1) c9)
      have hnb : ∀ {c : Nat} {n : Nat} {f : Int → Option Value}, MapF w Try.prog 3 c n f → c ≠ bT → c ∉ b :: bT :: vd.ownBlock.toList := fun hm hT hin => by
        simp only [List.mem_cons, Option.mem_toList] at hin
        rcases hin with h | h | h
        · exact hm.notCells HH.out.blk h
        · exact hT h
        · obtain ⟨_, _, cs, hc⟩ := ownLt HO.out _ h
          exact hm.notCells hc rfl
      have hsz9 : w.heap.size ≤ (w1.alloc (.cells #[.int .i64 x] 3)).heap.size := ((hk1.alloc (.cells #[.int .i64 x] 3))).size
      refine ⟨rfl, .slice (some ⟨g9, 0, none⟩) (L + 1) c9, ⟨?_, (HH.out.mr.keep hkf (hnb HH.out.mr HH.out.ne.2.1)).mono (by omega), HH.out.rf.keep hkf (fun g hg => HH.out.noR g (by simp only [ndS, List.mem_cons] at hg ⊢; rcases hg with h | h | h; (exact .inl h); (exact .inr (.inr (.inl h))); (exact .inr (.inr (.inr h))))), MapF.mono (HH.out.mm.keep hkf (hnb HH.out.mm HH.out.ne.2.2)) (by omega), ?_, ?_, ?_, HH.out.ne⟩, hkf.more (fun g hg => by simp only [ndS, List.mem_cons] at hg ⊢; rcases hg with h | h | h; (exact .inl h); (exact .inr (.inr (.inl h))); (exact .inr (.inr (.inr h)))), fun g hg => ?_⟩
      · rw [blk_setCell, if_pos rfl, HB9.out]; rfl
      · have h1 := MapF.keep HM1.out ((Keep.refl [] w1).alloc (.cells #[.int .i64 x] 3)) (by simp)
        have h2 := MapF.keep h1 HK9.out (fun hm => by obtain ⟨_, _, cs, hc⟩ := ownLt HO1.out bT (by simpa using hm); exact HM1.out.notCells hc rfl)
        exact MapF.keep h2 ((Keep.refl [b] w9).setCell (a := b) (i := 2) (.inl (by simp)) _) (fun hm => HH.out.mt.notCells HH.out.blk (List.mem_singleton.1 hm))
      · rw [List.length_append, List.length_singleton, HL.out, List.map_append]
        refine own_keep HO9.out ((Keep.refl [b] w9).setCell (a := b) (i := 2) (.inl (by simp)) _) (fun g hg hm => ?_)
        obtain ⟨_, _, cs, hc⟩ := ownLt HO9.out g hg
        exact neTypeY hc HB9.out (by decide) (List.mem_singleton.1 hm)
      · intro y hy
        rcases List.mem_append.1 hy with hy | hy
        · exact HH.out.dwf y hy
        · rw [List.mem_singleton.1 hy]; exact HX.out
      · have hg9 : g = g9 := by simpa [Value.ownBlock] using hg.symm
        subst hg9
        rcases HA9.out with h | h
        · exact .inl (by rw [HVD.out, HL.out]; exact h)
        · exact .inr (by omega)
end Go.Proofs.Ytmedldloilbmeaa
/- Marking: one level. -/
namespace Go
open Go.RowKit
section
variable {w w' : World} {P : Program} {H b bR bM bT N : Nat} {f : Int → Option Value} {R : Int → Option (List Int)} {mk tl : Int → Bool} {due : List Int} {came : Int} {vd : Value}
theorem NodeAt.lts (h : NodeAt w P H b bR bM bT N f R mk tl due came vd) : b < w.heap.size ∧ bR < w.heap.size ∧ bM < w.heap.size ∧ bT < w.heap.size ∧ ∀ g, vd.ownBlock = some g → H ≤ g ∧ g < w.heap.size :=
  ⟨lt_of_blk h.blk, h.mr.lt, h.mm.lt, h.mt.lt, fun g hg => let ⟨h1, h2, _⟩ := ownLt h.rowD g hg; ⟨h1, h2⟩⟩
theorem NodeAt.marked {mk' : Int → Bool} (h : NodeAt w P H b bR bM bT N f R mk tl due came vd) (hm : MapB w' P 3 bM (N + 1) mk') (hk : Keep [bM] w w') : NodeAt w' P H b bR bM bT (N + 1) f R mk' tl due came vd := by
  have hb : b ∉ [bM] := fun hm => h.mm.notCells h.blk (List.mem_singleton.1 hm).symm
  refine ⟨hk.at h.blk hb, (h.mr.keep hk (fun hm => h.ne.1 (List.mem_singleton.1 hm))).mono (by omega), h.rf.keep hk (fun g hg _ cs fr hc => ?_), hm, MapF.mono (MapF.keep h.mt hk (fun hm => h.ne.2.2 (List.mem_singleton.1 hm).symm)) (by omega), own_keep h.rowD hk (fun g hg hm => ?_), h.dwf, h.ne⟩
  · rw [List.mem_singleton.1 hg] at hc
    exact h.mm.notCells hc rfl
  · obtain ⟨_, _, cs, hc⟩ := ownLt h.rowD g hg
    rw [List.mem_singleton.1 hm] at hc
    exact h.mm.notCells hc rfl
theorem RefsOk.row (h : RefsOk w H f R) {r : Int} {a : Option Addr} {xs : List Int} {c : Nat} (hR : (R r).getD [] = xs) (hf : (f r).getD (.slice none 0 0) = .slice a xs.length c) : IntsV w a xs.length c xs := by
  rcases h r with ⟨h1, h2⟩ | ⟨ys, a', c', h1, h2, h3, _⟩
  · rw [h1] at hR
    rw [h2] at hf
    simp only [Option.getD_none] at hR hf
    subst hR
    injection hf with h4 h5 h6
    subst h4
    exact ⟨rfl, Nat.zero_le _, by rw [← h6]; exact Nat.zero_le _, fun z hz => (by cases hz), fun h => absurd h (by simp)⟩
  · rw [h1] at hR
    rw [h2] at hf
    simp only [Option.getD_some] at hR hf
    subst hR
    injection hf with h4 _ h6
    subst h4 h6
    exact h3
theorem RefsOk.val (h : RefsOk w H f R) (r : Int) : ∃ a c, (f r).getD (.slice none 0 0) = .slice a ((R r).getD []).length c ∧ ((R r).getD []).length ≤ 100 := by
  rcases h r with ⟨h1, h2⟩ | ⟨ys, a', c', h1, h2, h3, h4, _⟩
  · rw [h1, h2]; exact ⟨none, 0, rfl, by simp⟩
  · rw [h1, h2]; exact ⟨a', c', rfl, h4⟩
theorem RefsOk.small (h : RefsOk w H f R) : ∀ x xs, R x = some xs → xs.length ≤ 100 := fun x xs hx => by
  rcases h x with ⟨h1, _⟩ | ⟨ys, a', c', h1, _, _, h4, _⟩
  · rw [h1] at hx; cases hx
  · rw [h1] at hx; cases hx; exact h4
/-- A level under way: the references 'pre' are looked at. -/
def LvSt (w wr : World) (P : Program) (H b bR bM bT bX N : Nat) (f : Int → Option Value) (R : Int → Option (List Int)) (mk1 tl : Int → Bool) (due : List Int) (came : Int) (vd : Value) (pre : List Int) : Prop :=
  ∃ tl' due' vd' nx, NodeAt wr P H b bR bM bT (N + pre.length) f R mk1 tl' due' came vd' ∧ MapB wr P 3 bX pre.length nx ∧ Scan R mk1 tl due pre tl' due' nx ∧ Keep (ndS b bM bT vd) w wr ∧ NwY w vd vd' ∧ due'.length ≤ due.length + pre.length ∧ w.heap.size ≤ bX
variable {wr w9 : World} {bX : Nat} {pre due' : List Int} {tl' nx : Int → Bool} {vd' vd9 : Value} {x : Int}
theorem LvSt.nextTell (h0 : NodeAt w P H b bR bM bT N f R mk tl due came vd) (hX : w.heap.size ≤ bX) {N1 : Nat} {mk1 : Int → Bool} (h2 : MapB wr P 3 bX pre.length nx) (h3 : Scan R mk1 tl due pre tl' due' nx) (h4 : Keep (ndS b bM bT vd) w wr) (h5 : NwY w vd vd') (h6 : due'.length ≤ due.length + pre.length)
    (h1 : wr.ownsRow H 3 1 vd' due'.length (due'.map (Value.int .i64))) (hx : R x = none) (k1 : NodeAt w9 P H b bR bM bT (N1 + pre.length + 1) f R mk1 (insB tl' x) (if tl' x = true then due' else due' ++ [x]) came vd9) (k2 : Keep (ndS b bM bT vd') wr w9) (k3 : NwY wr vd' vd9) : LvSt w w9 P H b bR bM bT bX N1 f R mk1 tl due came vd (pre ++ [x]) := by
  obtain ⟨l1, l2, l3, l4, _⟩ := h0.lts
  refine ⟨_, _, vd9, nx, by rw [List.length_append, List.length_singleton]; exact k1, ?_, h3.tell hx, h5.keep h4 k2, h5.trans h4.size k3, ?_, hX⟩
  · rw [List.length_append, List.length_singleton]
    refine MapF.mono (MapF.keep h2 k2 (fun hm => ?_)) (by omega)
    simp only [ndS, List.mem_cons, Option.mem_toList] at hm
    rcases hm with hm | hm | hm | hm
    · omega
    · omega
    · omega
    · obtain ⟨_, _, cs, hc⟩ := ownLt h1 _ hm
      exact h2.notCells hc rfl
  · rw [List.length_append, List.length_singleton]
    split
    · omega
    · rw [List.length_append, List.length_singleton]; omega
theorem LvSt.nextMkd {N1 : Nat} {mk1 : Int → Bool} (hX : w.heap.size ≤ bX) (h1 : NodeAt wr P H b bR bM bT (N1 + pre.length) f R mk1 tl' due' came vd') (h2 : MapB wr P 3 bX pre.length nx) (h3 : Scan R mk1 tl due pre tl' due' nx) (h4 : Keep (ndS b bM bT vd) w wr) (h5 : NwY w vd vd') (h6 : due'.length ≤ due.length + pre.length) (ho : (R x).isSome = true) (hm : mk1 x = true) : LvSt w wr P H b bR bM bT bX N1 f R mk1 tl due came vd (pre ++ [x]) := by
  refine ⟨_, _, vd', nx, h1.mono (by rw [List.length_append, List.length_singleton]; omega), MapF.mono h2 (by rw [List.length_append, List.length_singleton]; omega), h3.mkd ho hm, h4, h5, by rw [List.length_append, List.length_singleton]; omega, hX⟩
theorem LvSt.nextNew {N1 : Nat} {mk1 : Int → Bool} (h0 : NodeAt w P H b bR bM bT N f R mk tl due came vd) (hX : w.heap.size ≤ bX) (h1 : NodeAt wr P H b bR bM bT (N1 + pre.length) f R mk1 tl' due' came vd') (h2 : MapB wr P 3 bX pre.length nx) (h3 : Scan R mk1 tl due pre tl' due' nx) (h4 : Keep (ndS b bM bT vd) w wr) (h5 : NwY w vd vd') (h6 : due'.length ≤ due.length + pre.length) (ho : (R x).isSome = true) (hm : mk1 x = false) (k1 : MapB w9 P 3 bX (pre.length + 1) (insB nx x)) (k2 : Keep [bX] wr w9) : LvSt w w9 P H b bR bM bT bX N1 f R mk1 tl due came vd (pre ++ [x]) := by
  obtain ⟨l1, l2, l3, l4, _⟩ := h0.lts
  refine ⟨_, _, vd', _, (h1.keep k2 (fun hm => by have := List.mem_singleton.1 hm; omega) (fun g hg hm => ?_) (fun g hg _ cs fr hc => ?_)).mono (by rw [List.length_append, List.length_singleton]; omega), by rw [List.length_append, List.length_singleton]; exact k1, h3.new ho hm, h4.call k2 (fun g hg => .inr (by rw [List.mem_singleton.1 hg]; exact hX)), h5, by rw [List.length_append, List.length_singleton]; omega, hX⟩
  · have hgx := List.mem_singleton.1 hm
    subst hgx
    simp only [ndS, List.mem_cons, Option.mem_toList] at hg
    rcases hg with hg | hg | hg | hg
    · omega
    · omega
    · omega
    · obtain ⟨_, _, cs, hc⟩ := ownLt h1.rowD _ hg
      exact h2.notCells hc rfl
  · rw [List.mem_singleton.1 hg] at hc
    exact h2.notCells hc rfl
theorem node_apart {w0 : World} {S : List Nat} {r N0 : Nat} {mk0 tl0 : Int → Bool} {due0 : List Int} {vd0 : Value} (hH : H ≤ w0.heap.size) (h0 : NodeAt w0 P H b bR bM bT N0 f R mk0 tl0 due0 came vd0) (h : NodeAt w P H b bR bM bT N f R mk tl due came vd) (hv : ∀ g, vd.ownBlock = some g → g < r) (hk : Keep S w w') (hS : ∀ g ∈ S, w0.heap.size ≤ g ∧ r ≤ g) : NodeAt w' P H b bR bM bT N f R mk tl due came vd := by
  obtain ⟨l1, l2, l3, l4, l5⟩ := h0.lts
  refine h.keep hk (fun hm => by have := (hS _ hm).1; omega) (fun g hg hm => ?_) (fun g hg hlt cs fr hc => ?_)
  · have h1 := hS g hm
    simp only [ndS, List.mem_cons, Option.mem_toList] at hg
    rcases hg with hg | hg | hg | hg
    · omega
    · omega
    · omega
    · have := hv g hg; omega
  · have := (hS g hg).1; omega
end
end Go
namespace Go.Proofs.Ytmedldloilbmeaa
open Go.RowKit
set_option maxRecDepth 100000 in
set_option maxHeartbeats 8000000 in
theorem level46_any {w : World} {H b bR bM bT N n c : Nat} {f : Int → Option Value} {R : Int → Option (List Int)} {mk tl : Int → Bool} {due l : List Int} {came : Int} {vd : Value} {a : Option Addr} (h : NodeAt w Try.prog H b bR bM bT N f R mk tl due came vd) (hv : IntsV w a n c l) (hap : ∀ ad, a = some ad → ad.block ∉ ndS b bM bT vd) (hn : n ≤ 1000) (hN : N ≤ 500000000000000) (hd : due.length ≤ 1000000000) (hH : H ≤ w.heap.size) :
    Calls Try.prog 46 #[.pointer (some ⟨b, 0, none⟩), .slice a n c] w fun e w' => ∃ mk' tl' due' vd' out v, e = .returned v ∧ NodeAt w' Try.prog H b bR bM bT (N + 200000) f R mk' tl' due' came vd' ∧ LvTo R mk tl due l mk' tl' due' out ∧ w'.ownsRow w.heap.size 3 1 v out.length (out.map (Value.int .i64)) ∧ (∀ x ∈ out, (Lit.int .i64 x).wf = true) ∧ Keep (ndS b bM bT vd) w w' ∧ NwY w vd vd' ∧ due'.length ≤ due.length + 100000 ∧ ∀ g, vd'.ownBlock = some g → v.ownBlock ≠ some g := by
  have HL := Lib.hid hv.len
  have hrm := hv.room
  have hms := hv.most
  unfold maxLen at hms
  have HV := Lib.hid hv
  have H0 := Lib.hid h
  have HAP := Lib.hid hap
  have hmm := @run_makeMap Try.prog
  clear hv h hap
  go_enter Try.func46, Try.ntmps46
  go_wp2_with (first | (with_reducible refine Txt.wp_region_text mixed quiet (by decide +kernel) ?_) | (with_reducible refine Txt.text_done (by kernel_rfl) ?_))
  go_loopw [18] (fun j wr => ∃ i : Nat, i ≤ n ∧ j = .int .i64 i ∧ Hid (NodeAt wr Try.prog H b bR bM bT (N + i) f R (mkT mk l i) tl due came vd) ∧ Hid (Keep [bM] w wr)) (fun j _ => n - (intOf j).toNat)
  case atStart => exact ⟨0, by omega, rfl, Lib.hid (by rw [mkT_zero]; exact H0.out), Lib.hid (Keep.refl _ _)⟩
  case round =>
    obtain ⟨i, hi, rfl, HN1, HK1⟩ := hrel
    by_cases hlt : i < n
    · obtain ⟨x, hxi⟩ : ∃ x, l[i]? = some x := ⟨_, List.getElem?_eq_getElem (by have := HL.out; omega)⟩
      obtain ⟨b1, off, hab, hc⟩ := (HV.out.keep HK1.out (fun ad ha hm => HAP.out ad ha (by simp only [List.mem_singleton] at hm; simp [ndS, hm]))).cells (by omega)
      have hcx := hc i hlt
      have hgx : l.getD i 0 = x := by rw [List.getD_eq_getElem?_getD, hxi]; rfl
      rw [hgx] at hcx
      have HX : Hid ((Lit.int .i64 x).wf = true) := Lib.hid (HV.out.wf x (List.mem_of_getElem? hxi))
      have HXI := Lib.hid hxi
      obtain ⟨c0, c1, c2, c3, c4, hz⟩ := row5Y HN1.out.blk
      subst hab
      clear hc hgx hxi
      go_wp2_with (first | (with_reducible refine Txt.wp_region_text mixed quiet (by decide +kernel) ?_) | (with_reducible refine Txt.text_done (by kernel_rfl) ?_) | (at_mapUpdate; refine wpList_update_b _ rfl _ _ _ 71 rfl 3 4 Try.underlying71 Try.underlying3 bM (N + i) _ rfl HN1.out.mm (by unfold maxLen; omega) x rfl rfl HX.out ?_; intro w1 hm1 hk1; have HN2 := Lib.hid (HN1.out.marked hm1 hk1); have HK2 := Lib.hid (HK1.out.trans hk1); clear hm1 hk1))
      exact ⟨⟨i + 1, hlt, by go_num, Lib.hid (by have h9 := HN2.out; rw [mkT_step mk l i x HXI.out] at h9; exact h9), HK2⟩, by simp [intOf]; omega⟩
    · obtain rfl : i = n := by omega
      have hmk1 : ∃ mk1, mkT mk l i = mk1 ∧ ∀ x, mk1 x = (mk x || decide (x ∈ l)) := ⟨_, rfl, fun x => by rw [← HL.out]; exact mkT_all mk l x⟩
      obtain ⟨mk1, hm1, hm2⟩ := hmk1
      rw [hm1] at HN1
      have HMK := Lib.hid hm2
      clear hm1 hm2
      go_wp2_with (first | (with_reducible refine Txt.wp_region_text mixed quiet (by decide +kernel) ?_) | (with_reducible refine Txt.text_done (by kernel_rfl) ?_))
      obtain ⟨N1, hN1⟩ : ∃ N1, N + i = N1 := ⟨_, rfl⟩
      rw [hN1] at HN1
      have hN1b : N1 ≤ N + 1000 := by omega
      have HXB : Hid (w.heap.size ≤ wr.heap.size) := Lib.hid HK1.out.size
      have HST : Hid (LvSt w (wr.alloc (.map #[] 0)) Try.prog H b bR bM bT wr.heap.size N1 f R mk1 tl due came vd []) := Lib.hid ⟨tl, due, vd, _, HN1.out.keep0 ((Keep.refl [] wr).alloc _), MapB.made wr Try.prog 3, Scan.start R mk1 tl due, (HK1.out.alloc _).more (fun g hg => by rw [List.mem_singleton.1 hg]; simp [ndS]), NwY.refl _ _, by simp, HK1.out.size⟩
      obtain ⟨bX, hbX⟩ : ∃ bX, wr.heap.size = bX := ⟨_, rfl⟩
      rw [hbX] at HST HXB ⊢
      have HTL : Hid (∀ k, (tosL R (l.take k)).length ≤ 100 * k) := Lib.hid (fun k => Nat.le_trans (tosL_len HN1.out.rf.small _) (by rw [List.length_take]; omega))
      have HSM : Hid (∀ r, ((R r).getD []).length ≤ 100) := Lib.hid (fun r => (HN1.out.rf.val r).choose_spec.choose_spec.2)
      clear HN1 hbX hN1 HK1
      go_loopw [31] (fun j wr => ∃ k : Nat, k ≤ i ∧ j = .int .i64 k ∧ Hid (LvSt w wr Try.prog H b bR bM bT bX N1 f R mk1 tl due came vd (tosL R (l.take k)))) (fun j _ => i - (intOf j).toNat)
      case atStart => exact ⟨0, by omega, rfl, HST⟩
      case round =>
        obtain ⟨k, hk, rfl, HS2⟩ := hrel
        by_cases hlt2 : k < i
        · obtain ⟨r, hrk⟩ : ∃ r, l[k]? = some r := ⟨_, List.getElem?_eq_getElem (by have := HL.out; omega)⟩
          obtain ⟨tl2, due2, vd2, nx2, hN2, hX2, hS2, hK2, hW2, hD2, _⟩ := HS2.out
          obtain ⟨b1, off, hab, hc⟩ := (HV.out.keep hK2 (fun ad ha hm => HAP.out ad ha hm)).cells (by omega)
          have hcr := hc k hlt2
          have hgr : l.getD k 0 = r := by rw [List.getD_eq_getElem?_getD, hrk]; rfl
          rw [hgr] at hcr
          obtain ⟨a4, c4', hval, hxs100⟩ := hN2.rf.val r
          have HRW := Lib.hid (HV.out.wf r (List.mem_of_getElem? hrk))
          have HRK := Lib.hid hrk
          obtain ⟨c0, c1, c2, c3, c4, hz⟩ := row5Y hN2.blk
          have HMR := Lib.hid hN2.mr
          have hdec2 : decide ((k : Int) < (i : Int)) = true := by simp; omega
          obtain ⟨xs, hxs⟩ : ∃ xs, (R r).getD [] = xs := ⟨_, rfl⟩
          rw [hxs] at hval hxs100
          obtain ⟨m, hm⟩ : ∃ m, xs.length = m := ⟨_, rfl⟩
          rw [hm] at hval hxs100
          have HVAL := Lib.hid hval
          have HXS := Lib.hid hxs
          have HM := Lib.hid hm
          subst hab
          clear hc hgr hrk hN2 hX2 hS2 hK2 hW2 hD2 hval hxs hm
          go_wp2_with (first | (with_reducible refine Txt.wp_region_text mixed quiet (by decide +kernel) ?_) | (with_reducible refine Txt.text_done (by kernel_rfl) ?_) | (at_lookup; refine wpList_lookup_f _ rfl _ _ 70 rfl 3 22 Try.underlying70 Try.underlying3 _ (zero22 _) bR _ f rfl HMR.out r rfl HRW.out ?_; rw [HVAL.out]))
          have hpl : (tosL R (l.take k)).length ≤ 100 * k := HTL.out k
          go_loopw [42] (fun j wr => ∃ jn : Nat, jn ≤ m ∧ j = .int .i64 jn ∧ Hid (LvSt w wr Try.prog H b bR bM bT bX N1 f R mk1 tl due came vd (tosL R (l.take k) ++ xs.take jn))) (fun j _ => m - (intOf j).toNat)
          case atStart => exact ⟨0, by omega, rfl, Lib.hid (by simpa using HS2.out)⟩
          case round =>
            obtain ⟨jn, hj, rfl, HS3⟩ := hrel
            by_cases hlt3 : jn < m
            · obtain ⟨x, hxj⟩ : ∃ x, xs[jn]? = some x := ⟨_, List.getElem?_eq_getElem (by have := HM.out; omega)⟩
              have HPX : Hid ((tosL R (l.take k) ++ xs.take jn) ++ [x] = tosL R (l.take k) ++ xs.take (jn + 1)) := Lib.hid (by rw [take_snoc xs jn x hxj, List.append_assoc])
              obtain ⟨pre, hpre⟩ : ∃ pre, tosL R (l.take k) ++ xs.take jn = pre := ⟨_, rfl⟩
              rw [hpre] at HS3 HPX
              obtain ⟨M, hM⟩ : ∃ M, pre.length = M := ⟨_, rfl⟩
              have hM2 : M ≤ 100100 := by rw [← hM, ← hpre, List.length_append, List.length_take]; omega
              obtain ⟨tl3, due3, vd3, nx3, hN3, hX3, hS3, hK3, hW3, hD3, _⟩ := HS3.out
              have hrow := hN3.rf.row HXS.out (by rw [HM.out]; exact HVAL.out)
              obtain ⟨b4, off4, hab4, hc4⟩ := hrow.cells (by rw [HM.out]; omega)
              have hcx := hc4 jn (by rw [HM.out]; omega)
              have hgx : xs.getD jn 0 = x := by rw [List.getD_eq_getElem?_getD, hxj]; rfl
              rw [hgx] at hcx
              have HXW := Lib.hid (hrow.wf x (List.mem_of_getElem? hxj))
              obtain ⟨d0, d1, d2, d3, d4, hz3⟩ := row5Y hN3.blk
              have HN3 := Lib.hid hN3
              have HX3 := Lib.hid hX3
              have HS4 := Lib.hid hS3
              have HK3 := Lib.hid hK3
              have HW3 := Lib.hid hW3
              have HD3 := Lib.hid hD3
              have HMM := Lib.hid hM
              have hH3 : H ≤ wr.heap.size := Nat.le_trans hH hK3.size
              have hso := hN3.rf.some_ x
              subst hab4
              clear hrow hc4 hgx hxj hN3 hX3 hS3 hK3 hW3 hD3 HS3 hpre hM
              by_cases hR : (R x).isSome = true
              · rw [hR] at hso
                have HSO := Lib.hid hso
                have HR := Lib.hid hR
                clear hso hR
                by_cases hmk : mk1 x = true
                · have HMX := Lib.hid hmk
                  clear hmk
                  go_wp2_with (first | (with_reducible refine Txt.wp_region_text mixed quiet (by decide +kernel) ?_) | (with_reducible refine Txt.text_done (by kernel_rfl) ?_) | (at_lookup; refine wpList_lookup_f2 _ rfl _ _ 70 rfl 3 22 Try.underlying70 Try.underlying3 _ (zero22 _) bR _ f rfl HN3.out.mr x rfl HXW.out ?_; rw [HSO.out]) | (at_lookup; refine wpList_lookup_b _ rfl _ _ 71 rfl 3 4 Try.underlying71 Try.underlying3 (zero4 _) bM _ _ rfl HN3.out.mm x rfl HXW.out ?_; rw [HMX.out]))
                  exact ⟨⟨jn + 1, hlt3, by go_num, Lib.hid (by rw [← HPX.out]; exact LvSt.nextMkd HXB.out HN3.out HX3.out HS4.out HK3.out HW3.out HD3.out HR.out HMX.out)⟩, by simp [intOf]; omega⟩
                · have HMX : Hid (mk1 x = false) := Lib.hid (by simpa using hmk)
                  clear hmk
                  go_wp2_with (first | (with_reducible refine Txt.wp_region_text mixed quiet (by decide +kernel) ?_) | (with_reducible refine Txt.text_done (by kernel_rfl) ?_) | (at_lookup; refine wpList_lookup_f2 _ rfl _ _ 70 rfl 3 22 Try.underlying70 Try.underlying3 _ (zero22 _) bR _ f rfl HN3.out.mr x rfl HXW.out ?_; rw [HSO.out]) | (at_lookup; refine wpList_lookup_b _ rfl _ _ 71 rfl 3 4 Try.underlying71 Try.underlying3 (zero4 _) bM _ _ rfl HN3.out.mm x rfl HXW.out ?_; rw [HMX.out]) | (at_mapUpdate; refine wpList_update_b _ rfl _ _ _ 71 rfl 3 4 Try.underlying71 Try.underlying3 bX pre.length _ rfl HX3.out (by unfold maxLen; rw [HMM.out]; omega) x rfl rfl HXW.out ?_; intro w1 hm1 hk1; have HM1 := Lib.hid hm1; have HK1 := Lib.hid hk1; clear hm1 hk1))
                  exact ⟨⟨jn + 1, hlt3, by go_num, Lib.hid (by rw [← HPX.out]; exact LvSt.nextNew H0.out HXB.out HN3.out HX3.out HS4.out HK3.out HW3.out HD3.out HR.out HMX.out HM1.out HK1.out)⟩, by simp [intOf]; omega⟩
              · have HRN : Hid (R x = none) := Lib.hid (by simpa using hR)
                have HSO : Hid ((f x).isSome = false) := Lib.hid (by rw [hso]; simpa using hR)
                clear hso hR
                go_wp2_with (first | (with_reducible refine Txt.wp_region_text mixed quiet (by decide +kernel) ?_) | (with_reducible refine Txt.text_done (by kernel_rfl) ?_) | (at_lookup; refine wpList_lookup_f2 _ rfl _ _ 70 rfl 3 22 Try.underlying70 Try.underlying3 _ (zero22 _) bR _ f rfl HN3.out.mr x rfl HXW.out ?_; rw [HSO.out]) | (go_at_call 59; (with_reducible refine (tell59_any HN3.out HXW.out (by rw [HMM.out]; omega) (by have := HD3.out; have := HMM.out; omega) hH3).mono ?_); rintro e9 w9 ⟨vd9, rfl, hn9, hk9, hw9⟩; have HN9 := Lib.hid hn9; have HK9 := Lib.hid hk9; have HW9 := Lib.hid hw9; clear hn9 hk9 hw9))
                exact ⟨⟨jn + 1, hlt3, by go_num, Lib.hid (by rw [← HPX.out]; exact LvSt.nextTell H0.out HXB.out HX3.out HS4.out HK3.out HW3.out HD3.out HN3.out.rowD HRN.out HN9.out HK9.out HW9.out)⟩, by simp [intOf]; omega⟩
            · obtain rfl : jn = m := by omega
              go_wp2_with (first | (with_reducible refine Txt.wp_region_text mixed quiet (by decide +kernel) ?_) | (with_reducible refine Txt.text_done (by kernel_rfl) ?_))
              exact ⟨⟨k + 1, hlt2, by go_num, Lib.hid (by rw [take_snoc l k r HRK.out, tosL_snoc, HXS.out]; have h9 := HS3.out; rw [show xs.take jn = xs from List.take_of_length_le (by rw [HM.out]; exact Nat.le_refl _)] at h9; exact h9)⟩, by simp [intOf]; omega⟩
        · obtain rfl : k = i := by omega
          have HTK : l.take k = l := List.take_of_length_le (by rw [HL.out]; exact Nat.le_refl _)
          have hpl : (tosL R (l.take k)).length ≤ 100 * k := HTL.out k
          obtain ⟨tl5, due5, vd5, nx5, hN5, hX5, hS5, hK5, hW5, hD5, _⟩ := HS2.out
          rw [HTK] at hN5 hX5 hS5 hD5 hpl
          obtain ⟨M, hM⟩ : ∃ M, (tosL R l).length = M := ⟨_, rfl⟩
          rw [hM] at hN5 hX5 hD5 hpl
          have HN5 := Lib.hid hN5
          have HX5 := Lib.hid hX5
          have HS5 := Lib.hid hS5
          have HK5 := Lib.hid hK5
          have HW5 := Lib.hid hW5
          obtain ⟨i3, hi3, hy0, hy1, hy2⟩ := infoY info3
          clear hN5 hX5 hS5 hK5 hW5 HS2 HTK HST hM
          go_wp2_with (first | (with_reducible refine Txt.wp_region_text mixed quiet (by decide +kernel) ?_) | (with_reducible refine Txt.text_done (by kernel_rfl) ?_) | (at_range; refine wpList_range_f _ rfl _ 71 rfl 3 4 Try.underlying71 Try.underlying3 bX _ _ rfl HX5.out ?_; intro w6 cnt6 hr6 hk6 hs6; have HR6 := Lib.hid hr6; have HK6 := Lib.hid hk6; clear hr6 hk6 hs6))
          go_frame
          have HRS : Hid (w.heap.size ≤ wr.heap.size) := Lib.hid HK5.out.size
          have HVR : Hid (∀ g, vd5.ownBlock = some g → g < wr.heap.size) := Lib.hid (fun g hg => (HN5.out.lts.2.2.2.2 g hg).2)
          obtain ⟨r6, hr6⟩ : ∃ r6, wr.heap.size = r6 := ⟨_, rfl⟩
          rw [hr6] at HR6 HRS HVR ⊢
          have HN6 := Lib.hid (HN5.out.keep0 HK6.out)
          have HK6' : Hid (Keep (ndS b bM bT vd) w w6) := Lib.hid (HK5.out.trans (HK6.out.more (by simp)))
          have HC6 := Lib.hid HR6.out.cnt_le
          clear HN5 HK5 HK6 hr6
          go_loopw [14] (fun v wr => ∃ (ss : List Int) (cnt : Nat) (av : Option Addr) (cv : Nat), v = .slice av ss.length cv ∧ Hid (MapR wr Try.prog 3 bX r6 M (setV nx5) ss cnt) ∧ Hid (wr.ownsRow r6 3 1 (.slice av ss.length cv) ss.length (ss.map (Value.int .i64))) ∧ Hid (NodeAt wr Try.prog H b bR bM bT (N1 + M) f R mk1 tl5 due5 came vd5) ∧ Hid (Keep (ndS b bM bT vd) w wr) ∧ Hid (ss.length + cnt ≤ M) ∧ ss.length ≤ cv ∧ cv ≤ 2 ^ 63 - 1) (fun _ wr => wr.rangeLeft bX r6)
          case atStart => exact ⟨[], cnt6, none, 0, rfl, HR6, Lib.hid (World.ownsRow_nil _ _ _ _), HN6, HK6', Lib.hid (by simpa using HC6.out), Nat.le_refl _, by omega⟩
          case round =>
            obtain ⟨ss, cnt, av, cv, rfl, HR7, HO7, HN7, HK7, HL7, hcv1, hcv2⟩ := hrel
            clear HR6 HN6 HK6' HC6
            go_wp2_with (first | (at_next; refine wpList_next_f _ rfl _ rfl 3 Try.underlying3 bX r6 M _ ss cnt rfl HR7.out ?_ ?_))
            · intro hdone
              have HDN := Lib.hid hdone
              clear hdone
              go_wp2_with (first | (with_reducible refine Txt.wp_region_text mixed quiet (by decide +kernel) ?_) | (with_reducible refine Txt.text_done (by kernel_rfl) ?_) | (go_at_call 16; (with_reducible refine (sort16_any HO7.out (by have := HL7.out; omega)).mono ?_); rintro e9 w9 ⟨rfl, ho9, hk9⟩; have HO9 := Lib.hid ho9; have HK9 := Lib.hid hk9; clear ho9 hk9))
              go_ret
              have hl : (sortI ss).length = ss.length := sortI_len ss
              refine ⟨mk1, tl5, due5, vd5, sortI ss, _, rfl, (node_apart hH H0.out HN7.out HVR.out HK9.out (fun g hg => by have := (ownLt HO7.out g (by simpa using hg)).1; exact ⟨by have := HRS.out; omega, this⟩)).mono (by omega), HS5.out.level HMK.out ((sortI_perm ss).nodup_iff.2 HR7.out.nodup) (sortI_sorted ss) (fun x => by rw [(sortI_perm ss).mem_iff, HDN.out, setV_some]), by rw [hl]; exact ownBaseY HO9.out HRS.out, fun x hx => HR7.out.wf x ((sortI_perm ss).mem_iff.1 hx), HK7.out.call HK9.out (fun g hg => .inr (by have := (ownLt HO7.out g (by simpa using hg)).1; have := HRS.out; omega)), HW5.out, by omega, fun g hg he => (by have := HVR.out g hg; have := (ownLt HO7.out g he).1; omega)⟩
            · intro x v w8 cnt8 hfx hns hxw hr8 hlt8 hk8 hs8 hen
              have HR8 := Lib.hid hr8
              have HK8 := Lib.hid hk8
              have HLT := Lib.hid hlt8
              have hO8 := own_keep HO7.out hk8 (fun g hg hm => by obtain ⟨_, _, cs, hc⟩ := ownLt HO7.out g hg; exact (HR7.out.notCells hc).1 (List.mem_singleton.1 hm).symm)
              have HO8 := Lib.hid hO8
              have HXW := Lib.hid hxw
              have HB8 : Hid (w.heap.size ≤ w8.heap.size) := Lib.hid (Nat.le_trans HK7.out.size hk8.size)
              obtain ⟨m7, hm7⟩ : ∃ m, ss.length = m := ⟨_, rfl⟩
              have HM7 := Lib.hid hm7
              have hm7b : m7 ≤ 100000 := by have := HL7.out; omega
              rw [hm7] at HO8 hcv1 ⊢
              clear hfx hns hxw hr8 hlt8 hk8 hs8 hO8 hm7
              go_wp2_with (first | (with_reducible refine Txt.wp_region_text mixed quiet (by decide +kernel) ?_) | (with_reducible refine Txt.text_done (by kernel_rfl) ?_) | (at_builtin; refine wpList_append_lies _ rfl _ _ 22 rfl r6 3 i3 (.int .i64 0) 1 8 Try.underlying22 hi3 hy0 hy1 hy2 rfl (by decide) (.slice av m7 cv) m7 (ss.map (Value.int .i64)) rfl (own_keep HO8.out ((Keep.refl [] w8).alloc _) (by simp)) ⟨w8.heap.size, 0, none⟩ 1 1 [.int .i64 x] rfl rfl (cells_new w8 [.int .i64 x] 3 (0, 0)) (by intro u hu; rw [List.mem_singleton.1 hu]; rfl) (by decide) (by unfold maxLen; omega) (by omega) (by have := HR8.out.lt; simp; omega) _ rfl ?_; intro g9 c9 w9 hown9 hgr9 hat9 hlt9; have hk9 : Keep (Value.slice av m7 cv).ownBlock.toList (w8.alloc (.cells #[.int .i64 x] 3)) w9 := Keep.ofGrown hgr9 (fun x hx => by simp [hx]); have HK9 := Lib.hid hk9; have HO9 := Lib.hid hown9; clear hown9 hgr9 hat9 hk9))
              have hr9 := (HR8.out.keep ((Keep.refl [] w8).alloc (.cells #[.int .i64 x] 3)) (by simp) (by simp)).keep HK9.out (fun hm => by obtain ⟨_, _, cs, hc⟩ := ownLt HO8.out bX (by simpa using hm); exact (HR8.out.notCells hc).2 rfl) (fun hm => by obtain ⟨_, _, cs, hc⟩ := ownLt HO8.out r6 (by simpa using hm); exact (HR8.out.notCells hc).1 rfl)
              have hn9 := ((node_apart hH H0.out HN7.out HVR.out HK8.out (fun g hg => by rw [List.mem_singleton.1 hg]; exact ⟨HRS.out, Nat.le_refl _⟩)).keep0 ((Keep.refl [] w8).alloc (.cells #[.int .i64 x] 3)))
              have hn10 := node_apart hH H0.out hn9 HVR.out HK9.out (fun g hg => by have := (ownLt HO8.out g (by simpa using hg)).1; exact ⟨by have := HRS.out; omega, this⟩)
              have hk10 : Keep (ndS b bM bT vd) w w9 := ((HK7.out.call HK8.out (fun g hg => .inr (by rw [List.mem_singleton.1 hg]; exact HRS.out))).alloc _).call HK9.out (fun g hg => .inr (by have := (ownLt HO8.out g (by simpa using hg)).1; have := HRS.out; omega))
              have hl10 : (ss ++ [x]).length = m7 + 1 := by rw [List.length_append, List.length_singleton, HM7.out]
              obtain ⟨a9, c9', he9, hc91, hc92, _⟩ := ownSlice HO9.out
              have hcc : c9 = c9' := by injection he9
              subst hcc
              refine ⟨⟨ss ++ [x], cnt8, some ⟨g9, 0, none⟩, c9, by rw [hl10], Lib.hid hr9, Lib.hid (by rw [hl10, List.map_append]; exact HO9.out), Lib.hid hn10, Lib.hid hk10, Lib.hid (by have := HL7.out; have := HLT.out; rw [hl10]; have := HM7.out; omega), by rw [hl10]; exact hc91, by unfold maxLen at hc92; exact hc92⟩, ?_⟩
              rw [hr9.left_eq, HR7.out.left_eq]
              exact HLT.out
end Go.Proofs.Ytmedldloilbmeaa
/- Marking: check and start. -/
namespace Go
open Go.RowKit
def refsR (l : List Kn) (x : Int) : Option (List Int) := (l.reverse.find? (fun k => decide (k.ref = x))).map Kn.refs
def firsts (l : List Kn) : List Int := (l.filter (fun k => k.root || k.awake)).map Kn.ref
theorem refsR_snoc (l : List Kn) (k : Kn) : refsR (l ++ [k]) = fun x => if x = k.ref then some k.refs else refsR l x := by
  funext x
  unfold refsR
  rw [List.reverse_append, List.reverse_singleton, List.singleton_append, List.find?_cons]
  by_cases h : x = k.ref
  · rw [if_pos h, show decide (k.ref = x) = true from decide_eq_true h.symm]; rfl
  · rw [if_neg h, show decide (k.ref = x) = false from decide_eq_false (fun e => h e.symm)]
theorem refsR_nil : refsR [] = fun _ => none := rfl
theorem refsR_some {l : List Kn} {x : Int} : (refsR l x).isSome = true ↔ ∃ k ∈ l, k.ref = x := by
  unfold refsR
  rw [Option.isSome_map, List.find?_isSome]
  simp
theorem refsR_of {l : List Kn} (hn : (l.map Kn.ref).Nodup) {k : Kn} (hk : k ∈ l) : refsR l k.ref = some k.refs := by
  unfold refsR
  cases h : l.reverse.find? (fun y => decide (y.ref = k.ref)) with
  | none =>
    have := List.find?_eq_none.1 h k (List.mem_reverse.2 hk)
    simp at this
  | some y =>
    have h1 := List.find?_some h
    have h2 := List.mem_reverse.1 (List.mem_of_find?_eq_some h)
    have he : y.ref = k.ref := by simpa using h1
    obtain ⟨i, hi, rfl⟩ := List.getElem_of_mem hk
    obtain ⟨j, hj, rfl⟩ := List.getElem_of_mem h2
    have := (List.nodup_iff_pairwise_ne.1 hn)
    have hij : j = i := by
      have hne := List.pairwise_iff_getElem.1 this
      rcases Nat.lt_trichotomy i j with hlt | rfl | hlt
      · exact absurd (by rw [List.getElem_map, List.getElem_map]; exact he.symm) (hne i j (by simpa using hi) (by simpa using hj) hlt)
      · rfl
      · exact absurd (by rw [List.getElem_map, List.getElem_map]; exact he) (hne j i (by simpa using hj) (by simpa using hi) hlt)
    subst hij; rfl
theorem firsts_snoc (l : List Kn) (k : Kn) : firsts (l ++ [k]) = firsts l ++ (if (k.root || k.awake) = true then [k.ref] else []) := by
  unfold firsts
  rw [List.filter_append, List.map_append]
  congr 1
  cases h : (k.root || k.awake) <;> simp [h]
theorem firsts_mem {l : List Kn} {x : Int} : x ∈ firsts l ↔ ∃ k ∈ l, k.ref = x ∧ (k.root = true ∨ k.awake = true) := by
  unfold firsts
  rw [List.mem_map]
  constructor
  · rintro ⟨k, hk, rfl⟩
    have := List.mem_filter.1 hk
    exact ⟨k, this.1, rfl, by simpa using this.2⟩
  · rintro ⟨k, hk, rfl, h⟩
    exact ⟨k, List.mem_filter.2 ⟨hk, by simpa using h⟩, rfl⟩
theorem firsts_len (l : List Kn) : (firsts l).length ≤ l.length := by
  unfold firsts
  rw [List.length_map]
  exact List.length_filter_le _ _
theorem firsts_nodup {l : List Kn} (h : (l.map Kn.ref).Nodup) : (firsts l).Nodup := by
  unfold firsts
  have : ((l.filter (fun k => k.root || k.awake)).map Kn.ref).Sublist (l.map Kn.ref) := List.Sublist.map _ List.filter_sublist
  exact this.nodup h
/-- The rows of the actors lie apart from a row under way. -/
def ApartF (f : Int → Option Value) (v : Value) : Prop := ∀ x a n c ad, f x = some (.slice a n c) → a = some ad → v.ownBlock ≠ some ad.block
theorem RefsOk.keepA {S : List Nat} {w w' : World} {H : Nat} {f : Int → Option Value} {R : Int → Option (List Int)} {v : Value} (h : RefsOk w H f R) (hk : Keep S w w') (ha : ApartF f v) (hS : ∀ g ∈ S, v.ownBlock = some g ∨ ∀ cs fr, w.heap[g]? ≠ some (.cells cs 3 fr)) : RefsOk w' H f R := fun x => by
  rcases h x with h1 | ⟨xs, a, c, h1, h2, h3, h4, h5⟩
  · exact .inl h1
  · have hn : ∀ ad, a = some ad → ad.block ∉ S := fun ad he hm => by
      obtain ⟨_, cs, hc⟩ := h5 ad he
      rcases hS _ hm with h6 | h6
      · exact ha x a xs.length c ad h2 he h6
      · exact h6 cs _ hc
    exact .inr ⟨xs, a, c, h1, h2, h3.keep hk hn, h4, fun ad he => by obtain ⟨hlt, cs, hc⟩ := h5 ad he; exact ⟨hlt, cs, hk.at hc (hn ad he)⟩⟩
theorem RefsOk.grow {w : World} {H H' : Nat} {f : Int → Option Value} {R : Int → Option (List Int)} (h : RefsOk w H f R) (hH : H ≤ H') : RefsOk w H' f R := fun x => by
  rcases h x with h1 | ⟨xs, a, c, h1, h2, h3, h4, h5⟩
  · exact .inl h1
  · exact .inr ⟨xs, a, c, h1, h2, h3, h4, fun ad he => ⟨Nat.lt_of_lt_of_le (h5 ad he).1 hH, (h5 ad he).2⟩⟩
theorem RefsOk.put {w : World} {H c : Nat} {f : Int → Option Value} {R : Int → Option (List Int)} {a : Option Addr} {xs : List Int} {y : Int} (h : RefsOk w H f R) (hv : IntsV w a xs.length c xs) (hl : xs.length ≤ 100) (hb : ∀ ad, a = some ad → ad.block < H ∧ ∃ cs, w.heap[ad.block]? = some (.cells cs 3 (0, 0))) :
    RefsOk w H (fun x => if x = y then some (.slice a xs.length c) else f x) (fun x => if x = y then some xs else R x) := fun x => by
  by_cases hx : x = y
  · right
    exact ⟨xs, a, c, if_pos hx, if_pos hx, hv, hl, hb⟩
  · simp only [if_neg hx]
    exact h x
end Go
namespace Go.Proofs.Ytmedldloilbmeaa
open Go.RowKit
set_option maxRecDepth 100000 in
set_option maxHeartbeats 2000000 in
theorem check44_ok {w : World} {a : Option Addr} {n c : Nat} {l : List Kn} (hv : KnsV w a n c l) (hn : n ≤ 400) (hd : (l.map Kn.ref).Nodup) :
    Calls Try.prog 44 #[.slice a n c] w fun e w' => e = .returned (.int .i64 0) ∧ Keep [] w w' := by
  have HL := Lib.hid hv.len
  have hrm := hv.room
  have hms := hv.most
  unfold maxLen at hms
  have HV := Lib.hid hv
  have HD := Lib.hid hd
  have hmm := @run_makeMap Try.prog
  clear hv hd
  go_enter Try.func44, Try.ntmps44
  go_wp2_with (first | (with_reducible refine Txt.wp_region_text mixed quiet (by decide +kernel) ?_) | (with_reducible refine Txt.text_done (by kernel_rfl) ?_))
  have HB0 : Hid (MapB (w.alloc (.map #[] 0)) Try.prog 3 w.heap.size 0 (fun _ => false)) := Lib.hid (MapB.made w Try.prog 3)
  obtain ⟨bS, hbS⟩ : ∃ x, w.heap.size = x := ⟨_, rfl⟩
  have HBS : Hid (w.heap.size ≤ bS) := Lib.hid (by omega)
  rw [hbS] at HB0 ⊢
  clear hbS
  go_loopw [12] (fun j wr => ∃ i : Nat, i ≤ n ∧ j = .int .i64 i ∧ Hid (Keep [] w wr) ∧ Hid (MapB wr Try.prog 3 bS i (fun x => decide (x ∈ (l.take i).map Kn.ref)))) (fun j _ => n - (intOf j).toNat)
  case atStart => exact ⟨0, by omega, rfl, Lib.hid ((Keep.refl _ _).alloc _), Lib.hid (by simpa using HB0.out)⟩
  case round =>
    obtain ⟨i, hi, rfl, HK, HB⟩ := hrel
    by_cases hlt : i < n
    · obtain ⟨x, hxi⟩ : ∃ x, l[i]? = some x := ⟨_, List.getElem?_eq_getElem (by have := HL.out; omega)⟩
      obtain ⟨b1, off, hab, c0, c1, c2, c3⟩ := (HV.out.keep0 HK.out).at_ hxi
      have HXW : Hid ((Lit.int .i64 x.ref).wf = true) := Lib.hid (HV.out.rows x (List.mem_of_getElem? hxi)).2.1
      have hnot : decide (x.ref ∈ (l.take i).map Kn.ref) = false := by
        refine decide_eq_false fun hm => ?_
        have h9 := HD.out
        have h8 : l = l.take i ++ x :: l.drop (i + 1) := by
          have h7 := List.take_append_drop i l
          rw [List.drop_eq_getElem_cons (by have := HL.out; omega)] at h7
          rw [← (List.getElem?_eq_some_iff.1 hxi).2]
          exact h7.symm
        rw [h8, List.map_append, List.nodup_append] at h9
        exact h9.2.2 x.ref hm x.ref (by simp) rfl
      have HNOT := Lib.hid hnot
      have HXI := Lib.hid hxi
      have HBA : Hid (∀ o, MapB (wr.alloc o) Try.prog 3 bS i (fun x => decide (x ∈ (l.take i).map Kn.ref))) := Lib.hid (fun o => MapF.keep HB.out ((Keep.refl [] wr).alloc o) (by simp))
      subst hab
      clear hxi hnot
      go_wp2_with (first | (with_reducible refine Txt.wp_region_text mixed quiet (by decide +kernel) ?_) | (with_reducible refine Txt.text_done (by kernel_rfl) ?_) | (at_lookup; refine wpList_lookup_b _ rfl _ _ 71 rfl 3 4 Try.underlying71 Try.underlying3 (zero4 _) bS i _ rfl (HBA.out _) x.ref rfl HXW.out ?_; rw [HNOT.out]) | (at_mapUpdate; refine wpList_update_b _ rfl _ _ _ 71 rfl 3 4 Try.underlying71 Try.underlying3 bS i _ rfl (HBA.out _) (by unfold maxLen; omega) x.ref rfl rfl HXW.out ?_; intro w1 hm1 hk1; have HM1 := Lib.hid hm1; have HK1 := Lib.hid hk1; clear hm1 hk1))
      refine ⟨⟨i + 1, hlt, by go_num, Lib.hid ((HK.out.alloc _).call HK1.out (fun g hg => .inr (by rw [List.mem_singleton.1 hg]; exact HBS.out))), Lib.hid ?_⟩, by simp [intOf]; omega⟩
      have h9 := HM1.out
      have h8 : insB (fun y => decide (y ∈ (l.take i).map Kn.ref)) x.ref = fun y => decide (y ∈ (l.take (i + 1)).map Kn.ref) := by
        funext y
        unfold insB
        rw [take_snoc l i x HXI.out, List.map_append]
        show _ = decide (y ∈ _ ++ [x.ref])
        rw [dec_snoc, Bool.or_comm]
      rw [h8] at h9
      exact h9
    · obtain rfl : i = n := by omega
      go_wp2_with (first | (with_reducible refine Txt.wp_region_text mixed quiet (by decide +kernel) ?_) | (with_reducible refine Txt.text_done (by kernel_rfl) ?_))
      go_ret
      exact ⟨rfl, HK.out⟩
end Go.Proofs.Ytmedldloilbmeaa
