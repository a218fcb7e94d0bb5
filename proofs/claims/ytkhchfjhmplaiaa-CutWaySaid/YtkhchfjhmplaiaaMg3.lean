/- Texts laid together: CWS HP1 R6 HP2 HP3 HP4 HP5 HP6 HP9. -/
import Derived.Test.YtkhchfjhmplaiaaMg2
import Derived.Shelf.Sort.Plain
import Derived.Shelf.Slices.In.SortNone
import Derived.Sort.OwnSortedInts
import Derived.Shelf.SlicesE.DeleteFunc
/- The contract of slices.Sort at this program. -/
namespace Go.Proofs
open Go.Shelf
def Try.lays189_ren : Go.Shelf.Ren := ⟨fun | 189 => 56 | 125 => 80 | 257 => 79 | 128 => 93 | 129 => 94 | 294 => 84 | 295 => 85 | 296 => 86 | 297 => 87 | 298 => 88 | 299 => 89 | 216 => 90 | 300 => 91 | 301 => 92 | 328 => 96 | 329 => 97 | 330 => 98 | 331 => 99 | 332 => 100 | 215 => 101 | 343 => 103 | n => n, fun | 28 => 22 | 3 => 3 | 46 => 108 | 0 => 0 | 51 => 126 | 53 => 81 | 4 => 4 | 183 => 119 | 182 => 118 | 131 => 123 | 5 => 5 | 9 => 9 | 218 => 129 | 222 => 132 | 228 => 134 | 229 => 135 | n => n, fun | n => n⟩
theorem Try.lays189 : Go.Proofs.Lays.n189 Try.prog Try.lays189_ren := {
  mixed := by kernel_rfl
  f125 := Try.func80.trans (congrArg some (by kernel_rfl))
  f128 := Try.func93.trans (congrArg some (by kernel_rfl))
  f129 := Try.func94.trans (congrArg some (by kernel_rfl))
  f189 := Try.func56.trans (congrArg some (by kernel_rfl))
  f215 := Try.func101.trans (congrArg some (by kernel_rfl))
  f216 := Try.func90.trans (congrArg some (by kernel_rfl))
  f257 := Try.func79.trans (congrArg some (by kernel_rfl))
  f294 := Try.func84.trans (congrArg some (by kernel_rfl))
  f295 := Try.func85.trans (congrArg some (by kernel_rfl))
  f296 := Try.func86.trans (congrArg some (by kernel_rfl))
  f297 := Try.func87.trans (congrArg some (by kernel_rfl))
  f298 := Try.func88.trans (congrArg some (by kernel_rfl))
  f299 := Try.func89.trans (congrArg some (by kernel_rfl))
  f300 := Try.func91.trans (congrArg some (by kernel_rfl))
  f301 := Try.func92.trans (congrArg some (by kernel_rfl))
  f328 := Try.func96.trans (congrArg some (by kernel_rfl))
  f329 := Try.func97.trans (congrArg some (by kernel_rfl))
  f330 := Try.func98.trans (congrArg some (by kernel_rfl))
  f331 := Try.func99.trans (congrArg some (by kernel_rfl))
  f332 := Try.func100.trans (congrArg some (by kernel_rfl))
  f343 := Try.func103.trans (congrArg some (by kernel_rfl))
  t0 := Try.underlying0
  a0 := Try.isAgg0
  z0 := Try.sizeOf0
  v0 := Try.zeroValue0
  t3 := Try.underlying3
  a3 := Try.isAgg3
  z3 := Try.sizeOf3
  v3 := Try.zeroValue3
  t4 := Try.underlying4
  a4 := Try.isAgg4
  z4 := Try.sizeOf4
  v4 := Try.zeroValue4
  t5 := Try.underlying5
  a5 := Try.isAgg5
  z5 := Try.sizeOf5
  v5 := Try.zeroValue5
  t9 := Try.underlying9
  a9 := Try.isAgg9
  z9 := Try.sizeOf9
  v9 := Try.zeroValue9
  t28 := Try.underlying22
  a28 := Try.isAgg22
  z28 := Try.sizeOf22
  v28 := Try.zeroValue22
  t46 := Try.underlying108
  a46 := Try.isAgg108
  z46 := Try.sizeOf108
  v46 := Try.zeroValue108
  t51 := Try.underlying126
  a51 := Try.isAgg126
  z51 := Try.sizeOf126
  v51 := Try.zeroValue126
  t53 := Try.underlying81
  a53 := Try.isAgg81
  z53 := Try.sizeOf81
  v53 := Try.zeroValue81
  t131 := Try.underlying123
  a131 := Try.isAgg123
  z131 := Try.sizeOf123
  v131 := Try.zeroValue123
  t182 := Try.underlying118
  a182 := Try.isAgg118
  z182 := Try.sizeOf118
  v182 := Try.zeroValue118
  t183 := Try.underlying119
  a183 := Try.isAgg119
  z183 := Try.sizeOf119
  v183 := Try.zeroValue119
  t218 := Try.underlying129
  a218 := Try.isAgg129
  z218 := Try.sizeOf129
  v218 := Try.zeroValue129
  t222 := Try.underlying132
  a222 := Try.isAgg132
  z222 := Try.sizeOf132
  v222 := Try.zeroValue132
  t228 := Try.underlying134
  a228 := Try.isAgg134
  z228 := Try.sizeOf134
  v228 := Try.zeroValue134
  t229 := Try.underlying135
  a229 := Try.isAgg135
  z229 := Try.sizeOf135
  v229 := Try.zeroValue135 }
open Go.Sort Go.RowKit in
theorem Try.slices_Sort_int (blk off cap : Nat) (zs : List Int) (w : World) (hH : Holds (Value.int .i64) w blk off zs.toArray) (hblk : blk < w.heap.size) (hsz : zs.length < 4611686018427387904) :
    Calls Try.prog 56 #[.slice (some ⟨blk, off, none⟩) zs.length cap] w fun e w' =>
      e = .returned (.tuple #[]) ∧ ∃ n os, w' = grow (putRow (Value.int .i64) (Sort.ahead w n) blk off (zs.mergeSort fun x y => decide (x ≤ y)).toArray) os := Any.slices_Sort_int Try.lays189 blk off cap zs w hH hblk hsz
open Go.RowKit Go.Sort in
theorem Try.slices_Sort_int_none (p : Option Addr) (cap : Nat) (w : World) :
    Calls Try.prog 56 #[.slice p 0 cap] w fun e w' => e = .returned (.tuple #[]) ∧ w' = w := Any.slices_Sort_int_none Try.lays189 p cap w
def Try.delF_ren : Go.Shelf.Ren := ⟨fun | 10 => 54 | 6 => 78 | n => n, fun | 22 => 22 | 23 => 3 | 3 => 3 | 4 => 4 | 25 => 70 | 0 => 0 | n => n, fun | n => n⟩
theorem Try.delF : Go.Proofs.SlLaysH.n10 Try.prog Try.delF_ren := {
  mixed := by kernel_rfl
  f6 := ⟨Try.f78.name, by decide, Try.func78.trans (congrArg some (by kernel_rfl))⟩
  f10 := ⟨Try.f54.name, by decide, Try.func54.trans (congrArg some (by kernel_rfl))⟩
  t0 := Try.underlying0
  a0 := Try.isAgg0
  z0 := Try.sizeOf0
  v0 := Try.zeroValue0
  t3 := Try.underlying3
  a3 := Try.isAgg3
  z3 := Try.sizeOf3
  v3 := Try.zeroValue3
  t4 := Try.underlying4
  a4 := Try.isAgg4
  z4 := Try.sizeOf4
  v4 := Try.zeroValue4
  t22 := Try.underlying22
  a22 := Try.isAgg22
  z22 := Try.sizeOf22
  v22 := Try.zeroValue22
  a23 := Try.isAgg3
  z23 := Try.sizeOf3
  t25 := Try.underlying70
  a25 := Try.isAgg70
  z25 := Try.sizeOf70
  v25 := Try.zeroValue70 }
end Go.Proofs
namespace Go
open Go.RowKit
/-- A history: place, kind (1 local, 2 send, 3 take), message. -/
structure HOk (h : List Ln) : Prop where
  len : h.length ≤ 200
  ev : ∀ i, i < h.length → 0 ≤ (lat h i).q ∧ (lat h i).q < 8 ∧ 1 ≤ (lat h i).g ∧ (lat h i).g ≤ 3 ∧ 0 ≤ (lat h i).u ∧ (lat h i).u ≤ 999
  sends : ∀ i j, i < j → j < h.length → (lat h i).g = 2 → (lat h j).g = 2 → (lat h i).u ≠ (lat h j).u
  takes : ∀ i j, i < j → j < h.length → (lat h i).g = 3 → (lat h j).g = 3 → (lat h i).u ≠ (lat h j).u
  sent : ∀ i, i < h.length → (lat h i).g = 3 → ∃ j, j < i ∧ (lat h j).g = 2 ∧ (lat h j).u = (lat h i).u
/-- Is there an event of a kind, with a message, ahead of k? -/
def saidB (h : List Ln) (g : Int) (k : Nat) (x : Int) : Bool := (List.range k).any fun i => decide ((lat h i).g = g) && decide ((lat h i).u = x)
theorem saidB_succ (h : List Ln) (g : Int) (k : Nat) (x : Int) : saidB h g (k + 1) x = (saidB h g k x || (decide ((lat h k).g = g) && decide ((lat h k).u = x))) := by
  simp [saidB, List.range_succ]
theorem saidB_iff (h : List Ln) (g : Int) (k : Nat) (x : Int) : saidB h g k x = true ↔ ∃ i, i < k ∧ (lat h i).g = g ∧ (lat h i).u = x := by
  simp [saidB]
def markF (h : List Ln) (g : Int) (k : Nat) (x : Int) : Option Value := if saidB h g k x = true then some (.bool true) else none
theorem markF_same {h : List Ln} {g : Int} {k : Nat} (hn : (lat h k).g ≠ g) : markF h g (k + 1) = markF h g k := by
  funext x
  unfold markF
  rw [saidB_succ]
  generalize lat h k = L at *
  simp [hn]
theorem markF_put {h : List Ln} {g : Int} {k : Nat} (hn : (lat h k).g = g) : markF h g (k + 1) = fun y => if y = (lat h k).u then some (.bool true) else markF h g k y := by
  funext x
  unfold markF
  rw [saidB_succ]
  generalize lat h k = L at *
  by_cases e : x = L.u
  · subst e; simp [hn]
  · have : ¬ L.u = x := fun h => e h.symm
    simp [e, this]
theorem mark_send {h : List Ln} (hk : HOk h) {k : Nat} (hlt : k < h.length) (hg : (lat h k).g = 2) : markF h 2 k (lat h k).u = none := by
  unfold markF
  rw [if_neg]
  rw [saidB_iff]
  rintro ⟨i, hi, h1, h2⟩
  exact hk.sends i k hi hlt h1 hg h2
theorem mark_take {h : List Ln} (hk : HOk h) {k : Nat} (hlt : k < h.length) (hg : (lat h k).g = 3) : markF h 3 k (lat h k).u = none ∧ markF h 2 k (lat h k).u = some (.bool true) := by
  constructor
  · unfold markF
    rw [if_neg]
    rw [saidB_iff]
    rintro ⟨i, hi, h1, h2⟩
    exact hk.takes i k hi hlt h1 hg h2
  · unfold markF
    rw [if_pos]
    rw [saidB_iff]
    obtain ⟨j, h1, h2, h3⟩ := hk.sent k hlt hg
    exact ⟨j, h1, h2, h3⟩
theorem wf_msg {z : Int} (h0 : 0 ≤ z) (h1 : z ≤ 999) : (Lit.int .i64 z).wf = true := by
  have h2 : IntKind.i64.min = -9223372036854775808 := by decide
  have h3 : IntKind.i64.max = 9223372036854775807 := by decide
  simp [Lit.wf, h2, h3]
  omega
end Go
namespace Go
/-- What the call's own appended row reads as. -/
theorem IntsV.ofOwn {w : World} {base e : Nat} {v : Value} {n : Nat} {zs : List Int} (h : w.ownsRow base e 1 v n (zs.map (Value.int .i64))) (hw : ∀ z ∈ zs, (Lit.int .i64 z).wf = true) :
    ∃ a c, v = .slice a n c ∧ IntsV w a n c zs ∧ ∀ x, a = some x → base ≤ x.block := by
  obtain ⟨hl, h⟩ := h
  have hn : zs.length = n := by simpa using hl
  rcases h with ⟨rfl, rfl⟩ | ⟨g, cap, cur, rfl, hb, hg, hnc, hcm, hcs, ht⟩
  · exact ⟨none, 0, rfl, ⟨hn, Nat.le_refl _, Nat.zero_le _, hw, fun h => absurd h (by decide)⟩, fun x hx => by cases hx⟩
  · refine ⟨_, _, rfl, ⟨hn, hnc, hcm, hw, fun h0 => ⟨g, 0, rfl, fun i hi => ?_⟩⟩, fun x hx => by cases hx; exact hb⟩
    rw [Nat.zero_add, cell_of_row w g i cur e (0, 0) hg]
    have : (cur.toList.take (n * 1))[i]? = (zs.map (Value.int .i64))[i]? := by rw [ht]
    rw [List.getElem?_take, if_pos (by omega)] at this
    simp only [Array.getElem?_toList] at this
    rw [this]
    simp [List.getD_eq_getElem?_getD, hn ▸ hi]
theorem wf_small {z : Int} (h0 : -1000000 ≤ z) (h1 : z ≤ 1000000) : (Lit.int .i64 z).wf = true := by
  have h2 : IntKind.i64.min = -9223372036854775808 := by decide
  have h3 : IntKind.i64.max = 9223372036854775807 := by decide
  simp [Lit.wf, h2, h3]
  omega
end Go
namespace Go
/-- A component, or 0. -/
def geTo (xs ys : List Int) (k : Nat) : Bool := (List.range k).all fun j => decide (xs.getD j 0 ≤ ys.getD j 0)
def ltTo (xs ys : List Int) (k : Nat) : Bool := (List.range k).any fun j => decide (xs.getD j 0 < ys.getD j 0)
def eqTo (xs ys : List Int) (k : Nat) : Bool := (List.range k).all fun j => decide (xs.getD j 0 = ys.getD j 0)
def lessL (xs ys : List Int) : Bool := geTo xs ys (max xs.length ys.length) && ltTo xs ys (max xs.length ys.length)
def alikeL (xs ys : List Int) : Bool := eqTo xs ys (max xs.length ys.length)
def joinL (xs ys : List Int) : List Int := (List.range (max xs.length ys.length)).map fun j => max (xs.getD j 0) (ys.getD j 0)
def lowL (xs : List Int) : List Int := xs.map fun x => max x 0
theorem geTo_succ (xs ys : List Int) (k : Nat) : geTo xs ys (k + 1) = (geTo xs ys k && decide (xs.getD k 0 ≤ ys.getD k 0)) := by simp [geTo, List.range_succ]
theorem ltTo_succ (xs ys : List Int) (k : Nat) : ltTo xs ys (k + 1) = (ltTo xs ys k || decide (xs.getD k 0 < ys.getD k 0)) := by simp [ltTo, List.range_succ]
theorem eqTo_succ (xs ys : List Int) (k : Nat) : eqTo xs ys (k + 1) = (eqTo xs ys k && decide (xs.getD k 0 = ys.getD k 0)) := by simp [eqTo, List.range_succ]
theorem geTo_no {xs ys : List Int} {k m : Nat} (h : k < m) (hn : ys.getD k 0 < xs.getD k 0) : geTo xs ys m = false := by
  rw [geTo, List.all_eq_false]
  exact ⟨k, List.mem_range.2 h, by simpa using hn⟩
theorem eqTo_no {xs ys : List Int} {k m : Nat} (h : k < m) (hn : xs.getD k 0 ≠ ys.getD k 0) : eqTo xs ys m = false := by
  rw [eqTo, List.all_eq_false]
  exact ⟨k, List.mem_range.2 h, by simpa using hn⟩
/-- What the call's own appended row reads as. -/
theorem IntsV.ofOwn0 {w : World} {base e : Nat} {v : Value} {n : Nat} {zs : List Int} (h : w.ownsRow base e 1 v n (zs.map (Value.int .i64))) (hw : ∀ z ∈ zs, (Lit.int .i64 z).wf = true) :
    ∃ a c, v = .slice a n c ∧ IntsV w a n c zs := by
  obtain ⟨hl, h⟩ := h
  have hn : zs.length = n := by simpa using hl
  rcases h with ⟨rfl, rfl⟩ | ⟨g, cap, cur, rfl, _, hg, hnc, hcm, hcs, ht⟩
  · exact ⟨none, 0, rfl, hn, Nat.le_refl _, Nat.zero_le _, hw, fun h => absurd h (by decide)⟩
  · refine ⟨_, _, rfl, hn, hnc, hcm, hw, fun h0 => ⟨g, 0, rfl, fun i hi => ?_⟩⟩
    rw [Nat.zero_add, cell_of_row w g i cur e (0, 0) hg]
    have : (cur.toList.take (n * 1))[i]? = (zs.map (Value.int .i64))[i]? := by rw [ht]
    rw [List.getElem?_take, if_pos (by omega)] at this
    simp only [Array.getElem?_toList] at this
    rw [this]
    simp [List.getD_eq_getElem?_getD, hn ▸ hi]
theorem IntsV.wfAt {w : World} {a : Option Addr} {n c : Nat} {zs : List Int} (h : IntsV w a n c zs) (k : Nat) : (Lit.int .i64 (zs.getD k 0)).wf = true := by
  rw [List.getD_eq_getElem?_getD]
  cases hk : zs[k]? with
  | none => decide
  | some z => exact h.wf z (List.mem_of_getElem? hk)
theorem IntsV.look {w : World} {a : Option Addr} {n c : Nat} {zs : List Int} (h : IntsV w a n c zs) (k : Nat) :
    (k < n ∧ ∃ b off, a = some ⟨b, off, none⟩ ∧ w.cell? ⟨b, off + k, none⟩ = some (.int .i64 (zs.getD k 0))) ∨ (n ≤ k ∧ zs.getD k 0 = 0) := by
  by_cases hk : k < n
  · obtain ⟨b, off, rfl, hc⟩ := h.cells (by omega)
    exact .inl ⟨hk, b, off, rfl, hc k hk⟩
  · exact .inr ⟨by omega, by have := h.len; simp [List.getD_eq_getElem?_getD, List.getElem?_eq_none (show zs.length ≤ k by omega)]⟩
theorem wf_max {x y : Int} (h : (Lit.int .i64 x).wf = true) (h' : (Lit.int .i64 y).wf = true) : (Lit.int .i64 (max x y)).wf = true := by
  rcases Int.le_total x y with h1 | h1
  · rw [Int.max_eq_right h1]; exact h'
  · rw [Int.max_eq_left h1]; exact h
end Go
namespace Go
theorem joinTo_succ (xs ys : List Int) (k : Nat) : ((List.range (k + 1)).map fun j => max (xs.getD j 0) (ys.getD j 0)) = ((List.range k).map fun j => max (xs.getD j 0) (ys.getD j 0)) ++ [max (xs.getD k 0) (ys.getD k 0)] := by simp [List.range_succ]
end Go
namespace Go
theorem eqTo_iff {xs ys : List Int} (h : xs.length = ys.length) : eqTo xs ys xs.length = true ↔ xs = ys := by
  constructor
  · intro he
    refine List.ext_getElem h fun i h1 h2 => ?_
    have := List.all_eq_true.1 he i (List.mem_range.2 h1)
    simpa [List.getD_eq_getElem?_getD, h1, h2] using this
  · rintro rfl
    exact List.all_eq_true.2 fun i _ => by simp
theorem lowTo_succ (zs : List Int) (k : Nat) (h : k < zs.length) : lowL (zs.take (k + 1)) = lowL (zs.take k) ++ [max (zs.getD k 0) 0] := by
  rw [List.take_succ_eq_append_getElem h, lowL, lowL, List.map_append]
  congr 1
  simp [List.getD_eq_getElem?_getD, h]
end Go
namespace Go
open Go.RowKit
def lastIx (h : List Ln) (p : Int) : Nat → Option Nat
  | 0 => none
  | k + 1 => if (lat h k).q = p then some k else lastIx h p k
def sendIx (h : List Ln) (u : Int) : Nat → Option Nat
  | 0 => none
  | k + 1 => if (lat h k).g = 2 ∧ (lat h k).u = u then some k else sendIx h u k
def zeros8 : List Int := List.replicate 8 0
def bump (c : List Int) (p : Nat) : List Int := c.set p (c.getD p 0 + 1)
def cstep (h : List Ln) (k : Nat) (cs : List (List Int)) : List Int :=
  bump (if (lat h k).g = 3 then joinL ((lastIx h (lat h k).q k).elim zeros8 fun i => cs.getD i []) ((sendIx h (lat h k).u k).elim [] fun i => cs.getD i []) else (lastIx h (lat h k).q k).elim zeros8 fun i => cs.getD i []) (lat h k).q.toNat
def clks (h : List Ln) : Nat → List (List Int)
  | 0 => []
  | k + 1 => clks h k ++ [cstep h k (clks h k)]
def clk (h : List Ln) (i : Nat) : List Int := cstep h i (clks h i)
theorem clks_len (h : List Ln) (k : Nat) : (clks h k).length = k := by
  induction k with
  | zero => rfl
  | succ k ih => simp [clks, ih]
theorem clks_getD (h : List Ln) (k i : Nat) (hi : i < k) : (clks h k).getD i [] = clk h i := by
  induction k with
  | zero => omega
  | succ k ih =>
    rw [clks]
    by_cases e : i = k
    · subst e
      simp [List.getD_eq_getElem?_getD, clks_len, clk]
    · have := ih (by omega)
      rw [List.getD_eq_getElem?_getD] at this ⊢
      rw [List.getElem?_append_left (by rw [clks_len]; omega)]
      exact this
theorem lastIx_lt {h : List Ln} {p : Int} {k i : Nat} (hi : lastIx h p k = some i) : i < k ∧ (lat h i).q = p ∧ ∀ j, i < j → j < k → (lat h j).q ≠ p := by
  induction k with
  | zero => cases hi
  | succ k ih =>
    rw [lastIx] at hi
    split at hi
    · rename_i hq
      obtain rfl := Option.some.inj hi
      exact ⟨by omega, hq, fun j h1 h2 => by omega⟩
    · rename_i hq
      obtain ⟨h1, h2, h3⟩ := ih hi
      refine ⟨by omega, h2, fun j h4 h5 => ?_⟩
      by_cases e : j = k
      · rw [e]; exact hq
      · exact h3 j h4 (by omega)
theorem lastIx_none {h : List Ln} {p : Int} {k : Nat} (hi : lastIx h p k = none) : ∀ j, j < k → (lat h j).q ≠ p := by
  induction k with
  | zero => intro j hj; omega
  | succ k ih =>
    rw [lastIx] at hi
    split at hi
    · cases hi
    · rename_i hq
      intro j hj
      by_cases e : j = k
      · rw [e]; exact hq
      · exact ih hi j (by omega)
theorem sendIx_lt {h : List Ln} {u : Int} {k i : Nat} (hi : sendIx h u k = some i) : i < k ∧ (lat h i).g = 2 ∧ (lat h i).u = u := by
  induction k with
  | zero => cases hi
  | succ k ih =>
    rw [sendIx] at hi
    split at hi
    · rename_i hq
      obtain rfl := Option.some.inj hi
      exact ⟨by omega, hq⟩
    · obtain ⟨h1, h2⟩ := ih hi
      exact ⟨by omega, h2⟩
theorem sendIx_none {h : List Ln} {u : Int} {k : Nat} (hi : sendIx h u k = none) : ∀ j, j < k → ¬ ((lat h j).g = 2 ∧ (lat h j).u = u) := by
  induction k with
  | zero => intro j hj; omega
  | succ k ih =>
    rw [sendIx] at hi
    split at hi
    · cases hi
    · rename_i hq
      intro j hj
      by_cases e : j = k
      · rw [e]; exact hq
      · exact ih hi j (by omega)
theorem sendIx_take {h : List Ln} (hk : HOk h) {k : Nat} (hlt : k < h.length) (hg : (lat h k).g = 3) : ∃ j, sendIx h (lat h k).u k = some j := by
  cases hs : sendIx h (lat h k).u k with
  | some j => exact ⟨j, rfl⟩
  | none =>
    obtain ⟨j, h1, h2, h3⟩ := hk.sent k hlt hg
    exact absurd ⟨h2, h3⟩ (sendIx_none hs j h1)
/-- A clock: eight small numbers. -/
structure Clk (B : Int) (c : List Int) : Prop where
  len : c.length = 8
  bd : ∀ x ∈ c, 0 ≤ x ∧ x ≤ B
theorem Clk.more {B B' : Int} {c : List Int} (h : Clk B c) (hB : B ≤ B') : Clk B' c := ⟨h.len, fun x hx => by have := h.bd x hx; omega⟩
theorem Clk.at_ {B : Int} {c : List Int} (h : Clk B c) (h0 : 0 ≤ B) (i : Nat) : 0 ≤ c.getD i 0 ∧ c.getD i 0 ≤ B := by
  rw [List.getD_eq_getElem?_getD]
  cases hi : c[i]? with
  | none => exact ⟨Int.le_refl _, h0⟩
  | some x => exact h.bd x (List.mem_of_getElem? hi)
theorem zeros8_clk : Clk 0 zeros8 := ⟨rfl, fun x hx => by simp [zeros8] at hx; omega⟩
theorem bump_clk {B : Int} {c : List Int} (h : Clk B c) (h0 : 0 ≤ B) (p : Nat) : Clk (B + 1) (bump c p) := by
  refine ⟨by simp [bump, h.len], fun x hx => ?_⟩
  rcases List.mem_or_eq_of_mem_set hx with h1 | h1
  · have := h.bd x h1; omega
  · have := h.at_ h0 p; omega
theorem joinL_getD (a b : List Int) (i : Nat) (hi : i < max a.length b.length) : (joinL a b).getD i 0 = max (a.getD i 0) (b.getD i 0) := by
  simp [joinL, List.getD_eq_getElem?_getD, hi]
theorem join_clk {B : Int} {a b : List Int} (ha : Clk B a) (hb : Clk B b) (h0 : 0 ≤ B) : Clk B (joinL a b) := by
  refine ⟨by simp [joinL, ha.len, hb.len], fun x hx => ?_⟩
  unfold joinL at hx
  obtain ⟨i, _, rfl⟩ := List.mem_map.1 hx
  have := ha.at_ h0 i
  have := hb.at_ h0 i
  omega
theorem join_nil {B : Int} {a : List Int} (ha : Clk B a) (h0 : 0 ≤ B) : joinL a [] = a := by
  refine List.ext_getElem (by simp [joinL]) fun i h1 h2 => ?_
  have := ha.at_ h0 i
  simp [joinL, List.getD_eq_getElem?_getD, h2] at this ⊢
  omega
theorem clk_clk {h : List Ln} (hk : HOk h) : ∀ (k i : Nat), i < k → i < h.length → Clk (i + 1) (clk h i) := by
  intro k
  induction k with
  | zero => intro i hi; omega
  | succ k ih =>
    intro i hi hl
    have hlast : ∀ p, Clk (i : Int) ((lastIx h p i).elim zeros8 fun j => (clks h i).getD j []) := fun p => by
      cases hj : lastIx h p i with
      | none => exact zeros8_clk.more (by omega)
      | some j =>
        have := lastIx_lt hj
        show Clk (i : Int) ((clks h i).getD j [])
        rw [clks_getD h i j this.1]
        exact (ih j (by omega) (by omega)).more (by omega)
    unfold clk cstep
    refine bump_clk ?_ (by omega) _
    split
    · rename_i hg
      obtain ⟨j, hj⟩ := sendIx_take hk hl hg
      have := sendIx_lt hj
      refine join_clk (hlast _) ?_ (by omega)
      rw [hj]
      show Clk (i : Int) ((clks h i).getD j [])
      rw [clks_getD h i j this.1]
      exact (ih j (by omega) (by omega)).more (by omega)
    · exact hlast _
theorem clk_ok {h : List Ln} (hk : HOk h) (i : Nat) (hl : i < h.length) : Clk (i + 1) (clk h i) := clk_clk hk (i + 1) i (by omega) hl
/-- One clock, by those ahead. -/
theorem clk_eq (h : List Ln) (k : Nat) : clk h k = bump (if (lat h k).g = 3 then joinL ((lastIx h (lat h k).q k).elim zeros8 (clk h)) ((sendIx h (lat h k).u k).elim [] (clk h)) else (lastIx h (lat h k).q k).elim zeros8 (clk h)) (lat h k).q.toNat := by
  have e1 : ((lastIx h (lat h k).q k).elim zeros8 fun i => (clks h k).getD i []) = (lastIx h (lat h k).q k).elim zeros8 (clk h) := by
    cases hj : lastIx h (lat h k).q k with
    | none => rfl
    | some j => exact clks_getD h k j (lastIx_lt hj).1
  have e2 : ((sendIx h (lat h k).u k).elim [] fun i => (clks h k).getD i []) = (sendIx h (lat h k).u k).elim [] (clk h) := by
    cases hj : sendIx h (lat h k).u k with
    | none => rfl
    | some j => exact clks_getD h k j (sendIx_lt hj).1
  unfold clk cstep
  rw [e1, e2]
  rfl
end Go
namespace Go
open Go.RowKit
theorem lat_snoc (h : List Ln) (e : Ln) (i : Nat) : lat (h ++ [e]) i = if i = h.length then e else lat h i := by
  simp only [lat, List.getD_eq_getElem?_getD]
  by_cases h1 : i < h.length
  · rw [if_neg (by omega), List.getElem?_append_left h1]
  · by_cases h2 : i = h.length
    · subst h2; simp
    · rw [if_neg h2, List.getElem?_eq_none (by simp; omega), List.getElem?_eq_none (by omega)]
/-- One number of the plan: the next event, and the messages on the way. -/
def histStep (s : List Ln × List Int) (x : Int) : List Ln × List Int :=
  if restI x 8 ≤ 2 then (s.1 ++ [⟨restI (wrap64 (x.tdiv 8)) 4, 2, s.1.length⟩], s.2 ++ [(s.1.length : Int)])
  else if restI x 8 ≤ 6 ∧ 0 < s.2.length then (s.1 ++ [⟨restI (wrap64 (x.tdiv 8)) 4, 3, s.2.getD (restI (wrap64 (x.tdiv 32)) s.2.length).toNat 0⟩], s.2.eraseIdx (restI (wrap64 (x.tdiv 32)) s.2.length).toNat)
  else (s.1 ++ [⟨restI (wrap64 (x.tdiv 8)) 4, 1, 0⟩], s.2)
def histS (xs : List Int) : List Ln × List Int := xs.foldl histStep ([], [])
def hist (xs : List Int) : List Ln := (histS (xs.take 60)).1
structure HInv (s : List Ln × List Int) : Prop where
  ok : HOk s.1
  own : ∀ i, i < s.1.length → (lat s.1 i).g = 2 → (lat s.1 i).u = i
  nodup : s.2.Nodup
  way : ∀ m ∈ s.2, ∃ j : Nat, m = j ∧ j < s.1.length ∧ (lat s.1 j).g = 2 ∧ ∀ i, i < s.1.length → (lat s.1 i).g = 3 → (lat s.1 i).u ≠ m
theorem HInv.nil : HInv ([], []) := ⟨⟨by simp, fun i h => by simp at h, fun i j _ h => by simp at h, fun i j _ h => by simp at h, fun i h => by simp at h⟩, fun i h => by simp at h, by simp, by simp⟩
/-- An event is added. -/
theorem HOk.snoc {h : List Ln} (hk : HOk h) {e : Ln} (hl : h.length < 200) (he : 0 ≤ e.q ∧ e.q < 8 ∧ 1 ≤ e.g ∧ e.g ≤ 3 ∧ 0 ≤ e.u ∧ e.u ≤ 999)
    (hs : e.g = 2 → ∀ i, i < h.length → (lat h i).g = 2 → (lat h i).u ≠ e.u) (ht : e.g = 3 → (∀ i, i < h.length → (lat h i).g = 3 → (lat h i).u ≠ e.u) ∧ ∃ j, j < h.length ∧ (lat h j).g = 2 ∧ (lat h j).u = e.u) : HOk (h ++ [e]) := by
  refine ⟨by simp; omega, fun i hi => ?_, fun i j hij hj h1 h2 => ?_, fun i j hij hj h1 h2 => ?_, fun i hi h1 => ?_⟩
  · rw [lat_snoc]
    by_cases e1 : i = h.length
    · rw [if_pos e1]; exact he
    · rw [if_neg e1]; exact hk.ev i (by simp at hi; omega)
  · simp at hj
    rw [lat_snoc, if_neg (by omega)] at h1 ⊢
    rw [lat_snoc] at h2 ⊢
    by_cases e1 : j = h.length
    · rw [if_pos e1] at h2 ⊢; exact hs h2 i (by omega) h1
    · rw [if_neg e1] at h2 ⊢; exact hk.sends i j hij (by omega) h1 h2
  · simp at hj
    rw [lat_snoc, if_neg (by omega)] at h1 ⊢
    rw [lat_snoc] at h2 ⊢
    by_cases e1 : j = h.length
    · rw [if_pos e1] at h2 ⊢; exact (ht h2).1 i (by omega) h1
    · rw [if_neg e1] at h2 ⊢; exact hk.takes i j hij (by omega) h1 h2
  · rw [lat_snoc] at h1
    by_cases e1 : i = h.length
    · rw [if_pos e1] at h1
      obtain ⟨j, h2, h3, h4⟩ := (ht h1).2
      refine ⟨j, by omega, ?_⟩
      rw [lat_snoc, if_neg (by omega), lat_snoc, if_pos e1]; exact ⟨h3, h4⟩
    · rw [if_neg e1] at h1
      obtain ⟨j, h2, h3, h4⟩ := hk.sent i (by simp at hi; omega) h1
      refine ⟨j, h2, ?_⟩
      rw [lat_snoc, if_neg (by simp at hi; omega), lat_snoc, if_neg e1]; exact ⟨h3, h4⟩
theorem restI4 (x : Int) : 0 ≤ restI x 4 ∧ restI x 4 < 8 := ⟨restI_lo x (by omega), by have := restI_hi x (show (0 : Int) < 4 by omega); omega⟩
theorem at_nat (x : Int) {n : Nat} (h : 0 < n) : ∃ q : Nat, restI x n = q ∧ q < n := by
  have h0 := restI_lo x (show (0 : Int) < n by omega)
  have h1 := restI_hi x (show (0 : Int) < n by omega)
  exact ⟨(restI x n).toNat, by omega, by omega⟩
theorem HInv.step {s : List Ln × List Int} (h : HInv s) (hl : s.1.length < 200) (x : Int) : HInv (histStep s x) := by
  obtain ⟨evs, way⟩ := s
  obtain ⟨h0, h1⟩ := restI4 (wrap64 (x.tdiv 8))
  unfold histStep
  dsimp only at hl ⊢
  generalize restI (wrap64 (x.tdiv 8)) 4 = pl at *
  by_cases c1 : restI x 8 ≤ 2
  · rw [if_pos c1]
    refine ⟨h.ok.snoc hl ⟨h0, h1, by dsimp only; omega, by dsimp only; omega, by dsimp only; omega, by dsimp only; omega⟩ (fun _ i hi hg => ?_) (fun hg => by simp at hg), fun i hi hg => ?_, ?_, fun m hm => ?_⟩
    · have := h.own i hi hg; dsimp only at this hi ⊢; omega
    · dsimp only at hi hg ⊢
      rw [lat_snoc] at hg ⊢
      by_cases e1 : i = evs.length
      · rw [if_pos e1]; dsimp only; omega
      · rw [if_neg e1] at hg ⊢; exact h.own i (by simp at hi; dsimp only; omega) hg
    · refine List.nodup_append.2 ⟨h.nodup, by simp, fun a ha b hb => ?_⟩
      simp at hb
      obtain ⟨j, e1, e2, _⟩ := h.way a ha
      dsimp only at e2
      omega
    · dsimp only at hm ⊢
      rcases List.mem_append.1 hm with hm | hm
      · obtain ⟨j, e1, e2, e3, e4⟩ := h.way m hm
        dsimp only at e2 e3 e4
        refine ⟨j, e1, by simp; omega, by rw [lat_snoc, if_neg (by omega)]; exact e3, fun i hi hg => ?_⟩
        rw [lat_snoc] at hg ⊢
        by_cases e5 : i = evs.length
        · rw [if_pos e5] at hg; simp at hg
        · rw [if_neg e5] at hg ⊢; exact e4 i (by simp at hi; omega) hg
      · simp at hm
        refine ⟨evs.length, hm, by simp, by rw [lat_snoc, if_pos rfl], fun i hi hg => ?_⟩
        rw [lat_snoc] at hg ⊢
        by_cases e5 : i = evs.length
        · rw [if_pos e5] at hg; simp at hg
        · rw [if_neg e5] at hg ⊢
          have hlt : i < evs.length := by simp at hi; omega
          obtain ⟨j, e1, e2, e3⟩ := h.ok.sent i hlt hg
          have := h.own j (by dsimp only at e1 ⊢; omega) e2
          dsimp only at this e3
          omega
  · rw [if_neg c1]
    by_cases c2 : restI x 8 ≤ 6 ∧ 0 < way.length
    · rw [if_pos c2]
      obtain ⟨q, hq, hql⟩ := at_nat (wrap64 (x.tdiv 32)) c2.2
      rw [hq, show (q : Int).toNat = q from rfl]
      have hmem : way.getD q 0 ∈ way := by rw [List.getD_eq_getElem?_getD, List.getElem?_eq_getElem hql]; exact List.getElem_mem hql
      have hget : way.getD q 0 = way[q] := by rw [List.getD_eq_getElem?_getD, List.getElem?_eq_getElem hql]; rfl
      obtain ⟨j, e1, e2, e3, e4⟩ := h.way _ hmem
      dsimp only at e2 e3 e4
      have hu := h.own j e2 e3
      dsimp only at hu
      refine ⟨h.ok.snoc hl ⟨h0, h1, by dsimp only; omega, by dsimp only; omega, by dsimp only; omega, by dsimp only; omega⟩ (fun hg => by simp at hg) (fun _ => ⟨e4, j, e2, e3, by rw [hu, e1]⟩), fun i hi hg => ?_, (List.eraseIdx_sublist way q).nodup h.nodup, fun m hm => ?_⟩
      · dsimp only at hi hg ⊢
        rw [lat_snoc] at hg ⊢
        by_cases e1 : i = evs.length
        · rw [if_pos e1] at hg; simp at hg
        · rw [if_neg e1] at hg ⊢; exact h.own i (by simp at hi; dsimp only; omega) hg
      · dsimp only at hm ⊢
        have hne : way.getD q 0 ≠ m := by
          rw [hget]
          rintro rfl
          obtain ⟨i, hi, hne, hge⟩ := List.mem_eraseIdx_iff_getElem.1 hm
          exact hne ((List.getElem_inj h.nodup).1 hge)
        obtain ⟨j', e1', e2', e3', e4'⟩ := h.way m (List.mem_of_mem_eraseIdx hm)
        dsimp only at e2' e3' e4'
        refine ⟨j', e1', by simp; omega, by rw [lat_snoc, if_neg (by omega)]; exact e3', fun i hi hg => ?_⟩
        rw [lat_snoc] at hg ⊢
        by_cases e5 : i = evs.length
        · rw [if_pos e5]; exact hne
        · rw [if_neg e5] at hg ⊢; exact e4' i (by simp at hi; omega) hg
    · rw [if_neg c2]
      refine ⟨h.ok.snoc hl ⟨h0, h1, by dsimp only; omega, by dsimp only; omega, by dsimp only; omega, by dsimp only; omega⟩ (fun hg => by simp at hg) (fun hg => by simp at hg), fun i hi hg => ?_, h.nodup, fun m hm => ?_⟩
      · dsimp only at hi hg ⊢
        rw [lat_snoc] at hg ⊢
        by_cases e1 : i = evs.length
        · rw [if_pos e1] at hg; simp at hg
        · rw [if_neg e1] at hg ⊢; exact h.own i (by simp at hi; dsimp only; omega) hg
      · obtain ⟨j, e1, e2, e3, e4⟩ := h.way m hm
        dsimp only at e2 e3 e4 ⊢
        refine ⟨j, e1, by simp; omega, by rw [lat_snoc, if_neg (by omega)]; exact e3, fun i hi hg => ?_⟩
        rw [lat_snoc] at hg ⊢
        by_cases e5 : i = evs.length
        · rw [if_pos e5] at hg; simp at hg
        · rw [if_neg e5] at hg ⊢; exact e4 i (by simp at hi; omega) hg
theorem snocInd {α : Type _} {P : List α → Prop} (xs : List α) (nil : P []) (snoc : ∀ xs x, P xs → P (xs ++ [x])) : P xs := by
  have : ∀ ys : List α, P ys.reverse := fun ys => by
    induction ys with
    | nil => exact nil
    | cons y ys ih => rw [List.reverse_cons]; exact snoc _ _ ih
  have := this xs.reverse
  rwa [List.reverse_reverse] at this
theorem histStep_len (s : List Ln × List Int) (x : Int) : (histStep s x).1.length = s.1.length + 1 := by
  unfold histStep; split
  · simp
  · split <;> simp
theorem histStep_way (s : List Ln × List Int) (x : Int) : (histStep s x).2.length ≤ s.2.length + 1 := by
  unfold histStep; split
  · simp
  · split
    · dsimp only; have := List.length_eraseIdx_le s.2 (restI (wrap64 (x.tdiv 32)) s.2.length).toNat; omega
    · simp
theorem histS_snoc (xs : List Int) (x : Int) : histS (xs ++ [x]) = histStep (histS xs) x := by simp [histS, List.foldl_append]
theorem histS_len (xs : List Int) : (histS xs).1.length = xs.length ∧ (histS xs).2.length ≤ xs.length := by
  induction xs using snocInd with
  | nil => exact ⟨rfl, Nat.le_refl _⟩
  | snoc xs x ih => rw [histS_snoc, histStep_len]; have := histStep_way (histS xs) x; simp; omega
theorem histS_inv (xs : List Int) (hl : xs.length ≤ 60) : HInv (histS xs) := by
  induction xs using snocInd with
  | nil => exact HInv.nil
  | snoc xs x ih =>
    simp at hl
    rw [histS_snoc]
    exact (ih (by omega)).step (by rw [(histS_len xs).1]; omega) x
theorem hist_len (xs : List Int) : (hist xs).length = min 60 xs.length := by rw [hist, (histS_len _).1]; simp
theorem hist_inv (xs : List Int) : HInv (histS (xs.take 60)) := histS_inv _ (by simp; omega)
end Go
namespace Go
open Go.RowKit
/-- One clock is at most the other. -/
def LeC (a b : List Int) : Prop := ∀ p : Nat, a.getD p 0 ≤ b.getD p 0
theorem LeC.refl (a : List Int) : LeC a a := fun _ => Int.le_refl _
theorem LeC.trans {a b c : List Int} (h : LeC a b) (k : LeC b c) : LeC a c := fun p => Int.le_trans (h p) (k p)
theorem getD_out {a : List Int} {p : Nat} (h : a.length ≤ p) : a.getD p 0 = 0 := by simp [List.getD_eq_getElem?_getD, List.getElem?_eq_none h]
theorem lessL_iff {a b : List Int} : lessL a b = true ↔ LeC a b ∧ ∃ p, a.getD p 0 < b.getD p 0 := by
  unfold lessL geTo ltTo
  simp only [Bool.and_eq_true, List.all_eq_true, List.any_eq_true, List.mem_range, decide_eq_true_eq]
  constructor
  · rintro ⟨h1, p, _, h2⟩
    refine ⟨fun q => ?_, p, h2⟩
    by_cases hq : q < max a.length b.length
    · exact h1 q hq
    · rw [getD_out (show a.length ≤ q by omega), getD_out (show b.length ≤ q by omega)]; omega
  · rintro ⟨h1, p, h2⟩
    refine ⟨fun q _ => h1 q, p, ?_, h2⟩
    by_cases hp : p < max a.length b.length
    · exact hp
    · rw [getD_out (show a.length ≤ p by omega), getD_out (show b.length ≤ p by omega)] at h2; omega
theorem lessL_trans {a b c : List Int} (h : lessL a b = true) (k : lessL b c = true) : lessL a c = true := by
  rw [lessL_iff] at *
  obtain ⟨h1, p, h2⟩ := h
  exact ⟨h1.trans k.1, p, Int.lt_of_lt_of_le h2 (k.1 p)⟩
theorem lessL_asymm {a b : List Int} (h : lessL a b = true) : lessL b a = false := by
  cases k : lessL b a with
  | false => rfl
  | true =>
    rw [lessL_iff] at *
    obtain ⟨_, p, h2⟩ := h
    have := k.1 p
    omega
/-- The events of a place ahead of k. -/
def cntP (h : List Ln) (p : Nat) : Nat → Int
  | 0 => 0
  | k + 1 => cntP h p k + (if (lat h k).q = p then 1 else 0)
theorem cntP_mono (h : List Ln) (p : Nat) {i k : Nat} (hk : i ≤ k) : cntP h p i ≤ cntP h p k := by
  induction k with
  | zero => rw [show i = 0 by omega]; exact Int.le_refl _
  | succ k ih =>
    by_cases e : i = k + 1
    · rw [e]; exact Int.le_refl _
    · have := ih (by omega)
      rw [cntP]; split <;> omega
theorem cntP_nn (h : List Ln) (p k : Nat) : 0 ≤ cntP h p k := cntP_mono h p (Nat.zero_le k)
theorem getD_bump {c : List Int} {p : Nat} (hp : p < c.length) (r : Nat) : (bump c p).getD r 0 = if r = p then c.getD p 0 + 1 else c.getD r 0 := by
  unfold bump
  simp only [List.getD_eq_getElem?_getD, List.getElem?_set]
  by_cases e : p = r
  · subst e; simp [hp]
  · rw [if_neg e, if_neg (fun h => e h.symm)]
theorem zeros8_getD (r : Nat) : zeros8.getD r 0 = 0 := by
  by_cases hr : r < 8
  · rcases (by omega : r = 0 ∨ r = 1 ∨ r = 2 ∨ r = 3 ∨ r = 4 ∨ r = 5 ∨ r = 6 ∨ r = 7) with h | h | h | h | h | h | h | h <;> (subst h; rfl)
  · exact getD_out (by simp [zeros8]; omega)
theorem joinL_at (a b : List Int) (r : Nat) : (joinL a b).getD r 0 = max (a.getD r 0) (b.getD r 0) := by
  by_cases hr : r < max a.length b.length
  · exact joinL_getD a b r hr
  · rw [getD_out (by simp [joinL]; omega), getD_out (show a.length ≤ r by omega), getD_out (show b.length ≤ r by omega)]; omega
/-- What stands ahead of the count of the event itself. -/
def base (h : List Ln) (k : Nat) : List Int := if (lat h k).g = 3 then joinL ((lastIx h (lat h k).q k).elim zeros8 (clk h)) ((sendIx h (lat h k).u k).elim [] (clk h)) else (lastIx h (lat h k).q k).elim zeros8 (clk h)
theorem clk_base (h : List Ln) (k : Nat) : clk h k = bump (base h k) (lat h k).q.toNat := clk_eq h k
theorem last_clk {h : List Ln} (hk : HOk h) {k : Nat} (hl : k < h.length) (p : Int) : Clk k ((lastIx h p k).elim zeros8 (clk h)) := by
  cases hj : lastIx h p k with
  | none => exact zeros8_clk.more (by omega)
  | some j =>
    have := lastIx_lt hj
    exact (clk_ok hk j (by omega)).more (by omega)
theorem base_len {h : List Ln} (hk : HOk h) {k : Nat} (hl : k < h.length) : (base h k).length = 8 := by
  unfold base
  split
  · rename_i hg
    obtain ⟨j, hj⟩ := sendIx_take hk hl hg
    have := sendIx_lt hj
    rw [hj]
    exact (join_clk (last_clk hk hl _) ((clk_ok hk j (by omega)).more (show ((j : Int) + 1) ≤ k by omega)) (by omega)).len
  · exact (last_clk hk hl _).len
theorem clk_at {h : List Ln} (hk : HOk h) {k : Nat} (hl : k < h.length) (r : Nat) : (clk h k).getD r 0 = if (lat h k).q = r then (base h k).getD r 0 + 1 else (base h k).getD r 0 := by
  have he := hk.ev k hl
  have hb := base_len hk hl
  rw [clk_base]
  generalize lat h k = L at *
  rw [getD_bump (by omega)]
  by_cases e : r = L.q.toNat
  · rw [if_pos e, if_pos (by omega), e]
  · rw [if_neg e, if_neg (by omega)]
theorem last_base (h : List Ln) {k : Nat} (_hl : k < h.length) (_hk : HOk h) (r : Nat) : ((lastIx h (lat h k).q k).elim zeros8 (clk h)).getD r 0 ≤ (base h k).getD r 0 := by
  unfold base
  split
  · rw [joinL_at]; omega
  · exact Int.le_refl _
/-- The two laws of counting: a clock's own place counts the place's events; each place, at most so many. -/
theorem clk_cnt {h : List Ln} (hk : HOk h) : ∀ (n k : Nat), k < n → k < h.length → (∀ p, (clk h k).getD p 0 ≤ cntP h p (k + 1)) ∧ ∀ p : Nat, (lat h k).q = p → (clk h k).getD p 0 = cntP h p (k + 1) := by
  intro n
  induction n with
  | zero => intro k h; omega
  | succ n ih =>
    intro k hn hl
    have hlast : ∀ p r, ((lastIx h p k).elim zeros8 (clk h)).getD r 0 ≤ cntP h r k := fun p r => by
      cases hj : lastIx h p k with
      | none => rw [show (none : Option Nat).elim zeros8 (clk h) = zeros8 from rfl, zeros8_getD]; exact cntP_nn _ _ _
      | some j =>
        have := lastIx_lt hj
        exact Int.le_trans ((ih j (by omega) (by omega)).1 r) (cntP_mono h r (by omega))
    have hbase : ∀ r, (base h k).getD r 0 ≤ cntP h r k := fun r => by
      unfold base
      split
      · rename_i hg
        obtain ⟨j, hj⟩ := sendIx_take hk hl hg
        have := sendIx_lt hj
        rw [joinL_at, hj]
        have h1 := hlast (lat h k).q r
        have h2 := Int.le_trans ((ih j (by omega) (by omega)).1 r) (cntP_mono h r (show j + 1 ≤ k by omega))
        exact Int.max_le.2 ⟨h1, h2⟩
      · exact hlast _ r
    have hown : ∀ p : Nat, (lat h k).q = p → cntP h p k ≤ (base h k).getD p 0 := fun p hp => by
      refine Int.le_trans ?_ (last_base h hl hk p)
      rw [hp]
      cases hj : lastIx h (p : Int) k with
      | none =>
        rw [show (none : Option Nat).elim zeros8 (clk h) = zeros8 from rfl, zeros8_getD]
        have hn := lastIx_none hj
        have : ∀ m, m ≤ k → cntP h p m ≤ 0 := fun m => by
          induction m with
          | zero => intro _; exact Int.le_refl _
          | succ m ihm => intro hm; rw [cntP, if_neg (hn m (by omega))]; have := ihm (by omega); omega
        exact this k (Nat.le_refl _)
      | some j =>
        obtain ⟨h1, h2, h3⟩ := lastIx_lt hj
        have h4 := (ih j (by omega) (by omega)).2 p h2
        show cntP h p k ≤ (clk h j).getD p 0
        rw [h4]
        have : ∀ m, j + 1 ≤ m → m ≤ k → cntP h p m ≤ cntP h p (j + 1) := fun m => by
          induction m with
          | zero => intro hh; omega
          | succ m ihm =>
            intro h5 h6
            by_cases e : m = j
            · rw [e]; exact Int.le_refl _
            · rw [cntP, if_neg (h3 m (by omega) (by omega))]; have := ihm (by omega) (by omega); omega
        exact this k (by omega) (Nat.le_refl _)
    constructor
    · intro p
      rw [clk_at hk hl, cntP]
      have := hbase p
      split <;> omega
    · intro p hp
      rw [clk_at hk hl, cntP, if_pos hp, if_pos hp]
      have := hbase p
      have := hown p hp
      omega
/-- What is ahead came earlier. -/
theorem less_lt {h : List Ln} (hk : HOk h) {i k : Nat} (hi : i < h.length) (hl : k < h.length) (hL : LeC (clk h i) (clk h k)) : i ≤ k := by
  have he := hk.ev i hi
  obtain ⟨p, hp⟩ : ∃ p : Nat, (lat h i).q = p := ⟨(lat h i).q.toNat, by omega⟩
  have h1 := (clk_cnt hk (i + 1) i (by omega) hi).2 p hp
  have h2 := (clk_cnt hk (k + 1) k (by omega) hl).1 p
  have h3 := hL p
  by_cases e : i ≤ k
  · exact e
  · have h4 := cntP_mono h p (show k + 1 ≤ i by omega)
    rw [cntP, if_pos hp] at h1
    omega
theorem lessL_lt {h : List Ln} (hk : HOk h) {i k : Nat} (hi : i < h.length) (hl : k < h.length) (hL : lessL (clk h i) (clk h k) = true) : i < k := by
  have h1 := less_lt hk hi hl (lessL_iff.1 hL).1
  by_cases e : i = k
  · subst e
    have := lessL_asymm hL
    rw [hL] at this; cases this
  · omega
theorem lastIx_ge {h : List Ln} {p : Int} {k i : Nat} (hi : i < k) (hq : (lat h i).q = p) : ∃ j, lastIx h p k = some j ∧ i ≤ j := by
  cases hj : lastIx h p k with
  | none => exact absurd hq (lastIx_none hj i hi)
  | some j =>
    refine ⟨j, rfl, ?_⟩
    by_cases e : i ≤ j
    · exact e
    · exact absurd hq ((lastIx_lt hj).2.2 i (by omega) hi)
/-- On one place the earlier is at most the later. -/
theorem same_le {h : List Ln} (hk : HOk h) : ∀ (n k : Nat), k < n → k < h.length → ∀ i, i ≤ k → (lat h i).q = (lat h k).q → LeC (clk h i) (clk h k) := by
  intro n
  induction n with
  | zero => intro k h; omega
  | succ n ih =>
    intro k hn hl i hi hq
    by_cases e : i = k
    · rw [e]; exact LeC.refl _
    · obtain ⟨j, hj, hij⟩ := lastIx_ge (h := h) (show i < k by omega) hq
      have hjl := lastIx_lt hj
      refine (ih j (by omega) (by omega) i hij (by rw [hq, hjl.2.1])).trans fun r => ?_
      have h1 := last_base h hl hk r
      rw [hj] at h1
      have h2 : (clk h j).getD r 0 ≤ (base h k).getD r 0 := h1
      rw [clk_at hk hl r]
      split <;> omega
theorem le_less {h : List Ln} (hk : HOk h) {i k : Nat} (hik : i < k) (hl : k < h.length) (hL : LeC (clk h i) (clk h k)) : lessL (clk h i) (clk h k) = true := by
  refine lessL_iff.2 ⟨hL, ?_⟩
  have he := hk.ev k hl
  obtain ⟨p, hp⟩ : ∃ p : Nat, (lat h k).q = p := ⟨(lat h k).q.toNat, by omega⟩
  refine ⟨p, ?_⟩
  have h1 := (clk_cnt hk (i + 1) i (by omega) (by omega)).1 p
  have h2 := (clk_cnt hk (k + 1) k (by omega) hl).2 p hp
  have h3 := cntP_mono h p (show i + 1 ≤ k by omega)
  rw [cntP, if_pos hp] at h2
  omega
theorem same_less {h : List Ln} (hk : HOk h) {i k : Nat} (hik : i < k) (hl : k < h.length) (hq : (lat h i).q = (lat h k).q) : lessL (clk h i) (clk h k) = true :=
  le_less hk hik hl (same_le hk (k + 1) k (by omega) hl i (by omega) hq)
/-- The law of order. -/
theorem clockOrder_law {h : List Ln} (hk : HOk h) {i j k : Nat} (hi : i < h.length) (hj : j < h.length) (_ : k < h.length) :
    (lessL (clk h i) (clk h j) = true → lessL (clk h j) (clk h k) = true → lessL (clk h i) (clk h k) = true) ∧ (lessL (clk h i) (clk h j) = true → lessL (clk h j) (clk h i) = false) ∧ (lessL (clk h i) (clk h j) = true → i < j) ∧
    ((lat h i).q = (lat h j).q → (lessL (clk h i) (clk h j) = decide (i < j))) := by
  refine ⟨lessL_trans, lessL_asymm, lessL_lt hk hi hj, fun hq => ?_⟩
  by_cases e : i < j
  · rw [same_less hk e hj hq]; simp [e]
  · simp only [e, decide_false]
    cases hb : lessL (clk h i) (clk h j) with
    | false => rfl
    | true => exact absurd (lessL_lt hk hi hj hb) e
end Go
namespace Go
open Go.RowKit
/-- A step from one event to a later one: along a place, or with a message. -/
def edgeB (h : List Ln) (x y : Nat) : Bool := decide ((lat h x).q = (lat h y).q) || (decide ((lat h x).g = 2) && (decide ((lat h y).g = 3) && decide ((lat h x).u = (lat h y).u)))
inductive Past (h : List Ln) (i : Nat) : Nat → Prop
  | here : Past h i i
  | step {x y : Nat} : Past h i x → x < y → edgeB h x y = true → Past h i y
theorem Past.le {h : List Ln} {i k : Nat} (r : Past h i k) : i ≤ k := by
  induction r with
  | here => exact Nat.le_refl _
  | step _ h1 _ ih => omega
theorem sendIx_eq {h : List Ln} (hk : HOk h) {x y : Nat} (hxy : x < y) (hl : y < h.length) (hg : (lat h x).g = 2) {u : Int} (hu : (lat h x).u = u) : sendIx h u y = some x := by
  cases hs : sendIx h u y with
  | none => exact absurd ⟨hg, hu⟩ (sendIx_none hs x hxy)
  | some j =>
    obtain ⟨h1, h2, h3⟩ := sendIx_lt hs
    rcases Nat.lt_trichotomy j x with e | e | e
    · exact absurd (h3.trans hu.symm) (hk.sends j x e (by omega) h2 hg)
    · rw [e]
    · exact absurd (hu.trans h3.symm) (hk.sends x j e (by omega) hg h2)
theorem base_le {h : List Ln} (hk : HOk h) {k : Nat} (hl : k < h.length) : LeC (base h k) (clk h k) := fun r => by
  rw [clk_at hk hl r]; split <;> omega
theorem edge_le {h : List Ln} (hk : HOk h) {x y : Nat} (hxy : x < y) (hl : y < h.length) (he : edgeB h x y = true) : LeC (clk h x) (clk h y) := by
  unfold edgeB at he
  simp only [Bool.or_eq_true, Bool.and_eq_true, decide_eq_true_eq] at he
  rcases he with he | ⟨h1, h2, h3⟩
  · exact same_le hk (y + 1) y (by omega) hl x (by omega) he
  · refine LeC.trans (fun r => ?_) (base_le hk hl)
    unfold base
    rw [if_pos h2, joinL_at, sendIx_eq hk hxy hl h1 h3]
    exact Int.le_max_right _ _
theorem reach_le {h : List Ln} (hk : HOk h) {i k : Nat} (r : Past h i k) (hl : k < h.length) : LeC (clk h i) (clk h k) := by
  induction r with
  | here => exact LeC.refl _
  | step _ h1 h2 ih => exact (ih (by omega)).trans (edge_le hk h1 hl h2)
/-- Who has counted an event of a place has it in the past. -/
theorem cnt_reach {h : List Ln} (hk : HOk h) {i p : Nat} (_ : i < h.length) (hp : (lat h i).q = p) : ∀ (n k : Nat), k < n → k < h.length → cntP h p (i + 1) ≤ (clk h k).getD p 0 → Past h i k := by
  intro n
  induction n with
  | zero => intro k h; omega
  | succ n ih =>
    intro k hn hl hc
    have hpos : 1 ≤ cntP h p (i + 1) := by rw [cntP, if_pos hp]; have := cntP_nn h p i; omega
    by_cases hq : (lat h k).q = p
    · rw [(clk_cnt hk (k + 1) k (by omega) hl).2 p hq] at hc
      by_cases e : i = k
      · subst e; exact .here
      · by_cases e2 : i < k
        · exact .step .here e2 (by simp only [edgeB, hp, hq, decide_true, Bool.true_or])
        · have := cntP_mono h p (show k + 1 ≤ i by omega)
          rw [cntP, if_pos hp] at hc
          omega
    · rw [clk_at hk hl, if_neg hq] at hc
      have hlast : cntP h p (i + 1) ≤ ((lastIx h (lat h k).q k).elim zeros8 (clk h)).getD p 0 → Past h i k := fun hc => by
        cases hj : lastIx h (lat h k).q k with
        | none => rw [hj, show (none : Option Nat).elim zeros8 (clk h) = zeros8 from rfl, zeros8_getD] at hc; omega
        | some j =>
          rw [hj] at hc
          obtain ⟨h1, h2, _⟩ := lastIx_lt hj
          exact .step (ih j (by omega) (by omega) hc) h1 (by simp only [edgeB, h2, decide_true, Bool.true_or])
      unfold base at hc
      split at hc
      · rename_i hg
        rw [joinL_at] at hc
        obtain ⟨j, hj⟩ := sendIx_take hk hl hg
        obtain ⟨h1, h2, h3⟩ := sendIx_lt hj
        rw [hj] at hc
        rcases Int.le_total (((lastIx h (lat h k).q k).elim zeros8 (clk h)).getD p 0) (((some j).elim [] (clk h)).getD p 0) with e | e
        · rw [Int.max_eq_right e] at hc
          exact .step (ih j (by omega) (by omega) hc) h1 (by simp only [edgeB, h2, h3, hg, decide_true, Bool.and_self, Bool.or_true])
        · rw [Int.max_eq_left e] at hc
          exact hlast hc
      · exact hlast hc
theorem le_reach {h : List Ln} (hk : HOk h) {i k : Nat} (hi : i < h.length) (hl : k < h.length) (hc : LeC (clk h i) (clk h k)) : Past h i k := by
  have he := hk.ev i hi
  obtain ⟨p, hp⟩ : ∃ p : Nat, (lat h i).q = p := ⟨(lat h i).q.toNat, by omega⟩
  have h1 := (clk_cnt hk (i + 1) i (by omega) hi).2 p hp
  exact cnt_reach hk hi hp (k + 1) k (by omega) hl (by rw [← h1]; exact hc p)
/-- The events come to, as the law counts them. -/
def comeL (h : List Ln) (i : Nat) : Nat → List Bool
  | 0 => []
  | m + 1 => comeL h i m ++ [if m < i then false else if m = i then true else (List.range m).any fun x => decide (i ≤ x) && ((comeL h i m).getD x false && edgeB h x m)]
theorem comeL_len (h : List Ln) (i m : Nat) : (comeL h i m).length = m := by
  induction m with
  | zero => rfl
  | succ m ih => simp [comeL, ih]
def comeB (h : List Ln) (i k : Nat) : Bool := (comeL h i (k + 1)).getD k false
theorem comeL_getD (h : List Ln) (i m k : Nat) (hk : k < m) : (comeL h i m).getD k false = comeB h i k := by
  induction m with
  | zero => omega
  | succ m ih =>
    by_cases e : k = m
    · rw [e]; rfl
    · rw [← ih (by omega), comeL]
      simp only [List.getD_eq_getElem?_getD]
      rw [List.getElem?_append_left (by rw [comeL_len]; omega)]
theorem comeB_eq (h : List Ln) (i k : Nat) : comeB h i k = if k < i then false else if k = i then true else (List.range k).any fun x => decide (i ≤ x) && (comeB h i x && edgeB h x k) := by
  have h1 : comeB h i k = if k < i then false else if k = i then true else (List.range k).any fun x => decide (i ≤ x) && ((comeL h i k).getD x false && edgeB h x k) := by
    unfold comeB
    rw [comeL]
    simp only [List.getD_eq_getElem?_getD]
    rw [List.getElem?_append_right (by rw [comeL_len]; omega), comeL_len]
    simp
  rw [h1]
  split
  · rfl
  · split
    · rfl
    · rw [Bool.eq_iff_iff, List.any_eq_true, List.any_eq_true]
      constructor
      · rintro ⟨x, hx, hb⟩
        refine ⟨x, hx, ?_⟩
        rw [comeL_getD h i k x (List.mem_range.1 hx)] at hb
        exact hb
      · rintro ⟨x, hx, hb⟩
        refine ⟨x, hx, ?_⟩
        rw [comeL_getD h i k x (List.mem_range.1 hx)]
        exact hb
theorem comeB_reach (h : List Ln) (i : Nat) : ∀ (n k : Nat), k < n → (comeB h i k = true ↔ Past h i k) := by
  intro n
  induction n with
  | zero => intro k h; omega
  | succ n ih =>
    intro k hn
    rw [comeB_eq]
    by_cases h1 : k < i
    · rw [if_pos h1]
      exact ⟨fun h => absurd h (by decide), fun r => absurd r.le (by omega)⟩
    · rw [if_neg h1]
      by_cases h2 : k = i
      · rw [if_pos h2, h2]; exact ⟨fun _ => .here, fun _ => rfl⟩
      · rw [if_neg h2]
        simp only [List.any_eq_true, List.mem_range, Bool.and_eq_true, decide_eq_true_eq]
        constructor
        · rintro ⟨x, hx, hix, hc, he⟩
          exact .step ((ih x (by omega)).1 hc) hx he
        · intro r
          cases r with
          | here => omega
          | step r' hx he => exact ⟨_, hx, r'.le, (ih _ (by omega)).2 r', he⟩
/-- The law of exactness. -/
theorem clockExact_law {h : List Ln} (hk : HOk h) {i k : Nat} (hi : i < h.length) (hl : k < h.length) : lessL (clk h i) (clk h k) = (decide (i ≠ k) && comeB h i k) := by
  rw [Bool.eq_iff_iff, Bool.and_eq_true, decide_eq_true_eq, comeB_reach h i (k + 1) k (by omega)]
  constructor
  · intro hb
    have := lessL_lt hk hi hl hb
    exact ⟨by omega, le_reach hk hi hl (lessL_iff.1 hb).1⟩
  · rintro ⟨h1, h2⟩
    exact le_less hk (by have := h2.le; omega) hl (reach_le hk h2 hl)
end Go
namespace Go
open Go.RowKit
/-- Lamport's number of event k, from those ahead. -/
def nstep (h : List Ln) (k : Nat) (ns : List Int) : Int :=
  (if (lat h k).g = 3 then max ((lastIx h (lat h k).q k).elim 0 fun i => ns.getD i 0) ((sendIx h (lat h k).u k).elim 0 fun i => ns.getD i 0) else (lastIx h (lat h k).q k).elim 0 fun i => ns.getD i 0) + 1
def nums (h : List Ln) : Nat → List Int
  | 0 => []
  | k + 1 => nums h k ++ [nstep h k (nums h k)]
def num (h : List Ln) (i : Nat) : Int := nstep h i (nums h i)
theorem nums_len (h : List Ln) (k : Nat) : (nums h k).length = k := by
  induction k with
  | zero => rfl
  | succ k ih => simp [nums, ih]
theorem nums_getD (h : List Ln) (k i : Nat) (hi : i < k) : (nums h k).getD i 0 = num h i := by
  induction k with
  | zero => omega
  | succ k ih =>
    rw [nums]
    by_cases e : i = k
    · subst e
      simp [List.getD_eq_getElem?_getD, nums_len, num]
    · have := ih (by omega)
      rw [List.getD_eq_getElem?_getD] at this ⊢
      rw [List.getElem?_append_left (by rw [nums_len]; omega)]
      exact this
theorem num_eq (h : List Ln) (k : Nat) : num h k = (if (lat h k).g = 3 then max ((lastIx h (lat h k).q k).elim 0 (num h)) ((sendIx h (lat h k).u k).elim 0 (num h)) else (lastIx h (lat h k).q k).elim 0 (num h)) + 1 := by
  have e1 : ((lastIx h (lat h k).q k).elim 0 fun i => (nums h k).getD i 0) = (lastIx h (lat h k).q k).elim 0 (num h) := by
    cases hj : lastIx h (lat h k).q k with
    | none => rfl
    | some j => exact nums_getD h k j (lastIx_lt hj).1
  have e2 : ((sendIx h (lat h k).u k).elim 0 fun i => (nums h k).getD i 0) = (sendIx h (lat h k).u k).elim 0 (num h) := by
    cases hj : sendIx h (lat h k).u k with
    | none => rfl
    | some j => exact nums_getD h k j (sendIx_lt hj).1
  show nstep h k (nums h k) = _
  unfold nstep
  rw [e1, e2]
theorem num_bd (h : List Ln) : ∀ (n k : Nat), k < n → 1 ≤ num h k ∧ num h k ≤ k + 1 := by
  intro n
  induction n with
  | zero => intro k h; omega
  | succ n ih =>
    intro k hn
    have h1 : 0 ≤ (lastIx h (lat h k).q k).elim 0 (num h) ∧ (lastIx h (lat h k).q k).elim 0 (num h) ≤ k := by
      cases hj : lastIx h (lat h k).q k with
      | none => exact ⟨Int.le_refl _, by show (0 : Int) ≤ k; omega⟩
      | some j => have := ih j (by have := (lastIx_lt hj).1; omega); have := (lastIx_lt hj).1; show 0 ≤ num h j ∧ num h j ≤ k; omega
    have h2 : 0 ≤ (sendIx h (lat h k).u k).elim 0 (num h) ∧ (sendIx h (lat h k).u k).elim 0 (num h) ≤ k := by
      cases hj : sendIx h (lat h k).u k with
      | none => exact ⟨Int.le_refl _, by show (0 : Int) ≤ k; omega⟩
      | some j => have := ih j (by have := (sendIx_lt hj).1; omega); have := (sendIx_lt hj).1; show 0 ≤ num h j ∧ num h j ≤ k; omega
    rw [num_eq]
    split <;> omega
theorem last_num (h : List Ln) (k : Nat) : (lastIx h (lat h k).q k).elim 0 (num h) < num h k := by
  rw [num_eq h k]; split <;> omega
theorem same_num {h : List Ln} : ∀ (n k : Nat), k < n → ∀ i, i < k → (lat h i).q = (lat h k).q → num h i < num h k := by
  intro n
  induction n with
  | zero => intro k h; omega
  | succ n ih =>
    intro k hn i hi hq
    obtain ⟨j, hj, hij⟩ := lastIx_ge (h := h) hi hq
    have hjl := lastIx_lt hj
    have h1 := last_num h k
    rw [hj] at h1
    have h2 : num h j < num h k := h1
    by_cases e : i = j
    · rw [e]; exact h2
    · have := ih j (by omega) i (by omega) (by rw [hq, hjl.2.1]); omega
theorem edge_num {h : List Ln} (hk : HOk h) {x y : Nat} (hxy : x < y) (hl : y < h.length) (he : edgeB h x y = true) : num h x < num h y := by
  unfold edgeB at he
  simp only [Bool.or_eq_true, Bool.and_eq_true, decide_eq_true_eq] at he
  rcases he with he | ⟨h1, h2, h3⟩
  · exact same_num (y + 1) y (by omega) x hxy he
  · rw [num_eq h y, if_pos h2, sendIx_eq hk hxy hl h1 h3]
    show num h x < max _ (num h x) + 1
    omega
theorem past_num {h : List Ln} (hk : HOk h) {i k : Nat} (r : Past h i k) (hl : k < h.length) : i = k ∨ num h i < num h k := by
  induction r with
  | here => exact .inl rfl
  | step _ h1 h2 ih =>
    have h3 := edge_num hk h1 hl h2
    rcases ih (by omega) with e | e
    · rw [e]; exact .inr h3
    · exact .inr (by omega)
/-- The law of numbers. -/
theorem clockNumbers_law {h : List Ln} (hk : HOk h) {i k : Nat} (hki : k < i) (hi : i < h.length) : (lessL (clk h k) (clk h i) = true → num h k < num h i) ∧ lessL (clk h i) (clk h k) = false := by
  constructor
  · intro hb
    rcases past_num hk (le_reach hk (by omega) hi (lessL_iff.1 hb).1) hi with e | e
    · omega
    · exact e
  · cases hb : lessL (clk h i) (clk h k) with
    | false => rfl
    | true => have := lessL_lt hk hi (by omega) hb; omega
end Go
