import Derived.Test.YtkhchfjhmplaiaaH2
import Derived.Test.YtkhchfjhmplaiaaHP3
namespace Go.Proofs.Ytkhchfjhmplaiaa
open Go.RowKit
theorem info22 : (Try.prog.info? 22).map (fun i => (i.zero, i.size, i.bytes)) = some (some (.slice none 0 0), 1, 24) := by kernel_rfl
theorem zeroS (w : World) : (zeroValue 22).run Try.prog w = .ok (.slice none 0 0) w := by kernel_rfl
theorem mk37 (w : World) : (Instr.makeSlice 37 (.int .i64 8) (.int .i64 8)).run Try.prog w = .ok (.slice (some ⟨w.heap.size, 0, none⟩) 8 8) (w.alloc (.cells #[.slice none 0 0, .slice none 0 0, .slice none 0 0, .slice none 0 0, .slice none 0 0, .slice none 0 0, .slice none 0 0, .slice none 0 0] 22)) := by kernel_rfl
theorem mk22 (w : World) : (Instr.makeSlice 22 (.int .i64 8) (.int .i64 8)).run Try.prog w = .ok (.slice (some ⟨w.heap.size, 0, none⟩) 8 8) (w.alloc (.cells #[.int .i64 0, .int .i64 0, .int .i64 0, .int .i64 0, .int .i64 0, .int .i64 0, .int .i64 0, .int .i64 0] 3)) := by kernel_rfl
/-- The clocks of k events in memory: where the last one of each place lies, and the one of each message. -/
structure Kept (w : World) (B Lb Sb k : Nat) (h : List Ln) (V Z : Nat → Value) : Prop where
  clk : ∀ i, i < k → w.ownsRow B 3 1 (V i) 8 ((Go.clk h i).map (Value.int .i64))
  zero : ∀ p, p < 8 → w.ownsRow B 3 1 (Z p) 8 (zeros8.map (Value.int .i64))
  last : w.heap[Lb]? = some (.cells ((List.range 8).map fun (p : Nat) => (lastIx h (p : Int) k).elim (Z p) V).toArray 22 (0, 0))
  sent : MapF w Try.prog 3 Sb k (fun x => (sendIx h x k).map V)
theorem own_form {w : World} {B e n : Nat} {v : Value} {zs : List Int} (h : w.ownsRow B e 1 v n (zs.map (Value.int .i64))) (hn : 0 < n) : ∃ g cap, v = .slice (some ⟨g, 0, none⟩) n cap ∧ B ≤ g ∧ g < w.heap.size ∧ n ≤ cap ∧ cap ≤ maxLen ∧ (∀ i, i < n → w.cell? ⟨g, i, none⟩ = some (.int .i64 (zs.getD i 0))) ∧ ∀ i, w.frozen? ⟨g, i, none⟩ = false := by
  obtain ⟨hl, h⟩ := h
  have hlen : zs.length = n := by simpa using hl
  rcases h with ⟨_, h0⟩ | ⟨g, cap, cur, rfl, hb, hg, hnc, hcm, hcs, ht⟩
  · omega
  · refine ⟨g, cap, rfl, hb, (Array.getElem?_eq_some_iff.1 hg).1, hnc, hcm, fun i hi => ?_, thaw hg⟩
    rw [cell_of_row w g i cur e (0, 0) hg]
    have : (cur.toList.take (n * 1))[i]? = (zs.map (Value.int .i64))[i]? := by rw [ht]
    rw [List.getElem?_take, if_pos (by omega)] at this
    simp only [Array.getElem?_toList] at this
    rw [this]
    simp [List.getD_eq_getElem?_getD, hlen ▸ hi]
/-- One cell of a row of one's own is written. -/
theorem own_put {w : World} {B e n : Nat} {g cap : Nat} {zs : List Int} (h : w.ownsRow B e 1 (.slice (some ⟨g, 0, none⟩) n cap) n (zs.map (Value.int .i64))) {i : Nat} (x : Int) :
    (w.setCell ⟨g, i, none⟩ (.int .i64 x)).ownsRow B e 1 (.slice (some ⟨g, 0, none⟩) n cap) n ((zs.set i x).map (Value.int .i64)) := by
  obtain ⟨hl, h⟩ := h
  refine ⟨by simpa using hl, ?_⟩
  rcases h with ⟨h0, _⟩ | ⟨g', cap', cur, hv, hb, hg, hnc, hcm, hcs, ht⟩
  · cases h0
  · cases hv
    refine .inr ⟨g, cap, cur.setIfInBounds i (.int .i64 x), rfl, hb, by rw [blk_setCell, if_pos rfl, hg]; rfl, hnc, hcm, by simpa using hcs, ?_⟩
    rw [List.map_set, ← ht]
    simp only [Array.toList_setIfInBounds, Nat.mul_one]
    rw [List.take_set]
theorem Kept.keep {S : List Nat} {w w' : World} {B Lb Sb k : Nat} {h : List Ln} {V Z : Nat → Value} (q : Kept w B Lb Sb k h V Z) (hk : Keep S w w') (h1 : ∀ b ∈ S, b ≠ Lb ∧ b ≠ Sb) (h2 : ∀ b ∈ S, ∀ i, i < k → (V i).ownBlock ≠ some b) (h3 : ∀ b ∈ S, ∀ p, p < 8 → (Z p).ownBlock ≠ some b) : Kept w' B Lb Sb k h V Z :=
  ⟨fun i hi => own_keep (q.clk i hi) hk (fun b hb hm => h2 b hm i hi hb), fun p hp => own_keep (q.zero p hp) hk (fun b hb hm => h3 b hm p hp hb), hk.at q.last (fun hm => (h1 _ hm).1 rfl), q.sent.keep hk (fun hm => (h1 _ hm).2 rfl)⟩
theorem Kept.keep0 {w w' : World} {B Lb Sb k : Nat} {h : List Ln} {V Z : Nat → Value} (q : Kept w B Lb Sb k h V Z) (hk : Keep [] w w') : Kept w' B Lb Sb k h V Z := q.keep hk (by simp) (by simp) (by simp)
theorem cell_one_at {X : World} {s : Nat} (hs : X.heap.size = s) (x : Value) (t : TypeId) : ∀ j u, [x][j]? = some u → (X.alloc (.cells #[x] t)).cell? ((⟨s, 0, none⟩ : Addr).add j) = some u := by
  subst hs
  exact cell_one_new _ _ _
theorem Kept.append {w w' : World} {B B' Lb Sb k n : Nat} {h : List Ln} {V Z : Nat → Value} {v : Value} {xs : List Value} (q : Kept w B Lb Sb k h V Z) (ho : w.ownsRow B' 22 1 v n xs) (hB : Lb < B') (hg : w.grownBy w' v.ownBlock) : Kept w' B Lb Sb k h V Z := by
  refine ⟨fun i hi => (q.clk i hi).kept hg (own_sep (q.clk i hi) ho (by decide)), fun p hp => (q.zero p hp).kept hg (own_sep (q.zero p hp) ho (by decide)), ?_, q.sent.block (hg.block Sb q.sent.lt (fun e => ?_))⟩
  · rw [hg.block Lb (lt_of_blk q.last) (fun e => by have := (ho.lt Lb e.symm).1; omega)]
    exact q.last
  · rcases ho.2 with ⟨rfl, _⟩ | ⟨g, cap, cur, rfl, _, hgg, _⟩
    · cases e
    · have e1 : Sb = g := by simpa [Value.ownBlock] using e
      exact q.sent.notCells hgg e1
theorem lastIx_elim {h : List Ln} {k : Nat} {V : Nat → Value} {cv z : Value} {pl : Int} (x : Int) (hq : (lat h k).q = pl) : (lastIx h x (k + 1)).elim z (fun i => if i = k then cv else V i) = if pl = x then cv else (lastIx h x k).elim z V := by
  rw [lastIx, hq]
  by_cases e : pl = x
  · rw [if_pos e, if_pos e]; simp
  · rw [if_neg e, if_neg e]
    cases hl : lastIx h x k with
    | none => rfl
    | some i => have := (lastIx_lt hl).1; simp; omega
theorem sendIx_map_same {h : List Ln} {k : Nat} {V : Nat → Value} {cv : Value} (hg : (lat h k).g ≠ 2) : (fun x => (sendIx h x (k + 1)).map fun i => if i = k then cv else V i) = fun x => (sendIx h x k).map V := by
  funext x
  rw [sendIx, if_neg (fun h => hg h.1)]
  cases hl : sendIx h x k with
  | none => rfl
  | some i => have := (sendIx_lt hl).1; simp; omega
theorem sendIx_map_put {h : List Ln} {k : Nat} {V : Nat → Value} {cv : Value} (hg : (lat h k).g = 2) : (fun x => (sendIx h x (k + 1)).map fun i => if i = k then cv else V i) = fun x => if x = (lat h k).u then some cv else (sendIx h x k).map V := by
  funext x
  rw [sendIx]
  by_cases e : x = (lat h k).u
  · rw [if_pos ⟨hg, e.symm⟩, if_pos e]; simp
  · rw [if_neg (fun h => e h.2.symm), if_neg e]
    cases hl : sendIx h x k with
    | none => rfl
    | some i => have := (sendIx_lt hl).1; simp; omega
theorem Kept.step {w : World} {B Lb Sb k pl : Nat} {h : List Ln} {V Z : Nat → Value} {cv : Value} (hclk : ∀ i, i < k → w.ownsRow B 3 1 (V i) 8 ((Go.clk h i).map (Value.int .i64))) (hzero : ∀ p, p < 8 → w.ownsRow B 3 1 (Z p) 8 (zeros8.map (Value.int .i64)))
    (hlast : w.heap[Lb]? = some (.cells ((List.range 8).map fun (p : Nat) => (lastIx h (p : Int) k).elim (Z p) V).toArray 22 (0, 0))) (hsent : MapF w Try.prog 3 Sb (k + 1) (fun x => (sendIx h x (k + 1)).map fun i => if i = k then cv else V i))
    (hc : w.ownsRow B 3 1 cv 8 ((Go.clk h k).map (Value.int .i64))) (hq : (lat h k).q = pl) : Kept (w.setCell ⟨Lb, pl, none⟩ cv) B Lb Sb (k + 1) h (fun i => if i = k then cv else V i) Z := by
  have hks : Keep [Lb] w (w.setCell ⟨Lb, pl, none⟩ cv) := (Keep.refl _ _).setCell (.inl (by simp)) _
  have hown : ∀ {v : Value} {zs : List Value}, w.ownsRow B 3 1 v 8 zs → (w.setCell ⟨Lb, pl, none⟩ cv).ownsRow B 3 1 v 8 zs := fun ho => own_keep ho hks (fun g hg hm => own_ne ho hlast (by decide) g hg (by simpa using hm))
  refine ⟨fun i hi => ?_, fun p hp => hown (hzero p hp), ?_, hsent.keep hks (by simpa using hsent.notCells hlast)⟩
  · show World.ownsRow _ _ _ _ (if i = k then cv else V i) _ _
    by_cases e : i = k
    · rw [if_pos e, e]; exact hown hc
    · rw [if_neg e]; exact hown (hclk i (by omega))
  · rw [blk_setCell, if_pos rfl, hlast]
    simp only [Option.map_some, Obj.put_cells, List.setIfInBounds_toArray]
    congr 3
    refine List.ext_getElem (by simp) fun p h1 h2 => ?_
    simp only [List.getElem_set, List.getElem_map, List.getElem_range]
    rw [lastIx_elim (pl := pl) (p : Int) hq]
    by_cases e : pl = p
    · subst e; simp
    · have : ¬ (pl : Int) = p := by omega
      rw [if_neg e, if_neg this]
end Go.Proofs.Ytkhchfjhmplaiaa
