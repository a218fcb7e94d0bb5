/- Texts laid together: R18 RC E8. -/
import Derived.Test.YtfcellgjbbfobaaMg9
/- Rows of rows of three numbers of the call's own, the outer row of a fixed length. -/
namespace Go
open Go.RowKit
/-- The rows' values lie in block g; each row is the call's own, and no two share a block. -/
structure RowsO (w : World) (B : Nat) (e1 e2 : TypeId) (g : Nat) (vals : List Value) (rs : List (List Ln)) : Prop where
  len : vals.length = rs.length
  blk : w.heap[g]? = some (.cells vals.toArray e1 (0, 0))
  low : B ≤ g
  row : ∀ (r : Nat) (x : Value) (l : List Ln), vals[r]? = some x → rs[r]? = some l → w.ownsRow B e2 3 x l.length (lanesC l)
  apart : ∀ (i j : Nat) (x y : Value) (b : Nat), vals[i]? = some x → vals[j]? = some y → x.ownBlock = some b → y.ownBlock = some b → i = j
section
variable {w w' : World} {B g : Nat} {e1 e2 : TypeId} {vals : List Value} {rs : List (List Ln)}
theorem RowsO.keep0 (h : RowsO w B e1 e2 g vals rs) (hk : Keep [] w w') : RowsO w' B e1 e2 g vals rs :=
  ⟨h.len, hk.at h.blk (by simp), h.low, fun r x l hx hl => own_keep (h.row r x l hx hl) hk (by simp), h.apart⟩
theorem RowsO.cell (h : RowsO w B e1 e2 g vals rs) {r : Nat} {x : Value} (hx : vals[r]? = some x) : w.cell? ⟨g, r, none⟩ = some x := by
  rw [cellAt h.blk]; simpa using hx
theorem RowsO.get (h : RowsO w B e1 e2 g vals rs) {r : Nat} (hr : r < rs.length) : ∃ x l, vals[r]? = some x ∧ rs[r]? = some l ∧ w.ownsRow B e2 3 x l.length (lanesC l) := by
  obtain ⟨x, hx⟩ : ∃ x, vals[r]? = some x := ⟨_, List.getElem?_eq_getElem (by rw [h.len]; exact hr)⟩
  obtain ⟨l, hl⟩ : ∃ l, rs[r]? = some l := ⟨_, List.getElem?_eq_getElem hr⟩
  exact ⟨x, l, hx, hl, h.row r x l hx hl⟩
theorem RowsO.blkNe (h : RowsO w B e1 e2 g vals rs) (he : e2 ≠ e1) {r : Nat} {x : Value} {l : List Ln} (hx : vals[r]? = some x) (hl : rs[r]? = some l) : ∀ b, x.ownBlock = some b → b ≠ g := own_ne (h.row r x l hx hl) h.blk he
/-- A row is turned: the world w1 is w but for that row's block; its new value is laid into its cell. -/
theorem RowsO.turn (he : e2 ≠ e1) {w1 : World} {r : Nat} {x x' : Value} {l l' : List Ln} (h : RowsO w B e1 e2 g vals rs) (hx : vals[r]? = some x) (hl : rs[r]? = some l) (hk : Keep x.ownBlock.toList w w1) (ho : w1.ownsRow B e2 3 x' l'.length (lanesC l')) (hat : ∀ b, x'.ownBlock = some b → x.ownBlock = some b ∨ w.heap.size ≤ b) :
    RowsO (w1.setCell ⟨g, r, none⟩ x') B e1 e2 g (vals.set r x') (rs.set r l') := by
  have hrv := (List.getElem?_eq_some_iff.1 hx).1
  have hrl := (List.getElem?_eq_some_iff.1 hl).1
  have hb1 : w1.heap[g]? = some (.cells vals.toArray e1 (0, 0)) := hk.at h.blk (fun hm => by
    have := h.blkNe he hx hl g (by simpa using hm)
    exact this rfl)
  have hk2 : Keep [g] w1 (w1.setCell ⟨g, r, none⟩ x') := (Keep.refl _ _).setCell (.inl (by simp)) _
  have hset : ∀ {n : Nat} {v : Value} {xs : List Value}, w1.ownsRow B e2 3 v n xs → (w1.setCell ⟨g, r, none⟩ x').ownsRow B e2 3 v n xs := fun ho => own_keep ho hk2 (fun b hb hm => by
    rw [List.mem_singleton] at hm
    exact own_ne ho hb1 he b hb hm)
  refine ⟨by simpa using h.len, ?_, h.low, fun i y m hy hm => ?_, fun i j y z b hy hz hyb hzb => ?_⟩
  · rw [blk_setCell, if_pos rfl, hb1]
    simp
  · by_cases e : i = r
    · subst e
      rw [List.getElem?_set_self hrv] at hy
      rw [List.getElem?_set_self hrl] at hm
      injection hy with hy
      injection hm with hm
      subst hy hm
      exact hset ho
    · rw [List.getElem?_set_ne (fun h => e h.symm)] at hy hm
      exact hset (own_keep (h.row i y m hy hm) hk (fun b hb hm2 => e (h.apart i r y x b hy hx hb (by simpa using hm2))))
  · have old : ∀ {k : Nat} {u : Value}, k ≠ r → (vals.set r x')[k]? = some u → vals[k]? = some u := fun hk hu => by rwa [List.getElem?_set_ne (fun h => hk h.symm)] at hu
    have new : ∀ {u : Value}, (vals.set r x')[r]? = some u → u = x' := fun hu => by
      rw [List.getElem?_set_self hrv] at hu
      injection hu with hu
      exact hu.symm
    have lt : ∀ {k : Nat} {u : Value} {c : Nat}, vals[k]? = some u → u.ownBlock = some c → c < w.heap.size := fun {k u c} hu hc => by
      have hk := (List.getElem?_eq_some_iff.1 hu).1
      obtain ⟨m, hm⟩ : ∃ m, rs[k]? = some m := ⟨_, List.getElem?_eq_getElem (by rw [← h.len]; exact hk)⟩
      exact ((h.row k u m hu hm).lt c hc).2
    by_cases e1 : i = r
    · by_cases e2 : j = r
      · rw [e1, e2]
      · exfalso
        subst e1
        have h1 := new hy
        subst h1
        have h2 := old e2 hz
        rcases hat b hyb with h3 | h3
        · exact e2 (h.apart j i z x b h2 hx hzb h3)
        · have := lt h2 hzb
          omega
    · by_cases e2 : j = r
      · exfalso
        subst e2
        have h1 := new hz
        subst h1
        have h2 := old e1 hy
        rcases hat b hzb with h3 | h3
        · exact e1 (h.apart i j y x b h2 hx hyb h3)
        · have := lt h2 hyb
          omega
      · exact h.apart i j y z b (old e1 hy) (old e2 hz) hyb hzb
theorem RowsO.keepT {T : TypeId} {b : Nat} {cs : Array Value} {f : Nat × Nat} (h : RowsO w B e1 e2 g vals rs) (hk : Keep [b] w w') (hb : w.heap[b]? = some (.cells cs T f)) (h1 : e1 ≠ T) (h2 : e2 ≠ T) : RowsO w' B e1 e2 g vals rs := by
  have hg : g ≠ b := fun e => by
    have h3 := h.blk
    rw [e, hb] at h3
    injection h3 with h3
    injection h3 with _ h3 _
    exact h1 h3.symm
  exact ⟨h.len, hk.at h.blk (by simpa using hg), h.low, fun r x l hx hl => own_keep (h.row r x l hx hl) hk (fun c hc hm => by
    rw [List.mem_singleton] at hm
    exact own_ne (h.row r x l hx hl) hb h2 c hc hm), h.apart⟩
theorem own_put_cellO {w : World} {B e m n : Nat} {g cap : Nat} {xs : List Value} (h : w.ownsRow B e m (.slice (some ⟨g, 0, none⟩) n cap) n xs) (j : Nat) (x : Value) :
    (w.setCell ⟨g, j, none⟩ x).ownsRow B e m (.slice (some ⟨g, 0, none⟩) n cap) n (xs.set j x) := by
  obtain ⟨hl, h⟩ := h
  refine ⟨by simpa using hl, ?_⟩
  rcases h with ⟨h0, _⟩ | ⟨g', cap', cur, hv, hb, hg, hnc, hcm, hcs, ht⟩
  · cases h0
  · cases hv
    refine .inr ⟨g, cap, cur.setIfInBounds j x, rfl, hb, by rw [blk_setCell, if_pos rfl, hg]; rfl, hnc, hcm, by simpa using hcs, ?_⟩
    rw [← ht]
    simp only [Array.toList_setIfInBounds]
    rw [List.take_set]
/-- The first number of a thing in a row is turned. -/
theorem RowsO.putQ (he : e2 ≠ e1) {r k b c : Nat} {l : List Ln} {d : Ln} (h : RowsO w B e1 e2 g vals rs) (hx : vals[r]? = some (.slice (some ⟨b, 0, none⟩) l.length c)) (hl : rs[r]? = some l) (hk : l[k]? = some d) (q : Int) :
    RowsO (w.setCell ⟨b, k * 3, none⟩ (.int .i64 q)) B e1 e2 g vals (rs.set r (l.set k ⟨q, d.g, d.u⟩)) := by
  have hrl := (List.getElem?_eq_some_iff.1 hl).1
  have hkl := (List.getElem?_eq_some_iff.1 hk).1
  have hK : Keep [b] w (w.setCell ⟨b, k * 3, none⟩ (.int .i64 q)) := (Keep.refl _ _).setCell (.inl (by simp)) _
  have hbg : b ≠ g := h.blkNe he hx hl b rfl
  refine ⟨by simpa using h.len, hK.at h.blk (by simp; exact fun e => hbg e.symm), h.low, fun i y m hy hm => ?_, h.apart⟩
  by_cases e : i = r
  · subst e
    rw [hx] at hy
    injection hy with hy
    subst hy
    rw [List.getElem?_set_self hrl] at hm
    injection hm with hm
    subst hm
    have h1 := own_put_cellO (h.row i _ l hx hl) (k * 3) (.int .i64 q)
    have hlat : lat l k = d := by rw [lat, List.getD_eq_getElem?_getD, hk]; rfl
    have h2 := lanes_put l k 0 (.int .i64 q) ⟨q, d.g, d.u⟩ hkl (by omega) (by rw [hlat]; rfl)
    rw [Nat.add_zero] at h2
    rw [h2] at h1
    rw [List.length_set]
    exact h1
  · rw [List.getElem?_set_ne (fun h => e h.symm)] at hm
    exact own_keep (h.row i y m hy hm) hK (fun a ha hm2 => by
      rw [List.mem_singleton] at hm2
      subst hm2
      exact e (h.apart i r y _ a hy hx ha rfl))
theorem RowsO.rows (h : RowsO w B e1 e2 g vals rs) {n : Nat} (hn : rs.length = n) (hm : n ≤ 1000) : RowsL w (some ⟨g, 0, none⟩) n n rs := by
  refine ⟨hn, Nat.le_refl _, by omega, fun r l hl => ?_⟩
  obtain ⟨x, l', hx, hl', ho⟩ := h.get (List.getElem?_eq_some_iff.1 hl).1
  rw [hl] at hl'
  injection hl' with hl'
  subst hl'
  obtain ⟨ar, cr, rfl, hlv, _⟩ := LnsV.ofOwn ho
  exact ⟨g, 0, ar, cr, rfl, by rw [Nat.zero_add]; exact h.cell hx, hlv⟩
end
end Go
/- In a region that draws its order a call of a function that neither reads nor writes memory may be taken first. -/
namespace Go
namespace Txt
section
variable {P : Program} {ops : Array Oper} {Q : Exit → Act → World → Prop} {md : Region.Mode}
/-- In this state the operation is wanted, and is a step which in every world leaves v and the world. -/
structure Still (P : Program) (ops : Array Oper) (o : Oper) (v : Value) (a : Act) : Prop where
  want : Region.wanted o (yielded ops a.tmps) = true
  step : ∀ (b : Act) (Q : Exit → Act → World → Prop) (K : Act → World → Prop) (w : World), K (b.put o.dst v) w → o.upon P b K Q ((execOp a.eval o).run P w)
theorem Still.of_call {o : Oper} {v : Value} {a : Act} {f : FuncId} {args : Array Value} (hw : Region.wanted o (yielded ops a.tmps) = true) (he : ∀ w, (execOp a.eval o).run P w = .ok (.enter f args) w) (hc : ∀ w, Calls P f args w fun e w' => e = .returned v ∧ w' = w) : Still P ops o v a :=
  ⟨hw, fun b Q K w h => by
    rw [he w]
    exact (hc w).mono (by rintro e w' ⟨rfl, rfl⟩; exact h)⟩
theorem Still.like {o : Oper} {v : Value} {a b : Act} (h : Still P ops o v a) (he : execOp b.eval o = execOp a.eval o) (hw : Region.wanted o (yielded ops b.tmps) = Region.wanted o (yielded ops a.tmps)) : Still P ops o v b :=
  ⟨hw.trans h.want, fun c Q K w hk => by rw [he]; exact h.step c Q K w hk⟩
theorem Still.does {i : Nat} {o : Oper} {v : Value} {a : Act} (hi : ops[i]? = some o) (h : Still P ops o v a) {K : Act → World → Prop} {w : World} (hk : K (a.put o.dst v) w) : wpOp P ops Q i K a w := by
  unfold Go.wpOp
  simp only [hi, h.want, if_true]
  exact .inl (h.step a Q K w hk)
/-- What another operation does behind the early one it does ahead of it as well. -/
theorem later {j : Nat} {x y : Oper} {v : Value} (hj : ops[j]? = some y) (hap : x.apart ops y = true) (sx : ∀ cs b, x.op ≠ .select cs b) (sy : ∀ cs b, y.op ≠ .select cs b)
    (hQ : ∀ c a w, Q (.panic c) (a.put x.dst v) w → Q (.panic c) a w) {K : Act → World → Prop} {a : Act} {w : World} (hs : Still P ops x v a) (h : wpOp P ops Q j K (a.put x.dst v) w) :
    wpOp P ops Q j (fun b w' => Still P ops x v b ∧ K (b.put x.dst v) w') a w := by
  obtain ⟨n1, n2, n3⟩ := Oper.apart_spec hap
  have put_ : ∀ (b : Act) u, Still P ops x v b → Still P ops x v (b.put y.dst u) := fun b u hb => hb.like (execOp_put x sx b y.dst u n3) (wanted_put x b y.dst u n3)
  have swap : ∀ (b : Act) u w', Still P ops x v b → K ((b.put x.dst v).put y.dst u) w' → Still P ops x v (b.put y.dst u) ∧ K ((b.put y.dst u).put x.dst v) w' := fun b u w' hb hk => ⟨put_ b u hb, by rw [← Act.put_comm b v u n2]; exact hk⟩
  have same : execOp (a.put x.dst v).eval y = execOp a.eval y := execOp_put y sy a x.dst v n1
  unfold wpOp at h ⊢
  simp only [hj, wanted_put y a x.dst v n1] at h ⊢
  by_cases hw : Region.wanted y (yielded ops a.tmps) = true
  · simp only [hw, if_true] at h ⊢
    refine h.imp (fun h => ?_) (fun h => ⟨by have h1 := h.1; unfold Oper.asks at h1 ⊢; rwa [same] at h1, h.2⟩)
    unfold Oper.wp at h ⊢
    rw [same] at h
    cases hr : (execOp a.eval y).run P w with
    | halt z w' =>
      rw [hr] at h
      cases z <;> simp only [Oper.upon] at h ⊢
      exact hQ _ _ _ h
    | ok n w' =>
      rw [hr] at h
      cases n with
      | value u => exact swap a u w' hs h
      | skip => exact swap a undef w' hs h
      | defer d =>
        simp only [Oper.upon] at h ⊢
        have hpd := Act.put_defers a x.dst v d
        refine swap { a with defers := d :: a.defers } undef w' (hs.like rfl rfl) ?_
        first | (rw [← hpd]; exact h) | (rw [hpd]; exact h)
      | enter f args =>
        simp only [Oper.upon] at h ⊢
        refine Calls.mono h fun e w2 he => ?_
        cases e with
        | returned u => exact swap a u w2 hs he
        | panicked c => exact hQ _ _ _ he
        | outgrown => exact he
      | row r args =>
        simp only [Oper.upon] at h ⊢
        exact Rows.mono h fun u w2 he => swap a u w2 hs he
      | _ => simp only [Oper.upon] at h
  · simp only [Bool.not_eq_true] at hw
    simp only [hw, Bool.false_eq_true, if_false] at h ⊢
    exact swap a undef w hs h
theorem first_still {i : Nat} {x : Oper} {v : Value} (hi : ops[i]? = some x) (hsel : ∀ (j : Nat) (o : Oper) cs b, ops[j]? = some o → o.op ≠ .select cs b) (hQ : ∀ c a w, Q (.panic c) (a.put x.dst v) w → Q (.panic c) a w) :
    ∀ (fuel : Nat) (listed : Array Bool) (a : Act) (w : World),
      (∀ j y, ops[j]? = some y → j ≠ i → listed.getD j true = false → (∀ e ∈ y.after, Region.binds md e = true → e.on ≠ i) → x.apart ops y = true) →
      i ∈ Region.ready md ops listed → Still P ops x v a → wpAny P md ops Q fuel (listed.setIfInBounds i true) (a.put x.dst v) w → wpAny P md ops Q (fuel + 1) listed a w
  | fuel, listed, a, w, hfree, hr, hs, H => by
    refine ⟨fun h0 => (by rw [h0] at hr; cases hr), fun j hj => ?_⟩
    by_cases e : j = i
    · subst e
      exact hs.does hi H
    · have hjr := ready_mono hj e
      match fuel, H with
      | 0, H =>
        rw [H.1] at hjr
        cases hjr
      | fuel + 1, H =>
        obtain ⟨hun, y, hy, hall⟩ := mem_ready.1 hj
        have hnot : ∀ g ∈ y.after, Region.binds md g = true → g.on ≠ i := fun g hg hb heq => by
          have h1 := hall g hg hb
          have h2 := (mem_ready.1 hr).1
          rw [heq] at h1
          rcases Nat.lt_or_ge i listed.size with h' | h'
          · simp [h'] at h1 h2
            rw [h2] at h1
            cases h1
          · simp [Array.getElem?_eq_none h'] at h1
        refine wpOp_mono (fun b w' hb => ?_) (later hy (hfree j y hy e hun hnot) (fun cs b => hsel i x cs b hi) (fun cs b => hsel j y cs b hy) hQ hs (H.2 j hjr))
        refine first_still hi hsel hQ fuel (listed.setIfInBounds j true) b w' (fun k z hk hki hkun hkno => ?_) (ready_mono hr (Ne.symm e)) hb.1 (by rw [Array.setIfInBounds_comm _ _ e]; exact hb.2)
        refine hfree k z hk hki ?_ hkno
        by_cases hjk : j = k
        · subst hjk; exact hun
        · rw [getD_set_ne true hjk] at hkun; exact hkun
theorem wpAny_takeCall {i : Nat} {x : Oper} {v : Value} {f : FuncId} {args : Array Value} {fuel : Nat} {listed : Array Bool} {a : Act} {w : World} (hi : ops[i]? = some x) (hs : Region.noSelect ops = true) (hf : Region.free md ops listed i = true) (hr : (Region.ready md ops listed).contains i = true)
    (hQ : ∀ c a w, Q (.panic c) (a.put x.dst v) w → Q (.panic c) a w) (hw : Region.wanted x (yielded ops a.tmps) = true) (he : ∀ w, (execOp a.eval x).run P w = .ok (.enter f args) w) (hc : ∀ w, Calls P f args w fun e w' => e = .returned v ∧ w' = w)
    (h : wpAny P md ops Q fuel (listed.setIfInBounds i true) (a.put x.dst v) w) : wpAny P md ops Q (fuel + 1) listed a w :=
  first_still hi (Region.noSelect_spec hs) hQ fuel listed a w (Region.free_spec hi hf) (by simpa using hr) (Still.of_call hw he hc) h
end
end Txt
end Go
/- Explore: Progs. -/
namespace Go.Proofs.Ytfcellgjbbfobaa
open Go.RowKit Go.Ex
theorem own_sliceE {w : World} {B e m n : Nat} {v : Value} {xs : List Value} (h : w.ownsRow B e m v n xs) : ∃ a c, v = .slice a n c := by
  rcases h.2 with ⟨rfl, h0⟩ | ⟨g, cap, cur, rfl, _⟩
  · exact ⟨none, 0, by rw [h0]⟩
  · exact ⟨_, _, rfl⟩
theorem rest_take (k n : Int) (hn : 0 < n) (hn1 : n ≤ 1000000000) (w : World) : Calls Try.prog 11 #[.int .i64 k, .int .i64 n] w fun e w' => e = .returned (.int .i64 (restI k n)) ∧ w' = w :=
  (rest_any k n w hn hn1).mono (by rintro e w' ⟨rfl, rfl⟩; exact ⟨rfl, rfl⟩)
theorem rest_tq {k n q : Int} (h : Hid (restI k n = q)) (hn : 0 < n) (hn1 : n ≤ 1000000000) (w : World) : Calls Try.prog 11 #[.int .i64 k, .int .i64 n] w fun e w' => e = .returned (.int .i64 q) ∧ w' = w :=
  (rest_take k n hn hn1 w).mono (by rintro e w' ⟨rfl, rfl⟩; exact ⟨by rw [h.out], rfl⟩)
theorem info57 : (Try.prog.info? 57).map (fun i => (i.zero, i.size, i.bytes)) = some (some (.agg #[.int .i64 0, .int .i64 0, .int .i64 0]), 3, 24) := by kernel_rfl
theorem info54 : (Try.prog.info? 54).map (fun i => (i.zero, i.size, i.bytes)) = some (some (.slice none 0 0), 1, 24) := by kernel_rfl
theorem mk51 (w : World) : (Instr.makeSlice 51 (.int .i64 3) (.int .i64 3)).run Try.prog w = .ok (.slice (some ⟨w.heap.size, 0, none⟩) 3 3) (w.alloc (.cells #[.slice none 0 0, .slice none 0 0, .slice none 0 0] 54)) := by
  obtain ⟨i3, hi, hz, hs, hb⟩ := infoE info54
  have := run_make (P := Try.prog) w 51 54 i3 (.slice none 0 0) Try.underlying51 hi hz .i64 .i64 3 3 (by omega) (by omega) (by rw [hb]; omega) (by omega)
  have hc : madeCells (Value.slice none 0 0).cells ((3 : Int).toNat * 1) = #[.slice none 0 0, .slice none 0 0, .slice none 0 0] := by
    refine Array.ext (by simp [madeCells]) fun j h1 h2 => ?_
    have h3 : j < 3 := h2
    have hv : (Value.slice none 0 0).cells = #[Value.slice none 0 0] := rfl
    obtain rfl | rfl | rfl : j = 0 ∨ j = 1 ∨ j = 2 := by omega
    all_goals simp [madeCells, hv]
  rw [this, hs, hc]
  rfl
theorem Bf.le_sum_memE : ∀ {l : List Nat} {x : Nat}, x ∈ l → x ≤ l.sum
  | a :: l, x, h => by
    rw [List.sum_cons]
    rcases List.mem_cons.1 h with rfl | h
    · omega
    · have := Bf.le_sum_memE h
      omega
theorem flat_set {rs : List (List Ln)} {r : Nat} {l : List Ln} (h : rs[r]? = some l) (x : Ln) : (rs.set r (l ++ [x])).flatten.length = rs.flatten.length + 1 := by
  induction rs generalizing r with
  | nil => simp at h
  | cons y rs ih =>
    cases r with
    | zero =>
      simp at h
      subst h
      simp
      omega
    | succ r =>
      have := ih (by simpa using h)
      simp only [List.set_cons_succ, List.flatten_cons, List.length_append, this]
      omega
set_option maxRecDepth 100000 in
set_option maxHeartbeats 8000000 in
theorem progs26_any {w : World} {a : Option Addr} {len cap most : Nat} {zs : List Int} (hv : IntsV w a len cap zs) (hmo : most ≤ 12) :
    Calls Try.prog 26 #[.slice a len cap, .int .i64 most] w fun e w' => ∃ g vals rs, e = .returned (.slice (some ⟨g, 0, none⟩) 3 3) ∧ RowsO w' w.heap.size 54 57 g vals rs ∧ rs.length = 3 ∧ PsOk rs ∧ rs.flatten.length ≤ most ∧ Keep [] w w' := by
  have hroom := hv.room
  have hmost := hv.most
  have h9 : maxLen = 9223372036854775807 := rfl
  rw [h9] at hmost
  obtain ⟨N, hN⟩ : ∃ N : Nat, min len most = N := ⟨_, rfl⟩
  have hmn : min (len : Int) (most : Int) = (N : Int) := by omega
  have hNl : N ≤ len := by omega
  have hN1 : N ≤ most := by omega
  have HV := Lib.hid hv
  obtain ⟨i57, hi57, hz0, hz1, hz2⟩ := infoE info57
  have hmk := mk51
  clear hv h9 hN
  go_enter Try.func26, Try.ntmps26
  go_upto_region 3 with (first | (with_reducible refine Txt.wp_region_text mixed quiet (by decide +kernel) ?_) | (with_reducible refine Txt.text_done (by kernel_rfl) ?_))
  have HK0 := Lib.hid ((Keep.refl [] w).alloc (.cells #[.slice none 0 0, .slice none 0 0, .slice none 0 0] 54))
  have HR0 : Hid (RowsO (w.alloc (.cells #[.slice none 0 0, .slice none 0 0, .slice none 0 0] 54)) w.heap.size 54 57 w.heap.size [.slice none 0 0, .slice none 0 0, .slice none 0 0] [[], [], []]) := Lib.hid (by
    have hn : ∀ {k : Nat} {x : Value}, ([.slice none 0 0, .slice none 0 0, .slice none 0 0] : List Value)[k]? = some x → x = .slice none 0 0 := fun {k x} hx => by
      have := List.mem_of_getElem? hx
      simpa using this
    refine ⟨rfl, blk_new w _, Nat.le_refl _, fun r x l hx hl => ?_, fun i j x y b hx hy hxb => ?_⟩
    · obtain rfl := hn hx
      obtain rfl : l = [] := by have := List.mem_of_getElem? hl; simpa using this
      exact World.ownsRow_nil _ _ _ _
    · obtain rfl := hn hx
      cases hxb)
  obtain ⟨g, hg⟩ : ∃ g, w.heap.size = g := ⟨_, rfl⟩
  have HGE := Lib.hid hg
  obtain ⟨W0, hW0⟩ : ∃ W0, w.alloc (.cells #[.slice none 0 0, .slice none 0 0, .slice none 0 0] 54) = W0 := ⟨_, rfl⟩
  rw [hW0] at HK0 HR0 ⊢
  have HR1 : Hid (RowsO W0 w.heap.size 54 57 g [.slice none 0 0, .slice none 0 0, .slice none 0 0] [[], [], []]) := Lib.hid (hg ▸ HR0.out)
  rw [hg] at ⊢
  clear hW0 HR0 hmk hg
  go_loopw [16] (fun j wr => ∃ (i : Nat) (vals : List Value) (rs : List (List Ln)), i ≤ N ∧ j = .int .i64 i ∧ Hid (RowsO wr w.heap.size 54 57 g vals rs) ∧ rs.length = 3 ∧ Hid (∀ p ∈ rs, ∀ d ∈ p, DoOk d) ∧ Hid (rs.flatten.length = i) ∧ Hid (Keep [] w wr)) (fun j _ => N - (intOf j).toNat)
  case atStart => exact ⟨0, _, _, by omega, rfl, HR1, rfl, Lib.hid (by simp), Lib.hid rfl, HK0⟩
  case round =>
    obtain ⟨i, vals, rs, hi, rfl, HR, hr3, HOK, HFL, HK⟩ := hrel
    by_cases hlt : i < N
    · obtain ⟨b1, off, hab, hc⟩ := (HV.out.keep HK.out (by simp)).cells (by omega)
      have hcx := hc i (by omega)
      obtain ⟨z, hz⟩ : ∃ z, zs.getD i 0 = z := ⟨_, rfl⟩
      rw [hz] at hcx
      have hdec : decide ((i : Int) < (N : Int)) = true := by simp; omega
      subst hab
      clear hc hz
      obtain ⟨q1, hq1, hq1b⟩ := rest_nat z 3 (by omega)
      obtain ⟨q2, hq2, hq2b⟩ := rest_nat (IntKind.i64.wrap (z.tdiv 4)) 4 (by omega)
      obtain ⟨q3, hq3, hq3b⟩ := rest_nat (IntKind.i64.wrap (z.tdiv 16)) 3 (by omega)
      obtain ⟨q4, hq4, hq4b⟩ := rest_nat (IntKind.i64.wrap (IntKind.i64.wrap (z.tdiv 64) + (i : Int))) 3 (by omega)
      have HQ1 := Lib.hid hq1
      have HQ2 := Lib.hid hq2
      have HQ3 := Lib.hid hq3
      have HQ4 := Lib.hid hq4
      obtain ⟨kk, hkk⟩ : ∃ kk, IntKind.i64.wrap (1 + (q2 : Int)) = kk := ⟨_, rfl⟩
      have hk14 : 1 ≤ kk ∧ kk ≤ 4 := by
        rw [← hkk]
        simp only [IntKind.wrap, IntKind.bits, IntKind.signed]
        simp
        omega
      obtain ⟨x1, l1, hx1, hl1, ho1⟩ := HR.out.get (show q1 < rs.length by omega)
      have hcq := HR.out.cell hx1
      have HBL0 := HR.out.blk
      have hgl := lt_of_blk HBL0
      obtain ⟨av1, cv1, hve⟩ := own_sliceE ho1
      subst hve
      have hkA : Keep [] wr (wr.alloc (.cells #[.int .i64 kk, .int .i64 q3, .int .i64 q4] 57)).drew := ((Keep.refl [] wr).alloc _).drew
      have HKA := Lib.hid hkA
      have HOA := Lib.hid (own_keep ho1 hkA (by simp))
      have HBL := Lib.hid (hkA.at HBL0 (by simp))
      have HXV := Lib.hid hx1
      have HNE := Lib.hid (HR.out.blkNe (by decide) hx1 hl1)
      have HNW : Hid (∀ j u, ([.int .i64 kk, .int .i64 q3, .int .i64 q4] : List Value)[j]? = some u → (wr.alloc (.cells #[.int .i64 kk, .int .i64 q3, .int .i64 q4] 57)).drew.cell? ((⟨wr.heap.size, 0, none⟩ : Addr).add j) = some u) := Lib.hid (cells_new wr [.int .i64 kk, .int .i64 q3, .int .i64 q4] 57 (0, 0))
      have HONE : Hid (∀ u ∈ ([.int .i64 kk, .int .i64 q3, .int .i64 q4] : List Value), u.oneCell' = true) := Lib.hid (by simp [Value.oneCell'])
      have hll : l1.length ≤ 12 := by
        have h1 : l1.length ≤ rs.flatten.length := by
          obtain ⟨hq, he⟩ := List.getElem?_eq_some_iff.1 hl1
          rw [← he, List.length_flatten]
          exact Bf.le_sum_memE (List.mem_map.2 ⟨_, List.getElem_mem hq, rfl⟩)
        have := HFL.out
        omega
      have H63 : Hid (l1.length + 1 ≤ maxLen) := Lib.hid (by unfold maxLen; omega)
      have HBY : Hid ((l1.length + 1) * 24 ≤ 140737488355328) := Lib.hid (by omega)
      have HBS : Hid (w.heap.size ≤ (wr.alloc (.cells #[.int .i64 kk, .int .i64 q3, .int .i64 q4] 57)).drew.heap.size) := Lib.hid (Nat.le_trans HK.out.size hkA.size)
      have HHS : Hid ((wr.alloc (.cells #[.int .i64 kk, .int .i64 q3, .int .i64 q4] 57)).drew.heap.size = wr.heap.size + 1) := Lib.hid (by simp)
      have HLB : Hid (∀ b, (Value.slice av1 l1.length cv1).ownBlock = some b → w.heap.size ≤ b) := Lib.hid (fun b hb => (ho1.lt b hb).1)
      have HGW : Hid (w.heap.size ≤ g) := Lib.hid HR.out.low
      have HOK9 : Hid (∀ p ∈ rs.set q1 (l1 ++ [⟨kk, q3, q4⟩]), ∀ d ∈ p, DoOk d) := Lib.hid (fun p hp d hd => by
        rcases List.mem_or_eq_of_mem_set hp with h | h
        · exact HOK.out p h d hd
        · subst h
          rcases List.mem_append.1 hd with h2 | h2
          · exact HOK.out l1 (List.mem_of_getElem? hl1) d h2
          · rw [List.mem_singleton] at h2
            subst h2
            exact ⟨hk14, ⟨by simp only; omega, by simp only; omega⟩, by simp only; omega, by simp only; omega⟩)
      have HFL9 : Hid ((rs.set q1 (l1 ++ [⟨kk, q3, q4⟩])).flatten.length = i + 1) := Lib.hid (by rw [flat_set hl1, HFL.out])
      have hzq := thaw HBL0
      clear hq1 hq2 hq3 hq4 HBL0 hkA
      go_upto_region 5 with (first | (with_reducible refine Txt.wp_region_text mixed quiet (by decide +kernel) ?_) | (with_reducible refine Txt.text_done (by kernel_rfl) ?_))
      refine wp_region_any mixed ?_
      refine wpAny_take (i := 0) (v := ?_) rfl (by kernel_rfl) (by kernel_rfl) (by kernel_rfl) (fun _ _ _ h => h) (Or.inl ⟨by rfl, ?_⟩) ?_
      rotate_left
      · (intro w; go_simp; (try with_reducible rfl))
      try simp only [Act.put]
      try simp only [List.setIfInBounds_toArray]
      try simp only [List.set_cons_succ]
      try simp only [List.set_cons_zero]
      refine wpAny_take (i := 1) (v := ?_) rfl (by kernel_rfl) (by kernel_rfl) (by kernel_rfl) (fun _ _ _ h => h) (Or.inl ⟨by rfl, ?_⟩) ?_
      rotate_left
      · (intro w; go_simp; (try with_reducible rfl))
      try simp only [Act.put]
      try simp only [List.setIfInBounds_toArray]
      try simp only [List.set_cons_succ]
      try simp only [List.set_cons_zero]
      refine Txt.wpAny_takeCall (i := 2) (f := ?_) (args := ?_) (v := ?_) rfl (by kernel_rfl) (by kernel_rfl) (by kernel_rfl) (fun _ _ _ h => h) (by rfl) ?_ ?_ ?_
      rotate_left 3
      · (intro w; go_simp; first | (refine And.intro ?_ ?_ <;> with_reducible rfl) | with_reducible rfl)
      · (intro w; exact rest_tq HQ1 (by decide) (by decide) w)
      try simp only [Act.put]
      try simp only [List.setIfInBounds_toArray]
      try simp only [List.set_cons_succ]
      try simp only [List.set_cons_zero]
      refine wpAny_take (i := 3) (v := ?_) rfl (by kernel_rfl) (by kernel_rfl) (by kernel_rfl) (fun _ _ _ h => h) (Or.inl ⟨by rfl, ?_⟩) ?_
      rotate_left
      · (intro w; go_simp; (try with_reducible rfl))
      try simp only [Act.put]
      try simp only [List.setIfInBounds_toArray]
      try simp only [List.set_cons_succ]
      try simp only [List.set_cons_zero]
      refine wpAny_take (i := 4) (v := ?_) rfl (by kernel_rfl) (by kernel_rfl) (by kernel_rfl) (fun _ _ _ h => h) (Or.inl ⟨by rfl, ?_⟩) ?_
      rotate_left
      · (intro w; go_simp; (try with_reducible rfl))
      try simp only [Act.put]
      try simp only [List.setIfInBounds_toArray]
      try simp only [List.set_cons_succ]
      try simp only [List.set_cons_zero]
      refine Txt.wpAny_takeCall (i := 5) (f := ?_) (args := ?_) (v := ?_) rfl (by kernel_rfl) (by kernel_rfl) (by kernel_rfl) (fun _ _ _ h => h) (by rfl) ?_ ?_ ?_
      rotate_left 3
      · (intro w; go_simp; first | (refine And.intro ?_ ?_ <;> with_reducible rfl) | with_reducible rfl)
      · (intro w; exact rest_tq HQ1 (by decide) (by decide) w)
      try simp only [Act.put]
      try simp only [List.setIfInBounds_toArray]
      try simp only [List.set_cons_succ]
      try simp only [List.set_cons_zero]
      refine wpAny_take (i := 6) (v := ?_) rfl (by kernel_rfl) (by kernel_rfl) (by kernel_rfl) (fun _ _ _ h => h) (Or.inl ⟨by rfl, ?_⟩) ?_
      rotate_left
      · (intro w; go_simp; (try with_reducible rfl))
      try simp only [Act.put]
      try simp only [List.setIfInBounds_toArray]
      try simp only [List.set_cons_succ]
      try simp only [List.set_cons_zero]
      refine wpAny_take (i := 8) (v := ?_) rfl (by kernel_rfl) (by kernel_rfl) (by kernel_rfl) (fun _ _ _ h => h) (Or.inl ⟨by rfl, ?_⟩) ?_
      rotate_left
      · (intro w; go_simp; (try with_reducible rfl))
      try simp only [Act.put]
      try simp only [List.setIfInBounds_toArray]
      try simp only [List.set_cons_succ]
      try simp only [List.set_cons_zero]
      refine wpAny_take (i := 9) (v := ?_) rfl (by kernel_rfl) (by kernel_rfl) (by kernel_rfl) (fun _ _ _ h => h) (Or.inl ⟨by rfl, ?_⟩) ?_
      rotate_left
      · (intro w; go_simp; (try with_reducible rfl))
      try simp only [Act.put]
      try simp only [List.setIfInBounds_toArray]
      try simp only [List.set_cons_succ]
      try simp only [List.set_cons_zero]
      refine Txt.wpAny_takeCall (i := 10) (f := ?_) (args := ?_) (v := ?_) rfl (by kernel_rfl) (by kernel_rfl) (by kernel_rfl) (fun _ _ _ h => h) (by rfl) ?_ ?_ ?_
      rotate_left 3
      · (intro w; go_simp; first | (refine And.intro ?_ ?_ <;> with_reducible rfl) | with_reducible rfl)
      · (intro w; exact rest_tq HQ2 (by decide) (by decide) w)
      try simp only [Act.put]
      try simp only [List.setIfInBounds_toArray]
      try simp only [List.set_cons_succ]
      try simp only [List.set_cons_zero]
      refine wpAny_take (i := 11) (v := ?_) rfl (by kernel_rfl) (by kernel_rfl) (by kernel_rfl) (fun _ _ _ h => h) (Or.inl ⟨by rfl, ?_⟩) ?_
      rotate_left
      · (intro w; go_simp; (try with_reducible rfl))
      try simp only [Act.put]
      try simp only [List.setIfInBounds_toArray]
      try simp only [List.set_cons_succ]
      try simp only [List.set_cons_zero]
      refine wpAny_take (i := 12) (v := ?_) rfl (by kernel_rfl) (by kernel_rfl) (by kernel_rfl) (fun _ _ _ h => h) (Or.inl ⟨by rfl, ?_⟩) ?_
      rotate_left
      · (intro w; go_simp; (try with_reducible rfl))
      try simp only [Act.put]
      try simp only [List.setIfInBounds_toArray]
      try simp only [List.set_cons_succ]
      try simp only [List.set_cons_zero]
      refine wpAny_take (i := 13) (v := ?_) rfl (by kernel_rfl) (by kernel_rfl) (by kernel_rfl) (fun _ _ _ h => h) (Or.inl ⟨by rfl, ?_⟩) ?_
      rotate_left
      · (intro w; go_simp; (try with_reducible rfl))
      try simp only [Act.put]
      try simp only [List.setIfInBounds_toArray]
      try simp only [List.set_cons_succ]
      try simp only [List.set_cons_zero]
      refine Txt.wpAny_takeCall (i := 14) (f := ?_) (args := ?_) (v := ?_) rfl (by kernel_rfl) (by kernel_rfl) (by kernel_rfl) (fun _ _ _ h => h) (by rfl) ?_ ?_ ?_
      rotate_left 3
      · (intro w; go_simp; first | (refine And.intro ?_ ?_ <;> with_reducible rfl) | with_reducible rfl)
      · (intro w; exact rest_tq HQ3 (by decide) (by decide) w)
      try simp only [Act.put]
      try simp only [List.setIfInBounds_toArray]
      try simp only [List.set_cons_succ]
      try simp only [List.set_cons_zero]
      refine wpAny_take (i := 15) (v := ?_) rfl (by kernel_rfl) (by kernel_rfl) (by kernel_rfl) (fun _ _ _ h => h) (Or.inl ⟨by rfl, ?_⟩) ?_
      rotate_left
      · (intro w; go_simp; (try with_reducible rfl))
      try simp only [Act.put]
      try simp only [List.setIfInBounds_toArray]
      try simp only [List.set_cons_succ]
      try simp only [List.set_cons_zero]
      refine wpAny_take (i := 16) (v := ?_) rfl (by kernel_rfl) (by kernel_rfl) (by kernel_rfl) (fun _ _ _ h => h) (Or.inl ⟨by rfl, ?_⟩) ?_
      rotate_left
      · (intro w; go_simp; (try with_reducible rfl))
      try simp only [Act.put]
      try simp only [List.setIfInBounds_toArray]
      try simp only [List.set_cons_succ]
      try simp only [List.set_cons_zero]
      refine wpAny_take (i := 17) (v := ?_) rfl (by kernel_rfl) (by kernel_rfl) (by kernel_rfl) (fun _ _ _ h => h) (Or.inl ⟨by rfl, ?_⟩) ?_
      rotate_left
      · (intro w; go_simp; (try with_reducible rfl))
      try simp only [Act.put]
      try simp only [List.setIfInBounds_toArray]
      try simp only [List.set_cons_succ]
      try simp only [List.set_cons_zero]
      refine wpAny_take (i := 18) (v := ?_) rfl (by kernel_rfl) (by kernel_rfl) (by kernel_rfl) (fun _ _ _ h => h) (Or.inl ⟨by rfl, ?_⟩) ?_
      rotate_left
      · (intro w; go_simp; (try with_reducible rfl))
      try simp only [Act.put]
      try simp only [List.setIfInBounds_toArray]
      try simp only [List.set_cons_succ]
      try simp only [List.set_cons_zero]
      refine Txt.wpAny_takeCall (i := 19) (f := ?_) (args := ?_) (v := ?_) rfl (by kernel_rfl) (by kernel_rfl) (by kernel_rfl) (fun _ _ _ h => h) (by rfl) ?_ ?_ ?_
      rotate_left 3
      · (intro w; go_simp; first | (refine And.intro ?_ ?_ <;> with_reducible rfl) | with_reducible rfl)
      · (intro w; exact rest_tq HQ4 (by decide) (by decide) w)
      try simp only [Act.put]
      try simp only [List.setIfInBounds_toArray]
      try simp only [List.set_cons_succ]
      try simp only [List.set_cons_zero]
      refine wpAny_take (i := 20) (v := ?_) rfl (by kernel_rfl) (by kernel_rfl) (by kernel_rfl) (fun _ _ _ h => h) (Or.inl ⟨by rfl, ?_⟩) ?_
      rotate_left
      · (intro w; go_simp; (try with_reducible rfl))
      try simp only [Act.put]
      try simp only [List.setIfInBounds_toArray]
      try simp only [List.set_cons_succ]
      try simp only [List.set_cons_zero]
      try (change wpAny _ _ _ _ _ _ _ (World.drew _))
      refine wpAny_ready (rs := [7, 21]) (by kernel_rfl) (by simp) ?_
      refine AllReady.cons rfl (fun K hK => ?_) (AllReady.cons rfl (fun K hK => ?_) AllReady.nil)
      · go_simp
        refine hK _ _ ?_
        clear hK K
        refine wpAny_ready (rs := [21]) (by kernel_rfl) (by simp) ?_
        refine AllReady.cons rfl (fun K hK => ?_) AllReady.nil
        go_simp
        refine hK _ _ ?_
        clear hK K
        refine wpAny_ready (rs := [22]) (by kernel_rfl) (by simp) ?_
        refine AllReady.cons rfl (fun K hK => ?_) AllReady.nil
        refine step_append_lies _ rfl (.tmp 28) (.tmp 42) 54 rfl w.heap.size 57 i57 (.agg #[.int .i64 0, .int .i64 0, .int .i64 0]) 3 24 Try.underlying54 hi57 hz0 hz1 hz2 rfl (by decide) (.slice av1 l1.length cv1) l1.length (lanesC l1) (by simp [Act.eval]) HOA.out ⟨wr.heap.size, 0, none⟩ 1 1 [.int .i64 kk, .int .i64 q3, .int .i64 q4] (by simp [Act.eval]) rfl HNW.out HONE.out (by decide) H63.out HBY.out HBS.out (wr.heap.size + 1) HHS.out ?_
        intro g9 c9 w9 hown9 hgr9 hat9 hlt9
        have hk9 : Keep (Value.slice av1 l1.length cv1).ownBlock.toList (wr.alloc (.cells #[.int .i64 kk, .int .i64 q3, .int .i64 q4] 57)).drew w9 := Keep.ofGrown hgr9 (fun x hx => by simp [hx])
        have hb9 : w9.heap[g]? = some (.cells vals.toArray 54 (0, 0)) := hk9.at HBL.out (fun hm => HNE.out g (by simpa using hm) rfl)
        have hc9 : w9.cell? ⟨g, q1, none⟩ = some (.slice av1 l1.length cv1) := by rw [cellAt hb9]; simpa using HXV.out
        have hz9 := thaw hb9
        have HO9 := Lib.hid hown9
        have HAT9 := Lib.hid hat9
        have HK9 := Lib.hid hk9
        clear hown9 hgr9 hat9 hk9 hb9
        refine hK _ _ ?_
        clear hK K
        refine wpAny_ready (rs := [23]) (by kernel_rfl) (by simp) ?_
        refine AllReady.cons rfl (fun K hK => ?_) AllReady.nil
        go_simp
        refine hK _ _ ?_
        clear hK K
        refine wpAny_ready (rs := [24]) (by kernel_rfl) (by simp) ?_
        refine AllReady.cons rfl (fun K hK => ?_) AllReady.nil
        go_simp
        refine hK _ _ ?_
        clear hK K
        refine wpAny_done (by kernel_rfl) ?_ _
        go_wp2_with (first | (with_reducible refine Txt.wp_region_text mixed quiet (by decide +kernel) ?_) | (with_reducible refine Txt.text_done (by kernel_rfl) ?_))
        have hvx : (Value.slice (some ⟨g9, 0, none⟩) (l1.length + 1) c9).ownBlock = some g9 := rfl
        have HR9 := RowsO.turn (l' := l1 ++ [⟨kk, q3, q4⟩]) (x' := .slice (some ⟨g9, 0, none⟩) (l1.length + 1) c9) (by decide) (HR.out.keep0 HKA.out) hx1 hl1 HK9.out (by rw [lanesC_snoc, List.length_append]; exact HO9.out) (fun b hb => by
          injection hb with hb
          subst hb
          rcases HAT9.out with h | h
          · exact .inl h
          · exact .inr (by rw [h, HHS.out]; exact Nat.le_refl _))
        exact ⟨⟨i + 1, _, _, hlt, by go_num, Lib.hid HR9, by simpa using hr3, HOK9, HFL9, Lib.hid (((HK.out.trans HKA.out).call HK9.out (fun b hb => .inr (HLB.out b (by simpa using hb)))).setCell (.inr HGW.out) _)⟩, by simp [intOf]; omega⟩
      · go_simp
        refine hK _ _ ?_
        clear hK K
        refine wpAny_ready (rs := [7]) (by kernel_rfl) (by simp) ?_
        refine AllReady.cons rfl (fun K hK => ?_) AllReady.nil
        go_simp
        refine hK _ _ ?_
        clear hK K
        refine wpAny_ready (rs := [22]) (by kernel_rfl) (by simp) ?_
        refine AllReady.cons rfl (fun K hK => ?_) AllReady.nil
        refine step_append_lies _ rfl (.tmp 28) (.tmp 42) 54 rfl w.heap.size 57 i57 (.agg #[.int .i64 0, .int .i64 0, .int .i64 0]) 3 24 Try.underlying54 hi57 hz0 hz1 hz2 rfl (by decide) (.slice av1 l1.length cv1) l1.length (lanesC l1) (by simp [Act.eval]) HOA.out ⟨wr.heap.size, 0, none⟩ 1 1 [.int .i64 kk, .int .i64 q3, .int .i64 q4] (by simp [Act.eval]) rfl HNW.out HONE.out (by decide) H63.out HBY.out HBS.out (wr.heap.size + 1) HHS.out ?_
        intro g9 c9 w9 hown9 hgr9 hat9 hlt9
        have hk9 : Keep (Value.slice av1 l1.length cv1).ownBlock.toList (wr.alloc (.cells #[.int .i64 kk, .int .i64 q3, .int .i64 q4] 57)).drew w9 := Keep.ofGrown hgr9 (fun x hx => by simp [hx])
        have hb9 : w9.heap[g]? = some (.cells vals.toArray 54 (0, 0)) := hk9.at HBL.out (fun hm => HNE.out g (by simpa using hm) rfl)
        have hc9 : w9.cell? ⟨g, q1, none⟩ = some (.slice av1 l1.length cv1) := by rw [cellAt hb9]; simpa using HXV.out
        have hz9 := thaw hb9
        have HO9 := Lib.hid hown9
        have HAT9 := Lib.hid hat9
        have HK9 := Lib.hid hk9
        clear hown9 hgr9 hat9 hk9 hb9
        refine hK _ _ ?_
        clear hK K
        refine wpAny_ready (rs := [23]) (by kernel_rfl) (by simp) ?_
        refine AllReady.cons rfl (fun K hK => ?_) AllReady.nil
        go_simp
        refine hK _ _ ?_
        clear hK K
        refine wpAny_ready (rs := [24]) (by kernel_rfl) (by simp) ?_
        refine AllReady.cons rfl (fun K hK => ?_) AllReady.nil
        go_simp
        refine hK _ _ ?_
        clear hK K
        refine wpAny_done (by kernel_rfl) ?_ _
        go_wp2_with (first | (with_reducible refine Txt.wp_region_text mixed quiet (by decide +kernel) ?_) | (with_reducible refine Txt.text_done (by kernel_rfl) ?_))
        have hvx : (Value.slice (some ⟨g9, 0, none⟩) (l1.length + 1) c9).ownBlock = some g9 := rfl
        have HR9 := RowsO.turn (l' := l1 ++ [⟨kk, q3, q4⟩]) (x' := .slice (some ⟨g9, 0, none⟩) (l1.length + 1) c9) (by decide) (HR.out.keep0 HKA.out) hx1 hl1 HK9.out (by rw [lanesC_snoc, List.length_append]; exact HO9.out) (fun b hb => by
          injection hb with hb
          subst hb
          rcases HAT9.out with h | h
          · exact .inl h
          · exact .inr (by rw [h, HHS.out]; exact Nat.le_refl _))
        exact ⟨⟨i + 1, _, _, hlt, by go_num, Lib.hid HR9, by simpa using hr3, HOK9, HFL9, Lib.hid (((HK.out.trans HKA.out).call HK9.out (fun b hb => .inr (HLB.out b (by simpa using hb)))).setCell (.inr HGW.out) _)⟩, by simp [intOf]; omega⟩
    · have hin : i = N := by omega
      have hdec : decide ((i : Int) < (N : Int)) = false := by simp; omega
      go_wp2_with (first | (with_reducible refine Txt.wp_region_text mixed quiet (by decide +kernel) ?_) | (with_reducible refine Txt.text_done (by kernel_rfl) ?_))
      go_ret
      exact ⟨_, vals, rs, rfl, HR.out, hr3, ⟨by omega, HOK.out, by have := HFL.out; omega⟩, by have := HFL.out; omega, HK.out⟩
end Go.Proofs.Ytfcellgjbbfobaa
