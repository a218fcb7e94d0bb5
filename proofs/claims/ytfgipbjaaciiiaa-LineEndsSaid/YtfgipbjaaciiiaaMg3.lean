/- Texts laid together: R8 L1 L2 L3 L4. -/
import Derived.Test.YtfgipbjaaciiiaaMg2
import Derived.Laws.CopyRow
import Derived.Laws.AppendOwnNone
import Derived.Laws.IdiomCopy
import Derived.Shelf.SlicesE.Clone
/- Writing in place into a row of one's own, elements of however many cells. -/
namespace Go
theorem keep_setRow (w : World) (g : Nat) (cs : Array Value) : Keep [g] w (w.setRow g cs) :=
  ⟨rfl, rfl, rfl, by simp, fun i _ hs => setRow_other w g i cs (by simpa using hs)⟩
section
variable {P : Program}
theorem wpList_append_room {w : World} {ops : Array Oper} {rest : List Oper} {o : Oper} {a : Act} {Q : Exit → Act → World → Prop} (hgd : o.guard = none) (s x : Operand) (t : TypeId)
    (ho : o.op = .call { callee := .builtin .append, args := #[s, x], argTypes := #[t, t] })
    (e : TypeId) (i : TypeInfo) (ht : P.underlying t = some (.slice e)) (hi : P.info? e = some i) (size : Nat) (hsz : i.size = size)
    (g sLen sCap : Nat) (cur : Array Value) (hg : w.heap[g]? = some (.cells cur e (0, 0))) (hs : a.eval s = .slice (some ⟨g, 0, none⟩) sLen sCap)
    (ad : Addr) (m c : Nat) (news : List Value) (hx : a.eval x = .slice (some ad) m c) (hl : news.length = m * size) (hnews : ∀ j u, news[j]? = some u → w.cell? (ad.add j) = some u) (h1 : ∀ u ∈ news, u.oneCell' = true)
    (hroom : sLen + m ≤ sCap) (hfit : sLen * size + news.length ≤ cur.size)
    (h : wpList P ops Q rest (a.put o.dst (.slice (some ⟨g, 0, none⟩) (sLen + m) sCap)) (w.setRow g (cur.toList.take (sLen * size) ++ news ++ cur.toList.drop (sLen * size + news.length)).toArray)) : wpList P ops Q (o :: rest) a w := by
  subst hsz
  refine wpList_plain hgd fun K hK => ?_
  have hrun := run_append_room (P := P) (w := w) t o.type e i ht hi g sLen sCap cur hg ad m c news hl hnews h1 hroom hfit
  unfold Oper.wp
  simp [execOp, ho, resolve, invoke, builtin, hs, hx, hrun, Result.andThen]
  exact hK _ _ (by simpa only [List.append_assoc] using h)
theorem wpList_clear_row {w : World} {ops : Array Oper} {rest : List Oper} {o : Oper} {a : Act} {Q : Exit → Act → World → Prop} (hgd : o.guard = none) (s : Operand) (t : TypeId)
    (ho : o.op = .call { callee := .builtin .clear, args := #[s], argTypes := #[t] })
    (e : TypeId) (z : Value) (ht : P.underlying t = some (.slice e)) (hv : ∀ w, (zeroValue e).run P w = .ok z w) (hz1 : ∀ u ∈ z.cells, u.oneCell' = true)
    (g off n c : Nat) (cur : Array Value) (hg : w.heap[g]? = some (.cells cur e (0, 0))) (hs : a.eval s = .slice (some ⟨g, off, none⟩) (n + 1) c) (hfit : off + (n + 1) * z.cells.size ≤ cur.size)
    (h : ∀ L : List Value, L.length = (n + 1) * z.cells.size → wpList P ops Q rest (a.put o.dst (.tuple #[])) (w.setRow g (cur.toList.take off ++ L ++ cur.toList.drop (off + L.length)).toArray)) : wpList P ops Q (o :: rest) a w := by
  refine wpList_plain hgd fun K hK => ?_
  obtain ⟨L, hL⟩ : ∃ L, (Builtin.zeroCells z.cells (n + 1)).toList = L := ⟨_, rfl⟩
  have hlen : L.length = (n + 1) * z.cells.size := by rw [← hL, Array.length_toList, size_zeroCells]
  have hone : ∀ u ∈ L, u.oneCell' = true := fun u hu => by
    rw [← hL] at hu
    have hu' : u ∈ Builtin.zeroCells z.cells (n + 1) := by simpa using hu
    unfold Builtin.zeroCells at hu'
    obtain ⟨j, hj, rfl⟩ := Array.mem_map.1 hu'
    have hj2 := Array.mem_range.1 hj
    have hs0 : 0 < z.cells.size := by
      rcases Nat.eq_zero_or_pos z.cells.size with h0 | h0
      · rw [h0] at hj2; simp at hj2
      · exact h0
    have hlt := Nat.mod_lt j hs0
    rw [getElem!_pos z.cells (j % z.cells.size) hlt]
    exact hz1 _ (Array.getElem_mem hlt)
  have hst := run_storeCells_at P g off e L 0 cur w hg (by omega) hone
  simp only [Nat.add_zero] at hst
  have hL' : Builtin.zeroCells z.cells (n + 1) = L.toArray := by rw [← hL]
  unfold Oper.wp
  simp [execOp, ho, resolve, invoke, builtin, hs, Builtin.clear_, run_underlying ht, hv, hL, hst, Result.andThen]
  exact hK _ _ (by simpa only [List.append_assoc] using h L hlen)
end
end Go
/- The ends of the reliable channel, in plain words and in memory. -/
namespace Go
open Go.RowKit
theorem neType {w : World} {a b : Nat} {c1 c2 : Array Value} {t1 t2 : TypeId} {f1 f2 : Nat × Nat} (h1 : w.heap[a]? = some (.cells c1 t1 f1)) (h2 : w.heap[b]? = some (.cells c2 t2 f2)) (h : t1 ≠ t2) : a ≠ b := by
  rintro rfl
  rw [h1] at h2
  injection h2 with h2
  injection h2 with _ h2 _
  exact h h2
theorem ownCells {w : World} {B e m n g : Nat} {v : Value} {xs : List Value} (ho : w.ownsRow B e m v n xs) (hg : v.ownBlock = some g) : ∃ cs, w.heap[g]? = some (.cells cs e (0, 0)) := by
  rcases ho.2 with ⟨rfl, _⟩ | ⟨g', cap, cur, rfl, _, h, _⟩
  · cases hg
  · cases hg; exact ⟨cur, h⟩
theorem ownAny {w : World} {B e m n : Nat} {v : Value} {xs : List Value} (ho : w.ownsRow B e m v n xs) : ∃ a c, v = .slice a n c ∧ n ≤ c ∧ c ≤ maxLen ∧ (0 < n → ∃ g, a = some ⟨g, 0, none⟩ ∧ B ≤ g ∧ g < w.heap.size ∧ (∀ i, i < n * m → w.cell? ⟨g, i, none⟩ = xs[i]?) ∧ ∀ i, w.frozen? ⟨g, i, none⟩ = false) := by
  rcases ho.2 with ⟨rfl, h0⟩ | ⟨g, cap, cur, rfl, hb, hg, hnc, hcm, hcs, ht⟩
  · subst h0
    exact ⟨none, 0, rfl, Nat.le_refl _, Nat.zero_le _, fun h => absurd h (by decide)⟩
  · refine ⟨_, _, rfl, hnc, hcm, fun _ => ⟨g, rfl, hb, (Array.getElem?_eq_some_iff.1 hg).1, fun i hi => ?_, thaw hg⟩⟩
    rw [cell_of_row w g i cur e (0, 0) hg]
    have : (cur.toList.take (n * m))[i]? = xs[i]? := by rw [ht]
    rw [List.getElem?_take, if_pos hi] at this
    simpa using this
theorem ownBase {w : World} {b b' e m n : Nat} {v : Value} {xs : List Value} (h : w.ownsRow b e m v n xs) (hb : b' ≤ b) : w.ownsRow b' e m v n xs :=
  ⟨h.1, h.2.imp id fun ⟨g, cap, cur, h1, h2, h3⟩ => ⟨g, cap, cur, h1, Nat.le_trans hb h2, h3⟩⟩
theorem info_parts2 {o : Option TypeInfo} {z : Option Value} {s b : Nat} (h : o.map (fun i => (i.zero, i.size, i.bytes)) = some (z, s, b)) : ∃ i, o = some i ∧ i.zero = z ∧ i.size = s ∧ i.bytes = b := by
  obtain ⟨i, hi, he⟩ := Option.map_eq_some_iff.1 h
  simp only [Prod.mk.injEq] at he
  exact ⟨i, hi, he.1, he.2.1, he.2.2⟩
/-- A body, with its place. -/
structure Bd where
  a : Option Addr
  c : Nat
  bs : List Int
def Bd.val (d : Bd) : Value := .slice d.a d.bs.length d.c
structure Pd where
  b : Bd
  sent : Bool
def Pd.cells (p : Pd) : List Value := [p.b.val, .bool p.sent]
def pdsC (l : List Pd) : List Value := l.flatMap Pd.cells
structure Pk where
  seq : Nat
  ack : Nat
  has : Bool
  win : Nat
  body : Bd
def Pk.cells (q : Pk) : List Value := [.int .u32 q.seq, .int .u32 q.ack, .bool q.has, .int .i64 q.win, q.body.val]
def pksC (l : List Pk) : List Value := l.flatMap Pk.cells
structure En where
  win : Nat
  lim : Nat
  base : Nat
  want : Nat
  out : List Pd
  inn : List Bd
  due : Bool
theorem pdsC_len (l : List Pd) : (pdsC l).length = l.length * 2 := by
  induction l with
  | nil => rfl
  | cons p l ih => simp only [pdsC, List.flatMap_cons, List.length_append, List.length_cons] at *; rw [ih]; simp [Pd.cells]; omega
theorem pksC_len (l : List Pk) : (pksC l).length = l.length * 5 := by
  induction l with
  | nil => rfl
  | cons p l ih => simp only [pksC, List.flatMap_cons, List.length_append, List.length_cons] at *; rw [ih]; simp [Pk.cells]; omega
theorem pdsC_app (l1 l2 : List Pd) : pdsC (l1 ++ l2) = pdsC l1 ++ pdsC l2 := by simp [pdsC]
theorem pksC_app (l1 l2 : List Pk) : pksC (l1 ++ l2) = pksC l1 ++ pksC l2 := by simp [pksC]
theorem flat_at {α : Type} (f : α → List Value) (m : Nat) (hf : ∀ x, (f x).length = m) (l : List α) : ∀ (i j : Nat) (x : α), l[i]? = some x → j < m → (l.flatMap f)[i * m + j]? = (f x)[j]? := by
  induction l with
  | nil => intro i j x h; simp at h
  | cons y l ih =>
    intro i j x h hj
    rw [List.flatMap_cons]
    cases i with
    | zero =>
      simp at h
      subst h
      rw [Nat.zero_mul, Nat.zero_add, List.getElem?_append_left (by rw [hf]; exact hj)]
    | succ i =>
      simp at h
      rw [List.getElem?_append_right (by rw [hf, Nat.succ_mul]; omega), hf, show (i + 1) * m + j - m = i * m + j by rw [Nat.succ_mul]; omega]
      exact ih i j x h hj
theorem flat_set {α : Type} (f : α → List Value) (m : Nat) (hf : ∀ x, (f x).length = m) (l : List α) : ∀ (i j : Nat) (x y : α) (v : Value), l[i]? = some x → j < m → (f x).set j v = f y → (l.flatMap f).set (i * m + j) v = (l.set i y).flatMap f := by
  induction l with
  | nil => intro i j x y v h; simp at h
  | cons z l ih =>
    intro i j x y v h hj hy
    cases i with
    | zero =>
      simp at h
      subst h
      rw [Nat.zero_mul, Nat.zero_add, List.flatMap_cons, List.set_append_left _ _ (by rw [hf]; exact hj), hy]
      simp
    | succ i =>
      simp at h
      rw [List.flatMap_cons, List.set_append_right _ _ (by rw [hf, Nat.succ_mul]; omega), hf, show (i + 1) * m + j - m = i * m + j by rw [Nat.succ_mul]; omega, ih i j x y v h hj hy]
      simp
theorem pds_at {l : List Pd} {i : Nat} {p : Pd} (h : l[i]? = some p) : (pdsC l)[i * 2]? = some p.b.val ∧ (pdsC l)[i * 2 + 1]? = some (.bool p.sent) := by
  have h0 := flat_at Pd.cells 2 (fun _ => rfl) l i 0 p h (by decide)
  have h1 := flat_at Pd.cells 2 (fun _ => rfl) l i 1 p h (by decide)
  exact ⟨h0, h1⟩
theorem pks_at {l : List Pk} {i : Nat} {p : Pk} (h : l[i]? = some p) : ∀ j, j < 5 → (pksC l)[i * 5 + j]? = p.cells[j]? := fun j hj => flat_at Pk.cells 5 (fun _ => rfl) l i j p h hj
theorem one_pds (l : List Pd) : ∀ u ∈ pdsC l, u.oneCell' = true := fun u hu => by
  obtain ⟨x, _, hx⟩ := List.mem_flatMap.1 hu
  simp [Pd.cells, Bd.val] at hx
  rcases hx with hx | hx <;> (subst hx; rfl)
theorem one_pks (l : List Pk) : ∀ u ∈ pksC l, u.oneCell' = true := fun u hu => by
  obtain ⟨x, _, hx⟩ := List.mem_flatMap.1 hu
  simp [Pk.cells, Bd.val] at hx
  rcases hx with hx | hx | hx | hx | hx <;> (subst hx; rfl)
theorem one_bds (l : List Bd) : ∀ u ∈ l.map Bd.val, u.oneCell' = true := fun u hu => by
  obtain ⟨x, _, rfl⟩ := List.mem_map.1 hu
  rfl
/-- A body is in memory, in a block of bytes of its own. -/
def Bd.ok (w : World) (d : Bd) : Prop := BytesV w d.a d.bs.length d.c d.bs ∧ ∀ x, d.a = some x → x = ⟨x.block, 0, none⟩ ∧ ∃ cs, w.heap[x.block]? = some (.cells cs 5 (0, 0)) ∧ cs.size = d.c
def NoB (S : List Nat) (w : World) : Prop := ∀ g ∈ S, ∀ cs f, w.heap[g]? ≠ some (.cells cs 5 f)
theorem NoB.nil (w : World) : NoB [] w := fun g hg => by cases hg
theorem Bd.ok.keepG {S : List Nat} {w w' : World} {d : Bd} (h : d.ok w) (hk : Keep S w w') (hb : ∀ x, d.a = some x → x.block ∉ S) : d.ok w' :=
  ⟨h.1.keep hk hb, fun x hx => by obtain ⟨h0, cs, h1, h2⟩ := h.2 x hx; exact ⟨h0, cs, hk.at h1 (hb x hx), h2⟩⟩
theorem Bd.ok.keep {S : List Nat} {w w' : World} {d : Bd} (h : d.ok w) (hk : Keep S w w') (hS : NoB S w) : d.ok w' :=
  h.keepG hk fun x hx hm => by
    obtain ⟨_, cs, h1, _⟩ := h.2 x hx
    exact hS _ hm cs _ h1
def noBd : Bd := ⟨none, 0, []⟩
theorem noBd_ok (w : World) : noBd.ok w := ⟨BytesV.empty w, fun x hx => by cases hx⟩
theorem Bd.ok.lt {w : World} {d : Bd} (h : d.ok w) : ∀ x, d.a = some x → x.block < w.heap.size := fun x hx => by
  obtain ⟨_, cs, h1, _⟩ := h.2 x hx
  exact lt_of_blk h1
/-- An end, in memory. -/
structure EnAt (w : World) (B b : Nat) (E : En) (vo vi : Value) : Prop where
  hB : B ≤ b
  blk : w.heap[b]? = some (.cells #[.int .i64 E.win, .int .i64 E.lim, .int .u32 E.base, .int .u32 E.want, vo, vi, .bool E.due] 76 (0, 0))
  out : w.ownsRow B 78 2 vo E.out.length (pdsC E.out)
  inn : w.ownsRow B 29 1 vi E.inn.length (E.inn.map Bd.val)
  bo : ∀ p ∈ E.out, p.b.ok w
  bi : ∀ d ∈ E.inn, d.ok w
def enS (b : Nat) (vo vi : Value) : List Nat := b :: (vo.ownBlock.toList ++ vi.ownBlock.toList)
theorem EnAt.keep {S : List Nat} {w w' : World} {B b : Nat} {E : En} {vo vi : Value} (h : EnAt w B b E vo vi) (hk : Keep S w w') (hb : ∀ g ∈ enS b vo vi, g ∉ S) (hS : NoB S w) : EnAt w' B b E vo vi :=
  ⟨h.hB, hk.at h.blk (hb b (by simp [enS])), own_keep h.out hk (fun g hg => hb g (by simp [enS, hg])), own_keep h.inn hk (fun g hg => hb g (by simp [enS, hg])), fun p hp => (h.bo p hp).keep hk hS, fun d hd => (h.bi d hd).keep hk hS⟩
theorem EnAt.keep0 {w w' : World} {B b : Nat} {E : En} {vo vi : Value} (h : EnAt w B b E vo vi) (hk : Keep [] w w') : EnAt w' B b E vo vi := h.keep hk (fun _ _ => by simp) (NoB.nil w)
theorem EnAt.noB {w : World} {B b : Nat} {E : En} {vo vi : Value} (h : EnAt w B b E vo vi) : NoB (enS b vo vi) w := fun g hg cs f hc => by
  simp only [enS, List.mem_cons, List.mem_append, Option.mem_toList] at hg
  rcases hg with rfl | hg | hg
  · exact neType h.blk hc (by decide) rfl
  · obtain ⟨c, h1⟩ := ownCells h.out hg
    exact neType h1 hc (by decide) rfl
  · obtain ⟨c, h1⟩ := ownCells h.inn hg
    exact neType h1 hc (by decide) rfl
theorem EnAt.lt {w : World} {B b : Nat} {E : En} {vo vi : Value} (h : EnAt w B b E vo vi) : ∀ g ∈ enS b vo vi, B ≤ g ∧ g < w.heap.size := fun g hg => by
  simp only [enS, List.mem_cons, List.mem_append, Option.mem_toList] at hg
  rcases hg with rfl | hg | hg
  · exact ⟨h.hB, lt_of_blk h.blk⟩
  · exact h.out.lt g hg
  · exact h.inn.lt g hg
theorem row7 {w : World} {b : Nat} {x0 x1 x2 x3 x4 x5 x6 : Value} {T : TypeId} (h : w.heap[b]? = some (.cells #[x0, x1, x2, x3, x4, x5, x6] T (0, 0))) :
    w.cell? ⟨b, 0, none⟩ = some x0 ∧ w.cell? ⟨b, 1, none⟩ = some x1 ∧ w.cell? ⟨b, 2, none⟩ = some x2 ∧ w.cell? ⟨b, 3, none⟩ = some x3 ∧ w.cell? ⟨b, 4, none⟩ = some x4 ∧ w.cell? ⟨b, 5, none⟩ = some x5 ∧ w.cell? ⟨b, 6, none⟩ = some x6 ∧ (∀ i, w.frozen? ⟨b, i, none⟩ = false) :=
  ⟨cellAt h 0, cellAt h 1, cellAt h 2, cellAt h 3, cellAt h 4, cellAt h 5, cellAt h 6, thaw h⟩
/-- A row is the same block as before, or new, or none. -/
def Nw (w : World) (v v' : Value) : Prop := ∀ g, v'.ownBlock = some g → v.ownBlock = some g ∨ w.heap.size ≤ g
theorem Nw.refl (w : World) (v : Value) : Nw w v v := fun _ h => .inl h
/-- What a call does to an end. -/
structure EnTo (w w' : World) (B b : Nat) (E' : En) (vo vi vo' vi' : Value) : Prop where
  at_ : EnAt w' B b E' vo' vi'
  keep : Keep (enS b vo vi) w w'
  no : Nw w vo vo'
  ni : Nw w vi vi'
/-- What holds of every end. -/
structure EnOk (E : En) : Prop where
  win : 1 ≤ E.win ∧ E.win ≤ 16
  lim : E.lim ≤ 16
  out : E.out.length ≤ E.win
  inn : E.inn.length ≤ E.win
  base : E.base ≤ 1000000
  want : E.want ≤ 1000000
  bo : ∀ p ∈ E.out, p.b.bs.length ≤ 1000
theorem own_bd {w : World} {B n : Nat} {v : Value} {bs : List Int} (ho : w.ownsRow B 5 1 v n (bs.map (Value.int .u8))) (hw : ∀ z ∈ bs, 0 ≤ z ∧ z < 256) : ∃ d : Bd, v = d.val ∧ d.bs = bs ∧ d.ok w ∧ ∀ x, d.a = some x → B ≤ x.block := by
  have hl : bs.length = n := by simpa using ho.1
  rcases ho.2 with ⟨rfl, h0⟩ | ⟨g, cap, cur, rfl, hb, hg, hnc, hcm, hcs, ht⟩
  · have : bs = [] := List.eq_nil_of_length_eq_zero (by omega)
    subst this
    exact ⟨noBd, rfl, rfl, noBd_ok w, fun x hx => by cases hx⟩
  · refine ⟨⟨some ⟨g, 0, none⟩, cap, bs⟩, by simp [Bd.val, hl], rfl, ⟨⟨rfl, by rw [hl]; exact hnc, hcm, hw, fun hn => ⟨g, 0, rfl, fun i hi => ?_⟩, fun h => by cases h⟩, fun x hx => by cases hx; exact ⟨rfl, cur, hg, by simpa using hcs⟩⟩, fun x hx => by cases hx; exact hb⟩
    have hi' : i < bs.length := hi
    rw [Nat.zero_add, cell_of_row w g i cur 5 (0, 0) hg]
    have : (cur.toList.take (n * 1))[i]? = (bs.map (Value.int .u8))[i]? := by rw [ht]
    rw [List.getElem?_take, if_pos (by omega)] at this
    simp only [Array.getElem?_toList] at this
    rw [this]
    simp [List.getD_eq_getElem?_getD, hi']
end Go
/- Making an end, reading it, and copies of bytes. -/
namespace Go.Proofs.Ytfgipbjaaciiiaa
open Go.RowKit
theorem info5 : (Try.prog.info? 5).map (fun i => (i.zero, i.size, i.bytes)) = some (some (.int .u8 0), 1, 1) := by kernel_rfl
theorem info29 : (Try.prog.info? 29).map (fun i => (i.zero, i.size, i.bytes)) = some (some (.slice none 0 0), 1, 24) := by kernel_rfl
theorem info34 : (Try.prog.info? 34).map (fun i => (i.zero, i.size, i.bytes)) = some (some (.agg #[.int .u32 0, .int .u32 0, .bool false, .int .i64 0, .slice none 0 0]), 5, 48) := by kernel_rfl
theorem info78 : (Try.prog.info? 78).map (fun i => (i.zero, i.size, i.bytes)) = some (some (.agg #[.slice none 0 0, .bool false]), 2, 32) := by kernel_rfl
set_option maxRecDepth 100000 in
theorem clone17_any {a : Option Addr} {n c : Nat} {bs : List Int} {w : World} (hv : BytesV w a n c bs) (hn : n ≤ 1000000) :
    Calls Try.prog 17 #[.slice a n c] w fun e w' => ∃ d : Bd, e = .returned d.val ∧ d.bs = bs ∧ Keep [] w w' ∧ d.ok w' ∧ ∀ x, d.a = some x → w.heap.size ≤ x.block := by
  obtain ⟨i3, hi3, hy0, hy1, hy2⟩ := info_parts2 info5
  have q29 : ∀ (w : World) (a : Option Addr) (n c n' c' : Nat), (binOp .eql 29 (.slice a n c) (.slice none n' c')).run Try.prog w = .ok (.bool a.isNone) w := fun w a n c n' c' => Lib.run_eql_slice_nil w _ _ a n c n' c' Try.underlying29
  cases a with
  | none =>
    have h0 := hv.onNil rfl
    have h1 := hv.room
    obtain rfl : n = 0 := by omega
    have hnil : bs = [] := List.eq_nil_of_length_eq_zero hv.len
    subst hnil
    go_enter Try.func17, Try.ntmps17
    go_wp2_with (first | (with_reducible refine Txt.wp_region_text mixed quiet (by decide +kernel) ?_) | (with_reducible refine Txt.text_done (by kernel_rfl) ?_))
    go_ret
    exact ⟨noBd, rfl, rfl, Keep.refl _ _, noBd_ok _, fun x hx => by cases hx⟩
  | some ad =>
    have HV := Lib.hid hv
    clear hv
    go_enter Try.func17, Try.ntmps17
    go_wp2_with (first | (at_builtin; refine wpList_append_own _ rfl _ _ 29 rfl w.heap.size 5 i3 (.int .u8 0) 1 1 Try.underlying29 hi3 hy0 hy1 hy2 rfl (by decide) _ _ _ rfl (World.ownsRow_made w #[] 0 (Nat.le_refl _) (Nat.zero_le _) (by simp)) ad n c (bs.map (Value.int .u8)) rfl ?qc1 ?qc2 ?qc3 ?qc4 ?qc5 ?qc6 ?_) | (with_reducible refine Txt.wp_region_text mixed quiet (by decide +kernel) ?_) | (with_reducible refine Txt.text_done (by kernel_rfl) ?_))
    case qc1 => rw [List.length_map, HV.out.len, Nat.mul_one]
    case qc2 =>
      intro j u hj
      rw [List.getElem?_map] at hj
      obtain ⟨z, hz, rfl⟩ := Option.map_eq_some_iff.1 hj
      have hjl := (List.getElem?_eq_some_iff.1 hz).1
      have hln := HV.out.len
      obtain ⟨b, o, he, h2⟩ := HV.out.cells (by omega)
      cases he
      rw [Go.WideShapes.add_plain]
      refine ((Keep.refl [] w).alloc _).cell ?_ (by simp)
      rw [h2 j (by omega), List.getD_eq_getElem?_getD, hz]; rfl
    case qc3 => intro u hu; obtain ⟨z, _, rfl⟩ := List.mem_map.1 hu; rfl
    case qc4 => unfold maxLen; omega
    case qc5 => omega
    case qc6 => simp
    intro v' w1 hown hgrow hnil
    go_wp2
    go_ret
    obtain ⟨d, rfl, hd, hok, hfr⟩ := own_bd (bs := bs) (by simpa using hown) HV.out.wf
    exact ⟨d, rfl, hd, ((Keep.refl [] w).alloc _).grown hgrow (fun g hg => .inr (by simp [Value.ownBlock] at hg; omega)), hok, hfr⟩
theorem clone17_bd {d : Bd} {w : World} (hv : d.ok w) (hn : d.bs.length ≤ 1000000) :
    Calls Try.prog 17 #[d.val] w fun e w' => ∃ d' : Bd, e = .returned d'.val ∧ d'.bs = d.bs ∧ Keep [] w w' ∧ d'.ok w' ∧ ∀ x, d'.a = some x → w.heap.size ≤ x.block := clone17_any hv.1 hn
theorem new38_any {n : Nat} {w : World} (h1 : 1 ≤ n) (h2 : n ≤ 16) :
    Calls Try.prog 38 #[.int .i64 n] w fun e w' => ∃ b, e = .returned (.tuple #[.pointer (some ⟨b, 0, none⟩), .int .i64 0]) ∧ Keep [] w w' ∧ EnAt w' w.heap.size b ⟨n, n, 0, 0, [], [], false⟩ (.slice none 0 0) (.slice none 0 0) := by
  go_enter Try.func38, Try.ntmps38
  go_wp2_with (first | (with_reducible refine Txt.wp_region_text mixed quiet (by decide +kernel) ?_) | (with_reducible refine Txt.text_done (by kernel_rfl) ?_))
  go_ret2
  exact ⟨w.heap.size, rfl, (Keep.refl _ _).alloc _, Nat.le_refl _, blk_new w _, World.ownsRow_nil _ _ _ _, World.ownsRow_nil _ _ _ _, fun p hp => (by cases hp), fun p hp => (by cases hp)⟩
def en0 (n : Nat) : En := ⟨n, n, 0, 0, [], [], false⟩
theorem lines11_any {a b : Int} {wa wb : Nat} {w : World} (ha : restI a 16 = wa) (hb : restI b 16 = wb) :
    Calls Try.prog 11 #[.int .i64 a, .int .i64 b] w fun e w' => ∃ bx b_y, e = .returned (.tuple #[.pointer (some ⟨bx, 0, none⟩), .pointer (some ⟨b_y, 0, none⟩), .bool true]) ∧ Keep [] w w' ∧ bx ≠ b_y ∧ EnAt w' w.heap.size bx (en0 (1 + wa)) (.slice none 0 0) (.slice none 0 0) ∧ EnAt w' w.heap.size b_y (en0 (1 + wb)) (.slice none 0 0) (.slice none 0 0) := by
  have h1 := restI_hi a (n := 16) (by decide)
  have h2 := restI_hi b (n := 16) (by decide)
  have HA := Lib.hid ha
  have HB := Lib.hid hb
  rw [ha] at h1
  rw [hb] at h2
  have ea : (1 : Int) + wa = ((1 + wa : Nat) : Int) := by omega
  have eb : (1 : Int) + wb = ((1 + wb : Nat) : Int) := by omega
  have EA := Lib.hid ea
  have EB := Lib.hid eb
  clear ha hb ea eb
  have tok1 : True := trivial
  have tok3 : True := trivial
  go_enter Try.func11, Try.ntmps11
  go_wp2_with (first | (with_reducible refine Txt.wp_region_text mixed quiet (by decide +kernel) ?_) | (with_reducible refine Txt.text_done (by kernel_rfl) ?_) | (go_at_call 12; have _t := tok1; (with_reducible refine (rest_any a _ _ (by decide) (by decide)).mono ?_); rintro e w1 ⟨rfl, rfl⟩; rw [HA.out]; clear tok1 _t) | (go_at_call 12; (with_reducible refine (rest_any b _ _ (by decide) (by decide)).mono ?_); rintro e w1 ⟨rfl, rfl⟩; rw [HB.out]) | (go_at_call 38; have _t := tok3; rw [EA.out]; (with_reducible refine (new38_any (by omega) (by omega)).mono ?_); rintro e w2 ⟨bx, rfl, hk2, hx2⟩; have HX2 := Lib.hid hx2; clear hx2 tok3 _t) | (go_at_call 38; rw [EB.out]; (with_reducible refine (new38_any (by omega) (by omega)).mono ?_); rintro e w3 ⟨b_y, rfl, hk3, hx3⟩; have HX3 := Lib.hid hx3; clear hx3))
  go_ret3
  have hl := HX2.out.lt bx (by simp [enS])
  have hg := HX3.out.hB
  exact ⟨bx, b_y, rfl, hk2.trans hk3, by omega, HX2.out.keep0 hk3, ⟨Nat.le_trans hk2.size hg, HX3.out.blk, ownBase HX3.out.out hk2.size, ownBase HX3.out.inn hk2.size, HX3.out.bo, HX3.out.bi⟩⟩
theorem idle25_any {w : World} {B b : Nat} {E : En} {vo vi : Value} (h : EnAt w B b E vo vi) (hok : EnOk E) :
    Calls Try.prog 25 #[.pointer (some ⟨b, 0, none⟩)] w fun e w' => e = .returned (.bool (E.out.length == 0)) ∧ w' = w := by
  obtain ⟨c0, c1, c2, c3, c4, c5, c6, hz⟩ := row7 h.blk
  obtain ⟨a1, p1, rfl, hp1, hp2, hp3⟩ := ownAny h.out
  unfold maxLen at hp2
  have hl := hok.out
  have hw := hok.win
  obtain ⟨L, hL⟩ : ∃ L, E.out.length = L := ⟨_, rfl⟩
  obtain ⟨W, hW⟩ : ∃ W, E.win = W := ⟨_, rfl⟩
  rw [hL] at c4 hl hp1 ⊢
  rw [hW] at c0 hl hw
  clear hp3 h hok hL hW
  go_enter Try.func25, Try.ntmps25
  go_wp2_with (first | (with_reducible refine Txt.wp_region_text mixed quiet (by decide +kernel) ?_) | (with_reducible refine Txt.text_done (by kernel_rfl) ?_))
  go_ret
  refine ⟨congrArg Ending.returned ?_, rfl⟩
  refine Eq.trans (b := Value.bool ((L : Int) == 0)) rfl (congrArg Value.bool ?_)
  rw [Bool.eq_iff_iff]; simp
theorem got_end {w : World} {B b : Nat} {E : En} {vo : Value} {a : Option Addr} {L p : Nat} (h : EnAt w B b E vo (.slice a L p)) (d : Bool) :
    Keep [b] w ((w.setCell ⟨b, 5, none⟩ (.slice none 0 0)).setCell ⟨b, 6, none⟩ (.bool d)) ∧ EnAt ((w.setCell ⟨b, 5, none⟩ (.slice none 0 0)).setCell ⟨b, 6, none⟩ (.bool d)) B b { E with inn := [], due := d } vo (.slice none 0 0) := by
  have hk : Keep [b] w ((w.setCell ⟨b, 5, none⟩ (.slice none 0 0)).setCell ⟨b, 6, none⟩ (.bool d)) := ((Keep.refl [b] w).setCell (.inl (by simp)) _).setCell (.inl (by simp)) _
  have hS : NoB [b] w := fun g hg cs f hc => by
    obtain rfl : g = b := by simpa using hg
    exact neType h.blk hc (by decide) rfl
  refine ⟨hk, h.hB, ?_, own_keep h.out hk (fun g hg hm => ?_), World.ownsRow_nil _ _ _ _, fun p hp => (h.bo p hp).keep hk hS, fun p hp => (by cases hp)⟩
  · rw [blk_setCell, if_pos rfl, blk_setCell, if_pos rfl, h.blk]; rfl
  · obtain ⟨c, h1⟩ := ownCells h.out hg
    exact neType h1 h.blk (by decide) (by simpa using hm)
theorem got22_any {w : World} {B b : Nat} {E : En} {vo vi : Value} (h : EnAt w B b E vo vi) (hok : EnOk E) :
    Calls Try.prog 22 #[.pointer (some ⟨b, 0, none⟩)] w fun e w' => e = .returned vi ∧ Keep [b] w w' ∧ EnAt w' B b { E with inn := [], due := E.due || decide (0 < E.inn.length) } vo (.slice none 0 0) := by
  have H := Lib.hid h
  obtain ⟨c0, c1, c2, c3, c4, c5, c6, hz⟩ := row7 h.blk
  obtain ⟨a1, p1, rfl, hp1, hp2, hp3⟩ := ownAny h.inn
  obtain ⟨a2, p2, rfl, -, -, -⟩ := ownAny h.out
  unfold maxLen at hp2
  have hl := hok.inn
  have hw := hok.win
  have hlt := lt_of_blk h.blk
  obtain ⟨L, hL⟩ : ∃ L, E.inn.length = L := ⟨_, rfl⟩
  rw [hL] at c5 hl hp1 H ⊢
  obtain ⟨D, hD⟩ : ∃ D, E.due = D := ⟨_, rfl⟩
  have HL := Lib.hid hL
  have HD := Lib.hid hD
  rw [hD] at c6 ⊢
  clear hp3 h hok hL hD
  cases D with
  | true =>
    go_enter Try.func22, Try.ntmps22
    go_wp2_with (first | (with_reducible refine Txt.wp_region_text mixed quiet (by decide +kernel) ?_) | (with_reducible refine Txt.text_done (by kernel_rfl) ?_))
    go_ret
    refine ⟨rfl, ?_⟩
    exact got_end H.out true
  | false =>
    go_enter Try.func22, Try.ntmps22
    go_wp2_with (first | (with_reducible refine Txt.wp_region_text mixed quiet (by decide +kernel) ?_) | (with_reducible refine Txt.text_done (by kernel_rfl) ?_))
    go_ret
    refine ⟨rfl, ?_⟩
    have h9 := got_end H.out (decide (0 < L))
    first | exact h9 | trace_state
end Go.Proofs.Ytfgipbjaaciiiaa
namespace Go
theorem results_cell {P : Program} {fn : Func} {s : Tmp} {t : TypeId} (h : fn.results = #[.cell s t]) {tmps : Array Value} {w : World} {a : Addr} (ha : tmps.getD s undef = .pointer (some a)) {v : Value} (hl : (loadVar t a).run P w = .ok v w) : (results fn tmps).run P w = .ok v w := by
  have ha' : tmps[s]?.getD undef = .pointer (some a) := by simpa using ha
  simp [results, h, ha', hl, asAddr]
theorem cells_newD (w : World) (xs : List Value) (t : TypeId) : ∀ j u, xs[j]? = some u → (w.alloc (.cells xs.toArray t)).drew.cell? ((⟨w.heap.size, 0, none⟩ : Addr).add j) = some u := cells_new w xs t (0, 0)
end Go
namespace Go.Proofs.Ytfgipbjaaciiiaa
open Go.RowKit
theorem packet39_any {w : World} {B b k : Nat} {E : En} {vo vi : Value} (h : EnAt w B b E vo vi) (hok : EnOk E) (hk : k ≤ 1000) :
    Calls Try.prog 39 #[.pointer (some ⟨b, 0, none⟩), .int .i64 k] w fun e w' => e = .returned (.agg #[.int .u32 ((E.base + k : Nat) : Int), .int .u32 E.want, .bool false, .int .i64 ((E.win - E.inn.length : Nat) : Int), .slice none 0 0]) ∧ Keep [] w w' := by
  obtain ⟨c0, c1, c2, c3, c4, c5, c6, hz⟩ := row7 h.blk
  obtain ⟨a1, p1, rfl, hp1, hp2, hp3⟩ := ownAny h.inn
  unfold maxLen at hp2
  have hl := hok.inn
  have hw := hok.win
  have hb := hok.base
  have hlt := lt_of_blk h.blk
  obtain ⟨L, hL⟩ : ∃ L, E.inn.length = L := ⟨_, rfl⟩
  obtain ⟨W, hW⟩ : ∃ W, E.win = W := ⟨_, rfl⟩
  obtain ⟨Z, hZ⟩ : ∃ Z, E.base = Z := ⟨_, rfl⟩
  obtain ⟨Y, hY⟩ : ∃ Y, E.want = Y := ⟨_, rfl⟩
  rw [hL] at c5 hl hp1 ⊢
  rw [hW] at c0 hl hw ⊢
  rw [hZ] at c2 hb ⊢
  rw [hY] at c3 ⊢
  clear hp3 h hok hL hW hZ hY
  go_enter Try.func39, Try.ntmps39
  go_wp2_with (first | (with_reducible refine Txt.wp_region_text mixed quiet (by decide +kernel) ?_) | (with_reducible refine Txt.text_done (by kernel_rfl) ?_))
  have e1 : ((Z + k : Nat) : Int) = (Z : Int) + k := by omega
  have e2 : ((W - L : Nat) : Int) = (W : Int) - L := by omega
  rw [e1, e2]
  refine bodyPost_ret (results_cell Try.results39 rfl (run_loadVar_at _ ⟨w.heap.size, 0, none⟩ 34 [.int .u32 ((Z : Int) + k), .int .u32 Y, .bool false, .int .i64 ((W : Int) - L), .slice none 0 0] _ (cells_newD w _ 34) Try.underlying34 rfl (by kernel_rfl))) rfl ⟨rfl, ((Keep.refl _ _).alloc _).drew⟩
end Go.Proofs.Ytfgipbjaaciiiaa
namespace Go.Proofs
open Go.Shelf
def Try.laysSlE041_f40_ren : Go.Shelf.Ren := ⟨fun | 41 => 40 | n => n, fun | 22 => 74 | 23 => 78 | 4 => 4 | n => n, fun | n => n⟩
theorem Try.laysSlE041_f40 : Go.Proofs.SlLaysE0.n41 Try.prog Try.laysSlE041_f40_ren := {
  mixed := by kernel_rfl
  f41 := ⟨Try.f40.name, by decide, Try.func40.trans (congrArg some (by kernel_rfl))⟩
  t4 := Try.underlying4
  a4 := Try.isAgg4
  z4 := Try.sizeOf4
  v4 := Try.zeroValue4
  t22 := Try.underlying74
  a22 := Try.isAgg74
  z22 := Try.sizeOf74
  v22 := Try.zeroValue74 }
end Go.Proofs
namespace Go.Proofs.Ytfgipbjaaciiiaa
open Go.RowKit
theorem pdsC_drop (l : List Pd) (k : Nat) (hk : k ≤ l.length) : (pdsC l).drop (k * 2) = pdsC (l.drop k) := by
  have h := congrArg pdsC (List.take_append_drop k l)
  rw [pdsC_app] at h
  rw [← h, List.drop_left' (by rw [pdsC_len, List.length_take]; omega)]
/-- A copy of what lies behind the first k of a row. -/
theorem clone40_any {g k n o : Nat} {l : List Pd} {w : World} {cur : Array Value} (hg : w.heap[g]? = some (.cells cur 78 (0, 0))) (ht : cur.toList.take (l.length * 2) = pdsC l) (hk : k ≤ l.length) (hl : l.length ≤ 1000) (hn : n = l.length - k) {c : Nat} (hoe : o = k * 2 ∨ n = 0) :
    Calls Try.prog 40 #[.slice (some ⟨g, o, none⟩) n c] w fun e w' => ∃ v', e = .returned v' ∧ Keep [] w w' ∧ w'.ownsRow w.heap.size 78 2 v' n (pdsC (l.drop k)) := by
  obtain ⟨i0, hi0, hz0, hz1, hz2⟩ := info_parts2 info78
  have hlen : (pdsC (l.drop k)).length = n * 2 := by rw [pdsC_len, List.length_drop, hn]
  refine (Go.Proofs.AnyE.slices_Clone Try.laysSlE041_f40 i0 _ 2 32 hi0 hz0 hz1 hz2 rfl (by decide) (fun w => by kernel_rfl) g o n c (pdsC (l.drop k)) w hlen (by unfold maxLen; omega) (by omega) (fun j u hu => ?_) (one_pds _)).mono ?_
  · have hj := (List.getElem?_eq_some_iff.1 hu).1
    rw [hlen] at hj
    rcases hoe with rfl | h0
    · rw [cell_of_row w g _ cur 78 (0, 0) hg, ← hu, ← pdsC_drop l k hk, ← ht, List.getElem?_drop, List.getElem?_take, if_pos (by omega)]
      simp
    · omega
  · rintro e w' ⟨v', rfl, ho', _, hb'⟩
    exact ⟨v', rfl, ⟨hb'.os, hb'.tape, hb'.output, hb'.size, fun i hi _ => hb'.block i hi⟩, ho'⟩
/-- Word for word: 'sent' of the element i. -/
theorem EnAt.mark {w : World} {B b i : Nat} {E : En} {g c : Nat} {vi : Value} {p : Pd} (h : EnAt w B b E (.slice (some ⟨g, 0, none⟩) E.out.length c) vi) (hi : E.out[i]? = some p) (s : Bool) :
    EnAt (w.setCell ⟨g, i * 2 + 1, none⟩ (.bool s)) B b { E with out := E.out.set i ⟨p.b, s⟩ } (.slice (some ⟨g, 0, none⟩) E.out.length c) vi := by
  have hil := (List.getElem?_eq_some_iff.1 hi).1
  have hk : Keep [g] w (w.setCell ⟨g, i * 2 + 1, none⟩ (.bool s)) := (Keep.refl [g] w).setCell (.inl (by simp)) _
  rcases h.out.2 with ⟨h1, h0⟩ | ⟨g', cap, cur, h1, hb, hg, hnc, hcm, hcs, ht⟩
  · cases h1
  · cases h1
    have hS : NoB [g] w := fun x hx cs f hc => by
      obtain rfl : x = g := by simpa using hx
      exact neType hg hc (by decide) rfl
    refine ⟨h.hB, hk.at h.blk (fun hm => neType h.blk hg (by decide) (by simpa using hm)), ?_, own_keep h.inn hk (fun x hx hm => ?_), fun q hq => ?_, fun d hd => (h.bi d hd).keep hk hS⟩
    · refine ⟨by show (pdsC (E.out.set i _)).length = _; rw [pdsC_len], .inr ⟨g, c, cur.setIfInBounds (i * 2 + 1) (.bool s), by simp, hb, ?_, by simpa using hnc, hcm, by simpa using hcs, ?_⟩⟩
      · rw [blk_setCell, if_pos rfl, hg]; rfl
      · simp only [List.length_set, Array.toList_setIfInBounds]
        rw [List.take_set, ht]
        exact flat_set Pd.cells 2 (fun _ => rfl) E.out i 1 p ⟨p.b, s⟩ _ hi (by decide) rfl
    · obtain ⟨c', h2⟩ := ownCells h.inn hx
      exact neType h2 hg (by decide) (by simpa using hm)
    · rcases List.mem_or_eq_of_mem_set hq with hq | rfl
      · exact (h.bo q hq).keep hk hS
      · exact (h.bo p (List.mem_of_getElem? hi)).keep hk hS
theorem enS_slice (b g n c : Nat) (vi : Value) (n' c' : Nat) : enS b (.slice (some ⟨g, 0, none⟩) n c) vi = enS b (.slice (some ⟨g, 0, none⟩) n' c') vi := rfl
end Go.Proofs.Ytfgipbjaaciiiaa
namespace Go
theorem EnAt.head {w w' : World} {B b : Nat} {E E' : En} {vo vi : Value} (h : EnAt w B b E vo vi) (hk : Keep [b] w w') (ho : E'.out = E.out) (hi : E'.inn = E.inn) (hb : w'.heap[b]? = some (.cells #[.int .i64 E'.win, .int .i64 E'.lim, .int .u32 E'.base, .int .u32 E'.want, vo, vi, .bool E'.due] 76 (0, 0))) : EnAt w' B b E' vo vi := by
  have hS : NoB [b] w := fun x hx cs f hc => by
    obtain rfl : x = b := by simpa using hx
    exact neType h.blk hc (by decide) rfl
  refine ⟨h.hB, hb, ?_, ?_, fun p hp => (h.bo p (by rw [← ho]; exact hp)).keep hk hS, fun d hd => (h.bi d (by rw [← hi]; exact hd)).keep hk hS⟩
  · rw [ho]
    refine own_keep h.out hk (fun g hg hm => ?_)
    obtain ⟨c, h1⟩ := ownCells h.out hg
    exact neType h1 h.blk (by decide) (by simpa using hm)
  · rw [hi]
    refine own_keep h.inn hk (fun g hg hm => ?_)
    obtain ⟨c, h1⟩ := ownCells h.inn hg
    exact neType h1 h.blk (by decide) (by simpa using hm)
theorem notIn_out {w : World} {B b : Nat} {E : En} {vo vi : Value} (h : EnAt w B b E vo vi) {S : List Nat} (hS : ∀ g ∈ S, vo.ownBlock = some g ∨ w.heap.size ≤ g) {x : Nat} {cs : Array Value} {T : TypeId} {f : Nat × Nat} (hx : w.heap[x]? = some (.cells cs T f)) (hT : T ≠ 78) : x ∉ S := fun hm => by
  rcases hS x hm with h1 | h1
  · obtain ⟨c, h2⟩ := ownCells h.out h1
    exact neType h2 hx (Ne.symm hT) rfl
  · have := lt_of_blk hx; omega
theorem EnAt.newOut {w w1 : World} {B b : Nat} {E : En} {vo vi vo' : Value} {S : List Nat} {l : List Pd} (h : EnAt w B b E vo vi) (hk : Keep S w w1) (hS : ∀ g ∈ S, vo.ownBlock = some g ∨ w.heap.size ≤ g) (ho : w1.ownsRow B 78 2 vo' l.length (pdsC l)) (hb : ∀ p ∈ l, p.b.ok w1) (hn : Nw w vo vo') :
    EnTo w (w1.setCell ⟨b, 4, none⟩ vo') B b { E with out := l } vo vi vo' vi := by
  have hNB : NoB S w := fun g hg cs f hc => notIn_out h hS hc (by decide) hg
  have hkb : Keep [b] w1 (w1.setCell ⟨b, 4, none⟩ vo') := (Keep.refl _ _).setCell (.inl (by simp)) _
  have hblk := hk.at h.blk (notIn_out h hS h.blk (by decide))
  have hNB2 : NoB [b] w1 := fun x hx cs f hc => by
    obtain rfl : x = b := by simpa using hx
    exact neType hblk hc (by decide) rfl
  have hinn : w1.ownsRow B 29 1 vi E.inn.length (E.inn.map Bd.val) := own_keep h.inn hk (fun g hg hm => by
    obtain ⟨c, h1⟩ := ownCells h.inn hg
    exact notIn_out h hS h1 (by decide) hm)
  refine ⟨⟨h.hB, ?_, own_keep ho hkb (fun g hg hm => ?_), own_keep hinn hkb (fun g hg hm => ?_), fun p hp => (hb p hp).keep hkb hNB2, fun d hd => ((h.bi d hd).keep hk hNB).keep hkb hNB2⟩, ?_, hn, Nw.refl _ _⟩
  · rw [blk_setCell, if_pos rfl, hblk]; rfl
  · obtain ⟨c, h1⟩ := ownCells ho hg
    exact neType h1 hblk (by decide) (by simpa using hm)
  · obtain ⟨c, h1⟩ := ownCells hinn hg
    exact neType h1 hblk (by decide) (by simpa using hm)
  · refine Keep.setCell ?_ (.inl (by simp [enS])) _
    exact ⟨hk.os, hk.tape, hk.output, hk.size, fun k hkl hkn => hk.block k hkl fun hm => by
      rcases hS k hm with h1 | h1
      · exact hkn (by simp [enS, h1])
      · omega⟩
theorem notIn_inn {w : World} {B b : Nat} {E : En} {vo vi : Value} (h : EnAt w B b E vo vi) {S : List Nat} (hS : ∀ g ∈ S, vi.ownBlock = some g ∨ w.heap.size ≤ g) {x : Nat} {cs : Array Value} {T : TypeId} {f : Nat × Nat} (hx : w.heap[x]? = some (.cells cs T f)) (hT : T ≠ 29) : x ∉ S := fun hm => by
  rcases hS x hm with h1 | h1
  · obtain ⟨c, h2⟩ := ownCells h.inn h1
    exact neType h2 hx (Ne.symm hT) rfl
  · have := lt_of_blk hx; omega
theorem EnAt.newInn {w w1 : World} {B b : Nat} {E : En} {vo vi vi' : Value} {S : List Nat} {l : List Bd} (h : EnAt w B b E vo vi) (hk : Keep S w w1) (hS : ∀ g ∈ S, vi.ownBlock = some g ∨ w.heap.size ≤ g) (ho : w1.ownsRow B 29 1 vi' l.length (l.map Bd.val)) (hb : ∀ p ∈ l, p.ok w1) (hn : Nw w vi vi') :
    EnTo w (w1.setCell ⟨b, 5, none⟩ vi') B b { E with inn := l } vo vi vo vi' := by
  have hNB : NoB S w := fun g hg cs f hc => notIn_inn h hS hc (by decide) hg
  have hkb : Keep [b] w1 (w1.setCell ⟨b, 5, none⟩ vi') := (Keep.refl _ _).setCell (.inl (by simp)) _
  have hblk := hk.at h.blk (notIn_inn h hS h.blk (by decide))
  have hNB2 : NoB [b] w1 := fun x hx cs f hc => by
    obtain rfl : x = b := by simpa using hx
    exact neType hblk hc (by decide) rfl
  have hout : w1.ownsRow B 78 2 vo E.out.length (pdsC E.out) := own_keep h.out hk (fun g hg hm => by
    obtain ⟨c, h1⟩ := ownCells h.out hg
    exact notIn_inn h hS h1 (by decide) hm)
  refine ⟨⟨h.hB, ?_, own_keep hout hkb (fun g hg hm => ?_), own_keep ho hkb (fun g hg hm => ?_), fun p hp => ((h.bo p hp).keep hk hNB).keep hkb hNB2, fun d hd => (hb d hd).keep hkb hNB2⟩, ?_, Nw.refl _ _, hn⟩
  · rw [blk_setCell, if_pos rfl, hblk]; rfl
  · obtain ⟨c, h1⟩ := ownCells hout hg
    exact neType h1 hblk (by decide) (by simpa using hm)
  · obtain ⟨c, h1⟩ := ownCells ho hg
    exact neType h1 hblk (by decide) (by simpa using hm)
  · refine Keep.setCell ?_ (.inl (by simp [enS])) _
    exact ⟨hk.os, hk.tape, hk.output, hk.size, fun k hkl hkn => hk.block k hkl fun hm => by
      rcases hS k hm with h1 | h1
      · exact hkn (by simp [enS, h1])
      · omega⟩
theorem EnTo.head {w w1 w' : World} {B b : Nat} {E E' : En} {vo vi vo' vi' : Value} (h : EnTo w w1 B b E vo vi vo' vi') (hk : Keep [b] w1 w') (ho : E'.out = E.out) (hi : E'.inn = E.inn) (hb : w'.heap[b]? = some (.cells #[.int .i64 E'.win, .int .i64 E'.lim, .int .u32 E'.base, .int .u32 E'.want, vo', vi', .bool E'.due] 76 (0, 0))) : EnTo w w' B b E' vo vi vo' vi' :=
  ⟨h.at_.head hk ho hi hb, h.keep.trans (hk.more (fun g hg => by simp at hg; simp [enS, hg])), h.no, h.ni⟩
theorem EnAt.to {w : World} {B b : Nat} {E : En} {vo vi : Value} (h : EnAt w B b E vo vi) : EnTo w w B b E vo vi vo vi := ⟨h, Keep.refl _ _, Nw.refl _ _, Nw.refl _ _⟩
theorem EnTo.then {w w1 w2 : World} {B b : Nat} {E E' : En} {vo vi vo' vi' vo2 vi2 : Value} (h : EnTo w w1 B b E vo vi vo' vi') (k : EnTo w1 w2 B b E' vo' vi' vo2 vi2) : EnTo w w2 B b E' vo vi vo2 vi2 :=
  ⟨k.at_, h.keep.call k.keep (fun g hg => by
      simp only [enS, List.mem_cons, List.mem_append, Option.mem_toList] at hg ⊢
      rcases hg with rfl | hg | hg
      · exact .inl (.inl rfl)
      · exact (h.no g hg).imp (fun h => .inr (.inl h)) id
      · exact (h.ni g hg).imp (fun h => .inr (.inr h)) id),
    fun g hg => (k.no g hg).elim (fun h1 => h.no g h1) (fun h1 => .inr (Nat.le_trans h.keep.size h1)),
    fun g hg => (k.ni g hg).elim (fun h1 => h.ni g h1) (fun h1 => .inr (Nat.le_trans h.keep.size h1))⟩
end Go
