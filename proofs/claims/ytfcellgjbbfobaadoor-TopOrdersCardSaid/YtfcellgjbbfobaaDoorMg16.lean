/- Texts laid together: DA5 DA6 R18 RC. -/
import Derived.Test.YtfcellgjbbfobaaDoorMg15
/- Explore: Orders: the rows of prefixes in memory. -/
namespace Go
open Go.RowKit Go.Ex
section
variable {w w' : World} {B e m n : Nat} {v : Value} {xs : List Value} {S : List Nat}
theorem own_blk (h : w.ownsRow B e m v n xs) : ∀ b, v.ownBlock = some b → ∃ cs, w.heap[b]? = some (.cells cs e (0, 0)) := by
  intro b hb
  rcases h.2 with ⟨rfl, _⟩ | ⟨g, cap, cur, rfl, _, hg, _⟩
  · cases hb
  · simp only [Value.ownBlock] at hb
    injection hb with hb
    subst hb
    exact ⟨cur, hg⟩
/-- What a row of one's own needs so that it stays: no block of its kind is written. -/
theorem own_keepT (h : w.ownsRow B e m v n xs) (hk : Keep S w w') (hS : ∀ g ∈ S, ∀ cs, w.heap[g]? ≠ some (.cells cs e (0, 0))) : w'.ownsRow B e m v n xs :=
  own_keep h hk (fun b hb hm => by
    obtain ⟨cs, hc⟩ := own_blk h b hb
    exact hS b hm cs hc)
abbrev EN := Value × PF
def encE (e : EN) : List Value := e.1 :: e.2.2.map (Value.int .i64)
def whoI (l : List Ln) : List Int := (who l).map fun k : Nat => (k : Int)
/-- Each order lies in a row of its own. -/
def OrdV (w : World) (B T : Nat) (es : List EN) : Prop := ∀ e ∈ es, w.ownsRow B T 1 e.1 e.2.1.length ((whoI e.2.1).map (Value.int .i64))
theorem OrdV.keep {T : Nat} {es : List EN} (h : OrdV w B T es) (hk : Keep S w w') (hS : ∀ g ∈ S, ∀ cs, w.heap[g]? ≠ some (.cells cs T (0, 0))) : OrdV w' B T es :=
  fun e he => own_keepT (h e he) hk hS
theorem OrdV.snoc {T : Nat} {es : List EN} (h : OrdV w B T es) {e : EN} (he : w.ownsRow B T 1 e.1 e.2.1.length ((whoI e.2.1).map (Value.int .i64))) : OrdV w B T (es ++ [e]) := fun x hx => by
  rcases List.mem_append.1 hx with hx | hx
  · exact h x hx
  · rw [List.mem_singleton] at hx; subst hx; exact he
end
theorem encE_len {es : List EN} (h : ∀ e ∈ es, e.2.2.length = 12) : (es.flatMap encE).length = es.length * 13 := by
  induction es with
  | nil => rfl
  | cons e es ih =>
    rw [List.flatMap_cons, List.length_append, ih (fun x hx => h x (by simp [hx])), List.length_cons]
    have := h e (by simp)
    simp only [encE, List.length_cons, List.length_map]
    omega
/-- The cells of one entry. -/
theorem encE_at {es : List EN} (h : ∀ e ∈ es, e.2.2.length = 12) {i : Nat} {e : EN} (hi : es[i]? = some e) {j : Nat} {u : Value} (hj : (encE e)[j]? = some u) : (es.flatMap encE)[i * 13 + j]? = some u := by
  induction es generalizing i with
  | nil => cases hi
  | cons x es ih =>
    have hx : (encE x).length = 13 := by have := h x (by simp); simp only [encE, List.length_cons, List.length_map]; omega
    rw [List.flatMap_cons]
    cases i with
    | zero =>
      simp at hi
      subst hi
      have h1 := (List.getElem?_eq_some_iff.1 hj).1
      rw [Nat.zero_mul, Nat.zero_add, List.getElem?_append_left h1]
      exact hj
    | succ i =>
      simp at hi
      rw [List.getElem?_append_right (by rw [hx]; omega), hx, show (i + 1) * 13 + j - 13 = i * 13 + j by omega]
      exact ih (fun y hy => h y (by simp [hy])) hi
end Go
namespace Go.Proofs.YtfcellgjbbfobaaDoor
open Go.RowKit Go.Ex Go.WideMaps
theorem info65 : (Tryd.prog.info? 65).map (fun i => (i.zero, i.size, i.bytes)) = some (some (.agg #[.slice none 0 0, .int .i64 0, .int .i64 0, .int .i64 0, .int .i64 0, .int .i64 0, .int .i64 0, .int .i64 0, .int .i64 0, .int .i64 0, .int .i64 0, .int .i64 0, .int .i64 0]), 13, 120) := by kernel_rfl
theorem info22 : (Tryd.prog.info? 22).map (fun i => (i.zero, i.size, i.bytes)) = some (some (.slice none 0 0), 1, 24) := by kernel_rfl
end Go.Proofs.YtfcellgjbbfobaaDoor
/- Explore: Orders: its rows and its map in memory. -/
namespace Go.Proofs.YtfcellgjbbfobaaDoor
open Go.RowKit Go.Ex Go.WideMaps
/-- What Orders holds in memory: the orders that are done, the level, the next level, and the map of its classes. -/
structure OM (w : World) (B mb : Nat) (ov : Value) (os : List EN) (lv : Value) (es : List EN) (nv : Value) (ns : List EN) : Prop where
  out : w.ownsRow B 22 1 ov os.length (os.map (·.1))
  ordo : OrdV w B 3 os
  lev : w.ownsRow B 65 13 lv es.length (es.flatMap encE)
  ordl : OrdV w B 3 es
  nxt : w.ownsRow B 65 13 nv ns.length (ns.flatMap encE)
  ordn : OrdV w B 3 ns
  apart : Apart2 nv lv
  seen : Seen KB w mb (ns.map fun e => cls e.2.1)
section
variable {w w' w6 w7 w8 : World} {B mb : Nat} {ov lv nv : Value} {os es ns : List EN}
theorem OM.keep (h : OM w B mb ov os lv es nv ns) (hk : Keep [] w w') : OM w' B mb ov os lv es nv ns :=
  ⟨own_keep h.out hk (by simp), h.ordo.keep hk (fun g hg => by cases hg), own_keep h.lev hk (by simp), h.ordl.keep hk (fun g hg => by cases hg), own_keep h.nxt hk (by simp), h.ordn.keep hk (fun g hg => by cases hg), h.apart, h.seen.keep hk (by simp)⟩
theorem not_map {L : List (List UInt8)} (h : Seen KB w mb L) {T : TypeId} : ∀ g ∈ [mb], ∀ cs, w.heap[g]? ≠ some (.cells cs T (0, 0)) := fun g hg cs hc => by
  rw [List.mem_singleton] at hg
  subst hg
  exact h.notCells hc rfl
theorem not_own {B e m n : Nat} {v : Value} {xs : List Value} (h : w.ownsRow B e m v n xs) {T : TypeId} (hT : e ≠ T) : ∀ g ∈ v.ownBlock.toList, ∀ cs, w.heap[g]? ≠ some (.cells cs T (0, 0)) := fun g hg cs hc => by
  obtain ⟨cs', hc'⟩ := own_blk h g (by simpa using hg)
  rw [hc'] at hc
  injection hc with hc
  injection hc with _ hc _
  exact hT hc
theorem OM.push (h : OM w B mb ov os lv es nv ns) (h6 : Keep [] w w6) (h7 : Keep [mb] w6 w7) {e : EN} (hs : Seen KB w7 mb ((ns.map fun e => cls e.2.1) ++ [cls e.2.1])) (o : Obj) (h8 : Keep nv.ownBlock.toList (w7.alloc o) w8) {g9 c9 : Nat}
    (hn : w8.ownsRow B 65 13 (.slice (some ⟨g9, 0, none⟩) (ns.length + 1) c9) (ns.length + 1) (ns.flatMap encE ++ encE e)) (hat : nv.ownBlock = some g9 ∨ w7.heap.size ≤ g9)
    (ho : w6.ownsRow B 3 1 e.1 e.2.1.length ((whoI e.2.1).map (Value.int .i64))) : OM w8 B mb ov os lv es (.slice (some ⟨g9, 0, none⟩) (ns.length + 1) c9) (ns ++ [e]) := by
  have a6 := h.keep h6
  have n6 : ∀ {T : TypeId}, ∀ g ∈ [mb], ∀ cs, w6.heap[g]? ≠ some (.cells cs T (0, 0)) := fun {T} => not_map a6.seen
  have hk8 : Keep [] w7 (w7.alloc o) := (Keep.refl [] w7).alloc o
  have nx8 : (w7.alloc o).ownsRow B 65 13 nv ns.length (ns.flatMap encE) := own_keep (own_keepT a6.nxt h7 n6) hk8 (by simp)
  have n22 := not_own nx8 (T := 22) (by decide)
  have n3 := not_own nx8 (T := 3) (by decide)
  have hl7 := own_keep (own_keepT a6.lev h7 n6) hk8 (by simp)
  refine ⟨own_keepT (own_keep (own_keepT a6.out h7 n6) hk8 (by simp)) h8 n22, ((a6.ordo.keep h7 n6).keep hk8 (fun g hg => by cases hg)).keep h8 n3, own_keep hl7 h8 (fun b hb hm => h.apart b (by simpa using hm) hb), ((a6.ordl.keep h7 n6).keep hk8 (fun g hg => by cases hg)).keep h8 n3, ?_, ?_, fun b hb hl => ?_, ?_⟩
  · rw [List.length_append, List.flatMap_append, List.flatMap_cons, List.flatMap_nil, List.append_nil]
    exact hn
  · exact (((a6.ordn.keep h7 n6).keep hk8 (fun g hg => by cases hg)).keep h8 n3).snoc (own_keepT (own_keep (own_keepT ho h7 n6) hk8 (by simp)) h8 n3)
  · have e1 : g9 = b := by injection hb
    rcases hat with e | e
    · exact h.apart b (by rw [e, e1]) hl
    · obtain ⟨cs, hc⟩ := own_blk (own_keepT a6.lev h7 n6) b hl
      have := lt_of_blk hc
      omega
  · rw [List.map_append]
    refine (hs.keep hk8 (by simp)).keep h8 (fun hm => ?_)
    obtain ⟨cs, hc⟩ := own_blk nx8 mb (by simpa using hm)
    exact (hs.keep hk8 (by simp)).notCells hc rfl
theorem OM.done (h : OM w B mb ov os lv es nv ns) (o : Obj) (h8 : Keep ov.ownBlock.toList (w.alloc o) w8) {e : EN} {v9 : Value}
    (hn : w8.ownsRow B 22 1 v9 (os.length + 1) (os.map (·.1) ++ [e.1])) (ho : w.ownsRow B 3 1 e.1 e.2.1.length ((whoI e.2.1).map (Value.int .i64))) : OM w8 B mb v9 (os ++ [e]) lv es nv ns := by
  have hk : Keep [] w (w.alloc o) := (Keep.refl [] w).alloc o
  have a := h.keep hk
  have n65 := not_own a.out (T := 65) (by decide)
  have n3 := not_own a.out (T := 3) (by decide)
  refine ⟨?_, (a.ordo.keep h8 n3).snoc (own_keepT (own_keep ho hk (by simp)) h8 n3), own_keepT a.lev h8 n65, a.ordl.keep h8 n3, own_keepT a.nxt h8 n65, a.ordn.keep h8 n3, a.apart, a.seen.keep h8 (fun hm => ?_)⟩
  · rw [List.length_append, List.map_append]
    exact hn
  · obtain ⟨cs, hc⟩ := own_blk a.out mb (by simpa using hm)
    exact a.seen.notCells hc rfl
theorem OM.lt (h : OM w B mb ov os lv es nv ns) : mb < w.heap.size := h.seen.lt
end
theorem own_new (w : World) (e m : TypeId) (xs : List Value) (k : Nat) (hl : xs.length = k * m) (hk : k ≤ 9223372036854775807) : (w.alloc (.cells xs.toArray e)).ownsRow w.heap.size e m (.slice (some ⟨w.heap.size, 0, none⟩) k k) k xs :=
  ⟨hl, .inr ⟨w.heap.size, k, xs.toArray, rfl, Nat.le_refl _, blk_new w _, Nat.le_refl _, hk, by simp [hl], by rw [← hl, List.take_length]⟩⟩
end Go.Proofs.YtfcellgjbbfobaaDoor
/- Rows of rows of three numbers of the call's own, the outer row of a fixed length. -/
namespace Go
open Go.RowKit
/-- The rows' values lie in block g; each row is the call's own, and no two share a block. -/
structure RowsO (w : World) (B : Nat) (e1 e2 : TypeId) (g : Nat) (vals : List Value) (rs : List (List Ln)) : Prop where
  len : vals.length = rs.length
  blk : w.heap[g]? = some (.cells vals.toArray e1 (0, 0))
  low : B ≤ g
  row : ∀ (r : Nat) (x : Value) (l : List Ln), vals[r]? = some x → rs[r]? = some l → w.ownsRow B e2 3 x l.length (lanesC l)
  apart : ∀ (i j : Nat) (x y : Value) (b : Nat), vals[i]? = some x → vals[j]? = some y → x.ownBlock = some b → y.ownBlock = some b → i = j
section
variable {w w' : World} {B g : Nat} {e1 e2 : TypeId} {vals : List Value} {rs : List (List Ln)}
theorem RowsO.keep0 (h : RowsO w B e1 e2 g vals rs) (hk : Keep [] w w') : RowsO w' B e1 e2 g vals rs :=
  ⟨h.len, hk.at h.blk (by simp), h.low, fun r x l hx hl => own_keep (h.row r x l hx hl) hk (by simp), h.apart⟩
theorem RowsO.cell (h : RowsO w B e1 e2 g vals rs) {r : Nat} {x : Value} (hx : vals[r]? = some x) : w.cell? ⟨g, r, none⟩ = some x := by
  rw [cellAt h.blk]; simpa using hx
theorem RowsO.get (h : RowsO w B e1 e2 g vals rs) {r : Nat} (hr : r < rs.length) : ∃ x l, vals[r]? = some x ∧ rs[r]? = some l ∧ w.ownsRow B e2 3 x l.length (lanesC l) := by
  obtain ⟨x, hx⟩ : ∃ x, vals[r]? = some x := ⟨_, List.getElem?_eq_getElem (by rw [h.len]; exact hr)⟩
  obtain ⟨l, hl⟩ : ∃ l, rs[r]? = some l := ⟨_, List.getElem?_eq_getElem hr⟩
  exact ⟨x, l, hx, hl, h.row r x l hx hl⟩
theorem RowsO.blkNe (h : RowsO w B e1 e2 g vals rs) (he : e2 ≠ e1) {r : Nat} {x : Value} {l : List Ln} (hx : vals[r]? = some x) (hl : rs[r]? = some l) : ∀ b, x.ownBlock = some b → b ≠ g := own_ne (h.row r x l hx hl) h.blk he
/-- A row is turned: the world w1 is w but for that row's block; its new value is laid into its cell. -/
theorem RowsO.turn (he : e2 ≠ e1) {w1 : World} {r : Nat} {x x' : Value} {l l' : List Ln} (h : RowsO w B e1 e2 g vals rs) (hx : vals[r]? = some x) (hl : rs[r]? = some l) (hk : Keep x.ownBlock.toList w w1) (ho : w1.ownsRow B e2 3 x' l'.length (lanesC l')) (hat : ∀ b, x'.ownBlock = some b → x.ownBlock = some b ∨ w.heap.size ≤ b) :
    RowsO (w1.setCell ⟨g, r, none⟩ x') B e1 e2 g (vals.set r x') (rs.set r l') := by
  have hrv := (List.getElem?_eq_some_iff.1 hx).1
  have hrl := (List.getElem?_eq_some_iff.1 hl).1
  have hb1 : w1.heap[g]? = some (.cells vals.toArray e1 (0, 0)) := hk.at h.blk (fun hm => by
    have := h.blkNe he hx hl g (by simpa using hm)
    exact this rfl)
  have hk2 : Keep [g] w1 (w1.setCell ⟨g, r, none⟩ x') := (Keep.refl _ _).setCell (.inl (by simp)) _
  have hset : ∀ {n : Nat} {v : Value} {xs : List Value}, w1.ownsRow B e2 3 v n xs → (w1.setCell ⟨g, r, none⟩ x').ownsRow B e2 3 v n xs := fun ho => own_keep ho hk2 (fun b hb hm => by
    rw [List.mem_singleton] at hm
    exact own_ne ho hb1 he b hb hm)
  refine ⟨by simpa using h.len, ?_, h.low, fun i y m hy hm => ?_, fun i j y z b hy hz hyb hzb => ?_⟩
  · rw [blk_setCell, if_pos rfl, hb1]
    simp
  · by_cases e : i = r
    · subst e
      rw [List.getElem?_set_self hrv] at hy
      rw [List.getElem?_set_self hrl] at hm
      injection hy with hy
      injection hm with hm
      subst hy hm
      exact hset ho
    · rw [List.getElem?_set_ne (fun h => e h.symm)] at hy hm
      exact hset (own_keep (h.row i y m hy hm) hk (fun b hb hm2 => e (h.apart i r y x b hy hx hb (by simpa using hm2))))
  · have old : ∀ {k : Nat} {u : Value}, k ≠ r → (vals.set r x')[k]? = some u → vals[k]? = some u := fun hk hu => by rwa [List.getElem?_set_ne (fun h => hk h.symm)] at hu
    have new : ∀ {u : Value}, (vals.set r x')[r]? = some u → u = x' := fun hu => by
      rw [List.getElem?_set_self hrv] at hu
      injection hu with hu
      exact hu.symm
    have lt : ∀ {k : Nat} {u : Value} {c : Nat}, vals[k]? = some u → u.ownBlock = some c → c < w.heap.size := fun {k u c} hu hc => by
      have hk := (List.getElem?_eq_some_iff.1 hu).1
      obtain ⟨m, hm⟩ : ∃ m, rs[k]? = some m := ⟨_, List.getElem?_eq_getElem (by rw [← h.len]; exact hk)⟩
      exact ((h.row k u m hu hm).lt c hc).2
    by_cases e1 : i = r
    · by_cases e2 : j = r
      · rw [e1, e2]
      · exfalso
        subst e1
        have h1 := new hy
        subst h1
        have h2 := old e2 hz
        rcases hat b hyb with h3 | h3
        · exact e2 (h.apart j i z x b h2 hx hzb h3)
        · have := lt h2 hzb
          omega
    · by_cases e2 : j = r
      · exfalso
        subst e2
        have h1 := new hz
        subst h1
        have h2 := old e1 hy
        rcases hat b hzb with h3 | h3
        · exact e1 (h.apart i j y x b h2 hx hyb h3)
        · have := lt h2 hyb
          omega
      · exact h.apart i j y z b (old e1 hy) (old e2 hz) hyb hzb
theorem RowsO.keepT {T : TypeId} {b : Nat} {cs : Array Value} {f : Nat × Nat} (h : RowsO w B e1 e2 g vals rs) (hk : Keep [b] w w') (hb : w.heap[b]? = some (.cells cs T f)) (h1 : e1 ≠ T) (h2 : e2 ≠ T) : RowsO w' B e1 e2 g vals rs := by
  have hg : g ≠ b := fun e => by
    have h3 := h.blk
    rw [e, hb] at h3
    injection h3 with h3
    injection h3 with _ h3 _
    exact h1 h3.symm
  exact ⟨h.len, hk.at h.blk (by simpa using hg), h.low, fun r x l hx hl => own_keep (h.row r x l hx hl) hk (fun c hc hm => by
    rw [List.mem_singleton] at hm
    exact own_ne (h.row r x l hx hl) hb h2 c hc hm), h.apart⟩
theorem own_put_cellO {w : World} {B e m n : Nat} {g cap : Nat} {xs : List Value} (h : w.ownsRow B e m (.slice (some ⟨g, 0, none⟩) n cap) n xs) (j : Nat) (x : Value) :
    (w.setCell ⟨g, j, none⟩ x).ownsRow B e m (.slice (some ⟨g, 0, none⟩) n cap) n (xs.set j x) := by
  obtain ⟨hl, h⟩ := h
  refine ⟨by simpa using hl, ?_⟩
  rcases h with ⟨h0, _⟩ | ⟨g', cap', cur, hv, hb, hg, hnc, hcm, hcs, ht⟩
  · cases h0
  · cases hv
    refine .inr ⟨g, cap, cur.setIfInBounds j x, rfl, hb, by rw [blk_setCell, if_pos rfl, hg]; rfl, hnc, hcm, by simpa using hcs, ?_⟩
    rw [← ht]
    simp only [Array.toList_setIfInBounds]
    rw [List.take_set]
/-- The first number of a thing in a row is turned. -/
theorem RowsO.putQ (he : e2 ≠ e1) {r k b c : Nat} {l : List Ln} {d : Ln} (h : RowsO w B e1 e2 g vals rs) (hx : vals[r]? = some (.slice (some ⟨b, 0, none⟩) l.length c)) (hl : rs[r]? = some l) (hk : l[k]? = some d) (q : Int) :
    RowsO (w.setCell ⟨b, k * 3, none⟩ (.int .i64 q)) B e1 e2 g vals (rs.set r (l.set k ⟨q, d.g, d.u⟩)) := by
  have hrl := (List.getElem?_eq_some_iff.1 hl).1
  have hkl := (List.getElem?_eq_some_iff.1 hk).1
  have hK : Keep [b] w (w.setCell ⟨b, k * 3, none⟩ (.int .i64 q)) := (Keep.refl _ _).setCell (.inl (by simp)) _
  have hbg : b ≠ g := h.blkNe he hx hl b rfl
  refine ⟨by simpa using h.len, hK.at h.blk (by simp; exact fun e => hbg e.symm), h.low, fun i y m hy hm => ?_, h.apart⟩
  by_cases e : i = r
  · subst e
    rw [hx] at hy
    injection hy with hy
    subst hy
    rw [List.getElem?_set_self hrl] at hm
    injection hm with hm
    subst hm
    have h1 := own_put_cellO (h.row i _ l hx hl) (k * 3) (.int .i64 q)
    have hlat : lat l k = d := by rw [lat, List.getD_eq_getElem?_getD, hk]; rfl
    have h2 := lanes_put l k 0 (.int .i64 q) ⟨q, d.g, d.u⟩ hkl (by omega) (by rw [hlat]; rfl)
    rw [Nat.add_zero] at h2
    rw [h2] at h1
    rw [List.length_set]
    exact h1
  · rw [List.getElem?_set_ne (fun h => e h.symm)] at hm
    exact own_keep (h.row i y m hy hm) hK (fun a ha hm2 => by
      rw [List.mem_singleton] at hm2
      subst hm2
      exact e (h.apart i r y _ a hy hx ha rfl))
theorem RowsO.rows (h : RowsO w B e1 e2 g vals rs) {n : Nat} (hn : rs.length = n) (hm : n ≤ 1000) : RowsL w (some ⟨g, 0, none⟩) n n rs := by
  refine ⟨hn, Nat.le_refl _, by omega, fun r l hl => ?_⟩
  obtain ⟨x, l', hx, hl', ho⟩ := h.get (List.getElem?_eq_some_iff.1 hl).1
  rw [hl] at hl'
  injection hl' with hl'
  subst hl'
  obtain ⟨ar, cr, rfl, hlv, _⟩ := LnsV.ofOwn ho
  exact ⟨g, 0, ar, cr, rfl, by rw [Nat.zero_add]; exact h.cell hx, hlv⟩
end
end Go
/- In a region that draws its order a call of a function that neither reads nor writes memory may be taken first. -/
namespace Go
namespace Txt
section
variable {P : Program} {ops : Array Oper} {Q : Exit → Act → World → Prop} {md : Region.Mode}
/-- In this state the operation is wanted, and is a step which in every world leaves v and the world. -/
structure Still (P : Program) (ops : Array Oper) (o : Oper) (v : Value) (a : Act) : Prop where
  want : Region.wanted o (yielded ops a.tmps) = true
  step : ∀ (b : Act) (Q : Exit → Act → World → Prop) (K : Act → World → Prop) (w : World), K (b.put o.dst v) w → o.upon P b K Q ((execOp a.eval o).run P w)
theorem Still.of_call {o : Oper} {v : Value} {a : Act} {f : FuncId} {args : Array Value} (hw : Region.wanted o (yielded ops a.tmps) = true) (he : ∀ w, (execOp a.eval o).run P w = .ok (.enter f args) w) (hc : ∀ w, Calls P f args w fun e w' => e = .returned v ∧ w' = w) : Still P ops o v a :=
  ⟨hw, fun b Q K w h => by
    rw [he w]
    exact (hc w).mono (by rintro e w' ⟨rfl, rfl⟩; exact h)⟩
theorem Still.like {o : Oper} {v : Value} {a b : Act} (h : Still P ops o v a) (he : execOp b.eval o = execOp a.eval o) (hw : Region.wanted o (yielded ops b.tmps) = Region.wanted o (yielded ops a.tmps)) : Still P ops o v b :=
  ⟨hw.trans h.want, fun c Q K w hk => by rw [he]; exact h.step c Q K w hk⟩
theorem Still.does {i : Nat} {o : Oper} {v : Value} {a : Act} (hi : ops[i]? = some o) (h : Still P ops o v a) {K : Act → World → Prop} {w : World} (hk : K (a.put o.dst v) w) : wpOp P ops Q i K a w := by
  unfold Go.wpOp
  simp only [hi, h.want, if_true]
  exact .inl (h.step a Q K w hk)
/-- What another operation does behind the early one it does ahead of it as well. -/
theorem later {j : Nat} {x y : Oper} {v : Value} (hj : ops[j]? = some y) (hap : x.apart ops y = true) (sx : ∀ cs b, x.op ≠ .select cs b) (sy : ∀ cs b, y.op ≠ .select cs b)
    (hQ : ∀ c a w, Q (.panic c) (a.put x.dst v) w → Q (.panic c) a w) {K : Act → World → Prop} {a : Act} {w : World} (hs : Still P ops x v a) (h : wpOp P ops Q j K (a.put x.dst v) w) :
    wpOp P ops Q j (fun b w' => Still P ops x v b ∧ K (b.put x.dst v) w') a w := by
  obtain ⟨n1, n2, n3⟩ := Oper.apart_spec hap
  have put_ : ∀ (b : Act) u, Still P ops x v b → Still P ops x v (b.put y.dst u) := fun b u hb => hb.like (execOp_put x sx b y.dst u n3) (wanted_put x b y.dst u n3)
  have swap : ∀ (b : Act) u w', Still P ops x v b → K ((b.put x.dst v).put y.dst u) w' → Still P ops x v (b.put y.dst u) ∧ K ((b.put y.dst u).put x.dst v) w' := fun b u w' hb hk => ⟨put_ b u hb, by rw [← Act.put_comm b v u n2]; exact hk⟩
  have same : execOp (a.put x.dst v).eval y = execOp a.eval y := execOp_put y sy a x.dst v n1
  unfold wpOp at h ⊢
  simp only [hj, wanted_put y a x.dst v n1] at h ⊢
  by_cases hw : Region.wanted y (yielded ops a.tmps) = true
  · simp only [hw, if_true] at h ⊢
    refine h.imp (fun h => ?_) (fun h => ⟨by have h1 := h.1; unfold Oper.asks at h1 ⊢; rwa [same] at h1, h.2⟩)
    unfold Oper.wp at h ⊢
    rw [same] at h
    cases hr : (execOp a.eval y).run P w with
    | halt z w' =>
      rw [hr] at h
      cases z <;> simp only [Oper.upon] at h ⊢
      exact hQ _ _ _ h
    | ok n w' =>
      rw [hr] at h
      cases n with
      | value u => exact swap a u w' hs h
      | skip => exact swap a undef w' hs h
      | defer d =>
        simp only [Oper.upon] at h ⊢
        have hpd := Act.put_defers a x.dst v d
        refine swap { a with defers := d :: a.defers } undef w' (hs.like rfl rfl) ?_
        first | (rw [← hpd]; exact h) | (rw [hpd]; exact h)
      | enter f args =>
        simp only [Oper.upon] at h ⊢
        refine Calls.mono h fun e w2 he => ?_
        cases e with
        | returned u => exact swap a u w2 hs he
        | panicked c => exact hQ _ _ _ he
        | outgrown => exact he
      | row r args =>
        simp only [Oper.upon] at h ⊢
        exact Rows.mono h fun u w2 he => swap a u w2 hs he
      | _ => simp only [Oper.upon] at h
  · simp only [Bool.not_eq_true] at hw
    simp only [hw, Bool.false_eq_true, if_false] at h ⊢
    exact swap a undef w hs h
theorem first_still {i : Nat} {x : Oper} {v : Value} (hi : ops[i]? = some x) (hsel : ∀ (j : Nat) (o : Oper) cs b, ops[j]? = some o → o.op ≠ .select cs b) (hQ : ∀ c a w, Q (.panic c) (a.put x.dst v) w → Q (.panic c) a w) :
    ∀ (fuel : Nat) (listed : Array Bool) (a : Act) (w : World),
      (∀ j y, ops[j]? = some y → j ≠ i → listed.getD j true = false → (∀ e ∈ y.after, Region.binds md e = true → e.on ≠ i) → x.apart ops y = true) →
      i ∈ Region.ready md ops listed → Still P ops x v a → wpAny P md ops Q fuel (listed.setIfInBounds i true) (a.put x.dst v) w → wpAny P md ops Q (fuel + 1) listed a w
  | fuel, listed, a, w, hfree, hr, hs, H => by
    refine ⟨fun h0 => (by rw [h0] at hr; cases hr), fun j hj => ?_⟩
    by_cases e : j = i
    · subst e
      exact hs.does hi H
    · have hjr := ready_mono hj e
      match fuel, H with
      | 0, H =>
        rw [H.1] at hjr
        cases hjr
      | fuel + 1, H =>
        obtain ⟨hun, y, hy, hall⟩ := mem_ready.1 hj
        have hnot : ∀ g ∈ y.after, Region.binds md g = true → g.on ≠ i := fun g hg hb heq => by
          have h1 := hall g hg hb
          have h2 := (mem_ready.1 hr).1
          rw [heq] at h1
          rcases Nat.lt_or_ge i listed.size with h' | h'
          · simp [h'] at h1 h2
            rw [h2] at h1
            cases h1
          · simp [Array.getElem?_eq_none h'] at h1
        refine wpOp_mono (fun b w' hb => ?_) (later hy (hfree j y hy e hun hnot) (fun cs b => hsel i x cs b hi) (fun cs b => hsel j y cs b hy) hQ hs (H.2 j hjr))
        refine first_still hi hsel hQ fuel (listed.setIfInBounds j true) b w' (fun k z hk hki hkun hkno => ?_) (ready_mono hr (Ne.symm e)) hb.1 (by rw [Array.setIfInBounds_comm _ _ e]; exact hb.2)
        refine hfree k z hk hki ?_ hkno
        by_cases hjk : j = k
        · subst hjk; exact hun
        · rw [getD_set_ne true hjk] at hkun; exact hkun
theorem wpAny_takeCall {i : Nat} {x : Oper} {v : Value} {f : FuncId} {args : Array Value} {fuel : Nat} {listed : Array Bool} {a : Act} {w : World} (hi : ops[i]? = some x) (hs : Region.noSelect ops = true) (hf : Region.free md ops listed i = true) (hr : (Region.ready md ops listed).contains i = true)
    (hQ : ∀ c a w, Q (.panic c) (a.put x.dst v) w → Q (.panic c) a w) (hw : Region.wanted x (yielded ops a.tmps) = true) (he : ∀ w, (execOp a.eval x).run P w = .ok (.enter f args) w) (hc : ∀ w, Calls P f args w fun e w' => e = .returned v ∧ w' = w)
    (h : wpAny P md ops Q fuel (listed.setIfInBounds i true) (a.put x.dst v) w) : wpAny P md ops Q (fuel + 1) listed a w :=
  first_still hi (Region.noSelect_spec hs) hQ fuel listed a w (Region.free_spec hi hf) (by simpa using hr) (Still.of_call hw he hc) h
end
end Txt
end Go
