/- Texts laid together: L16 L17 L18 R10. -/
import Derived.Test.YtfgipbjaaciiiaaMg8
import Derived.Deep.AppendLies
import Derived.Laws.AppendOwnNone
/- The world of 'played': two ends, what is under way, what was put in and got. -/
namespace Go
open Go.RowKit
def upd {α : Type} (f : Nat → α) (e : Nat) (v : α) : Nat → α := fun k => if k = e then v else f k
theorem upd_same {α : Type} (f : Nat → α) (e : Nat) (v : α) : upd f e v e = v := if_pos rfl
theorem upd_other {α : Type} (f : Nat → α) {e k : Nat} (v : α) (h : k ≠ e) : upd f e v k = f k := if_neg h
structure PW (w0 w : World) (qe qw qp qg : Nat) (tag : Nat → Nat) (B : Nat → Nat) (X : Nat → En) (VO VI VW VP VG : Nat → Value) (W : Nat → List Pk) (P G : Nat → List Bd) : Prop where
  kx : Keep [] w0 w
  en : ∀ e, e < 2 → EnAt w w0.heap.size (B e) (X e) (VO e) (VI e) ∧ EnOk (X e) ∧ ∀ g ∈ enS (B e) (VO e) (VI e), tag g = e
  ends : w.heap[qe]? = some (.cells #[.pointer (some ⟨B 0, 0, none⟩), .pointer (some ⟨B 1, 0, none⟩)] 82 (0, 0))
  way : w.heap[qw]? = some (.cells #[VW 0, VW 1] 83 (0, 0))
  puts : w.heap[qp]? = some (.cells #[VP 0, VP 1] 46 (0, 0))
  gots : w.heap[qg]? = some (.cells #[VG 0, VG 1] 46 (0, 0))
  new : w0.heap.size ≤ qe ∧ w0.heap.size ≤ qw ∧ w0.heap.size ≤ qp ∧ w0.heap.size ≤ qg ∧ qp ≠ qg
  rw : ∀ e, e < 2 → w.ownsRow w0.heap.size 34 5 (VW e) (W e).length (pksC (W e)) ∧ (∀ q ∈ W e, q.body.ok w) ∧ ∀ g, (VW e).ownBlock = some g → tag g = 2 + e
  rp : ∀ e, e < 2 → w.ownsRow w0.heap.size 29 1 (VP e) (P e).length ((P e).map Bd.val) ∧ (∀ d ∈ P e, d.ok w) ∧ ∀ g, (VP e).ownBlock = some g → tag g = 4 + e
  rg : ∀ e, e < 2 → w.ownsRow w0.heap.size 29 1 (VG e) (G e).length ((G e).map Bd.val) ∧ (∀ d ∈ G e, d.ok w) ∧ ∀ g, (VG e).ownBlock = some g → tag g = 6 + e
section
variable {w0 w w' : World} {qe qw qp qg : Nat} {tag B : Nat → Nat} {X : Nat → En} {VO VI VW VP VG : Nat → Value} {W : Nat → List Pk} {P G : Nat → List Bd}
theorem PW.keep0 (h : PW w0 w qe qw qp qg tag B X VO VI VW VP VG W P G) (hk : Keep [] w w') : PW w0 w' qe qw qp qg tag B X VO VI VW VP VG W P G :=
  ⟨h.kx.trans hk, fun e he => ⟨(h.en e he).1.keep0 hk, (h.en e he).2⟩, hk.at h.ends (by simp), hk.at h.way (by simp), hk.at h.puts (by simp), hk.at h.gots (by simp), h.new,
    fun e he => ⟨own_keep (h.rw e he).1 hk (by simp), fun q hq => ((h.rw e he).2.1 q hq).keep hk (NoB.nil _), (h.rw e he).2.2⟩,
    fun e he => ⟨own_keep (h.rp e he).1 hk (by simp), fun q hq => ((h.rp e he).2.1 q hq).keep hk (NoB.nil _), (h.rp e he).2.2⟩,
    fun e he => ⟨own_keep (h.rg e he).1 hk (by simp), fun q hq => ((h.rg e he).2.1 q hq).keep hk (NoB.nil _), (h.rg e he).2.2⟩⟩
/-- Tags of what is new. -/
def tagN (tag : Nat → Nat) (n t : Nat) : Nat → Nat := fun g => if g < n then tag g else t
theorem tagN_old (tag : Nat → Nat) {n t g : Nat} (h : g < n) : tagN tag n t g = tag g := if_pos h
theorem tagN_new (tag : Nat → Nat) {n t g : Nat} (h : n ≤ g) : tagN tag n t g = t := if_neg (by omega)
/-- An end did something. -/
theorem PW.onEnd (h : PW w0 w qe qw qp qg tag B X VO VI VW VP VG W P G) {e : Nat} (he : e < 2) {E' : En} {vo' vi' : Value} (k : EnTo w w' w0.heap.size (B e) E' (VO e) (VI e) vo' vi') (ok : EnOk E') :
    PW w0 w' qe qw qp qg (tagN tag w.heap.size e) B (upd X e E') (upd VO e vo') (upd VI e vi') VW VP VG W P G := by
  obtain ⟨hx, hox, htx⟩ := h.en e he
  have hnb := hx.noB
  have hS : ∀ g ∈ enS (B e) (VO e) (VI e), w0.heap.size ≤ g := fun g hg => (hx.lt g hg).1
  refine ⟨h.kx.call k.keep (fun g hg => .inr (hS g hg)), fun j hj => ?_, k.keep.at h.ends (notEn hx h.ends (by decide) (by decide) (by decide)), k.keep.at h.way (notEn hx h.way (by decide) (by decide) (by decide)), k.keep.at h.puts (notEn hx h.puts (by decide) (by decide) (by decide)), k.keep.at h.gots (notEn hx h.gots (by decide) (by decide) (by decide)), h.new, fun j hj => ?_, fun j hj => ?_, fun j hj => ?_⟩
  · by_cases hje : j = e
    · subst hje
      rw [upd_same, upd_same, upd_same]
      refine ⟨k.at_, ok, fun g hg => ?_⟩
      by_cases hg2 : g < w.heap.size
      · rw [tagN_old _ hg2]
        refine htx g ?_
        simp only [enS, List.mem_cons, List.mem_append, Option.mem_toList] at hg ⊢
        rcases hg with hg | hg | hg
        · exact .inl hg
        · exact (k.no g hg).elim (fun h1 => .inr (.inl h1)) (fun h1 => by omega)
        · exact (k.ni g hg).elim (fun h1 => .inr (.inr h1)) (fun h1 => by omega)
      · exact tagN_new _ (by omega)
    · rw [upd_other _ _ hje, upd_other _ _ hje, upd_other _ _ hje]
      obtain ⟨h1, h2, h3⟩ := h.en j hj
      refine ⟨h1.keep k.keep (fun g hg hm => hje ((h3 g hg).symm.trans (htx g hm))) hnb, h2, fun g hg => ?_⟩
      rw [tagN_old _ (h1.lt g hg).2]; exact h3 g hg
  · obtain ⟨h1, h2, h3⟩ := h.rw j hj
    exact ⟨k.row hx h1 (by decide) (by decide) (by decide), fun q hq => k.bd hx (h2 q hq), fun g hg => by rw [tagN_old _ (h1.lt g hg).2]; exact h3 g hg⟩
  · obtain ⟨h1, h2, h3⟩ := h.rp j hj
    exact ⟨own_keep h1 k.keep (fun g hg hm => by have := h3 g hg; have := htx g hm; omega), fun q hq => k.bd hx (h2 q hq), fun g hg => by rw [tagN_old _ (h1.lt g hg).2]; exact h3 g hg⟩
  · obtain ⟨h1, h2, h3⟩ := h.rg j hj
    exact ⟨own_keep h1 k.keep (fun g hg hm => by have := h3 g hg; have := htx g hm; omega), fun q hq => k.bd hx (h2 q hq), fun g hg => by rw [tagN_old _ (h1.lt g hg).2]; exact h3 g hg⟩
theorem two_set {w : World} {q e : Nat} {v : Value} {V : Nat → Value} {T : TypeId} (h : w.heap[q]? = some (.cells #[V 0, V 1] T (0, 0))) (he : e < 2) : (w.setCell ⟨q, e, none⟩ v).heap[q]? = some (.cells #[upd V e v 0, upd V e v 1] T (0, 0)) := by
  rw [blk_setCell, if_pos rfl, h]
  rcases (show e = 0 ∨ e = 1 by omega) with rfl | rfl <;> simp [upd]
theorem two_at {w : World} {q e : Nat} {V : Nat → Value} {T : TypeId} (h : w.heap[q]? = some (.cells #[V 0, V 1] T (0, 0))) (he : e < 2) : w.cell? ⟨q, e, none⟩ = some (V e) := by
  obtain ⟨h0, h1, _⟩ := row2 h
  rcases (show e = 0 ∨ e = 1 by omega) with rfl | rfl
  · exact h0
  · exact h1
/-- What is under way to e was written anew. -/
theorem PW.onWay (h : PW w0 w qe qw qp qg tag B X VO VI VW VP VG W P G) {e : Nat} (he : e < 2) {w1 : World} {v' : Value} {l : List Pk} (hk : Keep (VW e).ownBlock.toList w w1) (ho : w1.ownsRow w0.heap.size 34 5 v' l.length (pksC l)) (hb : ∀ q ∈ l, q.body.ok w1) (hn : Nw w (VW e) v') :
    PW w0 (w1.setCell ⟨qw, e, none⟩ v') qe qw qp qg (tagN tag w.heap.size (2 + e)) B X VO VI (upd VW e v') VP VG (upd W e l) P G := by
  obtain ⟨hr, hrb, hrt⟩ := h.rw e he
  have hT : ∀ g ∈ (VW e).ownBlock.toList, ∃ cs, w.heap[g]? = some (.cells cs 34 (0, 0)) := fun g hg => ownCells hr (by simpa using hg)
  have hne : ∀ x cs T f, w.heap[x]? = some (.cells cs T f) → T ≠ 34 → x ∉ (VW e).ownBlock.toList := fun x cs T f hx hT2 hm => by
    obtain ⟨c, hc⟩ := hT x hm
    exact neType hx hc hT2 rfl
  have hnb : NoB (VW e).ownBlock.toList w := fun g hg cs f hc => hne g cs 5 f hc (by decide) hg
  have hway := hk.at h.way (hne _ _ _ _ h.way (by decide))
  have hk2 : Keep [qw] w1 (w1.setCell ⟨qw, e, none⟩ v') := (Keep.refl _ _).setCell (.inl (by simp)) _
  have hn2 : ∀ x cs T f, w1.heap[x]? = some (.cells cs T f) → T ≠ 83 → x ∉ [qw] := fun x cs T f hx hT2 hm => by
    obtain rfl := List.mem_singleton.1 hm
    exact neType hx hway hT2 rfl
  have hnb2 : NoB [qw] w1 := fun g hg cs f hc => hn2 g cs 5 f hc (by decide) hg
  have hat : ∀ {x : Nat} {cs : Array Value} {T : TypeId}, w.heap[x]? = some (.cells cs T (0, 0)) → T ≠ 34 → T ≠ 83 → (w1.setCell ⟨qw, e, none⟩ v').heap[x]? = some (.cells cs T (0, 0)) := fun hx h1 h2 =>
    hk2.at (hk.at hx (hne _ _ _ _ hx h1)) (hn2 _ _ _ _ (hk.at hx (hne _ _ _ _ hx h1)) h2)
  have hrow : ∀ {B' t m n : Nat} {v : Value} {xs : List Value}, w.ownsRow B' t m v n xs → t ≠ 34 → t ≠ 83 → (w1.setCell ⟨qw, e, none⟩ v').ownsRow B' t m v n xs := fun hx h1 h2 =>
    own_keep (own_keep hx hk (fun g hg => by obtain ⟨c, hc⟩ := ownCells hx hg; exact hne _ _ _ _ hc h1)) hk2 (fun g hg => by
      have hx1 := own_keep hx hk (fun g hg => by obtain ⟨c, hc⟩ := ownCells hx hg; exact hne _ _ _ _ hc h1)
      obtain ⟨c, hc⟩ := ownCells hx1 hg; exact hn2 _ _ _ _ hc h2)
  have hbd : ∀ {d : Bd}, d.ok w → d.ok (w1.setCell ⟨qw, e, none⟩ v') := fun hd => (hd.keep hk hnb).keep hk2 hnb2
  refine ⟨(h.kx.call hk (fun g hg => .inr (hr.lt g (by simpa using hg)).1)).setCell (.inr h.new.2.1) _, fun j hj => ?_, hat h.ends (by decide) (by decide), two_set hway he, hat h.puts (by decide) (by decide), hat h.gots (by decide) (by decide), h.new, fun j hj => ?_, fun j hj => ?_, fun j hj => ?_⟩
  · obtain ⟨h1, h2, h3⟩ := h.en j hj
    exact ⟨⟨h1.hB, hat h1.blk (by decide) (by decide), hrow h1.out (by decide) (by decide), hrow h1.inn (by decide) (by decide), fun p hp => hbd (h1.bo p hp), fun d hd => hbd (h1.bi d hd)⟩, h2, fun g hg => by rw [tagN_old _ (h1.lt g hg).2]; exact h3 g hg⟩
  · by_cases hje : j = e
    · subst hje
      rw [upd_same, upd_same]
      refine ⟨own_keep ho hk2 (fun g hg => by obtain ⟨c, hc⟩ := ownCells ho hg; exact hn2 _ _ _ _ hc (by decide)), fun q hq => (hb q hq).keep hk2 hnb2, fun g hg => ?_⟩
      rcases hn g hg with h1 | h1
      · rw [tagN_old _ (hr.lt g h1).2]; exact hrt g h1
      · exact tagN_new _ h1
    · rw [upd_other _ _ hje, upd_other _ _ hje]
      obtain ⟨h1, h2, h3⟩ := h.rw j hj
      have hd1 : w1.ownsRow w0.heap.size 34 5 (VW j) (W j).length (pksC (W j)) := own_keep h1 hk (fun g hg hm => by
        have ha := h3 g hg
        have hb := hrt g (by simpa using hm)
        omega)
      exact ⟨own_keep hd1 hk2 (fun g hg => by obtain ⟨c, hc⟩ := ownCells hd1 hg; exact hn2 _ _ _ _ hc (by decide)), fun q hq => hbd (h2 q hq), fun g hg => by rw [tagN_old _ (h1.lt g hg).2]; exact h3 g hg⟩
  · obtain ⟨h1, h2, h3⟩ := h.rp j hj
    exact ⟨hrow h1 (by decide) (by decide), fun q hq => hbd (h2 q hq), fun g hg => by rw [tagN_old _ (h1.lt g hg).2]; exact h3 g hg⟩
  · obtain ⟨h1, h2, h3⟩ := h.rg j hj
    exact ⟨hrow h1 (by decide) (by decide), fun q hq => hbd (h2 q hq), fun g hg => by rw [tagN_old _ (h1.lt g hg).2]; exact h3 g hg⟩
/-- A row of bodies was written anew. -/
theorem PW.onPut (h : PW w0 w qe qw qp qg tag B X VO VI VW VP VG W P G) {e : Nat} (he : e < 2) {w1 : World} {v' : Value} {l : List Bd} (hk : Keep (VP e).ownBlock.toList w w1) (ho : w1.ownsRow w0.heap.size 29 1 v' l.length (l.map Bd.val)) (hb : ∀ q ∈ l, q.ok w1) (hn : Nw w (VP e) v') :
    PW w0 (w1.setCell ⟨qp, e, none⟩ v') qe qw qp qg (tagN tag w.heap.size (4 + e)) B X VO VI VW (upd VP e v') VG W (upd P e l) G := by
  obtain ⟨hr, hrb, hrt⟩ := h.rp e he
  have hne : ∀ x cs T f, w.heap[x]? = some (.cells cs T f) → T ≠ 29 → x ∉ (VP e).ownBlock.toList := fun x cs T f hx hT2 hm => by
    obtain ⟨c, hc⟩ := ownCells hr (by simpa using hm)
    exact neType hx hc hT2 rfl
  have hnt : ∀ g, tag g ≠ 4 + e → g ∉ (VP e).ownBlock.toList := fun g hg hm => hg (hrt g (by simpa using hm))
  have hnb : NoB (VP e).ownBlock.toList w := fun g hg cs f hc => hne g cs 5 f hc (by decide) hg
  have hq := hk.at h.puts (hne _ _ _ _ h.puts (by decide))
  have hk2 : Keep [qp] w1 (w1.setCell ⟨qp, e, none⟩ v') := (Keep.refl _ _).setCell (.inl (by simp)) _
  have hn2 : ∀ x cs T f, w1.heap[x]? = some (.cells cs T f) → T ≠ 46 → x ∉ [qp] := fun x cs T f hx hT2 hm => by
    obtain rfl := List.mem_singleton.1 hm
    exact neType hx hq hT2 rfl
  have hnb2 : NoB [qp] w1 := fun g hg cs f hc => hn2 g cs 5 f hc (by decide) hg
  have hat : ∀ {x : Nat} {cs : Array Value} {T : TypeId}, w.heap[x]? = some (.cells cs T (0, 0)) → T ≠ 29 → x ≠ qp → (w1.setCell ⟨qp, e, none⟩ v').heap[x]? = some (.cells cs T (0, 0)) := fun hx h1 h2 =>
    hk2.at (hk.at hx (hne _ _ _ _ hx h1)) (by simpa using h2)
  have hnq : ∀ {x : Nat} {cs : Array Value} {T : TypeId}, w.heap[x]? = some (.cells cs T (0, 0)) → T ≠ 46 → x ≠ qp := fun hx hT he => by
    subst he
    exact neType hx h.puts hT rfl
  have hrow : ∀ {B' t m n : Nat} {v : Value} {xs : List Value}, w.ownsRow B' t m v n xs → t ≠ 46 → (∀ g, v.ownBlock = some g → tag g ≠ 4 + e) → (w1.setCell ⟨qp, e, none⟩ v').ownsRow B' t m v n xs := fun hx h1 h2 =>
    own_keep (own_keep hx hk (fun g hg => hnt g (h2 g hg))) hk2 (fun g hg => by
      have hx1 := own_keep hx hk (fun g hg => hnt g (h2 g hg))
      obtain ⟨c, hc⟩ := ownCells hx1 hg; exact hn2 _ _ _ _ hc h1)
  have hbd : ∀ {d : Bd}, d.ok w → d.ok (w1.setCell ⟨qp, e, none⟩ v') := fun hd => (hd.keep hk hnb).keep hk2 hnb2
  refine ⟨(h.kx.call hk (fun g hg => .inr (hr.lt g (by simpa using hg)).1)).setCell (.inr h.new.2.2.1) _, fun j hj => ?_, hat h.ends (by decide) (hnq h.ends (by decide)), hat h.way (by decide) (hnq h.way (by decide)), two_set hq he, hat h.gots (by decide) (fun e => h.new.2.2.2.2 e.symm), h.new, fun j hj => ?_, fun j hj => ?_, fun j hj => ?_⟩
  · obtain ⟨h1, h2, h3⟩ := h.en j hj
    have ht : ∀ g ∈ enS (B j) (VO j) (VI j), tag g ≠ 4 + e := fun g hg => by rw [h3 g hg]; omega
    exact ⟨⟨h1.hB, hat h1.blk (by decide) (hnq h1.blk (by decide)), hrow h1.out (by decide) (fun g hg => ht g (by simp [enS, hg])), hrow h1.inn (by decide) (fun g hg => ht g (by simp [enS, hg])), fun p hp => hbd (h1.bo p hp), fun d hd => hbd (h1.bi d hd)⟩, h2, fun g hg => by rw [tagN_old _ (h1.lt g hg).2]; exact h3 g hg⟩
  · obtain ⟨h1, h2, h3⟩ := h.rw j hj
    exact ⟨hrow h1 (by decide) (fun g hg => by rw [h3 g hg]; omega), fun q hq => hbd (h2 q hq), fun g hg => by rw [tagN_old _ (h1.lt g hg).2]; exact h3 g hg⟩
  · by_cases hje : j = e
    · subst hje
      rw [upd_same, upd_same]
      refine ⟨own_keep ho hk2 (fun g hg => by obtain ⟨c, hc⟩ := ownCells ho hg; exact hn2 _ _ _ _ hc (by decide)), fun q hq => (hb q hq).keep hk2 hnb2, fun g hg => ?_⟩
      rcases hn g hg with h1 | h1
      · rw [tagN_old _ (hr.lt g h1).2]; exact hrt g h1
      · exact tagN_new _ h1
    · rw [upd_other _ _ hje, upd_other _ _ hje]
      obtain ⟨h1, h2, h3⟩ := h.rp j hj
      exact ⟨hrow h1 (by decide) (fun g hg => by rw [h3 g hg]; omega), fun q hq => hbd (h2 q hq), fun g hg => by rw [tagN_old _ (h1.lt g hg).2]; exact h3 g hg⟩
  · obtain ⟨h1, h2, h3⟩ := h.rg j hj
    exact ⟨hrow h1 (by decide) (fun g hg => by rw [h3 g hg]; omega), fun q hq => hbd (h2 q hq), fun g hg => by rw [tagN_old _ (h1.lt g hg).2]; exact h3 g hg⟩
/-- A row of bodies was written anew. -/
theorem PW.onGot (h : PW w0 w qe qw qp qg tag B X VO VI VW VP VG W P G) {e : Nat} (he : e < 2) {w1 : World} {v' : Value} {l : List Bd} (hk : Keep (VG e).ownBlock.toList w w1) (ho : w1.ownsRow w0.heap.size 29 1 v' l.length (l.map Bd.val)) (hb : ∀ q ∈ l, q.ok w1) (hn : Nw w (VG e) v') :
    PW w0 (w1.setCell ⟨qg, e, none⟩ v') qe qw qp qg (tagN tag w.heap.size (6 + e)) B X VO VI VW VP (upd VG e v') W P (upd G e l) := by
  obtain ⟨hr, hrb, hrt⟩ := h.rg e he
  have hne : ∀ x cs T f, w.heap[x]? = some (.cells cs T f) → T ≠ 29 → x ∉ (VG e).ownBlock.toList := fun x cs T f hx hT2 hm => by
    obtain ⟨c, hc⟩ := ownCells hr (by simpa using hm)
    exact neType hx hc hT2 rfl
  have hnt : ∀ g, tag g ≠ 6 + e → g ∉ (VG e).ownBlock.toList := fun g hg hm => hg (hrt g (by simpa using hm))
  have hnb : NoB (VG e).ownBlock.toList w := fun g hg cs f hc => hne g cs 5 f hc (by decide) hg
  have hq := hk.at h.gots (hne _ _ _ _ h.gots (by decide))
  have hk2 : Keep [qg] w1 (w1.setCell ⟨qg, e, none⟩ v') := (Keep.refl _ _).setCell (.inl (by simp)) _
  have hn2 : ∀ x cs T f, w1.heap[x]? = some (.cells cs T f) → T ≠ 46 → x ∉ [qg] := fun x cs T f hx hT2 hm => by
    obtain rfl := List.mem_singleton.1 hm
    exact neType hx hq hT2 rfl
  have hnb2 : NoB [qg] w1 := fun g hg cs f hc => hn2 g cs 5 f hc (by decide) hg
  have hat : ∀ {x : Nat} {cs : Array Value} {T : TypeId}, w.heap[x]? = some (.cells cs T (0, 0)) → T ≠ 29 → x ≠ qg → (w1.setCell ⟨qg, e, none⟩ v').heap[x]? = some (.cells cs T (0, 0)) := fun hx h1 h2 =>
    hk2.at (hk.at hx (hne _ _ _ _ hx h1)) (by simpa using h2)
  have hnq : ∀ {x : Nat} {cs : Array Value} {T : TypeId}, w.heap[x]? = some (.cells cs T (0, 0)) → T ≠ 46 → x ≠ qg := fun hx hT he => by
    subst he
    exact neType hx h.gots hT rfl
  have hrow : ∀ {B' t m n : Nat} {v : Value} {xs : List Value}, w.ownsRow B' t m v n xs → t ≠ 46 → (∀ g, v.ownBlock = some g → tag g ≠ 6 + e) → (w1.setCell ⟨qg, e, none⟩ v').ownsRow B' t m v n xs := fun hx h1 h2 =>
    own_keep (own_keep hx hk (fun g hg => hnt g (h2 g hg))) hk2 (fun g hg => by
      have hx1 := own_keep hx hk (fun g hg => hnt g (h2 g hg))
      obtain ⟨c, hc⟩ := ownCells hx1 hg; exact hn2 _ _ _ _ hc h1)
  have hbd : ∀ {d : Bd}, d.ok w → d.ok (w1.setCell ⟨qg, e, none⟩ v') := fun hd => (hd.keep hk hnb).keep hk2 hnb2
  refine ⟨(h.kx.call hk (fun g hg => .inr (hr.lt g (by simpa using hg)).1)).setCell (.inr h.new.2.2.2.1) _, fun j hj => ?_, hat h.ends (by decide) (hnq h.ends (by decide)), hat h.way (by decide) (hnq h.way (by decide)), hat h.puts (by decide) h.new.2.2.2.2, two_set hq he, h.new, fun j hj => ?_, fun j hj => ?_, fun j hj => ?_⟩
  · obtain ⟨h1, h2, h3⟩ := h.en j hj
    have ht : ∀ g ∈ enS (B j) (VO j) (VI j), tag g ≠ 6 + e := fun g hg => by rw [h3 g hg]; omega
    exact ⟨⟨h1.hB, hat h1.blk (by decide) (hnq h1.blk (by decide)), hrow h1.out (by decide) (fun g hg => ht g (by simp [enS, hg])), hrow h1.inn (by decide) (fun g hg => ht g (by simp [enS, hg])), fun p hp => hbd (h1.bo p hp), fun d hd => hbd (h1.bi d hd)⟩, h2, fun g hg => by rw [tagN_old _ (h1.lt g hg).2]; exact h3 g hg⟩
  · obtain ⟨h1, h2, h3⟩ := h.rw j hj
    exact ⟨hrow h1 (by decide) (fun g hg => by rw [h3 g hg]; omega), fun q hq => hbd (h2 q hq), fun g hg => by rw [tagN_old _ (h1.lt g hg).2]; exact h3 g hg⟩
  · obtain ⟨h1, h2, h3⟩ := h.rp j hj
    exact ⟨hrow h1 (by decide) (fun g hg => by rw [h3 g hg]; omega), fun q hq => hbd (h2 q hq), fun g hg => by rw [tagN_old _ (h1.lt g hg).2]; exact h3 g hg⟩
  · by_cases hje : j = e
    · subst hje
      rw [upd_same, upd_same]
      refine ⟨own_keep ho hk2 (fun g hg => by obtain ⟨c, hc⟩ := ownCells ho hg; exact hn2 _ _ _ _ hc (by decide)), fun q hq => (hb q hq).keep hk2 hnb2, fun g hg => ?_⟩
      rcases hn g hg with h1 | h1
      · rw [tagN_old _ (hr.lt g h1).2]; exact hrt g h1
      · exact tagN_new _ h1
    · rw [upd_other _ _ hje, upd_other _ _ hje]
      obtain ⟨h1, h2, h3⟩ := h.rg j hj
      exact ⟨hrow h1 (by decide) (fun g hg => by rw [h3 g hg]; omega), fun q hq => hbd (h2 q hq), fun g hg => by rw [tagN_old _ (h1.lt g hg).2]; exact h3 g hg⟩
end
end Go
namespace Go
theorem pksC_take (l : List Pk) (k : Nat) : (pksC l).take (k * 5) = pksC (l.take k) := by
  by_cases hk : k ≤ l.length
  · have h := congrArg pksC (List.take_append_drop k l)
    rw [pksC_app] at h
    rw [← h, List.take_left' (by rw [pksC_len, List.length_take]; omega)]
  · rw [List.take_of_length_le (by rw [pksC_len]; omega), List.take_of_length_le (by omega)]
theorem pksC_drop (l : List Pk) (k : Nat) : (pksC l).drop (k * 5) = pksC (l.drop k) := by
  by_cases hk : k ≤ l.length
  · have h := congrArg pksC (List.take_append_drop k l)
    rw [pksC_app] at h
    rw [← h, List.drop_left' (by rw [pksC_len, List.length_take]; omega)]
  · rw [List.drop_of_length_le (by rw [pksC_len]; omega), List.drop_of_length_le (by omega)]; rfl
end Go
namespace Go.Proofs.Ytfgipbjaaciiiaa
open Go.RowKit
theorem zero34 : ∀ w, (zeroValue 34).run Try.prog w = .ok (.agg #[.int .u32 0, .int .u32 0, .bool false, .int .i64 0, .slice none 0 0]) w := fun w => by kernel_rfl
set_option maxRecDepth 100000 in
set_option maxHeartbeats 2000000 in
theorem delete41_any {B i : Nat} {v : Value} {l : List Pk} {w : World} (ho : w.ownsRow B 34 5 v l.length (pksC l)) (hi : i < l.length) (hl : l.length ≤ 100000) :
    Calls Try.prog 41 #[v, .int .i64 i, .int .i64 ((i : Int) + 1)] w fun e w' => ∃ v', e = .returned v' ∧ v'.ownBlock = v.ownBlock ∧ Keep v.ownBlock.toList w w' ∧ w'.ownsRow B 34 5 v' (l.length - 1) (pksC (l.eraseIdx i)) := by
  obtain ⟨i0, hi0, hz0, hz1, hz2⟩ := info_parts2 info34
  rcases ho.2 with ⟨_, h0⟩ | ⟨g, cap, cur, rfl, hb, hg, hnc, hcm, hcs, ht⟩
  · omega
  obtain ⟨k, hk⟩ : ∃ k, l.length = k + 1 := ⟨l.length - 1, by omega⟩
  rw [hk] at hi hl hnc ht
  have hcurl : (k + 1) * 5 ≤ cur.toList.length := by rw [Array.length_toList, hcs]; omega
  have HNEWS : Hid (∀ j u, (pksC (l.drop (i + 1)))[j]? = some u → w.drew.cell? ((⟨g, (i + 1) * 5, none⟩ : Addr).add j) = some u) := Lib.hid (fun j u hu => by
    rw [Go.WideShapes.add_plain]
    show w.cell? ⟨g, (i + 1) * 5 + j, none⟩ = some u
    rw [cell_of_row w g _ cur 34 (0, 0) hg, ← hu, ← pksC_drop, ← ht, List.getElem?_drop, List.getElem?_take]
    have hj := (List.getElem?_eq_some_iff.1 hu).1
    rw [pksC_len, List.length_drop, hk] at hj
    rw [if_pos (by omega)]
    simp)
  have HLEN : Hid ((pksC (l.drop (i + 1))).length = (k - i) * 5) := Lib.hid (by rw [pksC_len, List.length_drop, hk]; congr 1; omega)
  have HONE : Hid (∀ u ∈ pksC (l.drop (i + 1)), u.oneCell' = true) := Lib.hid (fun u hu => by
    exact one_pks _ u hu)
  have HG := Lib.hid hg
  have HT := Lib.hid ht
  have HCS := Lib.hid hcs
  have HB := Lib.hid hb
  have hcm' := hcm
  unfold maxLen at hcm'
  clear ho hb hg ht
  have HTI : Hid (cur.toList.take (i * 5) = pksC (l.take i)) := Lib.hid (by
    rw [← pksC_take, ← HT.out, List.take_take, Nat.min_eq_left (by omega)])
  have HSZ : Hid ((cur.toList.take (i * 5) ++ (pksC (l.drop (i + 1)) ++ cur.toList.drop (i * 5 + (pksC (l.drop (i + 1))).length))).length = cap * 5) := Lib.hid (by
    rw [List.length_append, List.length_append, HLEN.out, List.length_take, List.length_drop, Array.length_toList, HCS.out]
    omega)
  have HER : Hid (∀ L : List Value, ((cur.toList.take (i * 5) ++ (pksC (l.drop (i + 1)) ++ cur.toList.drop (i * 5 + (pksC (l.drop (i + 1))).length))).take (k * 5) ++ L).take (k * 5) = pksC (l.eraseIdx i)) := Lib.hid (fun L => by
    have h1 : (cur.toList.take (i * 5)).length = i * 5 := by rw [List.length_take, Array.length_toList, HCS.out]; omega
    have h2 : ((cur.toList.take (i * 5) ++ (pksC (l.drop (i + 1)) ++ cur.toList.drop (i * 5 + (pksC (l.drop (i + 1))).length))).take (k * 5)).length = k * 5 := by rw [List.length_take, HSZ.out]; omega
    rw [List.take_left' h2, ← List.append_assoc, List.take_left' (by rw [List.length_append, h1, HLEN.out]; omega), HTI.out, ← pksC_app, List.eraseIdx_eq_take_drop_succ])
  have HZ1 : Hid (∀ u ∈ (Value.agg #[.int .u32 0, .int .u32 0, .bool false, .int .i64 0, .slice none 0 0]).cells, u.oneCell' = true) := Lib.hid (by
    intro u hu
    simp [Value.cells] at hu
    rcases hu with hu | hu | hu | hu <;> (subst hu; rfl))
  rw [hk]
  have e1 : i + (k - i) = k := by omega
  have HFIT : Hid (k * 5 + (0 + 1) * (Value.agg #[.int .u32 0, .int .u32 0, .bool false, .int .i64 0, .slice none 0 0]).cells.size ≤ (cur.toList.take (i * 5) ++ (pksC (l.drop (i + 1)) ++ cur.toList.drop (i * 5 + (pksC (l.drop (i + 1))).length))).toArray.size) := Lib.hid (by
    show k * 5 + (0 + 1) * 5 ≤ (List.toArray _).size
    rw [List.size_toArray, HSZ.out]
    omega)
  by_cases hcap : cap = i + 1
  · subst hcap
    have hik : i = k := by omega
    subst hik
    have HNIL : Hid (pksC (l.drop (i + 1)) = []) := Lib.hid (by rw [List.drop_eq_nil_of_le (by omega)]; rfl)
    have HL0 : Hid ((pksC (l.drop (i + 1))).length = 0 * 5) := Lib.hid (by rw [HNIL.out]; rfl)
    have HN0 : Hid (∀ j u, (pksC (l.drop (i + 1)))[j]? = some u → w.drew.cell? ((⟨g, 0, none⟩ : Addr).add j) = some u) := Lib.hid (fun j u hu => by rw [HNIL.out] at hu; simp at hu)
    go_enter Try.func41, Try.ntmps41
    go_wp2_with (first | (with_reducible refine Txt.wp_region_text mixed quiet (by decide +kernel) ?_) | (with_reducible refine Txt.text_done (by kernel_rfl) ?_) | (at_builtin; refine wpList_append_room rfl _ _ 30 rfl 34 i0 Try.underlying30 hi0 5 hz1 g i (i + 1) cur HG.out rfl ⟨g, 0, none⟩ 0 0 (pksC (l.drop (i + 1))) rfl HL0.out HN0.out HONE.out (by omega) (by rw [HL0.out]; omega) ?_) | (refine wpList_clear_row rfl _ 30 rfl 34 _ Try.underlying30 zero34 HZ1.out g (i * 5) 0 _ _ (setRow_heap w.drew g cur _ 34 (0, 0) HG.out) rfl HFIT.out ?_; intro L hL))
    go_ret
    have hL5 : L.length = 5 := by rw [hL]; try rfl
    refine ⟨.slice (some ⟨g, 0, none⟩) i (i + 1), rfl, rfl, (((Keep.refl [g] w).drew).trans (keep_setRow _ _ _)).trans (keep_setRow _ _ _), ?_, .inr ⟨g, (i + 1), _, rfl, HB.out, setRow_heap _ g _ _ 34 (0, 0) (setRow_heap w.drew g cur _ 34 (0, 0) HG.out), by omega, hcm, ?_, ?_⟩⟩
    · rw [pksC_len, List.length_eraseIdx, if_pos (by omega), hk]
    · rw [List.size_toArray, List.length_append, List.length_append, List.length_take, List.length_drop, HSZ.out, hL5]; omega
    · have h1 : (cur.toList.take (i * 5)).length = i * 5 := by rw [List.length_take, Array.length_toList, HCS.out]; omega
      show List.take (i * 5) (List.take (i * 5) cur.toList ++ _) = _
      rw [List.take_left' h1, HTI.out, List.eraseIdx_eq_take_drop_succ, pksC_app, HNIL.out, List.append_nil]
  · go_enter Try.func41, Try.ntmps41
    go_wp2_with (first | (with_reducible refine Txt.wp_region_text mixed quiet (by decide +kernel) ?_) | (with_reducible refine Txt.text_done (by kernel_rfl) ?_) | (at_builtin; refine wpList_append_room rfl _ _ 30 rfl 34 i0 Try.underlying30 hi0 5 hz1 g i cap cur HG.out rfl ⟨g, (i + 1) * 5, none⟩ (k - i) (cap - (i + 1)) (pksC (l.drop (i + 1))) rfl HLEN.out HNEWS.out HONE.out (by omega) (by rw [HLEN.out]; omega) ?_) | (refine wpList_clear_row rfl _ 30 rfl 34 _ Try.underlying30 zero34 HZ1.out g (k * 5) 0 _ _ (setRow_heap w.drew g cur _ 34 (0, 0) HG.out) rfl HFIT.out ?_; intro L hL))
    go_ret
    have hL5 : L.length = 5 := by rw [hL]; try rfl
    refine ⟨.slice (some ⟨g, 0, none⟩) k cap, rfl, rfl, (((Keep.refl [g] w).drew).trans (keep_setRow _ _ _)).trans (keep_setRow _ _ _), ?_, .inr ⟨g, cap, _, rfl, HB.out, setRow_heap _ g _ _ 34 (0, 0) (setRow_heap w.drew g cur _ 34 (0, 0) HG.out), by omega, hcm, ?_, ?_⟩⟩
    · rw [pksC_len, List.length_eraseIdx, if_pos (by omega), hk]
    · rw [List.size_toArray, List.length_append, List.length_append, List.length_take, List.length_drop, HSZ.out, hL5]; omega
    · exact HER.out _
end Go.Proofs.Ytfgipbjaaciiiaa
/- 'played': what stays so whatever is played. -/
namespace Go
def LInv (X : Nat → En) (P G : Nat → List Bd) (W : Nat → List Pk) : Prop := ∀ e, e < 2 → Dir (X e) (X (1 - e)) (P e) (G (1 - e)) (W (1 - e)) (W e)
section
variable {X : Nat → En} {P G : Nat → List Bd} {W : Nat → List Pk} {e : Nat}
theorem LInv.sides (_h : LInv X P G W) (he : e < 2) {E' : En} {P' : List Bd} {Go Ge : List Bd} {We Wo : List Pk}
    (h1 : Dir E' (X (1 - e)) P' Go Wo We) (h2 : Dir (X (1 - e)) E' (P (1 - e)) Ge We Wo) :
    LInv (upd X e E') (upd P e P') (upd (upd G e Ge) (1 - e) Go) (upd (upd W e We) (1 - e) Wo) := by
  intro j hj
  by_cases hje : j = e
  · subst hje
    have hne : 1 - j ≠ j := by omega
    rw [upd_same, upd_same, upd_other _ _ hne, upd_same, upd_same, upd_other _ _ (Ne.symm hne), upd_same]
    exact h1
  · have h0 : 1 - j = e := by omega
    have h3 : j = 1 - e := by omega
    subst h3
    have hee : 1 - (1 - e) = e := by omega
    have hne : e ≠ 1 - e := by omega
    rw [hee, upd_other _ _ hje, upd_same, upd_other _ _ hje, upd_other _ _ hne, upd_same, upd_other _ _ hne, upd_same, upd_same]
    exact h2
theorem upd_id {α : Type} (f : Nat → α) (e : Nat) : upd f e (f e) = f := by
  funext k
  unfold upd
  split
  · rename_i h; rw [h]
  · rfl
theorem LInv.both (h : LInv X P G W) (he : e < 2) : Dir (X e) (X (1 - e)) (P e) (G (1 - e)) (W (1 - e)) (W e) ∧ Dir (X (1 - e)) (X e) (P (1 - e)) (G e) (W e) (W (1 - e)) := by
  refine ⟨h e he, ?_⟩
  have := h (1 - e) (by omega)
  rw [show 1 - (1 - e) = e by omega] at this
  exact this
theorem LInv.put (h : LInv X P G W) (he : e < 2) {p : Pd} {d : Bd} (hp : p.b.bs = d.bs) : LInv (upd X e { X e with out := (X e).out ++ [p] }) (upd P e (P e ++ [d])) G W := by
  obtain ⟨h1, h2⟩ := h.both he
  have := h.sides he (h1.put hp) (h2.asO (O' := { X e with out := (X e).out ++ [p] }) rfl rfl)
  rwa [upd_id, upd_id, upd_id, upd_id] at this
theorem LInv.sends (h : LInv X P G W) (he : e < 2) {ds : Nat → Bd} (hds : ∀ i p, i < min (X e).lim (X e).out.length → (X e).out[i]? = some p → p.sent = false → (ds i).bs = p.b.bs) : LInv (upd X e (outE (X e))) P G (upd W (1 - e) (W (1 - e) ++ outP (X e) ds)) := by
  obtain ⟨h1, h2⟩ := h.both he
  have := h.sides he (h1.sends hds) (h2.answers (ds := ds))
  rwa [upd_id, upd_id, upd_id, upd_id] at this
theorem LInv.come (h : LInv X P G W) (he : e < 2) {q : Pk} (hq : q ∈ W e) {d : Bd} (hd : d.bs = q.body.bs) : LInv (upd X e (gotE (ackE (X e) q.ack q.win) q.has q.seq d)) P G W := by
  obtain ⟨h1, h2⟩ := h.both he
  have a1 : Dir (gotE (ackE (X e) q.ack q.win) q.has q.seq d) (X (1 - e)) (P e) (G (1 - e)) (W (1 - e)) (W e) :=
    (h1.ackd (a := q.ack) (win := q.win) (h1.ack q hq)).asE (gotE_side _ _ _ _).1 (by rw [(gotE_side _ _ _ _).2]) (fun i p hp => by rw [(gotE_side _ _ _ _).2] at hp; exact ⟨p, hp, rfl⟩)
  have a2 : Dir (X (1 - e)) (gotE (ackE (X e) q.ack q.win) q.has q.seq d) (P (1 - e)) (G e) (W e) (W (1 - e)) :=
    (h2.asO (O' := ackE (X e) q.ack q.win) (ackE_side _ _ _).1 (ackE_side _ _ _).2.1).gotd (fun hh => by
      obtain ⟨b, hb1, hb2⟩ := h2.way q hq hh
      exact ⟨b, hb1, hd.trans hb2⟩)
  have := h.sides he a1 a2
  rwa [upd_id, upd_id, upd_id, upd_id, upd_id] at this
theorem LInv.less (h : LInv X P G W) (he : e < 2) {W' : List Pk} (hw : ∀ q ∈ W', q ∈ W e) : LInv X P G (upd W e W') := by
  obtain ⟨h1, h2⟩ := h.both he
  have := h.sides he (h1.lessW (W' := W (1 - e)) (V' := W') (fun q h => h) hw) (h2.lessW (W' := W') (V' := W (1 - e)) hw (fun q h => h))
  have h9 : upd (upd W e W') (1 - e) (W (1 - e)) = upd W e W' := by
    funext k
    unfold upd
    split
    · rename_i hk; subst hk; rw [if_neg (by omega)]
    · rfl
  rw [h9] at this
  rwa [upd_id, upd_id, upd_id, upd_id] at this
theorem LInv.tick (h : LInv X P G W) (he : e < 2) (lim : Nat) : LInv (upd X e { X e with lim := lim, out := (X e).out.map (fun p => ⟨p.b, false⟩) }) P G W := by
  obtain ⟨h1, h2⟩ := h.both he
  have a1 : Dir { X e with lim := lim, out := (X e).out.map (fun p => ⟨p.b, false⟩) } (X (1 - e)) (P e) (G (1 - e)) (W (1 - e)) (W e) := h1.asE rfl (by simp) (fun i p hp => by
    simp only [List.getElem?_map, Option.map_eq_some_iff] at hp
    obtain ⟨q, hq, rfl⟩ := hp
    exact ⟨q, hq, rfl⟩)
  have := h.sides he a1 (h2.asO (O' := { X e with lim := lim, out := (X e).out.map (fun p => ⟨p.b, false⟩) }) rfl rfl)
  rwa [upd_id, upd_id, upd_id, upd_id, upd_id] at this
theorem LInv.taken (h : LInv X P G W) (he : e < 2) (due : Bool) : LInv (upd X e { X e with inn := [], due := due }) P (upd G e (G e ++ (X e).inn)) W := by
  obtain ⟨h1, h2⟩ := h.both he
  have a1 : Dir { X e with inn := [], due := due } (X (1 - e)) (P e) (G (1 - e)) (W (1 - e)) (W e) := h1.asE rfl rfl (fun i p hp => ⟨p, hp, rfl⟩)
  have := h.sides he a1 (h2.taken due)
  have h9 : upd (upd G e (G e ++ (X e).inn)) (1 - e) (G (1 - e)) = upd G e (G e ++ (X e).inn) := by
    funext k
    unfold upd
    split
    · rename_i hk; subst hk; rw [if_neg (by omega)]
    · rfl
  rw [h9] at this
  rwa [upd_id, upd_id, upd_id] at this
end
end Go
/- append(s, l...) of one's own row, l of whatever length. -/
namespace Go
theorem World.grownBy.same (w : World) (r : Option Nat) : w.grownBy w r := ⟨rfl, rfl, rfl, Nat.le_refl _, fun _ _ _ => rfl⟩
section
variable {P : Program} {w : World}
theorem run_append_any (t ty : TypeId) (base : Nat) (e : TypeId) (i : TypeInfo) (z : Value) (size bytes : Nat) (ht : P.underlying t = some (.slice e)) (hi : P.info? e = some i) (hz : i.zero = some z)
    (hsize : i.size = size) (hby : i.bytes = bytes) (hzs : z.cells.size = size) (hsz : 0 < size)
    (v : Value) (n : Nat) (xs : List Value) (hown : w.ownsRow base e size v n xs)
    (xa : Option Addr) (m c : Nat) (news : List Value) (hl : news.length = m * size) (hnews : 0 < m → ∃ ad, xa = some ad ∧ ∀ j u, news[j]? = some u → w.cell? (ad.add j) = some u) (h1 : ∀ u ∈ news, u.oneCell' = true)
    (h63 : n + m ≤ maxLen) (hbytes : (n + m) * bytes ≤ 140737488355328) (hbase : base ≤ w.heap.size) :
    ∃ v' w', (Builtin.append_ #[t, t] ty #[v, .slice xa m c]).run P w = .ok v' w' ∧ w'.ownsRow base e size v' (n + m) (xs ++ news) ∧ w.grownBy w' v.ownBlock ∧ (v'.ownBlock = v.ownBlock ∨ v'.ownBlock = some w.heap.size) ∧ ∃ a' c', v' = .slice a' (n + m) c' := by
  rcases Nat.eq_zero_or_pos m with h0 | h0
  · subst h0
    have hnil : news = [] := List.eq_nil_of_length_eq_zero (by omega)
    subst hnil
    have hr : (Builtin.append_ #[t, t] ty #[v, .slice xa 0 c]).run P w = .ok v w := by
      rcases hown.2 with ⟨rfl, rfl⟩ | ⟨g, cap, cur, rfl, _, _, hnc, _⟩
      · cases xa <;> simp [Builtin.append_, run_underlying ht, sizeOf, typeInfo, hi, Builtin.lenOf, Builtin.firstCells, loadCells, loadCellsFrom]
      · cases xa <;> simp [Builtin.append_, run_underlying ht, sizeOf, typeInfo, hi, Builtin.lenOf, Builtin.firstCells, hnc, storeCells, loadCells, loadCellsFrom]
    refine ⟨v, w, hr, by rw [List.append_nil]; exact hown, World.grownBy.same w _, .inl rfl, ?_⟩
    rcases hown.2 with ⟨rfl, rfl⟩ | ⟨g, cap, cur, rfl, _, _, hnc, _⟩
    · exact ⟨_, _, rfl⟩
    · exact ⟨_, _, rfl⟩
  · obtain ⟨ad, rfl, hc⟩ := hnews h0
    obtain ⟨g, cap, w', hr, h2, h3, h4, _⟩ := run_append_lies (P := P) (w := w) t ty base e i z size bytes ht hi hz hsize hby hzs hsz v n xs hown ad m c news hl hc h1 h0 h63 hbytes hbase _ rfl
    exact ⟨_, w', hr, h2, h3, h4.imp (fun h => h.symm) (fun h => by rw [h]; rfl), _, _, rfl⟩
theorem step_append_any {ops : Array Oper} {o : Oper} {a : Act} {K : Act → World → Prop} {Q : Exit → Act → World → Prop} {E : Prop} (hgd : o.guard = none) (s x : Operand) (t : TypeId)
    (ho : o.op = .call { callee := .builtin .append, args := #[s, x], argTypes := #[t, t] })
    (base : Nat) (e : TypeId) (i : TypeInfo) (z : Value) (size bytes : Nat) (ht : P.underlying t = some (.slice e)) (hi : P.info? e = some i) (hz : i.zero = some z)
    (hsize : i.size = size) (hby : i.bytes = bytes) (hzs : z.cells.size = size) (hsz : 0 < size)
    (v : Value) (n : Nat) (xs : List Value) (hs : a.eval s = v) (hown : w.ownsRow base e size v n xs)
    (xa : Option Addr) (m c : Nat) (news : List Value) (hx : a.eval x = .slice xa m c) (hl : news.length = m * size) (hnews : 0 < m → ∃ ad, xa = some ad ∧ ∀ j u, news[j]? = some u → w.cell? (ad.add j) = some u) (h1 : ∀ u ∈ news, u.oneCell' = true)
    (h63 : n + m ≤ maxLen) (hbytes : (n + m) * bytes ≤ 140737488355328) (hbase : base ≤ w.heap.size)
    (h : ∀ a' c' w', w'.ownsRow base e size (.slice a' (n + m) c') (n + m) (xs ++ news) → w.grownBy w' v.ownBlock → ((Value.slice a' (n + m) c').ownBlock = v.ownBlock ∨ (Value.slice a' (n + m) c').ownBlock = some w.heap.size) → K (a.put o.dst (.slice a' (n + m) c')) w') :
    if Region.wanted o (yielded ops a.tmps) = true then Oper.wp P o a w K Q else E := by
  have hw : Region.wanted o (yielded ops a.tmps) = true := by simp [Region.wanted, hgd]
  rw [if_pos hw]
  obtain ⟨v', w', hr, h2, h3, h4, a', c', rfl⟩ := run_append_any (P := P) (w := w) t o.type base e i z size bytes ht hi hz hsize hby hzs hsz v n xs hown xa m c news hl hnews h1 h63 hbytes hbase
  unfold Oper.wp execOp
  simp only [ho, resolve, invoke, builtin, Sem.run_bind, Sem.run_pure, Result.andThen_ok, List.map_toArray, List.map_cons, List.map_nil, hs, hx, hr]
  exact h a' c' w' h2 h3 h4
end
end Go
