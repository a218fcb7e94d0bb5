/- Texts laid together: DP1 DP2 DP3. -/
import Derived.Test.YtfcellgjbbfobaaDoorMg8
/- Explore: orders and their steps; plain. -/
namespace Go.Ex
open Go.Bf
def stepOf (w : Nat) (d : Ln) : Ln := ⟨w, if d.q = 2 then 0 else 2 ^ d.g.toNat, if d.q = 2 ∨ d.q = 3 then 2 ^ d.g.toNat else 0⟩
/-- A way: the steps that lead from a state to a state. -/
inductive Way (ps : List (List Ln)) : List Int → List Ln → List Int → Prop
  | nil (s : List Int) : Way ps s [] s
  | cons {s t u : List Int} {j : Nat} {d : Ln} {l : List Ln} : opAt ps j s = some d → nx ps j s = some t → Way ps t l u → Way ps s (stepOf j d :: l) u
def who (l : List Ln) : List Nat := l.map fun x => x.q.toNat
theorem who_step (j : Nat) (d : Ln) (l : List Ln) : who (stepOf j d :: l) = j :: who l := by simp [who, stepOf]
section
variable {ps : List (List Ln)} {s t u : List Int} {l : List Ln}
theorem Way.det (h : Way ps s l t) : ∀ {l' : List Ln} {t' : List Int}, Way ps s l' t' → who l = who l' → l = l' ∧ t = t' := by
  induction h with
  | nil s => intro l' t' h' e; cases h' with
    | nil => exact ⟨rfl, rfl⟩
    | cons => rw [who_step] at e; simp [who] at e
  | cons h1 h2 h3 ih => intro l' t' h' e; cases h' with
    | nil => rw [who_step] at e; simp [who] at e
    | cons g1 g2 g3 =>
      rw [who_step, who_step] at e
      injection e with e1 e2
      subst e1
      rw [h1] at g1
      injection g1 with g1
      rw [h2] at g2
      injection g2 with g2
      subst g1 g2
      obtain ⟨a, b⟩ := ih g3 e2
      exact ⟨by rw [a], b⟩
theorem Way.run (h : Way ps s l t) : runP ps (who l) s = (t, l.length) := by
  induction h with
  | nil s => rfl
  | cons h1 h2 h3 ih => rw [who_step, runP, h2]; simp [ih]
theorem Way.of_run : ∀ {o : List Nat} {s t : List Int}, runP ps o s = (t, o.length) → ∃ l, Way ps s l t ∧ who l = o
  | [], s, t, h => by
    simp only [runP] at h
    injection h with h _
    subst h
    exact ⟨[], .nil _, rfl⟩
  | j :: o, s, t, h => by
    unfold runP at h
    cases hn : nx ps j s with
    | none => rw [hn] at h; simp at h
    | some v =>
      rw [hn] at h
      simp only [List.length_cons, Prod.mk.injEq, Nat.add_right_cancel_iff] at h
      obtain ⟨l, hl, ho⟩ := Way.of_run (o := o) (s := v) (t := t) (by rw [← h.1, ← h.2])
      obtain ⟨d, hd, _⟩ := nx_some hn
      exact ⟨stepOf j d :: l, .cons hd hn hl, by rw [who_step, ho]⟩
theorem Way.split : ∀ {a b : List Ln} {s u : List Int}, Way ps s (a ++ b) u → ∃ t, Way ps s a t ∧ Way ps t b u
  | [], b, s, u, h => ⟨s, .nil _, h⟩
  | x :: a, b, s, u, h => by
    cases h with
    | cons h1 h2 h3 =>
      obtain ⟨t, g1, g2⟩ := Way.split h3
      exact ⟨t, .cons h1 h2 g1, g2⟩
theorem Way.app (h : Way ps s l t) {m : List Ln} (h2 : Way ps t m u) : Way ps s (l ++ m) u := by
  induction h with
  | nil s => exact h2
  | cons a b _ ih => exact .cons a b (ih h2)
theorem Way.snoc (h : Way ps s l t) {j : Nat} {d : Ln} (h1 : opAt ps j t = some d) (h2 : nx ps j t = some u) : Way ps s (l ++ [stepOf j d]) u := h.app (.cons h1 h2 (.nil _))
theorem Way.rc (h : Way ps s l t) (hs : Rc ps.length (nx ps) s0 s) : Rc ps.length (nx ps) s0 t := by
  induction h with
  | nil => exact hs
  | cons h1 h2 _ ih => exact ih (.step hs (opAt_lt h1).1 h2)
theorem Way.ok (hp : PsOk ps) (h : Way ps s l t) (hs : SOk ps s) : SOk ps t ∧ steps t = steps s + l.length := by
  induction h with
  | nil => exact ⟨hs, by simp⟩
  | cons h1 h2 _ ih =>
    obtain ⟨a, b, _⟩ := hs.next hp h2
    obtain ⟨c, d⟩ := ih a
    exact ⟨c, by rw [d, b, List.length_cons]; omega⟩
end
def rdP (d : Ln) (w : Nat) : Nat := if d.q = 2 then 4 + w else d.g.toNat
def wrP (d : Ln) (w : Nat) : Nat := if d.q = 1 then 4 + w else if d.q = 4 then 8 + w else d.g.toNat
def vl (d : Ln) (r : Int) : Int := if d.q = 1 then r else r + d.u
theorem eff_form {d : Ln} (hd : DoOk d) (w : Nat) (s : List Int) (c : Int) : (eff d w s).set (8 + w) c = (s.set (wrP d w) (vl d (s.getD (rdP d w) 0))).set (8 + w) c := by
  obtain ⟨⟨h1, h2⟩, _⟩ := hd
  unfold eff wrP vl rdP
  obtain h | h | h | h : d.q = 1 ∨ d.q = 2 ∨ d.q = 3 ∨ d.q = 4 := by omega
  all_goals simp [h]
def Wk (k c : Fin 4) : Int := if k.val = 1 ∨ k.val = 2 then 2 ^ c.val else 0
def Rk (k c : Fin 4) : Int := if k.val = 1 then 0 else 2 ^ c.val
theorem apart_bits : ∀ k1 k2 c1 c2 : Fin 4, ((bits .and .i64 (Wk k1 c1) (bits .or .i64 (Rk k2 c2) (Wk k2 c2)) != 0) || (bits .and .i64 (Wk k2 c2) (bits .or .i64 (Rk k1 c1) (Wk k1 c1)) != 0)) = false → c1.val ≠ c2.val ∨ ((k1.val = 0 ∨ k1.val = 3) ∧ (k2.val = 0 ∨ k2.val = 3)) := by decide +kernel
theorem bits_apart : ∀ k1 k2 c1 c2 : Fin 4, c1.val ≠ c2.val → ((bits .and .i64 (Wk k1 c1) (bits .or .i64 (Rk k2 c2) (Wk k2 c2)) != 0) || (bits .and .i64 (Wk k2 c2) (bits .or .i64 (Rk k1 c1) (Wk k1 c1)) != 0)) = false := by decide +kernel
theorem step_k {d : Ln} (hd : DoOk d) (w : Nat) : ∃ k c : Fin 4, d.q = (k.val : Int) + 1 ∧ d.g = (c.val : Int) ∧ stepOf w d = ⟨w, Rk k c, Wk k c⟩ := by
  obtain ⟨q, g, u⟩ := d
  obtain ⟨⟨h1, h2⟩, ⟨h3, h4⟩, _⟩ := hd
  simp only at h1 h2 h3 h4
  refine ⟨⟨(q - 1).toNat, by omega⟩, ⟨g.toNat, by omega⟩, by simp; omega, by simp; omega, ?_⟩
  obtain rfl | rfl | rfl | rfl : q = 1 ∨ q = 2 ∨ q = 3 ∨ q = 4 := by omega
  all_goals simp [stepOf, Rk, Wk]
theorem dep_apart {d e : Ln} (hd : DoOk d) (he : DoOk e) {i j : Nat} (h : dep (stepOf i d) (stepOf j e) = false) : i ≠ j ∧ (d.g.toNat ≠ e.g.toNat ∨ ((d.q = 1 ∨ d.q = 4) ∧ (e.q = 1 ∨ e.q = 4))) := by
  obtain ⟨k1, c1, a1, a2, a3⟩ := step_k hd i
  obtain ⟨k2, c2, b1, b2, b3⟩ := step_k he j
  rw [a3, b3] at h
  unfold dep at h
  rw [Bool.or_assoc, Bool.or_eq_false_iff] at h
  obtain ⟨h1, h2⟩ := h
  have h3 := apart_bits _ _ _ _ h2
  refine ⟨fun e => by simp [e] at h1, ?_⟩
  rw [a2, b2, a1, b1]
  simp only [Int.toNat_natCast]
  rcases h3 with h3 | ⟨h3, h4⟩
  · exact .inl h3
  · exact .inr ⟨by omega, by omega⟩
theorem dep_far {d e : Ln} (hd : DoOk d) (he : DoOk e) {i j : Nat} (hij : i ≠ j) (hc : d.g ≠ e.g) : dep (stepOf i d) (stepOf j e) = false := by
  obtain ⟨k1, c1, a1, a2, a3⟩ := step_k hd i
  obtain ⟨k2, c2, b1, b2, b3⟩ := step_k he j
  rw [a3, b3]
  unfold dep
  rw [Bool.or_assoc, Bool.or_eq_false_iff]
  exact ⟨by simp; omega, bits_apart _ _ _ _ (fun e => hc (by rw [a2, b2, e]))⟩
theorem opAt_ok {ps : List (List Ln)} (hp : PsOk ps) {w : Nat} {s : List Int} {d : Ln} (h : opAt ps w s = some d) : DoOk d ∧ w < 4 := by
  obtain ⟨h1, h2, h3, _⟩ := opAt_lt h
  exact ⟨hp.all _ h3 _ h2, Nat.lt_of_lt_of_le h1 hp.few⟩
theorem nx_form {ps : List (List Ln)} (hp : PsOk ps) {w : Nat} {s t : List Int} {d : Ln} (h : opAt ps w s = some d) : nx ps w s = some t ↔ (d.q = 4 → s.getD (rdP d w) 0 = d.u) ∧ t = (s.set (wrP d w) (vl d (s.getD (rdP d w) 0))).set (8 + w) (s.getD (8 + w) 0 + 1) := by
  have hd := (opAt_ok hp h).1
  rw [← eff_form hd]
  unfold nx
  rw [h]
  simp only
  by_cases hq : d.q = 4
  · have hr : rdP d w = d.g.toNat := by simp [rdP, hq]
    rw [hr]
    by_cases hu : s.getD d.g.toNat 0 = d.u
    · rw [if_neg (fun h => h.2 hu)]
      constructor
      · intro h; injection h with h; exact ⟨fun _ => hu, h.symm⟩
      · intro h; rw [h.2]
    · rw [if_pos ⟨hq, hu⟩]
      constructor
      · intro h; cases h
      · intro h; exact absurd (h.1 hq) hu
  · rw [if_neg (fun h => hq h.1)]
    constructor
    · intro h; injection h with h; exact ⟨fun h => absurd h hq, h.symm⟩
    · intro h; rw [h.2]
/-- Steps that do not depend on one another may change places. -/
theorem nx_swap {ps : List (List Ln)} (hp : PsOk ps) {s t u : List Int} (hl : s.length = 12) {i j : Nat} {d e : Ln} (h1 : opAt ps i s = some d) (h2 : nx ps i s = some t) (h3 : opAt ps j t = some e) (h4 : nx ps j t = some u) (hd : dep (stepOf i d) (stepOf j e) = false) :
    ∃ t', opAt ps j s = some e ∧ nx ps j s = some t' ∧ opAt ps i t' = some d ∧ nx ps i t' = some u := by
  obtain ⟨o1, hi⟩ := opAt_ok hp h1
  obtain ⟨o2, hj⟩ := opAt_ok hp h3
  obtain ⟨hij, hc⟩ := dep_apart o1 o2 hd
  obtain ⟨g1, rfl⟩ := (nx_form hp h1).1 h2
  obtain ⟨g2, rfl⟩ := (nx_form hp h3).1 h4
  obtain ⟨⟨q1, q2⟩, ⟨q3, q4⟩, _⟩ := o1
  obtain ⟨⟨p1, p2⟩, ⟨p3, p4⟩, _⟩ := o2
  have w1 : wrP d i < 12 ∧ wrP d i ≠ 8 + j ∧ rdP d i < 8 := by unfold wrP rdP; split <;> split <;> (try split) <;> omega
  have w2 : wrP e j < 12 ∧ wrP e j ≠ 8 + i ∧ rdP e j < 8 := by unfold wrP rdP; split <;> split <;> (try split) <;> omega
  have a1 : rdP e j ≠ wrP d i ∧ rdP d i ≠ wrP e j ∧ wrP d i ≠ wrP e j := by
    unfold wrP rdP
    obtain k1 | k1 | k1 | k1 : d.q = 1 ∨ d.q = 2 ∨ d.q = 3 ∨ d.q = 4 := by omega
    all_goals
      obtain k2 | k2 | k2 | k2 : e.q = 1 ∨ e.q = 2 ∨ e.q = 3 ∨ e.q = 4 := by omega
      all_goals
        simp only [k1, k2] at hc ⊢
        simp at hc ⊢
        omega
  have gs : ∀ (x y : Int) (k : Nat), k ≠ wrP d i → k ≠ 8 + i → ((s.set (wrP d i) x).set (8 + i) y).getD k 0 = s.getD k 0 := fun x y k e1 e2 => by
    rw [getD_set (by simp; omega), if_neg e2, getD_set (by omega), if_neg e1]
  have gt : ∀ (x y : Int) (k : Nat), k ≠ wrP e j → k ≠ 8 + j → ((s.set (wrP e j) x).set (8 + j) y).getD k 0 = s.getD k 0 := fun x y k e1 e2 => by
    rw [getD_set (by simp; omega), if_neg e2, getD_set (by omega), if_neg e1]
  have h5 : opAt ps j s = some e := by
    unfold opAt at h3 ⊢
    rw [gs _ _ _ (by omega) (by omega)] at h3
    exact h3
  rw [gs _ _ _ (by omega) (by omega)] at g2
  rw [gs _ _ (rdP e j) (by omega) (by omega), gs _ _ (8 + j) (by omega) (by omega)]
  refine ⟨_, h5, (nx_form hp h5).2 ⟨g2, rfl⟩, ?_⟩
  have h6 : opAt ps i ((s.set (wrP e j) (vl e (s.getD (rdP e j) 0))).set (8 + j) (s.getD (8 + j) 0 + 1)) = some d := by
    unfold opAt at h1 ⊢
    rw [gt _ _ _ (by omega) (by omega)]
    exact h1
  refine ⟨h6, (nx_form hp h6).2 ⟨by rw [gt _ _ _ (by omega) (by omega)]; exact g1, ?_⟩⟩
  rw [gt _ _ (rdP d i) (by omega) (by omega), gt _ _ (8 + i) (by omega) (by omega)]
  rw [List.set_comm _ _ (show 8 + i ≠ wrP e j by omega), List.set_comm _ _ (show wrP d i ≠ wrP e j by omega), List.set_comm _ _ (show 8 + i ≠ 8 + j by omega), List.set_comm _ _ (show wrP d i ≠ 8 + j by omega)]
theorem Way.eqv {ps : List (List Ln)} (hp : PsOk ps) {l l' : List Ln} (h : Tr.Eqv dep l l') : ∀ {s u : List Int}, SOk ps s → Way ps s l u → Way ps s l' u := by
  induction h with
  | refl => intro s u _ hw; exact hw
  | step a b hd =>
    intro s u hs hw
    obtain ⟨t, h1, h2⟩ := hw.split
    refine h1.app ?_
    cases h2 with
    | cons a1 a2 a3 => cases a3 with
      | cons b1 b2 b3 =>
        obtain ⟨t', c1, c2, c3, c4⟩ := nx_swap hp (h1.ok hp hs).1.len a1 a2 b1 b2 hd
        exact .cons c1 c2 (.cons c3 c4 b3)
  | trans _ _ ih1 ih2 => intro s u hs hw; exact ih2 hs (ih1 hs hw)
theorem eqv_symm {a b : List Ln} (h : Tr.Eqv dep a b) : Tr.Eqv dep b a := by
  induction h with
  | refl => exact .refl _
  | step u v hd => exact .step u v (by rw [dep_symm]; exact hd)
  | trans _ _ h1 h2 => exact h2.trans h1
theorem eqv_of_lv {a b : List Ln} (h : (Tr.lv dep a).Perm (Tr.lv dep b)) : Tr.Eqv dep a b := by
  have h1 := Tr.norm_eqv (D := dep) dep_symm Ln.q a.length a rfl
  have h2 := Tr.norm_eqv (D := dep) dep_symm Ln.q b.length b rfl
  have h3 := (Tr.normal_iff dep_q dep_refl dep_symm a b).1 h
  unfold Tr.normal at h3
  rw [h3] at h1
  exact h1.trans (eqv_symm h2)
end Go.Ex
/- Explore: classes of orders, level by level; plain. -/
namespace Go.Ex
open Go.Bf
def digB (x : Ln) : UInt8 := UInt8.ofNat (48 + x.q.toNat)
def rowB (r : List Ln) : List UInt8 := r.map digB ++ [46]
/-- The name of a class. -/
def cls (l : List Ln) : List UInt8 := (Tr.rnds dep Ln.q l).flatMap rowB
theorem cut46 : ∀ {a b x y : List UInt8}, (46 : UInt8) ∉ a → (46 : UInt8) ∉ b → a ++ 46 :: x = b ++ 46 :: y → a = b ∧ x = y
  | [], [], x, y, _, _, h => by simpa using h
  | [], c :: b, x, y, _, hb, h => by simp at h; exact absurd (by rw [← h.1]; simp) hb
  | c :: a, [], x, y, ha, _, h => by simp at h; exact absurd (by rw [h.1]; simp) ha
  | c :: a, d :: b, x, y, ha, hb, h => by
    simp only [List.cons_append, List.cons.injEq] at h
    obtain ⟨e1, e2⟩ := cut46 (a := a) (b := b) (fun h => ha (by simp [h])) (fun h => hb (by simp [h])) h.2
    exact ⟨by rw [h.1, e1], e2⟩
theorem dig_ne : ∀ k : Fin 4, UInt8.ofNat (48 + k.val) ≠ 46 := by decide
theorem dig_inj : ∀ k m : Fin 4, UInt8.ofNat (48 + k.val) = UInt8.ofNat (48 + m.val) → k.val = m.val := by decide
def W4 (x : Ln) : Prop := 0 ≤ x.q ∧ x.q < 4
theorem digs_no {r : List Ln} (h : ∀ x ∈ r, W4 x) : (46 : UInt8) ∉ r.map digB := fun hm => by
  obtain ⟨x, hx, he⟩ := List.mem_map.1 hm
  have := h x hx
  exact dig_ne ⟨x.q.toNat, by unfold W4 at this; omega⟩ he
theorem digs_inj : ∀ {r r' : List Ln}, (∀ x ∈ r, W4 x) → (∀ x ∈ r', W4 x) → r.map digB = r'.map digB → who r = who r'
  | [], [], _, _, _ => rfl
  | [], _ :: _, _, _, h => by simp at h
  | _ :: _, [], _, _, h => by simp at h
  | x :: r, y :: r', h1, h2, h => by
    simp only [List.map_cons, List.cons.injEq] at h
    have hx := h1 x (by simp)
    have hy := h2 y (by simp)
    unfold W4 at hx hy
    have e := dig_inj ⟨x.q.toNat, by omega⟩ ⟨y.q.toNat, by omega⟩ h.1
    have e2 := digs_inj (fun x hx => h1 x (by simp [hx])) (fun x hx => h2 x (by simp [hx])) h.2
    unfold who at e2 ⊢
    rw [List.map_cons, List.map_cons, e2]
    simp only at e
    rw [e]
theorem rows_inj : ∀ {R R' : List (List Ln)}, (∀ r ∈ R, ∀ x ∈ r, W4 x) → (∀ r ∈ R', ∀ x ∈ r, W4 x) → R.flatMap rowB = R'.flatMap rowB → who R.flatten = who R'.flatten
  | [], [], _, _, _ => rfl
  | [], r :: _, _, _, h => by simp [rowB] at h
  | r :: _, [], _, _, h => by simp [rowB] at h
  | r :: R, r' :: R', h1, h2, h => by
    rw [List.flatMap_cons, List.flatMap_cons] at h
    unfold rowB at h
    rw [List.append_assoc, List.append_assoc] at h
    obtain ⟨e1, e2⟩ := cut46 (digs_no (h1 r (by simp))) (digs_no (h2 r' (by simp))) h
    have e3 := digs_inj (h1 r (by simp)) (h2 r' (by simp)) e1
    have e4 := rows_inj (R := R) (R' := R') (fun q hq => h1 q (by simp [hq])) (fun q hq => h2 q (by simp [hq])) e2
    unfold who at e3 e4 ⊢
    rw [List.flatten_cons, List.flatten_cons, List.map_append, List.map_append, e3, e4]
section
variable {ps : List (List Ln)} {s t u : List Int} {l : List Ln}
theorem Way.w4 (hp : PsOk ps) (h : Way ps s l t) : ∀ x ∈ l, W4 x := by
  induction h with
  | nil => intro x hx; cases hx
  | cons h1 h2 _ ih =>
    intro x hx
    rcases List.mem_cons.1 hx with rfl | hx
    · have := (opAt_ok hp h1).2
      exact ⟨by simp [stepOf], by simp only [stepOf]; omega⟩
    · exact ih x hx
theorem flat_way (hp : PsOk ps) (hs : SOk ps s) (h : Way ps s l t) : Tr.Eqv dep l (Tr.rnds dep Ln.q l).flatten ∧ Way ps s (Tr.rnds dep Ln.q l).flatten t := by
  have h1 : Tr.Eqv dep l (Tr.rnds dep Ln.q l).flatten := eqv_of_lv (Tr.flat_same (D := dep) (q := Ln.q) dep_symm l).symm
  exact ⟨h1, h.eqv hp h1 hs⟩
theorem eqv_state (hp : PsOk ps) (hs : SOk ps s) {l' : List Ln} {t' : List Int} (h : Way ps s l t) (h' : Way ps s l' t') (he : Tr.Eqv dep l l') : t = t' :=
  (h.eqv hp he hs |>.det h' rfl).2
theorem cls_eqv {l l' : List Ln} (h : Tr.Eqv dep l l') : cls l = cls l' := by
  unfold cls
  rw [(Tr.same_iff dep_q dep_symm l l').2 (h.lvs dep_symm)]
theorem eqv_cls (hp : PsOk ps) (hs : SOk ps s) {l' : List Ln} {t' : List Int} (h : Way ps s l t) (h' : Way ps s l' t') (he : cls l = cls l') : Tr.Eqv dep l l' := by
  obtain ⟨e1, w1⟩ := flat_way hp hs h
  obtain ⟨e2, w2⟩ := flat_way hp hs h'
  have h3 := rows_inj (R := Tr.rnds dep Ln.q l) (R' := Tr.rnds dep Ln.q l') (fun r hr x hx => w1.w4 hp x (List.mem_flatten.2 ⟨r, hr, hx⟩)) (fun r hr x hx => w2.w4 hp x (List.mem_flatten.2 ⟨r, hr, hx⟩)) he
  have h4 := (w1.det w2 h3).1
  rw [h4] at e1
  exact e1.trans (eqv_symm e2)
theorem eqv_len {l l' : List Ln} (h : Tr.Eqv dep l l') : l.length = l'.length := (Tr.lv_perm (h.lvs dep_symm)).length_eq
theorem eqv_snoc {a b : List Ln} (h : Tr.Eqv dep a b) (x : Ln) : Tr.Eqv dep (a ++ [x]) (b ++ [x]) := by
  induction h with
  | refl => exact .refl _
  | step u v hd =>
    have := Tr.Eqv.step (D := dep) u (v ++ [x]) hd
    simpa using this
  | trans _ _ h1 h2 => exact h1.trans h2
end
abbrev PF := List Ln × List Int
def cand (ps : List (List Ln)) (p : PF) (j : Nat) : Option PF := (nx ps j p.2).map fun t => (p.1 ++ [stepOf j ((opAt ps j p.2).getD ⟨0, 0, 0⟩)], t)
def addC (L : List PF) (c : PF) : List PF := if cls c.1 ∈ L.map (fun p => cls p.1) then L else L ++ [c]
def addO (L : List PF) : Option PF → List PF
  | none => L
  | some c => addC L c
def rowL (ps : List (List Ln)) (p : PF) (j : Nat) (L : List PF) : List PF := (List.range j).foldl (fun L i => addO L (cand ps p i)) L
theorem rowL_next (ps : List (List Ln)) (p : PF) (j : Nat) (L : List PF) : rowL ps p (j + 1) L = addO (rowL ps p j L) (cand ps p j) := by
  unfold rowL
  rw [List.range_succ, List.foldl_append]
  rfl
def nextL (ps : List (List Ln)) (lev : List PF) : List PF := lev.foldl (fun L p => rowL ps p ps.length L) []
theorem nextL_next (ps : List (List Ln)) (lev : List PF) {a : Nat} {p : PF} (h : lev[a]? = some p) : nextL ps (lev.take (a + 1)) = rowL ps p ps.length (nextL ps (lev.take a)) := by
  unfold nextL
  rw [List.take_add_one, h, List.foldl_append]
  rfl
def allC (ps : List (List Ln)) (lev : List PF) : List (Option PF) := lev.flatMap fun p => (List.range ps.length).map (cand ps p)
theorem nextL_all (ps : List (List Ln)) (lev : List PF) : nextL ps lev = (allC ps lev).foldl addO [] := by
  unfold nextL allC
  generalize ([] : List PF) = L
  induction lev generalizing L with
  | nil => rfl
  | cons p lev ih =>
    rw [List.foldl_cons, List.flatMap_cons, List.foldl_append, ih]
    congr 1
    unfold rowL
    rw [List.foldl_map]
theorem fold_sub : ∀ {cs : List (Option PF)} {L : List PF} {c : PF}, c ∈ cs.foldl addO L → c ∈ L ∨ some c ∈ cs
  | [], L, c, h => .inl h
  | o :: cs, L, c, h => by
    rw [List.foldl_cons] at h
    rcases fold_sub h with h | h
    · cases o with
      | none => exact .inl h
      | some d =>
        simp only [addO, addC] at h
        split at h
        · exact .inl h
        · rcases List.mem_append.1 h with h | h
          · exact .inl h
          · rw [List.mem_singleton] at h; subst h; exact .inr (by simp)
    · exact .inr (by simp [h])
theorem fold_old : ∀ {cs : List (Option PF)} {L : List PF} {c : PF}, c ∈ L → c ∈ cs.foldl addO L
  | [], L, c, h => h
  | o :: cs, L, c, h => by
    rw [List.foldl_cons]
    refine fold_old ?_
    cases o with
    | none => exact h
    | some d =>
      simp only [addO, addC]
      split
      · exact h
      · exact List.mem_append_left _ h
theorem fold_full : ∀ {cs : List (Option PF)} {L : List PF} {c : PF}, some c ∈ cs → ∃ d ∈ cs.foldl addO L, cls d.1 = cls c.1
  | [], L, c, h => by cases h
  | o :: cs, L, c, h => by
    rw [List.foldl_cons]
    rcases List.mem_cons.1 h with h | h
    · subst h
      by_cases hm : cls c.1 ∈ L.map (fun p => cls p.1)
      · obtain ⟨d, hd, he⟩ := List.mem_map.1 hm
        refine ⟨d, fold_old ?_, he⟩
        simp only [addO, addC]
        rw [if_pos hm]
        exact hd
      · refine ⟨c, fold_old ?_, rfl⟩
        simp only [addO, addC]
        rw [if_neg hm]
        simp
    · exact fold_full h
theorem fold_apart : ∀ {cs : List (Option PF)} {L : List PF}, L.Pairwise (fun p q => cls p.1 ≠ cls q.1) → (cs.foldl addO L).Pairwise (fun p q => cls p.1 ≠ cls q.1)
  | [], L, h => h
  | o :: cs, L, h => by
    rw [List.foldl_cons]
    refine fold_apart ?_
    cases o with
    | none => exact h
    | some c =>
      simp only [addO, addC]
      split
      · exact h
      · rename_i hm
        rw [List.pairwise_append]
        refine ⟨h, by simp, fun a ha b hb => ?_⟩
        rw [List.mem_singleton] at hb
        subst hb
        exact fun e => hm (List.mem_map.2 ⟨a, ha, e⟩)
theorem fold_len : ∀ {cs : List (Option PF)} {L : List PF}, (cs.foldl addO L).length ≤ L.length + cs.length
  | [], L => Nat.le_refl _
  | o :: cs, L => by
    rw [List.foldl_cons]
    have h := fold_len (cs := cs) (L := addO L o)
    have h2 : (addO L o).length ≤ L.length + 1 := by
      cases o with
      | none => simp [addO]
      | some c => simp only [addO, addC]; split <;> simp
    rw [List.length_cons]
    omega
structure LvOk (ps : List (List Ln)) (k : Nat) (lev : List PF) : Prop where
  way : ∀ p ∈ lev, Way ps s0 p.1 p.2 ∧ p.1.length = k
  apart : lev.Pairwise (fun p q => cls p.1 ≠ cls q.1)
  full : ∀ (l : List Ln) (u : List Int), Way ps s0 l u → l.length = k → ∃ p ∈ lev, Tr.Eqv dep p.1 l
  few : lev.length ≤ 4 ^ k
theorem LvOk.start (ps : List (List Ln)) : LvOk ps 0 [([], s0)] where
  way := fun p hp => by rw [List.mem_singleton] at hp; subst hp; exact ⟨.nil _, rfl⟩
  apart := by simp
  full := fun l u h hl => by
    obtain rfl := List.length_eq_zero_iff.1 hl
    exact ⟨_, List.mem_singleton.2 rfl, .refl _⟩
  few := by simp
theorem cand_some {ps : List (List Ln)} {p c : PF} {j : Nat} (h : cand ps p j = some c) : ∃ d, opAt ps j p.2 = some d ∧ nx ps j p.2 = some c.2 ∧ c.1 = p.1 ++ [stepOf j d] := by
  unfold cand at h
  cases hn : nx ps j p.2 with
  | none => rw [hn] at h; cases h
  | some t =>
    rw [hn] at h
    obtain ⟨d, hd, _⟩ := nx_some hn
    rw [hd] at h
    simp only [Option.map_some, Option.some.injEq] at h
    subst h
    exact ⟨d, hd, rfl, rfl⟩
theorem LvOk.next {ps : List (List Ln)} (hp : PsOk ps) {k : Nat} {lev : List PF} (h : LvOk ps k lev) : LvOk ps (k + 1) (nextL ps lev) where
  way := fun c hc => by
    rw [nextL_all] at hc
    rcases fold_sub hc with hc | hc
    · cases hc
    · unfold allC at hc
      obtain ⟨p, hpm, hc⟩ := List.mem_flatMap.1 hc
      obtain ⟨j, hj, hc⟩ := List.mem_map.1 hc
      obtain ⟨d, h1, h2, h3⟩ := cand_some hc
      obtain ⟨h4, h5⟩ := h.way p hpm
      rw [h3]
      exact ⟨h4.snoc h1 h2, by rw [List.length_append, h5]; rfl⟩
  apart := by rw [nextL_all]; exact fold_apart .nil
  full := fun l u hw hl => by
    obtain ⟨l1, x, rfl⟩ : ∃ l1 x, l = l1 ++ [x] := ⟨l.dropLast, l.getLast (by intro e; rw [e] at hl; cases hl), (List.dropLast_concat_getLast _).symm⟩
    obtain ⟨t, h1, h2⟩ := hw.split
    rw [List.length_append] at hl
    obtain ⟨p, hpm, he⟩ := h.full l1 t h1 (by simpa using hl)
    obtain ⟨h4, h5⟩ := h.way p hpm
    have hst := eqv_state hp (SOk.start ps) h4 h1 he
    cases h2 with
    | @cons _ t' _ j d _ a1 a2 a3 =>
      cases a3 with
      | nil =>
        have hc : cand ps p j = some (p.1 ++ [stepOf j d], u) := by
          unfold cand
          rw [hst, a1, a2]
          rfl
        have hm : some (p.1 ++ [stepOf j d], u) ∈ allC ps lev := List.mem_flatMap.2 ⟨p, hpm, List.mem_map.2 ⟨j, List.mem_range.2 (opAt_lt a1).1, hc⟩⟩
        obtain ⟨q, hq, hqe⟩ := fold_full (L := []) hm
        rw [← nextL_all] at hq
        refine ⟨q, hq, ?_⟩
        have hqw : Way ps s0 q.1 q.2 := by
          rw [nextL_all] at hq
          rcases fold_sub hq with hc | hc
          · cases hc
          · unfold allC at hc
            obtain ⟨p', hpm', hc⟩ := List.mem_flatMap.1 hc
            obtain ⟨j', hj', hc⟩ := List.mem_map.1 hc
            obtain ⟨d', b1, b2, b3⟩ := cand_some hc
            rw [b3]
            exact (h.way p' hpm').1.snoc b1 b2
        have hpw : Way ps s0 (p.1 ++ [stepOf j d]) u := h4.snoc (by rw [hst]; exact a1) (by rw [hst]; exact a2)
        exact (eqv_cls hp (SOk.start ps) hqw hpw hqe).trans (eqv_snoc he _)
  few := by
    rw [nextL_all]
    have h1 := fold_len (cs := allC ps lev) (L := [])
    have h2 : (allC ps lev).length ≤ lev.length * 4 := flatMap_len (fun p _ => by rw [List.length_map, List.length_range]; exact hp.few)
    have h3 := h.few
    have h4 : 4 ^ (k + 1) = 4 ^ k * 4 := Nat.pow_succ 4 k
    simp only [List.length_nil] at h1
    omega
def lvN (ps : List (List Ln)) : Nat → List PF
  | 0 => [([], s0)]
  | k + 1 => nextL ps (lvN ps k)
theorem lvN_ok {ps : List (List Ln)} (hp : PsOk ps) : ∀ k, LvOk ps k (lvN ps k)
  | 0 => .start ps
  | k + 1 => (lvN_ok hp k).next hp
def fins (ps : List (List Ln)) (lev : List PF) : List PF := lev.filter fun p => fin ps p.2
def outs (ps : List (List Ln)) (k : Nat) : List PF := (List.range k).flatMap fun i => fins ps (lvN ps i)
theorem outs_next (ps : List (List Ln)) (k : Nat) : outs ps (k + 1) = outs ps k ++ fins ps (lvN ps k) := by
  unfold outs
  rw [List.range_succ, List.flatMap_append]
  simp
theorem fins_next (ps : List (List Ln)) (lev : List PF) {a : Nat} {p : PF} (h : lev[a]? = some p) : fins ps (lev.take (a + 1)) = if fin ps p.2 = true then fins ps (lev.take a) ++ [p] else fins ps (lev.take a) := by
  unfold fins
  rw [List.take_add_one, h, List.filter_append]
  by_cases hf : fin ps p.2 = true
  · rw [if_pos hf]; simp [hf]
  · rw [if_neg hf]; simp [hf]
theorem lvN_end {ps : List (List Ln)} (hp : PsOk ps) {k : Nat} (hk : 13 ≤ k) : lvN ps k = [] := by
  refine List.eq_nil_iff_forall_not_mem.2 fun p hpm => ?_
  obtain ⟨h1, h2⟩ := (lvN_ok hp k).way p hpm
  obtain ⟨h3, h4⟩ := h1.ok hp (SOk.start ps)
  have h5 := steps_le hp h3
  have h6 := hp.tot
  have h7 : steps s0 = 0 := by decide
  omega
theorem lvN_none (ps : List (List Ln)) {k : Nat} (h : lvN ps k = []) : ∀ m, k ≤ m → lvN ps m = [] := fun m hm => by
  obtain ⟨d, rfl⟩ : ∃ d, m = k + d := ⟨m - k, by omega⟩
  clear hm
  induction d with
  | zero => exact h
  | succ d ih =>
    show nextL ps (lvN ps (k + d)) = []
    rw [ih]
    rfl
/-- What Orders gives: of each class of whole orders just one. -/
structure OutOk (ps : List (List Ln)) (out : List PF) : Prop where
  way : ∀ p ∈ out, Way ps s0 p.1 p.2 ∧ fin ps p.2 = true
  apart : out.Pairwise (fun p q => ¬ Tr.Eqv dep p.1 q.1)
  full : ∀ (l : List Ln) (u : List Int), Way ps s0 l u → fin ps u = true → ∃ p ∈ out, Tr.Eqv dep p.1 l ∧ p.2 = u
  few : out.length ≤ 218103808
theorem outs_apart {ps : List (List Ln)} (hp : PsOk ps) : ∀ k, (outs ps k).Pairwise (fun p q => ¬ Tr.Eqv dep p.1 q.1) ∧ ∀ p ∈ outs ps k, p.1.length < k
  | 0 => by simp [outs]
  | k + 1 => by
    obtain ⟨h1, h2⟩ := outs_apart hp k
    have hl := lvN_ok hp k
    rw [outs_next]
    have hs : ∀ q ∈ fins ps (lvN ps k), Way ps s0 q.1 q.2 ∧ q.1.length = k := fun q hq => hl.way q (List.mem_filter.1 hq).1
    refine ⟨List.pairwise_append.2 ⟨h1, ?_, fun a ha b hb e => ?_⟩, fun p hpm => ?_⟩
    · exact (hl.apart.filter _).imp (fun hne e => hne (cls_eqv e))
    · have := eqv_len e
      have h3 := h2 a ha
      have h4 := (hs b hb).2
      omega
    · rcases List.mem_append.1 hpm with h | h
      · have := h2 p h; omega
      · have := (hs p h).2; omega
theorem outs_ok {ps : List (List Ln)} (hp : PsOk ps) {k : Nat} (h : lvN ps k = []) : OutOk ps (outs ps k) where
  way := fun p hpm => by
    unfold outs at hpm
    obtain ⟨i, hi, hpm⟩ := List.mem_flatMap.1 hpm
    obtain ⟨h1, h2⟩ := List.mem_filter.1 hpm
    exact ⟨((lvN_ok hp i).way p h1).1, h2⟩
  apart := (outs_apart hp k).1
  full := fun l u hw hf => by
    obtain ⟨p, hpm, he⟩ := (lvN_ok hp l.length).full l u hw rfl
    have hst := eqv_state hp (SOk.start ps) ((lvN_ok hp l.length).way p hpm).1 hw he
    by_cases hk : l.length < k
    · exact ⟨p, List.mem_flatMap.2 ⟨_, List.mem_range.2 hk, List.mem_filter.2 ⟨hpm, by rw [hst]; exact hf⟩⟩, he, hst⟩
    · rw [lvN_none ps h _ (by omega)] at hpm
      cases hpm
  few := by
    have hb : ∀ m, (outs ps m).length ≤ m * 16777216 := fun m => by
      unfold outs
      have := flatMap_len (f := fun i => fins ps (lvN ps i)) (m := 16777216) (l := List.range m) (fun i _ => by
        have h1 := (lvN_ok hp i).few
        have h2 : (fins ps (lvN ps i)).length ≤ (lvN ps i).length := List.length_filter_le _ _
        by_cases hi : i ≤ 12
        · have h3 : 4 ^ i ≤ 4 ^ 12 := Nat.pow_le_pow_right (by omega) hi
          omega
        · rw [lvN_end hp (by omega)]; simp [fins])
      rwa [List.length_range] at this
    by_cases hk : k ≤ 13
    · have := hb k; omega
    · have h13 : ∀ d, outs ps (13 + d) = outs ps 13 := fun d => by
        induction d with
        | zero => rfl
        | succ d ih =>
          rw [show 13 + (d + 1) = (13 + d) + 1 by omega, outs_next, ih, lvN_end hp (by omega)]
          simp [fins]
      have := h13 (k - 13)
      rw [show 13 + (k - 13) = k by omega] at this
      rw [this]
      have := hb 13
      omega
end Go.Ex
/- Explore: the steps of an order, one by one; plain. -/
namespace Go.Ex
open Go.Bf
theorem Way.at_ {ps : List (List Ln)} {s t : List Int} {l : List Ln} (h : Way ps s l t) {i : Nat} {x : Ln} (hx : l[i]? = some x) {S : List Int} (hS : Way ps s (l.take i) S) :
    ∃ j d S', opAt ps j S = some d ∧ nx ps j S = some S' ∧ x = stepOf j d ∧ Way ps s (l.take (i + 1)) S' := by
  obtain ⟨hi, he⟩ := List.getElem?_eq_some_iff.1 hx
  have h1 : l = l.take i ++ x :: l.drop (i + 1) := by rw [← he, List.getElem_cons_drop, List.take_append_drop]
  rw [h1] at h
  obtain ⟨S2, h2, h3⟩ := h.split
  have h4 := (h2.det hS rfl).2
  subst h4
  cases h3 with
  | @cons _ t' _ j d _ a1 a2 a3 =>
    refine ⟨j, d, t', a1, a2, rfl, ?_⟩
    rw [List.take_add_one, hx]
    exact h2.snoc a1 a2
theorem drop_ext {a b : List Int} (h : a.length = b.length) (he : ∀ i, 8 ≤ i → a.getD i 0 = b.getD i 0) : a.drop 8 = b.drop 8 := by
  refine List.ext_getElem? fun i => ?_
  rw [List.getElem?_drop, List.getElem?_drop]
  have := he (8 + i) (by omega)
  rw [List.getD_eq_getElem?_getD, List.getD_eq_getElem?_getD] at this
  by_cases hi : 8 + i < a.length
  · rw [List.getElem?_eq_getElem hi, List.getElem?_eq_getElem (by omega)] at this ⊢
    simpa using this
  · rw [List.getElem?_eq_none (by omega), List.getElem?_eq_none (by omega)]
theorem ctr_next {ps : List (List Ln)} (hp : PsOk ps) {S S' : List Int} (hs : SOk ps S) {j : Nat} {d : Ln} (h1 : opAt ps j S = some d) (h2 : nx ps j S = some S') : S'.drop 8 = (S.drop 8).set j (S.getD (8 + j) 0 + 1) := by
  obtain ⟨hd, hj⟩ := opAt_ok hp h1
  obtain ⟨d', h3, _, rfl⟩ := nx_some h2
  rw [h1] at h3
  injection h3 with h3
  subst h3
  rw [List.drop_set, if_neg (by omega), show 8 + j - 8 = j by omega, drop_ext (eff_len d j S) (fun i hi => eff_hi hd hj hs.len hi)]
theorem ctr_at {S : List Int} {j : Nat} : (S.drop 8).getD j 0 = S.getD (8 + j) 0 := by
  rw [List.getD_eq_getElem?_getD, List.getD_eq_getElem?_getD, List.getElem?_drop]
end Go.Ex
