/- Texts laid together: DP4 DP5 EP7 DP7 DB1 R20. -/
import Derived.Test.YtfcellgjbbfobaaDoorMg19
/- ExploreApart: programs that have each a cell of its own; plain. -/
namespace Go.Ex
open Go.Bf
/-- The steps of each program, in their order. -/
theorem Way.own {ps : List (List Ln)} (hp : PsOk ps) {s u : List Int} {l : List Ln} (h : Way ps s l u) : SOk ps s → ∀ j : Nat, j < 4 → ((ps.getD j []).drop (s.getD (8 + j) 0).toNat).map (stepOf j) = l.filter (fun x => x.q == (j : Int)) ++ ((ps.getD j []).drop (u.getD (8 + j) 0).toNat).map (stepOf j) := by
  induction h with
  | nil s => intro _ j _; rfl
  | @cons s t u i d l h1 h2 h3 ih =>
    intro hs j hj
    obtain ⟨hd, hi⟩ := opAt_ok hp h1
    have ht := (hs.next hp h2).1
    have ih2 := ih ht j hj
    have hc := ctr_next hp hs h1 h2
    have hg : t.getD (8 + j) 0 = if j = i then s.getD (8 + i) 0 + 1 else s.getD (8 + j) 0 := by
      rw [← ctr_at, hc, getD_set (by rw [List.length_drop, hs.len]; exact hi)]
      by_cases e : j = i
      · rw [if_pos e, if_pos e]
      · rw [if_neg e, if_neg e, ctr_at]
    by_cases e : j = i
    · subst e
      rw [if_pos rfl] at hg
      have h0 := (hs.at_ j hj).1
      unfold opAt at h1
      obtain ⟨hy, hye⟩ := List.getElem?_eq_some_iff.1 h1
      rw [List.filter_cons, if_pos (by simp [stepOf]), List.drop_eq_getElem_cons hy, hye, List.map_cons, List.cons_append, ← ih2, hg]
      congr 3
      omega
    · rw [if_neg e] at hg
      rw [List.filter_cons, if_neg (by simp [stepOf]; omega), ← ih2, hg]
/-- Each program has a cell of its own, and waits for nothing. -/
structure Lone (ps : List (List Ln)) : Prop where
  cell : ∀ (j : Nat) (r : List Ln), ps[j]? = some r → ∀ d ∈ r, d.g = (j : Int) ∧ d.q ≠ 4
theorem lone_op {ps : List (List Ln)} (hl : Lone ps) {j : Nat} {s : List Int} {d : Ln} (h : opAt ps j s = some d) : d.g = (j : Int) ∧ d.q ≠ 4 := by
  obtain ⟨h1, h2, _, _⟩ := opAt_lt h
  refine hl.cell j _ ?_ d h2
  rw [List.getD_eq_getElem?_getD, List.getElem?_eq_getElem h1]; rfl
theorem lone_mem {ps : List (List Ln)} (hp : PsOk ps) (hl : Lone ps) {s u : List Int} {l : List Ln} (h : Way ps s l u) : ∀ x ∈ l, ∃ (j : Nat) (d : Ln), x = stepOf j d ∧ DoOk d ∧ d.g = (j : Int) ∧ j < 4 := by
  induction h with
  | nil => intro x hx; cases hx
  | cons h1 h2 _ ih =>
    intro x hx
    rcases List.mem_cons.1 hx with rfl | hx
    · exact ⟨_, _, rfl, (opAt_ok hp h1).1, (lone_op hl h1).1, (opAt_ok hp h1).2⟩
    · exact ih x hx
theorem lone_end {ps : List (List Ln)} (hl : Lone ps) {u : List Int} (hf : fin ps u = true) (j : Nat) : ((ps.getD j []).drop (u.getD (8 + j) 0).toNat) = [] := by
  by_cases hj : j < ps.length
  · have h1 := fin_iff.1 hf j hj
    unfold nx at h1
    cases ho : opAt ps j u with
    | none =>
      unfold opAt at ho
      exact List.drop_eq_nil_of_le (List.getElem?_eq_none_iff.1 ho)
    | some d =>
      rw [ho] at h1
      simp only at h1
      rw [if_neg (fun h => (lone_op hl ho).2 h.1)] at h1
      cases h1
  · have e : ps.getD j [] = [] := by rw [List.getD_eq_getElem?_getD, List.getElem?_eq_none (by omega)]; rfl
    rw [e]; simp
theorem lone_eqv {ps : List (List Ln)} (hp : PsOk ps) (hl : Lone ps) {l l' : List Ln} {u u' : List Int} (h : Way ps s0 l u) (h' : Way ps s0 l' u') (hf : fin ps u = true) (hf' : fin ps u' = true) : Tr.Eqv dep l l' := by
  have own : ∀ j : Nat, j < 4 → l.filter (fun x => x.q == (j : Int)) = l'.filter (fun x => x.q == (j : Int)) := fun j hj => by
    have h1 := h.own hp (SOk.start ps) j hj
    have h2 := h'.own hp (SOk.start ps) j hj
    rw [lone_end hl hf j, List.map_nil, List.append_nil] at h1
    rw [lone_end hl hf' j, List.map_nil, List.append_nil] at h2
    rw [← h1, ← h2]
  have ag : Tr.Ag dep l l' := fun C hC => by
    by_cases hx : ∃ x, (x ∈ l ∨ x ∈ l') ∧ C x = true
    · obtain ⟨x, hx, hcx⟩ := hx
      have hm : ∀ y, y ∈ l ∨ y ∈ l' → ∃ (j : Nat) (d : Ln), y = stepOf j d ∧ DoOk d ∧ d.g = (j : Int) ∧ j < 4 := fun y hy => hy.elim (lone_mem hp hl h y) (lone_mem hp hl h' y)
      obtain ⟨j, d, rfl, hd, hg, hj⟩ := hm x hx
      have key : ∀ y, y ∈ l ∨ y ∈ l' → C y = true → (y.q == (j : Int)) = true := fun y hy hcy => by
        obtain ⟨i, e, rfl, he, hge, hi⟩ := hm y hy
        have h1 := hC _ _ hcx hcy
        by_cases e1 : i = j
        · subst e1; simp [stepOf]
        · rw [dep_far hd he (fun h => e1 h.symm) (by rw [hg, hge]; omega)] at h1
          cases h1
      have cut : ∀ m : List Ln, (∀ y ∈ m, y ∈ l ∨ y ∈ l') → m.filter C = (m.filter (fun x => x.q == (j : Int))).filter C := fun m hm2 => by
        rw [List.filter_filter]
        refine List.filter_congr fun y hy => ?_
        cases hcy : C y with
        | false => rfl
        | true => rw [key y (hm2 y hy) hcy]; rfl
      rw [cut l (fun y hy => .inl hy), cut l' (fun y hy => .inr hy), own j hj]
    · rw [List.filter_eq_nil_iff.2 (fun y hy hc => hx ⟨y, .inl hy, hc⟩), List.filter_eq_nil_iff.2 (fun y hy hc => hx ⟨y, .inr hy, hc⟩)]
  have hlen : l.length = l'.length := by

    have hperm : l.Perm l' := by
      refine List.perm_iff_count.2 fun x => ?_
      by_cases hx : x ∈ l ∨ x ∈ l'
      · have hq : ∃ j : Nat, j < 4 ∧ x.q = (j : Int) := by
          obtain ⟨j, d, rfl, _, _, hj⟩ := hx.elim (lone_mem hp hl h x) (lone_mem hp hl h' x)
          exact ⟨j, hj, rfl⟩
        obtain ⟨j, hj, hq⟩ := hq
        have h2 := congrArg (List.count x) (own j hj)
        rw [List.count_filter (by simp [hq]), List.count_filter (by simp [hq])] at h2
        exact h2
      · rw [List.count_eq_zero.2 (fun h => hx (.inl h)), List.count_eq_zero.2 (fun h => hx (.inr h))]
    exact hperm.length_eq
  have hn := Tr.norm_ag dep_q dep_refl dep_symm l.length l l' rfl hlen.symm ag
  have e1 := Tr.norm_eqv (D := dep) dep_symm Ln.q l.length l rfl
  have e2 := Tr.norm_eqv (D := dep) dep_symm Ln.q l.length l' hlen.symm
  rw [hn] at e1
  exact e1.trans (eqv_symm e2)
end Go.Ex
/- ExploreApart: one end, one kind of order; plain. -/
namespace Go.Ex
open Go.Bf
theorem rc_way {ps : List (List Ln)} {s : List Int} (h : Rc ps.length (nx ps) s0 s) : ∃ l, Way ps s0 l s := by
  induction h with
  | start => exact ⟨[], .nil _⟩
  | step _ _ hn ih =>
    obtain ⟨l, hl⟩ := ih
    obtain ⟨d, hd, _⟩ := nx_some hn
    exact ⟨_, hl.snoc hd hn⟩
theorem one_of {α : Type} {l : List α} {R : α → α → Prop} (hp : l.Pairwise R) (hn : ∀ a ∈ l, ∀ b ∈ l, ¬ R a b) (h : ∃ a, a ∈ l) : l.length = 1 := by
  match l, hp, hn, h with
  | [], _, _, h => obtain ⟨a, ha⟩ := h; cases ha
  | [a], _, _, _ => rfl
  | a :: b :: l, hp, hn, _ => exact absurd ((List.pairwise_cons.1 hp).1 b (by simp)) (hn a (by simp) b (by simp))
theorem lone_out {ps : List (List Ln)} (hp : PsOk ps) (hl : Lone ps) {out : List PF} (h : OutOk ps out) : out.length = 1 := by
  refine one_of h.apart (fun a ha b hb => ?_) ?_
  · obtain ⟨h1, h2⟩ := h.way a ha
    obtain ⟨h3, h4⟩ := h.way b hb
    exact fun hn => hn (lone_eqv hp hl h1 h3 h2 h4)
  · obtain ⟨t, h1, h2⟩ := fin_ex hp 12 s0 .start (by decide)
    obtain ⟨l, hw⟩ := rc_way h1
    obtain ⟨p, hpm, _⟩ := h.full l t hw h2
    exact ⟨p, hpm⟩
theorem lone_ends {ps : List (List Ln)} (hp : PsOk ps) (hl : Lone ps) {E : List (List Int)} (h : EndsOf ps E) : E.length = 1 := by
  refine one_of (R := fun a b => a ≠ b) h.nodup (fun a ha b hb hne => hne ?_) ?_
  · obtain ⟨r1, f1⟩ := (h.mem a).1 ha
    obtain ⟨r2, f2⟩ := (h.mem b).1 hb
    obtain ⟨l1, w1⟩ := rc_way r1
    obtain ⟨l2, w2⟩ := rc_way r2
    exact eqv_state hp (SOk.start ps) w1 w2 (lone_eqv hp hl w1 w2 f1 f2)
  · obtain ⟨t, h1, h2⟩ := fin_ex hp 12 s0 .start (by decide)
    exact ⟨t, (h.mem t).2 ⟨h1, h2⟩⟩
end Go.Ex
/- ExploreSome: plain. -/
namespace Go.Ex
open Go.Bf
theorem runP_sok {ps : List (List Ln)} (hp : PsOk ps) : ∀ {l : List Nat} {s : List Int}, SOk ps s → SOk ps (runP ps l s).1 ∧ steps (runP ps l s).1 = steps s + (runP ps l s).2
  | [], s, h => ⟨h, by simp [runP]⟩
  | j :: l, s, h => by
    unfold runP
    cases hn : nx ps j s with
    | none => exact ⟨h, by simp⟩
    | some t =>
      obtain ⟨h1, h2, _⟩ := h.next hp hn
      obtain ⟨h3, h4⟩ := runP_sok hp (l := l) h1
      refine ⟨h3, ?_⟩
      simp only
      rw [h4, h2]
      omega
/-- Which of three is tried. -/
def whoF (q : Option Nat) (k : Nat) : Nat := match q with | none => k | some q => (k + q) % 3
theorem whoF_lt (q : Option Nat) {k : Nat} (hk : k < 3) : whoF q k < 3 := by
  cases q with
  | none => exact hk
  | some q => exact Nat.mod_lt _ (by omega)
theorem whoF_all {P : Nat → Prop} (q : Option Nat) (h : ∀ k, k < 3 → P (whoF q k)) : ∀ j, j < 3 → P j := fun j hj => by
  cases q with
  | none => exact h j hj
  | some q =>
    have h1 := h ((j + 3 - q % 3) % 3) (Nat.mod_lt _ (by omega))
    have e : whoF (some q) ((j + 3 - q % 3) % 3) = j := by
      show ((j + 3 - q % 3) % 3 + q) % 3 = j
      omega
    rw [e] at h1
    exact h1
theorem restI_whoF {q k : Nat} (hk : k < 3) (hq : q < 3) : restI ((k : Int) + (q : Int)) 3 = ((k + q) % 3 : Nat) := by
  unfold restI
  omega
end Go.Ex
/- ExploreOrders and TopOrders: what the orders come to; plain. -/
namespace Go.Ex
open Go.Bf
/-- The states come to, each once. -/
def comeP (L : List (List Int)) (t : List Int) : List (List Int) := if t ∈ L then L else L ++ [t]
def comes (out : List PF) : List (List Int) := out.foldl (fun L p => comeP L p.2) []
theorem comes_snoc (out : List PF) (p : PF) : comes (out ++ [p]) = comeP (comes out) p.2 := by simp [comes]
theorem comes_next {out : List PF} {k : Nat} {p : PF} (h : out[k]? = some p) : comes (out.take (k + 1)) = comeP (comes (out.take k)) p.2 := by
  rw [List.take_add_one, h]
  exact comes_snoc _ _
theorem comes_ok (out : List PF) : (comes out).Nodup ∧ ∀ s, s ∈ comes out ↔ ∃ p ∈ out, p.2 = s := by
  suffices h : ∀ (out : List PF) (L : List (List Int)), L.Nodup → (out.foldl (fun L p => comeP L p.2) L).Nodup ∧ ∀ s, s ∈ out.foldl (fun L p => comeP L p.2) L ↔ s ∈ L ∨ ∃ p ∈ out, p.2 = s by
    have := h out [] List.nodup_nil
    simpa [comes] using this
  intro out
  induction out with
  | nil => intro L hL; exact ⟨hL, fun s => by simp⟩
  | cons p out ih =>
    intro L hL
    have hn : (comeP L p.2).Nodup := by
      unfold comeP
      split
      · exact hL
      · rename_i hm
        rw [List.nodup_append]
        exact ⟨hL, by simp, fun a ha b hb e => by rw [List.mem_singleton] at hb; subst hb; subst e; exact hm ha⟩
    obtain ⟨h1, h2⟩ := ih (comeP L p.2) hn
    refine ⟨h1, fun s => ?_⟩
    rw [List.foldl_cons, h2 s]
    unfold comeP
    constructor
    · rintro (h | ⟨q, hq, e⟩)
      · split at h
        · exact .inl h
        · rcases List.mem_append.1 h with h | h
          · exact .inl h
          · rw [List.mem_singleton] at h; exact .inr ⟨p, by simp, h.symm⟩
      · exact .inr ⟨q, by simp [hq], e⟩
    · rintro (h | ⟨q, hq, e⟩)
      · left; split
        · exact h
        · exact List.mem_append_left _ h
      · rcases List.mem_cons.1 hq with rfl | hq
        · left
          subst e
          split
          · assumption
          · simp
        · exact .inr ⟨q, hq, e⟩
theorem comes_len {ps : List (List Ln)} {out : List PF} (ho : OutOk ps out) {E : List (List Int)} (he : EndsOf ps E) : (comes out).length = E.length := by
  obtain ⟨h1, h2⟩ := comes_ok out
  refine ((List.perm_ext_iff_of_nodup h1 he.nodup).2 fun s => ?_).length_eq
  rw [h2 s, he.mem s]
  constructor
  · rintro ⟨p, hp, rfl⟩
    obtain ⟨a, b⟩ := ho.way p hp
    exact ⟨a.rc .start, b⟩
  · rintro ⟨hr, hf⟩
    obtain ⟨l, hl⟩ := rc_way hr
    obtain ⟨p, hp, _, e⟩ := ho.full l s hl hf
    exact ⟨p, hp, e⟩
theorem comes_le (out : List PF) : (comes out).length ≤ out.length := by
  suffices h : ∀ (out : List PF) (L : List (List Int)), (out.foldl (fun L p => comeP L p.2) L).length ≤ L.length + out.length by
    have := h out []
    simpa [comes] using this
  intro out
  induction out with
  | nil => intro L; simp
  | cons p out ih =>
    intro L
    rw [List.foldl_cons]
    refine Nat.le_trans (ih _) ?_
    have : (comeP L p.2).length ≤ L.length + 1 := by unfold comeP; split <;> simp
    simp only [List.length_cons]
    omega
theorem out_ends {ps : List (List Ln)} {out : List PF} (ho : OutOk ps out) {E : List (List Int)} (he : EndsOf ps E) : E.length ≤ out.length := by
  rw [← comes_len ho he]; exact comes_le out
theorem ends_pos {ps : List (List Ln)} (hp : PsOk ps) {E : List (List Int)} (he : EndsOf ps E) : 0 < E.length := by
  obtain ⟨t, h1, h2⟩ := fin_ex hp 12 s0 .start (by decide)
  exact List.length_pos_of_mem ((he.mem t).2 ⟨h1, h2⟩)
theorem out_end {ps : List (List Ln)} {out : List PF} (ho : OutOk ps out) {E : List (List Int)} (he : EndsOf ps E) {p : PF} (hp : p ∈ out) : p.2 ∈ E := by
  obtain ⟨a, b⟩ := ho.way p hp
  exact (he.mem _).2 ⟨a.rc .start, b⟩
/-- The normal forms of two orders are not one. -/
theorem norm_ne {ps : List (List Ln)} {out : List PF} (ho : OutOk ps out) {j k : Nat} {p q : PF} (hj : out[j]? = some p) (hk : out[k]? = some q) (h : j < k) : Tr.normal dep Ln.q q.1 ≠ Tr.normal dep Ln.q p.1 := fun e => by
  have h1 := (Tr.normal_iff dep_q dep_refl dep_symm q.1 p.1).2 e
  obtain ⟨a1, a2⟩ := List.getElem?_eq_some_iff.1 hj
  obtain ⟨b1, b2⟩ := List.getElem?_eq_some_iff.1 hk
  have h2 := List.pairwise_iff_getElem.1 ho.apart j k a1 b1 h
  rw [a2, b2] at h2
  exact h2 (eqv_symm (eqv_of_lv h1))
/-- How many of the orders are the same as this one. -/
def sameC (l : List Ln) (out : List PF) : Nat := (out.filter fun p => decide (Tr.rnds dep Ln.q l = Tr.rnds dep Ln.q p.1)).length
theorem sameC_next (l : List Ln) {out : List PF} {k : Nat} {p : PF} (h : out[k]? = some p) : sameC l (out.take (k + 1)) = sameC l (out.take k) + if Tr.rnds dep Ln.q l = Tr.rnds dep Ln.q p.1 then 1 else 0 := by
  unfold sameC
  rw [List.take_add_one, h, Option.toList_some, List.filter_append, List.length_append]
  congr 1
  by_cases e : Tr.rnds dep Ln.q l = Tr.rnds dep Ln.q p.1
  · rw [if_pos e, List.filter_cons_of_pos (by simp [e])]; rfl
  · rw [if_neg e, List.filter_cons_of_neg (by simp [e])]; rfl
theorem sameC_le (l : List Ln) (out : List PF) : sameC l out ≤ out.length := List.length_filter_le _ _
theorem sameC_one {ps : List (List Ln)} {out : List PF} (ho : OutOk ps out) {l : List Ln} {u : List Int} (hw : Way ps s0 l u) (hf : fin ps u = true) : sameC l out = 1 := by
  have key : ∀ p : PF, Tr.rnds dep Ln.q l = Tr.rnds dep Ln.q p.1 ↔ Tr.Eqv dep l p.1 := fun p => by
    rw [Tr.same_iff dep_q dep_symm]
    exact ⟨eqv_of_lv, fun h => h.lvs dep_symm⟩
  unfold sameC
  refine one_of (R := fun p q => ¬ Tr.Eqv dep p.1 q.1) (ho.apart.filter _) (fun a ha b hb hn => hn ?_) ?_
  · have h1 := (key a).1 (of_decide_eq_true (List.mem_filter.1 ha).2)
    have h2 := (key b).1 (of_decide_eq_true (List.mem_filter.1 hb).2)
    exact (eqv_symm h1).trans h2
  · obtain ⟨p, hp, he, _⟩ := ho.full l u hw hf
    exact ⟨p, List.mem_filter.2 ⟨hp, decide_eq_true ((key p).2 (eqv_symm he))⟩⟩
theorem way_whole {ps : List (List Ln)} {s t : List Int} {l : List Ln} (h : Way ps s l t) : (runP ps (who l) s) = (t, l.length) := h.run
theorem Way.who_lt {ps : List (List Ln)} {s t : List Int} {l : List Ln} (h : Way ps s l t) : ∀ j ∈ who l, j < ps.length := by
  induction h with
  | nil => intro j hj; cases hj
  | @cons s t u i d l h1 h2 h3 ih =>
    intro j hj
    rw [who_step] at hj
    rcases List.mem_cons.1 hj with rfl | hj
    · exact (opAt_lt h1).1
    · exact ih j hj
theorem Way.len12 {ps : List (List Ln)} (hp : PsOk ps) {t : List Int} {l : List Ln} (h : Way ps s0 l t) : l.length ≤ ps.flatten.length := by
  obtain ⟨h1, h2⟩ := h.ok hp (SOk.start ps)
  have h3 := steps_le hp h1
  have h5 : steps s0 = 0 := by decide
  omega
end Go.Ex
/- Explore: slices.Contains over an owned row of states, also an empty one. -/
namespace Go.Proofs.YtfcellgjbbfobaaDoor
open Go.RowKit Go.Ex Go.Bf
theorem index31_nil {w : World} {x : List Int} (hx : KS.ok x) :
    Calls Tryd.prog 31 #[.slice none 0 0, .agg (x.map (Value.int .i64)).toArray] w fun e w' => e = .returned (.int .i64 (-1)) ∧ Keep [] w w' := by
  have HKA := Lib.hid ((Keep.refl [] w).alloc (.cells (x.map (Value.int .i64)).toArray 41))
  have HX := Lib.hid hx
  clear hx
  go_enter Tryd.func31, Tryd.ntmps31
  go_wp2_with fail
  go_loopw [8] (fun j wr => j = .int .i64 0 ∧ Hid (Keep [] w wr)) (fun j _ => 0)
  case atStart => exact ⟨rfl, HKA⟩
  case round =>
    obtain ⟨rfl, HK⟩ := hrel
    go_wp2_with fail
    go_ret
    exact ⟨rfl, HK.out⟩
theorem contains13_nil {w : World} {x : List Int} (hx : KS.ok x) :
    Calls Tryd.prog 13 #[.slice none 0 0, .agg (x.map (Value.int .i64)).toArray] w fun e w' => e = .returned (.bool false) ∧ Keep [] w w' := by
  have HKA := Lib.hid ((Keep.refl [] w).alloc (.cells (x.map (Value.int .i64)).toArray 41))
  have hxl := hx.1
  have HI := Lib.hid (index31_nil (w := w.alloc (.cells (x.map (Value.int .i64)).toArray 41)) hx)
  have HAX : Hid ((w.alloc (.cells (x.map (Value.int .i64)).toArray 41)).heap[w.heap.size]? = some (.cells (x.map (Value.int .i64)).toArray 41 (0, 0))) := Lib.hid (blk_new w _)
  have HI12 : Hid ((Tryd.prog.info? 41).map (·.size) = some (x.map (Value.int .i64)).toArray.size) := Lib.hid (by rw [info62]; simp [hxl])
  clear hx
  go_enter Tryd.func13, Tryd.ntmps13
  go_wp2_with (first | (with_reducible refine wpList_load_row rfl 41 _ rfl w.heap.size rfl 41 _ (0, 0) _ HAX.out Tryd.underlying41 rfl HI12.out ?_) | (go_at_call 31; refine HI.out.mono ?_; rintro e1 w1 ⟨rfl, hk1⟩; have HK1 := Lib.hid hk1; clear hk1))
  go_ret
  exact ⟨by first | rfl | (simp; done), HKA.out.trans HK1.out⟩
theorem contains13_own {w : World} {B : Nat} {v : Value} {E : List (List Int)} {x : List Int} {A : Bool} (ho : w.ownsRow B 41 12 v E.length (E.flatMap encS)) (hE : ∀ y ∈ E, KS.ok y) (hx : KS.ok x) (hn : E.length ≤ 1000000000) (hA : decide (x ∈ E) = A) :
    Calls Tryd.prog 13 #[v, .agg (x.map (Value.int .i64)).toArray] w fun e w' => e = .returned (.bool A) ∧ Keep [] w w' := by
  by_cases h0 : 0 < E.length
  · obtain ⟨g, c, rfl, hnc, hcm, _, _, hc⟩ := own_at ho h0
    exact contains29_any rfl hE hx hc hn hnc hcm hA
  · have he : E = [] := List.eq_nil_of_length_eq_zero (by omega)
    subst he
    have hv : v = .slice none 0 0 ∨ ∃ g c, v = .slice (some ⟨g, 0, none⟩) 0 c ∧ c ≤ 9223372036854775807 := by
      rcases ho.2 with ⟨h, _⟩ | ⟨g, cap, cur, h, _, _, _, hcm, _⟩
      · exact .inl h
      · exact .inr ⟨g, cap, h, hcm⟩
    have ha : A = false := by rw [← hA]; simp
    rw [ha]
    rcases hv with rfl | ⟨g, c, rfl, hcm⟩
    · exact contains13_nil hx
    · exact contains29_any rfl hE hx (fun j u hu => by simp at hu) (by simp) (by omega) hcm (by simp)
end Go.Proofs.YtfcellgjbbfobaaDoor
/- append(s[:n:n], x...): a new row, the old one stays. -/
namespace Go
open Go.RowKit
section
variable {P : Program} {w w' : World} {base e size n : Nat} {v : Value} {xs : List Value}
theorem wpList_append_capped {ops : Array Oper} {rest : List Oper} {o : Oper} {a : Act} {Q : Exit → Act → World → Prop} (hgd : o.guard = none) (s x : Operand) (t : TypeId)
    (ho : o.op = .call { callee := .builtin .append, args := #[s, x], argTypes := #[t, t] })
    (base : Nat) (e : TypeId) (i : TypeInfo) (z : Value) (size bytes : Nat) (ht : P.underlying t = some (.slice e)) (hi : P.info? e = some i) (hz : i.zero = some z)
    (hsize : i.size = size) (hby : i.bytes = bytes) (hzs : z.cells.size = size) (hsz : 0 < size)
    (av : Option Addr) (n cap : Nat) (xs : List Value) (hs : a.eval s = .slice av n n) (hown : w.ownsRow base e size (.slice av n cap) n xs)
    (ad : Addr) (m c : Nat) (news : List Value) (hx : a.eval x = .slice (some ad) m c) (hl : news.length = m * size) (hnews : ∀ j u, news[j]? = some u → w.cell? (ad.add j) = some u) (h1 : ∀ u ∈ news, u.oneCell' = true)
    (hm : 0 < m) (h63 : n + m ≤ maxLen) (hbytes : (n + m) * bytes ≤ 140737488355328)
    (h : ∀ g' c' w', w'.ownsRow w.heap.size e size (.slice (some ⟨g', 0, none⟩) (n + m) c') (n + m) (xs ++ news) → Keep [] w w' → wpList P ops Q rest (a.put o.dst (.slice (some ⟨g', 0, none⟩) (n + m) c')) w') : wpList P ops Q (o :: rest) a w := by
  have hxl := hown.1
  rcases hown.2 with ⟨hnil, h0⟩ | ⟨g, cap', cur, hv, hb, hg, hnc, hcm, hcs, htk⟩
  · injection hnil with hav _ _
    subst hav
    subst h0
    have hxs : xs = [] := List.eq_nil_of_length_eq_zero (by rw [hxl]; simp)
    subst hxs
    refine wpList_append_any hgd s x t ho w.heap.size e i z size bytes ht hi hz hsize hby hzs hsz (.slice none 0 0) 0 [] hs (World.ownsRow_nil _ _ _ _) (some ad) m c news hx hl (fun _ => ⟨ad, rfl, hnews⟩) h1 h63 hbytes (Nat.le_refl _) ?_
    intro a' c' w' ho' hg' hat
    have hk : Keep [] w w' := Keep.ofGrown hg' (fun k hk => by cases hk)
    rcases ho'.2 with ⟨_, h9⟩ | ⟨g', c2, _, hv', _⟩
    · omega
    · cases hv'
      exact h g' c' w' ho' hk
  · injection hv with hav hn2 hc2
    subst hav
    refine wpList_plain hgd fun K hK => ?_
    subst hsize
    subst hby
    have hsmall : n + m ≤ 9223372036854775807 := by simp only [maxLen] at h63; omega
    have hlen : (xs ++ news).length = (n + m) * i.size := by rw [List.length_append, hxl, hl, Nat.add_mul]
    have hcell : ∀ j u, xs[j]? = some u → w.cell? ((⟨g, 0, none⟩ : Addr).add j) = some u := fun j u hu => by
      rw [Addr.add_mid, Nat.zero_add, cell_of_row w g j cur e (0, 0) hg]
      have hj : j < n * i.size := by rw [← hxl]; exact (List.getElem?_eq_some_iff.1 hu).1
      rw [← htk, List.getElem?_take_of_lt hj, Array.getElem?_toList] at hu
      exact hu
    have hr := run_append_grow (P := P) w t o.type e i z ht hi hz ⟨g, 0, none⟩ n n xs hxl hcell ad m c news hl hnews (by omega) (by omega) (growslice_fits (by omega) hbytes)
    have hge := grownCap_ge w (n + m) n e
    have hcm2 : grownCap w (n + m) n e ≤ maxLen := grownCap_le_maxLen w (n + m) n e h63
    unfold Oper.wp execOp
    simp only [ho, resolve, invoke, builtin, Sem.run_bind, Sem.run_pure, Result.andThen_ok, List.map_toArray, List.map_cons, List.map_nil, hs, hx, hr]
    refine hK _ _ (h _ _ _ ⟨hlen, .inr ⟨w.heap.size, _, _, rfl, Nat.le_refl _, blk_new w.drew _, hge, hcm2, ?_, ?_⟩⟩ (((Keep.refl [] w).drew).alloc _))
    · simp only [Array.size_append, List.size_toArray, size_zeroCells, hzs, hxl, hl, ← Nat.add_mul]
      congr 1
      omega
    · simp only [Array.toList_append, List.append_assoc]
      rw [← List.append_assoc, ← hlen]
      exact List.take_left
end
end Go
