/- Texts laid together: DP4 DP5 EP7 DP7 DB1 DA9 DQ14. -/
import Derived.Test.YtfcellgjbbfobaaDoorMg19
/- ExploreApart: programs that have each a cell of its own; plain. -/
namespace Go.Ex
open Go.Bf
/-- The steps of each program, in their order. -/
theorem Way.own {ps : List (List Ln)} (hp : PsOk ps) {s u : List Int} {l : List Ln} (h : Way ps s l u) : SOk ps s → ∀ j : Nat, j < 4 → ((ps.getD j []).drop (s.getD (8 + j) 0).toNat).map (stepOf j) = l.filter (fun x => x.q == (j : Int)) ++ ((ps.getD j []).drop (u.getD (8 + j) 0).toNat).map (stepOf j) := by
  induction h with
  | nil s => intro _ j _; rfl
  | @cons s t u i d l h1 h2 h3 ih =>
    intro hs j hj
    obtain ⟨hd, hi⟩ := opAt_ok hp h1
    have ht := (hs.next hp h2).1
    have ih2 := ih ht j hj
    have hc := ctr_next hp hs h1 h2
    have hg : t.getD (8 + j) 0 = if j = i then s.getD (8 + i) 0 + 1 else s.getD (8 + j) 0 := by
      rw [← ctr_at, hc, getD_set (by rw [List.length_drop, hs.len]; exact hi)]
      by_cases e : j = i
      · rw [if_pos e, if_pos e]
      · rw [if_neg e, if_neg e, ctr_at]
    by_cases e : j = i
    · subst e
      rw [if_pos rfl] at hg
      have h0 := (hs.at_ j hj).1
      unfold opAt at h1
      obtain ⟨hy, hye⟩ := List.getElem?_eq_some_iff.1 h1
      rw [List.filter_cons, if_pos (by simp [stepOf]), List.drop_eq_getElem_cons hy, hye, List.map_cons, List.cons_append, ← ih2, hg]
      congr 3
      omega
    · rw [if_neg e] at hg
      rw [List.filter_cons, if_neg (by simp [stepOf]; omega), ← ih2, hg]
/-- Each program has a cell of its own, and waits for nothing. -/
structure Lone (ps : List (List Ln)) : Prop where
  cell : ∀ (j : Nat) (r : List Ln), ps[j]? = some r → ∀ d ∈ r, d.g = (j : Int) ∧ d.q ≠ 4
theorem lone_op {ps : List (List Ln)} (hl : Lone ps) {j : Nat} {s : List Int} {d : Ln} (h : opAt ps j s = some d) : d.g = (j : Int) ∧ d.q ≠ 4 := by
  obtain ⟨h1, h2, _, _⟩ := opAt_lt h
  refine hl.cell j _ ?_ d h2
  rw [List.getD_eq_getElem?_getD, List.getElem?_eq_getElem h1]; rfl
theorem lone_mem {ps : List (List Ln)} (hp : PsOk ps) (hl : Lone ps) {s u : List Int} {l : List Ln} (h : Way ps s l u) : ∀ x ∈ l, ∃ (j : Nat) (d : Ln), x = stepOf j d ∧ DoOk d ∧ d.g = (j : Int) ∧ j < 4 := by
  induction h with
  | nil => intro x hx; cases hx
  | cons h1 h2 _ ih =>
    intro x hx
    rcases List.mem_cons.1 hx with rfl | hx
    · exact ⟨_, _, rfl, (opAt_ok hp h1).1, (lone_op hl h1).1, (opAt_ok hp h1).2⟩
    · exact ih x hx
theorem lone_end {ps : List (List Ln)} (hl : Lone ps) {u : List Int} (hf : fin ps u = true) (j : Nat) : ((ps.getD j []).drop (u.getD (8 + j) 0).toNat) = [] := by
  by_cases hj : j < ps.length
  · have h1 := fin_iff.1 hf j hj
    unfold nx at h1
    cases ho : opAt ps j u with
    | none =>
      unfold opAt at ho
      exact List.drop_eq_nil_of_le (List.getElem?_eq_none_iff.1 ho)
    | some d =>
      rw [ho] at h1
      simp only at h1
      rw [if_neg (fun h => (lone_op hl ho).2 h.1)] at h1
      cases h1
  · have e : ps.getD j [] = [] := by rw [List.getD_eq_getElem?_getD, List.getElem?_eq_none (by omega)]; rfl
    rw [e]; simp
theorem lone_eqv {ps : List (List Ln)} (hp : PsOk ps) (hl : Lone ps) {l l' : List Ln} {u u' : List Int} (h : Way ps s0 l u) (h' : Way ps s0 l' u') (hf : fin ps u = true) (hf' : fin ps u' = true) : Tr.Eqv dep l l' := by
  have own : ∀ j : Nat, j < 4 → l.filter (fun x => x.q == (j : Int)) = l'.filter (fun x => x.q == (j : Int)) := fun j hj => by
    have h1 := h.own hp (SOk.start ps) j hj
    have h2 := h'.own hp (SOk.start ps) j hj
    rw [lone_end hl hf j, List.map_nil, List.append_nil] at h1
    rw [lone_end hl hf' j, List.map_nil, List.append_nil] at h2
    rw [← h1, ← h2]
  have ag : Tr.Ag dep l l' := fun C hC => by
    by_cases hx : ∃ x, (x ∈ l ∨ x ∈ l') ∧ C x = true
    · obtain ⟨x, hx, hcx⟩ := hx
      have hm : ∀ y, y ∈ l ∨ y ∈ l' → ∃ (j : Nat) (d : Ln), y = stepOf j d ∧ DoOk d ∧ d.g = (j : Int) ∧ j < 4 := fun y hy => hy.elim (lone_mem hp hl h y) (lone_mem hp hl h' y)
      obtain ⟨j, d, rfl, hd, hg, hj⟩ := hm x hx
      have key : ∀ y, y ∈ l ∨ y ∈ l' → C y = true → (y.q == (j : Int)) = true := fun y hy hcy => by
        obtain ⟨i, e, rfl, he, hge, hi⟩ := hm y hy
        have h1 := hC _ _ hcx hcy
        by_cases e1 : i = j
        · subst e1; simp [stepOf]
        · rw [dep_far hd he (fun h => e1 h.symm) (by rw [hg, hge]; omega)] at h1
          cases h1
      have cut : ∀ m : List Ln, (∀ y ∈ m, y ∈ l ∨ y ∈ l') → m.filter C = (m.filter (fun x => x.q == (j : Int))).filter C := fun m hm2 => by
        rw [List.filter_filter]
        refine List.filter_congr fun y hy => ?_
        cases hcy : C y with
        | false => rfl
        | true => rw [key y (hm2 y hy) hcy]; rfl
      rw [cut l (fun y hy => .inl hy), cut l' (fun y hy => .inr hy), own j hj]
    · rw [List.filter_eq_nil_iff.2 (fun y hy hc => hx ⟨y, .inl hy, hc⟩), List.filter_eq_nil_iff.2 (fun y hy hc => hx ⟨y, .inr hy, hc⟩)]
  have hlen : l.length = l'.length := by

    have hperm : l.Perm l' := by
      refine List.perm_iff_count.2 fun x => ?_
      by_cases hx : x ∈ l ∨ x ∈ l'
      · have hq : ∃ j : Nat, j < 4 ∧ x.q = (j : Int) := by
          obtain ⟨j, d, rfl, _, _, hj⟩ := hx.elim (lone_mem hp hl h x) (lone_mem hp hl h' x)
          exact ⟨j, hj, rfl⟩
        obtain ⟨j, hj, hq⟩ := hq
        have h2 := congrArg (List.count x) (own j hj)
        rw [List.count_filter (by simp [hq]), List.count_filter (by simp [hq])] at h2
        exact h2
      · rw [List.count_eq_zero.2 (fun h => hx (.inl h)), List.count_eq_zero.2 (fun h => hx (.inr h))]
    exact hperm.length_eq
  have hn := Tr.norm_ag dep_q dep_refl dep_symm l.length l l' rfl hlen.symm ag
  have e1 := Tr.norm_eqv (D := dep) dep_symm Ln.q l.length l rfl
  have e2 := Tr.norm_eqv (D := dep) dep_symm Ln.q l.length l' hlen.symm
  rw [hn] at e1
  exact e1.trans (eqv_symm e2)
end Go.Ex
/- ExploreApart: one end, one kind of order; plain. -/
namespace Go.Ex
open Go.Bf
theorem rc_way {ps : List (List Ln)} {s : List Int} (h : Rc ps.length (nx ps) s0 s) : ∃ l, Way ps s0 l s := by
  induction h with
  | start => exact ⟨[], .nil _⟩
  | step _ _ hn ih =>
    obtain ⟨l, hl⟩ := ih
    obtain ⟨d, hd, _⟩ := nx_some hn
    exact ⟨_, hl.snoc hd hn⟩
theorem one_of {α : Type} {l : List α} {R : α → α → Prop} (hp : l.Pairwise R) (hn : ∀ a ∈ l, ∀ b ∈ l, ¬ R a b) (h : ∃ a, a ∈ l) : l.length = 1 := by
  match l, hp, hn, h with
  | [], _, _, h => obtain ⟨a, ha⟩ := h; cases ha
  | [a], _, _, _ => rfl
  | a :: b :: l, hp, hn, _ => exact absurd ((List.pairwise_cons.1 hp).1 b (by simp)) (hn a (by simp) b (by simp))
theorem lone_out {ps : List (List Ln)} (hp : PsOk ps) (hl : Lone ps) {out : List PF} (h : OutOk ps out) : out.length = 1 := by
  refine one_of h.apart (fun a ha b hb => ?_) ?_
  · obtain ⟨h1, h2⟩ := h.way a ha
    obtain ⟨h3, h4⟩ := h.way b hb
    exact fun hn => hn (lone_eqv hp hl h1 h3 h2 h4)
  · obtain ⟨t, h1, h2⟩ := fin_ex hp 12 s0 .start (by decide)
    obtain ⟨l, hw⟩ := rc_way h1
    obtain ⟨p, hpm, _⟩ := h.full l t hw h2
    exact ⟨p, hpm⟩
theorem lone_ends {ps : List (List Ln)} (hp : PsOk ps) (hl : Lone ps) {E : List (List Int)} (h : EndsOf ps E) : E.length = 1 := by
  refine one_of (R := fun a b => a ≠ b) h.nodup (fun a ha b hb hne => hne ?_) ?_
  · obtain ⟨r1, f1⟩ := (h.mem a).1 ha
    obtain ⟨r2, f2⟩ := (h.mem b).1 hb
    obtain ⟨l1, w1⟩ := rc_way r1
    obtain ⟨l2, w2⟩ := rc_way r2
    exact eqv_state hp (SOk.start ps) w1 w2 (lone_eqv hp hl w1 w2 f1 f2)
  · obtain ⟨t, h1, h2⟩ := fin_ex hp 12 s0 .start (by decide)
    exact ⟨t, (h.mem t).2 ⟨h1, h2⟩⟩
end Go.Ex
/- ExploreSome: plain. -/
namespace Go.Ex
open Go.Bf
theorem runP_sok {ps : List (List Ln)} (hp : PsOk ps) : ∀ {l : List Nat} {s : List Int}, SOk ps s → SOk ps (runP ps l s).1 ∧ steps (runP ps l s).1 = steps s + (runP ps l s).2
  | [], s, h => ⟨h, by simp [runP]⟩
  | j :: l, s, h => by
    unfold runP
    cases hn : nx ps j s with
    | none => exact ⟨h, by simp⟩
    | some t =>
      obtain ⟨h1, h2, _⟩ := h.next hp hn
      obtain ⟨h3, h4⟩ := runP_sok hp (l := l) h1
      refine ⟨h3, ?_⟩
      simp only
      rw [h4, h2]
      omega
/-- Which of three is tried. -/
def whoF (q : Option Nat) (k : Nat) : Nat := match q with | none => k | some q => (k + q) % 3
theorem whoF_lt (q : Option Nat) {k : Nat} (hk : k < 3) : whoF q k < 3 := by
  cases q with
  | none => exact hk
  | some q => exact Nat.mod_lt _ (by omega)
theorem whoF_all {P : Nat → Prop} (q : Option Nat) (h : ∀ k, k < 3 → P (whoF q k)) : ∀ j, j < 3 → P j := fun j hj => by
  cases q with
  | none => exact h j hj
  | some q =>
    have h1 := h ((j + 3 - q % 3) % 3) (Nat.mod_lt _ (by omega))
    have e : whoF (some q) ((j + 3 - q % 3) % 3) = j := by
      show ((j + 3 - q % 3) % 3 + q) % 3 = j
      omega
    rw [e] at h1
    exact h1
theorem restI_whoF {q k : Nat} (hk : k < 3) (hq : q < 3) : restI ((k : Int) + (q : Int)) 3 = ((k + q) % 3 : Nat) := by
  unfold restI
  omega
end Go.Ex
/- ExploreOrders and TopOrders: what the orders come to; plain. -/
namespace Go.Ex
open Go.Bf
/-- The states come to, each once. -/
def comeP (L : List (List Int)) (t : List Int) : List (List Int) := if t ∈ L then L else L ++ [t]
def comes (out : List PF) : List (List Int) := out.foldl (fun L p => comeP L p.2) []
theorem comes_snoc (out : List PF) (p : PF) : comes (out ++ [p]) = comeP (comes out) p.2 := by simp [comes]
theorem comes_next {out : List PF} {k : Nat} {p : PF} (h : out[k]? = some p) : comes (out.take (k + 1)) = comeP (comes (out.take k)) p.2 := by
  rw [List.take_add_one, h]
  exact comes_snoc _ _
theorem comes_ok (out : List PF) : (comes out).Nodup ∧ ∀ s, s ∈ comes out ↔ ∃ p ∈ out, p.2 = s := by
  suffices h : ∀ (out : List PF) (L : List (List Int)), L.Nodup → (out.foldl (fun L p => comeP L p.2) L).Nodup ∧ ∀ s, s ∈ out.foldl (fun L p => comeP L p.2) L ↔ s ∈ L ∨ ∃ p ∈ out, p.2 = s by
    have := h out [] List.nodup_nil
    simpa [comes] using this
  intro out
  induction out with
  | nil => intro L hL; exact ⟨hL, fun s => by simp⟩
  | cons p out ih =>
    intro L hL
    have hn : (comeP L p.2).Nodup := by
      unfold comeP
      split
      · exact hL
      · rename_i hm
        rw [List.nodup_append]
        exact ⟨hL, by simp, fun a ha b hb e => by rw [List.mem_singleton] at hb; subst hb; subst e; exact hm ha⟩
    obtain ⟨h1, h2⟩ := ih (comeP L p.2) hn
    refine ⟨h1, fun s => ?_⟩
    rw [List.foldl_cons, h2 s]
    unfold comeP
    constructor
    · rintro (h | ⟨q, hq, e⟩)
      · split at h
        · exact .inl h
        · rcases List.mem_append.1 h with h | h
          · exact .inl h
          · rw [List.mem_singleton] at h; exact .inr ⟨p, by simp, h.symm⟩
      · exact .inr ⟨q, by simp [hq], e⟩
    · rintro (h | ⟨q, hq, e⟩)
      · left; split
        · exact h
        · exact List.mem_append_left _ h
      · rcases List.mem_cons.1 hq with rfl | hq
        · left
          subst e
          split
          · assumption
          · simp
        · exact .inr ⟨q, hq, e⟩
theorem comes_len {ps : List (List Ln)} {out : List PF} (ho : OutOk ps out) {E : List (List Int)} (he : EndsOf ps E) : (comes out).length = E.length := by
  obtain ⟨h1, h2⟩ := comes_ok out
  refine ((List.perm_ext_iff_of_nodup h1 he.nodup).2 fun s => ?_).length_eq
  rw [h2 s, he.mem s]
  constructor
  · rintro ⟨p, hp, rfl⟩
    obtain ⟨a, b⟩ := ho.way p hp
    exact ⟨a.rc .start, b⟩
  · rintro ⟨hr, hf⟩
    obtain ⟨l, hl⟩ := rc_way hr
    obtain ⟨p, hp, _, e⟩ := ho.full l s hl hf
    exact ⟨p, hp, e⟩
theorem comes_le (out : List PF) : (comes out).length ≤ out.length := by
  suffices h : ∀ (out : List PF) (L : List (List Int)), (out.foldl (fun L p => comeP L p.2) L).length ≤ L.length + out.length by
    have := h out []
    simpa [comes] using this
  intro out
  induction out with
  | nil => intro L; simp
  | cons p out ih =>
    intro L
    rw [List.foldl_cons]
    refine Nat.le_trans (ih _) ?_
    have : (comeP L p.2).length ≤ L.length + 1 := by unfold comeP; split <;> simp
    simp only [List.length_cons]
    omega
theorem out_ends {ps : List (List Ln)} {out : List PF} (ho : OutOk ps out) {E : List (List Int)} (he : EndsOf ps E) : E.length ≤ out.length := by
  rw [← comes_len ho he]; exact comes_le out
theorem ends_pos {ps : List (List Ln)} (hp : PsOk ps) {E : List (List Int)} (he : EndsOf ps E) : 0 < E.length := by
  obtain ⟨t, h1, h2⟩ := fin_ex hp 12 s0 .start (by decide)
  exact List.length_pos_of_mem ((he.mem t).2 ⟨h1, h2⟩)
theorem out_end {ps : List (List Ln)} {out : List PF} (ho : OutOk ps out) {E : List (List Int)} (he : EndsOf ps E) {p : PF} (hp : p ∈ out) : p.2 ∈ E := by
  obtain ⟨a, b⟩ := ho.way p hp
  exact (he.mem _).2 ⟨a.rc .start, b⟩
/-- The normal forms of two orders are not one. -/
theorem norm_ne {ps : List (List Ln)} {out : List PF} (ho : OutOk ps out) {j k : Nat} {p q : PF} (hj : out[j]? = some p) (hk : out[k]? = some q) (h : j < k) : Tr.normal dep Ln.q q.1 ≠ Tr.normal dep Ln.q p.1 := fun e => by
  have h1 := (Tr.normal_iff dep_q dep_refl dep_symm q.1 p.1).2 e
  obtain ⟨a1, a2⟩ := List.getElem?_eq_some_iff.1 hj
  obtain ⟨b1, b2⟩ := List.getElem?_eq_some_iff.1 hk
  have h2 := List.pairwise_iff_getElem.1 ho.apart j k a1 b1 h
  rw [a2, b2] at h2
  exact h2 (eqv_symm (eqv_of_lv h1))
/-- How many of the orders are the same as this one. -/
def sameC (l : List Ln) (out : List PF) : Nat := (out.filter fun p => decide (Tr.rnds dep Ln.q l = Tr.rnds dep Ln.q p.1)).length
theorem sameC_next (l : List Ln) {out : List PF} {k : Nat} {p : PF} (h : out[k]? = some p) : sameC l (out.take (k + 1)) = sameC l (out.take k) + if Tr.rnds dep Ln.q l = Tr.rnds dep Ln.q p.1 then 1 else 0 := by
  unfold sameC
  rw [List.take_add_one, h, Option.toList_some, List.filter_append, List.length_append]
  congr 1
  by_cases e : Tr.rnds dep Ln.q l = Tr.rnds dep Ln.q p.1
  · rw [if_pos e, List.filter_cons_of_pos (by simp [e])]; rfl
  · rw [if_neg e, List.filter_cons_of_neg (by simp [e])]; rfl
theorem sameC_le (l : List Ln) (out : List PF) : sameC l out ≤ out.length := List.length_filter_le _ _
theorem sameC_one {ps : List (List Ln)} {out : List PF} (ho : OutOk ps out) {l : List Ln} {u : List Int} (hw : Way ps s0 l u) (hf : fin ps u = true) : sameC l out = 1 := by
  have key : ∀ p : PF, Tr.rnds dep Ln.q l = Tr.rnds dep Ln.q p.1 ↔ Tr.Eqv dep l p.1 := fun p => by
    rw [Tr.same_iff dep_q dep_symm]
    exact ⟨eqv_of_lv, fun h => h.lvs dep_symm⟩
  unfold sameC
  refine one_of (R := fun p q => ¬ Tr.Eqv dep p.1 q.1) (ho.apart.filter _) (fun a ha b hb hn => hn ?_) ?_
  · have h1 := (key a).1 (of_decide_eq_true (List.mem_filter.1 ha).2)
    have h2 := (key b).1 (of_decide_eq_true (List.mem_filter.1 hb).2)
    exact (eqv_symm h1).trans h2
  · obtain ⟨p, hp, he, _⟩ := ho.full l u hw hf
    exact ⟨p, List.mem_filter.2 ⟨hp, decide_eq_true ((key p).2 (eqv_symm he))⟩⟩
theorem way_whole {ps : List (List Ln)} {s t : List Int} {l : List Ln} (h : Way ps s l t) : (runP ps (who l) s) = (t, l.length) := h.run
theorem Way.who_lt {ps : List (List Ln)} {s t : List Int} {l : List Ln} (h : Way ps s l t) : ∀ j ∈ who l, j < ps.length := by
  induction h with
  | nil => intro j hj; cases hj
  | @cons s t u i d l h1 h2 h3 ih =>
    intro j hj
    rw [who_step] at hj
    rcases List.mem_cons.1 hj with rfl | hj
    · exact (opAt_lt h1).1
    · exact ih j hj
theorem Way.len12 {ps : List (List Ln)} (hp : PsOk ps) {t : List Int} {l : List Ln} (h : Way ps s0 l t) : l.length ≤ ps.flatten.length := by
  obtain ⟨h1, h2⟩ := h.ok hp (SOk.start ps)
  have h3 := steps_le hp h1
  have h5 : steps s0 = 0 := by decide
  omega
end Go.Ex
/- Explore: slices.Contains over an owned row of states, also an empty one. -/
namespace Go.Proofs.YtfcellgjbbfobaaDoor
open Go.RowKit Go.Ex Go.Bf
theorem index31_nil {w : World} {x : List Int} (hx : KS.ok x) :
    Calls Tryd.prog 31 #[.slice none 0 0, .agg (x.map (Value.int .i64)).toArray] w fun e w' => e = .returned (.int .i64 (-1)) ∧ Keep [] w w' := by
  have HKA := Lib.hid ((Keep.refl [] w).alloc (.cells (x.map (Value.int .i64)).toArray 41))
  have HX := Lib.hid hx
  clear hx
  go_enter Tryd.func31, Tryd.ntmps31
  go_wp2_with fail
  go_loopw [8] (fun j wr => j = .int .i64 0 ∧ Hid (Keep [] w wr)) (fun j _ => 0)
  case atStart => exact ⟨rfl, HKA⟩
  case round =>
    obtain ⟨rfl, HK⟩ := hrel
    go_wp2_with fail
    go_ret
    exact ⟨rfl, HK.out⟩
theorem contains13_nil {w : World} {x : List Int} (hx : KS.ok x) :
    Calls Tryd.prog 13 #[.slice none 0 0, .agg (x.map (Value.int .i64)).toArray] w fun e w' => e = .returned (.bool false) ∧ Keep [] w w' := by
  have HKA := Lib.hid ((Keep.refl [] w).alloc (.cells (x.map (Value.int .i64)).toArray 41))
  have hxl := hx.1
  have HI := Lib.hid (index31_nil (w := w.alloc (.cells (x.map (Value.int .i64)).toArray 41)) hx)
  have HAX : Hid ((w.alloc (.cells (x.map (Value.int .i64)).toArray 41)).heap[w.heap.size]? = some (.cells (x.map (Value.int .i64)).toArray 41 (0, 0))) := Lib.hid (blk_new w _)
  have HI12 : Hid ((Tryd.prog.info? 41).map (·.size) = some (x.map (Value.int .i64)).toArray.size) := Lib.hid (by rw [info62]; simp [hxl])
  clear hx
  go_enter Tryd.func13, Tryd.ntmps13
  go_wp2_with (first | (with_reducible refine wpList_load_row rfl 41 _ rfl w.heap.size rfl 41 _ (0, 0) _ HAX.out Tryd.underlying41 rfl HI12.out ?_) | (go_at_call 31; refine HI.out.mono ?_; rintro e1 w1 ⟨rfl, hk1⟩; have HK1 := Lib.hid hk1; clear hk1))
  go_ret
  exact ⟨by first | rfl | (simp; done), HKA.out.trans HK1.out⟩
theorem contains13_own {w : World} {B : Nat} {v : Value} {E : List (List Int)} {x : List Int} {A : Bool} (ho : w.ownsRow B 41 12 v E.length (E.flatMap encS)) (hE : ∀ y ∈ E, KS.ok y) (hx : KS.ok x) (hn : E.length ≤ 1000000000) (hA : decide (x ∈ E) = A) :
    Calls Tryd.prog 13 #[v, .agg (x.map (Value.int .i64)).toArray] w fun e w' => e = .returned (.bool A) ∧ Keep [] w w' := by
  by_cases h0 : 0 < E.length
  · obtain ⟨g, c, rfl, hnc, hcm, _, _, hc⟩ := own_at ho h0
    exact contains29_any rfl hE hx hc hn hnc hcm hA
  · have he : E = [] := List.eq_nil_of_length_eq_zero (by omega)
    subst he
    have hv : v = .slice none 0 0 ∨ ∃ g c, v = .slice (some ⟨g, 0, none⟩) 0 c ∧ c ≤ 9223372036854775807 := by
      rcases ho.2 with ⟨h, _⟩ | ⟨g, cap, cur, h, _, _, _, hcm, _⟩
      · exact .inl h
      · exact .inr ⟨g, cap, h, hcm⟩
    have ha : A = false := by rw [← hA]; simp
    rw [ha]
    rcases hv with rfl | ⟨g, c, rfl, hcm⟩
    · exact contains13_nil hx
    · exact contains29_any rfl hE hx (fun j u hu => by simp at hu) (by simp) (by omega) hcm (by simp)
end Go.Proofs.YtfcellgjbbfobaaDoor
/- Explore: slices.ContainsFunc with ExploreOrders' closure (is it one of the rows seen). -/
namespace Go.Proofs.YtfcellgjbbfobaaDoor
open Go.RowKit
theorem clos15 {w : World} {g m yc n c : Nat} {ya a : Option Addr} {ys l : List Ln} (hb : w.heap[g]? = some (.cells #[.slice ya m yc] 44 (0, 0))) (hy : LnsV w ya m yc ys) (hl : LnsV w a n c l) :
    Calls Tryd.prog 15 #[.slice a n c, .pointer (some ⟨g, 0, none⟩)] w fun e w' => e = .returned (.bool (decide (ys = l))) ∧ Keep [] w w' := by
  have HE := Lib.hid (equal23_any hy hl)
  obtain ⟨b, hbd⟩ : ∃ b, decide (ys = l) = b := ⟨_, rfl⟩
  rw [hbd] at HE ⊢
  have hc : w.cell? ⟨g, 0, none⟩ = some (.slice ya m yc) := (cell_of_row w g _ _ _ _ hb).trans rfl
  have hlt := lt_of_blk hb
  clear hbd hy hl hb
  go_enter Tryd.func15, Tryd.ntmps15
  go_wp2_with (first | (with_reducible refine Txt.wp_region_text mixed quiet (by decide +kernel) ?_) | (with_reducible refine Txt.text_done (by kernel_rfl) ?_) | (go_at_call 16; (with_reducible refine HE.out.mono ?_); rintro e2 w2 ⟨rfl, hk2⟩; have HK2 := Lib.hid hk2; clear hk2))
  go_ret
  exact ⟨rfl, HK2.out⟩
set_option maxRecDepth 100000 in
set_option maxHeartbeats 1000000 in
theorem index32_no {w : World} {g m yc n2 c2 : Nat} {ya a2 : Option Addr} {ys : List Ln} {rs : List (List Ln)} (hb : w.heap[g]? = some (.cells #[.slice ya m yc] 44 (0, 0))) (hy : LnsV w ya m yc ys) (hh : RowsL w a2 n2 c2 rs) (hno : ys ∉ rs) :
    Calls Tryd.prog 32 #[.slice a2 n2 c2, .func (.func 15) #[] #[.pointer (some ⟨g, 0, none⟩)]] w fun e w' => e = .returned (.int .i64 (-1)) ∧ Keep [] w w' := by
  have HB := Lib.hid hb
  have HY := Lib.hid hy
  have HH := Lib.hid hh
  have HNO := Lib.hid hno
  have hcc := hh.room
  have hcm := hh.most
  clear hb hy hh hno
  go_enter Tryd.func32, Tryd.ntmps32
  go_wp2_with (first | (with_reducible refine Txt.wp_region_text mixed quiet (by decide +kernel) ?_) | (with_reducible refine Txt.text_done (by kernel_rfl) ?_))
  go_loopw [8] (fun j wr => ∃ i : Nat, i ≤ n2 ∧ j = .int .i64 i ∧ Hid (Keep [] w wr)) (fun j _ => n2 - (intOf j).toNat)
  case atStart => exact ⟨0, by omega, rfl, Lib.hid (Keep.refl _ _)⟩
  case round =>
    obtain ⟨i, hi, rfl, HK⟩ := hrel
    by_cases hlt : i < n2
    · obtain ⟨r, hr⟩ : ∃ r, rs[i]? = some r := ⟨_, List.getElem?_eq_getElem (by rw [HH.out.len]; exact hlt)⟩
      obtain ⟨b, off, ar, cr, rfl, hc, hlv⟩ := (HH.out.keep HK.out).at_ i r hr
      have HCX := Lib.hid (clos15 (HK.out.at HB.out (by simp)) (HY.out.keep HK.out (by simp)) hlv)
      rw [decide_eq_false (show ¬ ys = r from fun e => HNO.out (by rw [e]; exact List.mem_of_getElem? hr))] at HCX
      have hdec : decide ((i : Int) < (n2 : Int)) = true := by simp; omega
      clear hr hlv
      go_wp2_with (first | (with_reducible refine Txt.wp_region_text mixed quiet (by decide +kernel) ?_) | (with_reducible refine Txt.text_done (by kernel_rfl) ?_) | (go_at_call 15; (with_reducible refine HCX.out.mono ?_); rintro e w5 ⟨rfl, hk5⟩; have HK5 := Lib.hid (HK.out.trans hk5)))
      exact ⟨⟨i + 1, hlt, by go_num, HK5⟩, by simp [intOf]; omega⟩
    · obtain rfl : i = n2 := by omega
      have hdec : decide ((i : Int) < (i : Int)) = false := by simp
      go_wp2_with (first | (with_reducible refine Txt.wp_region_text mixed quiet (by decide +kernel) ?_) | (with_reducible refine Txt.text_done (by kernel_rfl) ?_))
      go_ret
      exact ⟨rfl, HK.out⟩
theorem contains14_no {w : World} {g m yc n2 c2 : Nat} {ya a2 : Option Addr} {ys : List Ln} {rs : List (List Ln)} (hb : w.heap[g]? = some (.cells #[.slice ya m yc] 44 (0, 0))) (hy : LnsV w ya m yc ys) (hh : RowsL w a2 n2 c2 rs) (hno : ys ∉ rs) :
    Calls Tryd.prog 14 #[.slice a2 n2 c2, .func (.func 15) #[] #[.pointer (some ⟨g, 0, none⟩)]] w fun e w' => e = .returned (.bool false) ∧ Keep [] w w' := by
  have HC := Lib.hid (index32_no hb hy hh hno)
  clear hb hy hh hno
  go_enter Tryd.func14, Tryd.ntmps14
  go_wp2_with (first | (with_reducible refine Txt.wp_region_text mixed quiet (by decide +kernel) ?_) | (with_reducible refine Txt.text_done (by kernel_rfl) ?_) | (go_at_call 32; (with_reducible refine HC.out.mono ?_); rintro e w5 ⟨rfl, hk5⟩))
  go_ret
  exact ⟨by first | rfl | (simp; done), hk5⟩
end Go.Proofs.YtfcellgjbbfobaaDoor
/- Part: slices.Delete of one step. -/
namespace Go
open Go.RowKit
theorem lanesC_len3 (l : List Ln) : (lanesC l).length = l.length * 3 := by rw [lanesC_len, Nat.mul_comm]
theorem lanesC_app3 (a b : List Ln) : lanesC (a ++ b) = lanesC a ++ lanesC b := by simp [lanesC]
theorem lanesC_take3 (l : List Ln) (k : Nat) : (lanesC l).take (k * 3) = lanesC (l.take k) := by
  by_cases hk : k ≤ l.length
  · have h := congrArg lanesC (List.take_append_drop k l)
    rw [lanesC_app3] at h
    rw [← h, List.take_left' (by rw [lanesC_len3, List.length_take]; omega)]
  · rw [List.take_of_length_le (by rw [lanesC_len3]; omega), List.take_of_length_le (by omega)]
theorem lanesC_drop3 (l : List Ln) (k : Nat) : (lanesC l).drop (k * 3) = lanesC (l.drop k) := by
  by_cases hk : k ≤ l.length
  · have h := congrArg lanesC (List.take_append_drop k l)
    rw [lanesC_app3] at h
    rw [← h, List.drop_left' (by rw [lanesC_len3, List.length_take]; omega)]
  · rw [List.drop_of_length_le (by rw [lanesC_len3]; omega), List.drop_of_length_le (by omega)]; rfl
end Go
namespace Go.Proofs.YtfcellgjbbfobaaDoor
open Go.RowKit
theorem zero29 : ∀ w, (zeroValue 52).run Tryd.prog w = .ok (.agg #[.int .i64 0, .int .i64 0, .int .i64 0]) w := fun w => by kernel_rfl
set_option maxRecDepth 100000 in
set_option maxHeartbeats 2000000 in
theorem delete38_any {B i : Nat} {v : Value} {l : List Ln} {w : World} (ho : w.ownsRow B 52 3 v l.length (lanesC l)) (hi : i < l.length) (hl : l.length ≤ 100000) :
    Calls Tryd.prog 30 #[v, .int .i64 i, .int .i64 ((i : Int) + 1)] w fun e w' => ∃ v', e = .returned v' ∧ v'.ownBlock = v.ownBlock ∧ Keep v.ownBlock.toList w w' ∧ w'.ownsRow B 52 3 v' (l.length - 1) (lanesC (l.eraseIdx i)) := by
  obtain ⟨i0, hi0, hz0, hz1, hz2⟩ := infoQ info29
  rcases ho.2 with ⟨_, h0⟩ | ⟨g, cap, cur, rfl, hb, hg, hnc, hcm, hcs, ht⟩
  · omega
  obtain ⟨k, hk⟩ : ∃ k, l.length = k + 1 := ⟨l.length - 1, by omega⟩
  rw [hk] at hi hl hnc ht
  have hcurl : (k + 1) * 3 ≤ cur.toList.length := by rw [Array.length_toList, hcs]; omega
  have HNEWS : Hid (∀ j u, (lanesC (l.drop (i + 1)))[j]? = some u → w.drew.cell? ((⟨g, (i + 1) * 3, none⟩ : Addr).add j) = some u) := Lib.hid (fun j u hu => by
    rw [Go.WideShapes.add_plain]
    show w.cell? ⟨g, (i + 1) * 3 + j, none⟩ = some u
    rw [cell_of_row w g _ cur 52 (0, 0) hg, ← hu, ← lanesC_drop3, ← ht, List.getElem?_drop, List.getElem?_take]
    have hj := (List.getElem?_eq_some_iff.1 hu).1
    rw [lanesC_len3, List.length_drop, hk] at hj
    rw [if_pos (by omega)]
    simp)
  have HLEN : Hid ((lanesC (l.drop (i + 1))).length = (k - i) * 3) := Lib.hid (by rw [lanesC_len3, List.length_drop, hk]; congr 1; omega)
  have HONE : Hid (∀ u ∈ lanesC (l.drop (i + 1)), u.oneCell' = true) := Lib.hid (fun u hu => by
    exact lanesOne u hu)
  have HG := Lib.hid hg
  have HT := Lib.hid ht
  have HCS := Lib.hid hcs
  have HB := Lib.hid hb
  have hcm' := hcm
  unfold maxLen at hcm'
  clear ho hb hg ht
  have HTI : Hid (cur.toList.take (i * 3) = lanesC (l.take i)) := Lib.hid (by
    rw [← lanesC_take3, ← HT.out, List.take_take, Nat.min_eq_left (by omega)])
  have HSZ : Hid ((cur.toList.take (i * 3) ++ (lanesC (l.drop (i + 1)) ++ cur.toList.drop (i * 3 + (lanesC (l.drop (i + 1))).length))).length = cap * 3) := Lib.hid (by
    rw [List.length_append, List.length_append, HLEN.out, List.length_take, List.length_drop, Array.length_toList, HCS.out]
    omega)
  have HER : Hid (∀ L : List Value, ((cur.toList.take (i * 3) ++ (lanesC (l.drop (i + 1)) ++ cur.toList.drop (i * 3 + (lanesC (l.drop (i + 1))).length))).take (k * 3) ++ L).take (k * 3) = lanesC (l.eraseIdx i)) := Lib.hid (fun L => by
    have h1 : (cur.toList.take (i * 3)).length = i * 3 := by rw [List.length_take, Array.length_toList, HCS.out]; omega
    have h2 : ((cur.toList.take (i * 3) ++ (lanesC (l.drop (i + 1)) ++ cur.toList.drop (i * 3 + (lanesC (l.drop (i + 1))).length))).take (k * 3)).length = k * 3 := by rw [List.length_take, HSZ.out]; omega
    rw [List.take_left' h2, ← List.append_assoc, List.take_left' (by rw [List.length_append, h1, HLEN.out]; omega), HTI.out, ← lanesC_app3, List.eraseIdx_eq_take_drop_succ])
  have HZ1 : Hid (∀ u ∈ (Value.agg #[.int .i64 0, .int .i64 0, .int .i64 0]).cells, u.oneCell' = true) := Lib.hid (by
    intro u hu
    simp [Value.cells] at hu
    subst hu; rfl)
  rw [hk]
  have e1 : i + (k - i) = k := by omega
  have HFIT : Hid (k * 3 + (0 + 1) * (Value.agg #[.int .i64 0, .int .i64 0, .int .i64 0]).cells.size ≤ (cur.toList.take (i * 3) ++ (lanesC (l.drop (i + 1)) ++ cur.toList.drop (i * 3 + (lanesC (l.drop (i + 1))).length))).toArray.size) := Lib.hid (by
    show k * 3 + (0 + 1) * 3 ≤ (List.toArray _).size
    rw [List.size_toArray, HSZ.out]
    omega)
  by_cases hcap : cap = i + 1
  · subst hcap
    have hik : i = k := by omega
    subst hik
    have HNIL : Hid (lanesC (l.drop (i + 1)) = []) := Lib.hid (by rw [List.drop_eq_nil_of_le (by omega)]; rfl)
    have HL0 : Hid ((lanesC (l.drop (i + 1))).length = 0 * 3) := Lib.hid (by rw [HNIL.out]; rfl)
    have HN0 : Hid (∀ j u, (lanesC (l.drop (i + 1)))[j]? = some u → w.drew.cell? ((⟨g, 0, none⟩ : Addr).add j) = some u) := Lib.hid (fun j u hu => by rw [HNIL.out] at hu; simp at hu)
    go_enter Tryd.func30, Tryd.ntmps30
    go_wp2_with (first | (with_reducible refine Txt.wp_region_text mixed quiet (by decide +kernel) ?_) | (with_reducible refine Txt.text_done (by kernel_rfl) ?_) | (at_builtin; refine wpList_append_room rfl _ _ 44 rfl 52 i0 Tryd.underlying44 hi0 3 hz1 g i (i + 1) cur HG.out rfl ⟨g, 0, none⟩ 0 0 (lanesC (l.drop (i + 1))) rfl HL0.out HN0.out HONE.out (by omega) (by rw [HL0.out]; omega) ?_) | (refine wpList_clear_row rfl _ 44 rfl 52 _ Tryd.underlying44 zero29 HZ1.out g (i * 3) 0 _ _ (setRow_heap w.drew g cur _ 52 (0, 0) HG.out) rfl HFIT.out ?_; intro L hL))
    go_ret
    have hL5 : L.length = 3 := by rw [hL]; try rfl
    refine ⟨.slice (some ⟨g, 0, none⟩) i (i + 1), rfl, rfl, (((Keep.refl [g] w).drew).trans (keep_setRow _ _ _)).trans (keep_setRow _ _ _), ?_, .inr ⟨g, (i + 1), _, rfl, HB.out, setRow_heap _ g _ _ 52 (0, 0) (setRow_heap w.drew g cur _ 52 (0, 0) HG.out), by omega, hcm, ?_, ?_⟩⟩
    · rw [lanesC_len3, List.length_eraseIdx, if_pos (by omega), hk]
    · rw [List.size_toArray, List.length_append, List.length_append, List.length_take, List.length_drop, HSZ.out, hL5]; omega
    · have h1 : (cur.toList.take (i * 3)).length = i * 3 := by rw [List.length_take, Array.length_toList, HCS.out]; omega
      show List.take (i * 3) (List.take (i * 3) cur.toList ++ _) = _
      rw [List.take_left' h1, HTI.out, List.eraseIdx_eq_take_drop_succ, lanesC_app3, HNIL.out, List.append_nil]
  · go_enter Tryd.func30, Tryd.ntmps30
    go_wp2_with (first | (with_reducible refine Txt.wp_region_text mixed quiet (by decide +kernel) ?_) | (with_reducible refine Txt.text_done (by kernel_rfl) ?_) | (at_builtin; refine wpList_append_room rfl _ _ 44 rfl 52 i0 Tryd.underlying44 hi0 3 hz1 g i cap cur HG.out rfl ⟨g, (i + 1) * 3, none⟩ (k - i) (cap - (i + 1)) (lanesC (l.drop (i + 1))) rfl HLEN.out HNEWS.out HONE.out (by omega) (by rw [HLEN.out]; omega) ?_) | (refine wpList_clear_row rfl _ 44 rfl 52 _ Tryd.underlying44 zero29 HZ1.out g (k * 3) 0 _ _ (setRow_heap w.drew g cur _ 52 (0, 0) HG.out) rfl HFIT.out ?_; intro L hL))
    go_ret
    have hL5 : L.length = 3 := by rw [hL]; try rfl
    refine ⟨.slice (some ⟨g, 0, none⟩) k cap, rfl, rfl, (((Keep.refl [g] w).drew).trans (keep_setRow _ _ _)).trans (keep_setRow _ _ _), ?_, .inr ⟨g, cap, _, rfl, HB.out, setRow_heap _ g _ _ 52 (0, 0) (setRow_heap w.drew g cur _ 52 (0, 0) HG.out), by omega, hcm, ?_, ?_⟩⟩
    · rw [lanesC_len3, List.length_eraseIdx, if_pos (by omega), hk]
    · rw [List.size_toArray, List.length_append, List.length_append, List.length_take, List.length_drop, HSZ.out, hL5]; omega
    · exact HER.out _
end Go.Proofs.YtfcellgjbbfobaaDoor
