import Derived.Test.YtmkdppbnmogmlaaGP7
namespace Go
open Go.RowKit
theorem newG8 (m : Nat) (hm : m < 9) : lat (newG 8 5 8).rs m = if m = 8 then ⟨8, 0, 1⟩ else ⟨0, 0, 0⟩ := by
  rw [newG, lat_set _ _ _ _ (by simp)]
  by_cases e : 8 = m
  · rw [if_pos e, if_pos e.symm]
  · rw [if_neg e, if_neg (fun h => e h.symm), lat, List.getD_eq_getElem?_getD, List.getElem?_replicate, if_pos hm]; rfl
theorem newG8_ok : GOk 8 0 (newG 8 5 8) := by
  refine ⟨⟨by simp [newG], by simp [newG]⟩, rfl, by omega, by omega, by simp [newG], by simp [newG], by omega, by omega, fun m hm => ?_, ?_, fun m hm => ?_⟩
  · rw [newG8 m hm]
    split
    · rename_i h; right; subst h; simp
    · exact .inl rfl
  · rw [newG8 8 (by omega)]; simp
  · rw [newG8 m hm]
    have : (newG 8 5 8).ts.getD m 0 = 0 := by
      simp only [newG, List.getD_eq_getElem?_getD, List.getElem?_replicate]; split <;> rfl
    rw [this]
    refine ⟨by omega, by omega, fun h => ?_⟩
    split at h <;> simp at h
/-- Node 8 has heard the nodes of S, and knows of each of four nodes the newest that they say. -/
structure Heard (gs : List Gs) (S : Nat → Prop) (B : Int) (g : Gs) : Prop where
  ok : GOk 8 B g
  row : ∀ m, 1 ≤ m → m ≤ 4 → ((∀ k, ¬ S k) ∧ lat g.rs m = ⟨0, 0, 0⟩) ∨ ∃ k, k < 4 ∧ lat g.rs m = lat (gat gs k).rs m ∧ ∀ k', S k' → newerB (lat (gat gs k').rs m) (lat g.rs m) = false
  r8 : lat g.rs 8 = ⟨8, 0, 1⟩
  rest : ∀ m, m < 9 → m = 0 ∨ (4 < m ∧ m < 8) → lat g.rs m = ⟨0, 0, 0⟩
theorem newerB_refl (a : Ln) : newerB a a = false := by simp [newerB]
theorem newerB_trans {a b c : Ln} (h1 : newerB a b = false) (h2 : newerB c b = true) : newerB a c = false := by
  unfold newerB at *
  simp only [Bool.or_eq_false_iff, Bool.and_eq_false_iff, decide_eq_false_iff_not, Bool.or_eq_true, Bool.and_eq_true, decide_eq_true_eq] at *
  omega
theorem heard_start (gs : List Gs) : Heard gs (fun _ => False) 0 (newG 8 5 8) :=
  ⟨newG8_ok, fun m h1 h2 => .inl ⟨fun _ h => h, by rw [newG8 m (by omega), if_neg (by omega)]⟩, by rw [newG8 8 (by omega), if_pos rfl], fun m hm h => by rw [newG8 m hm, if_neg (by omega)]⟩
theorem Heard.hear {gs : List Gs} {S : Nat → Prop} {B B' : Int} {g : Gs} (h : Heard gs S B g) (hn : NetOk 4 B' gs) (hB : B' ≤ B) (hM : B + 1 ≤ 1099511627776) {k : Nat} (hk : k < 4) :
    Heard gs (fun x => S x ∨ x = k) (B + 1) (mergeG g (stateL (gat gs k).rs)) := by
  obtain ⟨ok, fk⟩ := hn.ok k hk
  have hl := merge_lat h.ok.len ok.len ok.qs
  refine ⟨ok_merge h.ok ok hB hM, fun m h1 h4 => ?_, ?_, fun m hm hz => ?_⟩
  · have hq := (fk m (by omega)).2 ⟨h1, h4⟩
    have hqm := ok.qs m (by omega) hq
    rw [hl m (by omega), if_pos hq]
    right
    have hup : upd g.me (lat g.rs m) (lat (gat gs k).rs m) = if (lat g.rs m).q ≠ 0 ∧ newerB (lat (gat gs k).rs m) (lat g.rs m) = false then lat g.rs m else lat (gat gs k).rs m := by
      unfold upd
      split
      · rfl
      · rw [if_neg]
        intro hx
        rw [hqm, h.ok.mine] at hx
        omega
    rw [hup]
    rcases h.row m h1 h4 with ⟨hs, hz⟩ | ⟨k0, hk0, hr, hall⟩
    · rw [if_neg (fun hx => hx.1 (by rw [hz]))]
      refine ⟨k, hk, rfl, fun k' hk' => ?_⟩
      rcases hk' with hk' | hk'
      · exact absurd hk' (hs k')
      · rw [hk']; exact newerB_refl _
    · split
      · rename_i hx
        refine ⟨k0, hk0, hr, fun k' hk' => ?_⟩
        rcases hk' with hk' | hk'
        · exact hall k' hk'
        · rw [hk']; exact hx.2
      · rename_i hx
        have hnew : newerB (lat (gat gs k).rs m) (lat g.rs m) = true := by
          cases hy : newerB (lat (gat gs k).rs m) (lat g.rs m) with
          | true => rfl
          | false =>
            refine absurd ⟨?_, hy⟩ hx
            rw [hr]
            exact ((hn.ok k0 hk0).2 m (by omega)).2 ⟨h1, h4⟩
        refine ⟨k, hk, rfl, fun k' hk' => ?_⟩
        rcases hk' with hk' | hk'
        · exact newerB_trans (hall k' hk') hnew
        · rw [hk']; exact newerB_refl _
  · have hq : ¬ (lat (gat gs k).rs 8).q ≠ 0 := fun hx => by have := (fk 8 (by omega)).1 hx; omega
    rw [hl 8 (by omega), if_neg hq]; exact h.r8
  · have hq : ¬ (lat (gat gs k).rs m).q ≠ 0 := fun hx => by have := (fk m hm).1 hx; omega
    rw [hl m hm, if_neg hq]; exact h.rest m hm hz
theorem Heard.congr {gs : List Gs} {S S' : Nat → Prop} {B B' : Int} {g : Gs} (h : Heard gs S B g) (hS : ∀ k, S' k ↔ S k) (hB : B ≤ B') (hM : B' ≤ 1099511627776) : Heard gs S' B' g :=
  ⟨h.ok.more hB hM, fun m h1 h4 => by
    rcases h.row m h1 h4 with ⟨hs, hz⟩ | ⟨k, hk, hr, hall⟩
    · exact .inl ⟨fun k hk => hs k ((hS k).1 hk), hz⟩
    · exact .inr ⟨k, hk, hr, fun k' hk' => hall k' ((hS k').1 hk')⟩, h.r8, h.rest⟩
/-- Whoever has heard all four knows the same. -/
theorem heard_same {gs : List Gs} {S S' : Nat → Prop} {B B' B0 : Int} {a b : Gs} (hn : NetOk 4 B0 gs) (ha : Heard gs S B a) (hb : Heard gs S' B' b) (hS : ∀ k, k < 4 → S k) (hS' : ∀ k, k < 4 → S' k) : a.rs = b.rs := by
  refine lat_ext (by rw [ha.ok.len.1, hb.ok.len.1]) fun m hm => ?_
  rw [ha.ok.len.1] at hm
  by_cases h14 : 1 ≤ m ∧ m ≤ 4
  · rcases ha.row m h14.1 h14.2 with ⟨h1, _⟩ | ⟨k, hk, hr, hall⟩
    · exact absurd (hS 0 (by omega)) (h1 0)
    · rcases hb.row m h14.1 h14.2 with ⟨h1, _⟩ | ⟨k', hk', hr', hall'⟩
      · exact absurd (hS' 0 (by omega)) (h1 0)
      · have e1 := hall k' (hS k' hk')
        have e2 := hall' k (hS' k hk)
        rw [hr] at e1
        rw [hr'] at e2
        have q1 := (hn.ok k hk).1.qs m hm (((hn.ok k hk).2 m hm).2 h14)
        have q2 := (hn.ok k' hk').1.qs m hm (((hn.ok k' hk').2 m hm).2 h14)
        rw [hr, hr']
        generalize lat (gat gs k).rs m = X at *
        generalize lat (gat gs k').rs m = Y at *
        obtain ⟨q, t, u⟩ := X
        obtain ⟨q', t', u'⟩ := Y
        unfold newerB at e1 e2
        simp only [Bool.or_eq_false_iff, Bool.and_eq_false_iff, decide_eq_false_iff_not] at e1 e2
        dsimp only at *
        simp only [Ln.mk.injEq]
        omega
  · by_cases h8 : m = 8
    · rw [h8, ha.r8, hb.r8]
    · rw [ha.rest m hm (by omega), hb.rest m hm (by omega)]
theorem self_merge {i : Nat} {B : Int} {g : Gs} (h : GOk i B g) : (mergeG g (stateL g.rs)).rs = g.rs := by
  have hl := merge_lat h.len h.len h.qs
  refine lat_ext (by rw [(merge_len h.len h.len h.qs).1, h.len.1]) fun m hm => ?_
  rw [(merge_len h.len h.len h.qs).1] at hm
  rw [hl m hm]
  split
  · rename_i hq; exact upd_same _ _ hq
  · rfl
end Go
