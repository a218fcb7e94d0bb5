import Derived.Test.YtmdfkbckpekchaaK11
namespace Go
theorem nextGo_congr {a b : List Ln} {t n : Nat} (h : ∀ x, (lat a x).q = (lat b x).q) : ∀ (m k : Nat), nextGo a t n m k = nextGo b t n m k := by
  intro m
  induction m with
  | zero => intro k; rfl
  | succ m ih =>
    intro k
    have := h ((t + k) % n)
    simp only [lat] at this
    rw [nextGo, nextGo, this, ih]
theorem nextL_congr {a b : List Ln} {t : Nat} (hl : a.length = b.length) (h : ∀ x, (lat a x).q = (lat b x).q) : nextL a t = nextL b t := by
  rw [nextL, nextL, hl]; exact nextGo_congr h _ _
theorem lat_give (ls : List Ln) (j x : Nat) (hj : j < ls.length) : lat (give ls j) x = if j = x then ⟨(lat ls j).q - 1, (lat ls j).g + 1, (lat ls j).u⟩ else lat ls x := lat_set ls j x _ hj
def after (ls : List Ln) (t : Nat) : List Ln × Nat := match nextL ls t with
  | none => (ls, t)
  | some j => (give ls j, (j + 1) % ls.length)
theorem grantGo_none {ls : List Ln} {t : Nat} (h : nextL ls t = none) (m : Nat) : grantGo m ls t = (ls, t) := by
  cases m with
  | zero => rfl
  | succ m => rw [grantGo, h]
theorem grantGo_one (ls : List Ln) (t : Nat) : grantGo 1 ls t = after ls t := by
  rw [grantGo, after]
  cases nextL ls t <;> rfl
/-- What counts beyond one lane's most. -/
def ee (ls : List Ln) : Int := if 64 < sq ls then sq ls - 64 else 0
end Go
namespace Go.Proofs.Ytmdfkbckpekchaa
open Go.RowKit
def Fine (room : Int) (n t : Nat) (ls : List Ln) : Prop := PoolOk room n t ls ∧ Done room ls
theorem PoolOk.sq0 {room : Int} {n t : Nat} {ls : List Ln} (h : PoolOk room n t ls) : ∀ l ∈ ls, 0 ≤ l.q := fun l hl => (h.ok l hl).1
theorem PoolOk.hold0 {room : Int} {n t : Nat} {ls : List Ln} (h : PoolOk room n t ls) (x : Nat) : 0 ≤ hold ls x := by
  have := getD_ok h.ok x; unfold LnOk at this; unfold hold lat; omega
theorem next_none_sq {room : Int} {n t : Nat} {ls : List Ln} (h : PoolOk room n t ls) (hn : nextL ls t = none) : sq ls = 0 := by
  refine tot_zero fun l hl => ?_
  obtain ⟨i, hi, rfl⟩ := mem_lat hl
  have h1 := nextL_none (by rw [h.len]; exact h.turn) hn i hi
  have h2 := (getD_ok h.ok i).1
  unfold lat; omega
theorem free_after {room : Int} {n t : Nat} {ls : List Ln} (h : Fine room n t ls) {i : Nat} (hi : i < n) :
    grantL room (ls.set i ⟨(lat ls i).q, (lat ls i).g, (lat ls i).u - 1⟩) t = after (ls.set i ⟨(lat ls i).q, (lat ls i).g, (lat ls i).u - 1⟩) t := by
  have hil : i < ls.length := by rw [h.1.len]; exact hi
  cases hn : nextL (ls.set i ⟨(lat ls i).q, (lat ls i).g, (lat ls i).u - 1⟩) t with
  | none => rw [grantL, grantGo_none hn, after, hn]
  | some j =>
    have hq : ∀ x, (lat (ls.set i ⟨(lat ls i).q, (lat ls i).g, (lat ls i).u - 1⟩) x).q = (lat ls x).q := fun x => by
      rw [lat_set _ _ _ _ hil]; split
      · rename_i e; subst e; rfl
      · rfl
    have hj := nextL_lt hn
    rw [hq j, List.length_set] at hj
    have hr : Go.held ls = room := by
      rcases h.2 with h1 | h1
      · exact h1
      · have := h1 _ (lat_mem hj.1); omega
    rw [grantL, held_set _ _ _ hil, show (room - (Go.held ls - ((ls.getD i ⟨0, 0, 0⟩).g + (ls.getD i ⟨0, 0, 0⟩).u) + ((lat ls i).g + ((lat ls i).u - 1)))).toNat = 1 by simp only [lat]; omega, grantGo_one]
/-- Within a round: k things done, of which e took from what counts. -/
structure Mid (n i : Nat) (a : List Ln) (t0 : Nat) (ls : List Ln) (t : Nat) (k e : Int) : Prop where
  phi : phi ls = Go.phi a - k
  lo : 0 ≤ e
  le : e ≤ k
  E : ee ls = ee a - e
  A : k = 0 → ls = a ∧ t = t0 ∧ ∀ x, x < i → hold a x = 0
  C : 1 ≤ e → 64 < sq ls → ∃ c, c < n ∧ t = (c + 1) % n ∧ 0 < hold ls c
  D : k = 1 → e = 0 → 64 < sq ls → t = t0 ∧ (∀ x, (lat ls x).q = (lat a x).q) ∧ ∀ x, hold ls x = hold a x
  F : k = 1 → e = 1 → ∃ c j, c < i ∧ 0 < hold a c ∧ (∀ x, x < i → x ≠ c → hold a x = 0) ∧ nextL a t0 = some j ∧ t = (j + 1) % n ∧
    (∀ x, hold ls x = hold a x + (if x = j then 1 else 0) - (if x = c then 1 else 0)) ∧ (∀ x, (lat ls x).q = (lat a x).q - (if x = j then 1 else 0)) ∧ (j ≤ c ∨ i ≤ j) ∧ 64 < sq a
theorem Mid.start (n : Nat) (a : List Ln) (t0 : Nat) : Mid n 0 a t0 a t0 0 0 :=
  ⟨by omega, by omega, by omega, by omega, fun _ => ⟨rfl, rfl, fun x h => absurd h (by omega)⟩, fun h => absurd h (by omega), fun h => absurd h (by omega), fun h => absurd h (by omega)⟩
section
variable {room : Int} {n i : Nat} {a ls : List Ln} {t0 t : Nat} {k e : Int}
theorem Mid.none (m : Mid n i a t0 ls t k e) (h0 : PoolOk room n t0 a) (hh : hold ls i = 0) : Mid n (i + 1) a t0 ls t k e := by
  refine ⟨m.phi, m.lo, m.le, m.E, fun hk => ?_, m.C, m.D, fun hk he => ?_⟩
  · obtain ⟨h1, h2, h3⟩ := m.A hk
    refine ⟨h1, h2, fun x hx => ?_⟩
    by_cases hxi : x = i
    · rw [hxi, ← h1]; exact hh
    · exact h3 x (by omega)
  · obtain ⟨c, j, h1, h2, h3, h4, h5, h6, h7, h8, h9⟩ := m.F hk he
    have h10 := h6 i
    have h11 := h0.hold0 i
    rw [hh, if_neg (show ¬ i = c by omega)] at h10
    by_cases hij : i = j
    · rw [if_pos hij] at h10; omega
    · rw [if_neg hij] at h10
      refine ⟨c, j, by omega, h2, fun x hx hxc => ?_, h4, h5, h6, h7, by omega, h9⟩
      by_cases hxi : x = i
      · rw [hxi]; omega
      · exact h3 x (by omega) hxc
theorem Mid.use (m : Mid n i a t0 ls t k e) (h : PoolOk room n t ls) (hi : i < n) : Mid n (i + 1) a t0 (ls.set i ⟨(lat ls i).q, (lat ls i).g - 1, (lat ls i).u + 1⟩) t (k + 1) e := by
  have hil : i < ls.length := by rw [h.len]; exact hi
  have hq : ∀ x, (lat (ls.set i ⟨(lat ls i).q, (lat ls i).g - 1, (lat ls i).u + 1⟩) x).q = (lat ls x).q := fun x => by
    rw [lat_set _ _ _ _ hil]; split
    · rename_i e; subst e; rfl
    · rfl
  have hh : ∀ x, hold (ls.set i ⟨(lat ls i).q, (lat ls i).g - 1, (lat ls i).u + 1⟩) x = hold ls x := fun x => by
    unfold hold
    rw [lat_set _ _ _ _ hil]; split
    · rename_i e; subst e; dsimp only; omega
    · rfl
  have hs : sq (ls.set i ⟨(lat ls i).q, (lat ls i).g - 1, (lat ls i).u + 1⟩) = sq ls := by
    unfold sq; rw [tot_set _ _ _ _ hil]; dsimp only; omega
  refine ⟨?_, m.lo, by have := m.le; omega, ?_, fun hk => ?_, fun he hsq => ?_, fun hk he hsq => ?_, fun hk he => ?_⟩
  · have := m.phi
    unfold Go.phi at this ⊢; rw [tot_set _ _ _ _ hil]; dsimp only; omega
  · have := m.E
    unfold ee at this ⊢; rw [hs]; exact this
  · have := m.le; have := m.lo; omega
  · rw [hs] at hsq
    obtain ⟨c, h1, h2, h3⟩ := m.C he hsq
    exact ⟨c, h1, h2, by rw [hh]; exact h3⟩
  · obtain ⟨h1, h2, h3⟩ := m.A (by omega)
    exact ⟨h2, fun x => by rw [hq, h1], fun x => by rw [hh, h1]⟩
  · have := m.le; omega
theorem Mid.free (m : Mid n i a t0 ls t k e) (h : Fine room n t ls) (hi : i < n) (hg : (lat ls i).g = 0) (hu : 0 < (lat ls i).u) :
    ∃ e', Mid n (i + 1) a t0 (after (ls.set i ⟨(lat ls i).q, (lat ls i).g, (lat ls i).u - 1⟩) t).1 (after (ls.set i ⟨(lat ls i).q, (lat ls i).g, (lat ls i).u - 1⟩) t).2 (k + 1) e' := by
  have hil : i < ls.length := by rw [h.1.len]; exact hi
  have hq : ∀ x, (lat (ls.set i ⟨(lat ls i).q, (lat ls i).g, (lat ls i).u - 1⟩) x).q = (lat ls x).q := fun x => by
    rw [lat_set _ _ _ _ hil]; split
    · rename_i e; subst e; rfl
    · rfl
  have hh : ∀ x, hold (ls.set i ⟨(lat ls i).q, (lat ls i).g, (lat ls i).u - 1⟩) x = hold ls x - (if x = i then 1 else 0) := fun x => by
    unfold hold
    rw [lat_set _ _ _ _ hil]
    by_cases e : i = x
    · subst e; rw [if_pos rfl, if_pos rfl]; dsimp only; omega
    · rw [if_neg e, if_neg (fun h => e h.symm)]; omega
  have hs : sq (ls.set i ⟨(lat ls i).q, (lat ls i).g, (lat ls i).u - 1⟩) = sq ls := by
    unfold sq; rw [tot_set _ _ _ _ hil]; dsimp only; omega
  have hp : Go.phi (ls.set i ⟨(lat ls i).q, (lat ls i).g, (lat ls i).u - 1⟩) = Go.phi ls - 1 := by
    unfold Go.phi; rw [tot_set _ _ _ _ hil]; dsimp only; omega
  have hl : (ls.set i ⟨(lat ls i).q, (lat ls i).g, (lat ls i).u - 1⟩).length = n := by rw [List.length_set, h.1.len]
  have hnx : nextL (ls.set i ⟨(lat ls i).q, (lat ls i).g, (lat ls i).u - 1⟩) t = nextL ls t := nextL_congr (by simp) hq
  have mp := m.phi
  have mE := m.E
  have mle := m.le
  have mlo := m.lo
  generalize ls.set i ⟨(lat ls i).q, (lat ls i).g, (lat ls i).u - 1⟩ = ls1 at *
  cases hn : nextL ls t with
  | none =>
    have h0 := next_none_sq h.1 hn
    rw [after, hnx, hn]
    dsimp only
    refine ⟨e, by omega, m.lo, by omega, ?_, fun hk => by omega, fun he hsq => by omega, fun hk he hsq => by omega, fun hk he => by omega⟩
    unfold ee at mE ⊢; rw [hs]; exact mE
  | some j =>
    have hj := nextL_lt hn
    have hjn : j < ls1.length := by rw [hl, ← h.1.len]; exact hj.1
    rw [after, hnx, hn]
    dsimp only
    have hq2 : ∀ x, (lat (give ls1 j) x).q = (lat ls x).q - (if x = j then 1 else 0) := fun x => by
      rw [lat_give _ _ _ hjn]
      by_cases e : j = x
      · subst e; rw [if_pos rfl, if_pos rfl]; dsimp only; rw [hq]
      · rw [if_neg e, if_neg (fun h => e h.symm), hq]; omega
    have hh2 : ∀ x, hold (give ls1 j) x = hold ls x + (if x = j then 1 else 0) - (if x = i then 1 else 0) := fun x => by
      have := hh x
      unfold hold at this ⊢
      rw [lat_give _ _ _ hjn]
      by_cases e : j = x
      · subst e; rw [if_pos rfl, if_pos rfl]; dsimp only; omega
      · rw [if_neg e, if_neg (fun h => e h.symm)]; omega
    have hs2 : sq (give ls1 j) = sq ls - 1 := by
      unfold sq at hs ⊢; rw [give, tot_set _ _ _ _ hjn]; dsimp only [lat]; omega
    have hp2 : Go.phi (give ls1 j) = Go.phi ls - 1 := by
      unfold Go.phi at hp ⊢; rw [give, tot_set _ _ _ _ hjn]; dsimp only [lat]; omega
    refine ⟨e + (if 64 < sq ls then 1 else 0), by omega, by split <;> omega, by split <;> omega, ?_, fun hk => by omega, fun he hsq => ?_, fun hk he hsq => ?_, fun hk he => ?_⟩
    · unfold ee at mE ⊢
      rw [hs2]
      by_cases h1 : 64 < sq ls
      · rw [if_pos h1] at mE ⊢
        by_cases h2 : 64 < sq ls - 1
        · rw [if_pos h2]; omega
        · rw [if_neg h2]; omega
      · rw [if_neg h1] at mE ⊢
        rw [if_neg (by omega)]; omega
    · refine ⟨j, by rw [← hl]; exact hjn, by rw [hl], ?_⟩
      have h1 := hh2 j
      have h2 := h.1.hold0 j
      rw [if_pos rfl] at h1
      by_cases hji : j = i
      · subst hji
        have : hold ls j = (lat ls j).u := by unfold hold; omega
        rw [if_pos rfl] at h1; omega
      · rw [if_neg hji] at h1; omega
    · rw [if_pos (by omega)] at he; omega
    · have h64 : 64 < sq ls := by
        by_cases h1 : 64 < sq ls
        · exact h1
        · rw [if_neg h1] at he; omega
      obtain ⟨h1, h2, h3⟩ := m.A (by omega)
      subst h1 h2
      refine ⟨i, j, by omega, by unfold hold; omega, fun x hx hxi => h3 x (by omega), hn, by rw [hl], hh2, hq2, by omega, h64⟩
end
/-- The step that one round may be behind. -/
def Valid (n : Nat) (p : Int) (ls : List Ln) (t : Nat) : Prop :=
  0 ≤ p ∧ p ≤ 2 ∧ (64 < sq ls → ∀ c, c < n → 0 < hold ls c → (∀ x, x < n → x ≠ c → hold ls x = 0) →
    (p = 0 → ∃ j, nextL ls t = some j ∧ c < j) ∧ (p = 1 → (∃ j, nextL ls t = some j ∧ c < j) ∨ t = (c + 1) % n))
theorem sq_one {room : Int} {n t : Nat} {ls : List Ln} (h : PoolOk room n t ls) (c : Nat) (hc : c < n) (hs : 64 < sq ls) : ∃ d, d < n ∧ d ≠ c ∧ 0 < (lat ls d).q := by
  refine Classical.byContradiction fun hno => ?_
  have hcl : c < ls.length := by rw [h.len]; exact hc
  have h1 := tot_set (fun l => l.q) ls c ⟨0, 0, 0⟩ hcl
  have h2 : tot (fun l => l.q) (ls.set c ⟨0, 0, 0⟩) = 0 := tot_zero fun l hl => by
    obtain ⟨i, hi, rfl⟩ := mem_lat hl
    rw [lat_set _ _ _ _ hcl]
    split
    · rfl
    · rename_i hci
      rw [List.length_set, h.len] at hi
      have h3 := (getD_ok h.ok i).1
      by_cases h4 : 0 < (lat ls i).q
      · exact (hno ⟨i, hi, fun e => hci e.symm, h4⟩).elim
      · unfold lat at *; omega
  have h3 := (getD_ok h.ok c).2.1
  unfold sq at hs
  dsimp only [lat] at h1
  omega
theorem round_end {room : Int} {n t0 t : Nat} {a ls : List Ln} {k e p : Int} (h0 : Fine room n t0 a) (h : Fine room n t ls) (m : Mid n n a t0 ls t k e) (hp : Valid n p a t0) (hk : 1 ≤ k) :
    ∃ p', Valid n p' ls t ∧ 3 * phi ls - ee ls + p' ≤ 3 * phi a - ee a + p - 3 := by
  have mp := m.phi
  have mE := m.E
  have mle := m.le
  have mlo := m.lo
  obtain ⟨hp0, hp2, hpv⟩ := hp
  have oneF : k = 1 → e = 1 → ∃ c j, c < n ∧ 0 < hold a c ∧ (∀ x, x < n → x ≠ c → hold a x = 0) ∧ nextL a t0 = some j ∧ t = (j + 1) % n ∧
    (∀ x, hold ls x = hold a x + (if x = j then 1 else 0) - (if x = c then 1 else 0)) ∧ (∀ x, (lat ls x).q = (lat a x).q - (if x = j then 1 else 0)) ∧ j ≤ c ∧ j < n ∧ 64 < sq a ∧ 1 ≤ p := fun hk he => by
    obtain ⟨c, j, h1, h2, h3, h4, h5, h6, h7, h8, h9⟩ := m.F hk he
    have hj := (nextL_lt h4).1
    rw [h0.1.len] at hj
    refine ⟨c, j, h1, h2, h3, h4, h5, h6, h7, by omega, hj, h9, ?_⟩
    by_cases hpz : p = 0
    · obtain ⟨j', hj', hcj⟩ := (hpv h9 c h1 h2 h3).1 hpz
      rw [h4] at hj'
      obtain rfl := Option.some.inj hj'
      omega
    · omega
  by_cases hs : 64 < sq ls
  · by_cases hk1 : k = 1
    · by_cases he0 : e = 0
      · obtain ⟨h1, h2, h3⟩ := m.D hk1 he0 hs
        refine ⟨p, ⟨hp0, hp2, fun _ c hc hh hal => ?_⟩, by omega⟩
        rw [h1, nextL_congr (by rw [h.1.len, h0.1.len]) h2]
        have hsa : 64 < sq a := by
          unfold ee at mE
          rw [if_pos hs] at mE
          by_cases h4 : 64 < sq a
          · exact h4
          · rw [if_neg h4] at mE; omega
        exact hpv hsa c hc (by rw [← h3]; exact hh) (fun x hx hxc => by rw [← h3]; exact hal x hx hxc)
      · obtain ⟨c, j, h1, h2, h3, h4, h5, h6, h7, h8, h9, h10, hp1⟩ := oneF hk1 (by omega)
        by_cases hpp : p = 1
        · refine ⟨0, ⟨by omega, by omega, fun _ c' hc' hh hal => ⟨fun _ => ?_, fun h => by omega⟩⟩, by omega⟩
          have hc'j : c' = j := by
            by_cases hx : c' = j
            · exact hx
            · have := hal j h9 (fun e => hx e.symm)
              have h11 := h6 j
              have h12 := h0.1.hold0 j
              rw [if_pos rfl] at h11
              by_cases hjc : j = c
              · rw [if_pos hjc] at h11
                rw [hjc] at h11 this; omega
              · rw [if_neg hjc] at h11; omega
          subst hc'j
          rcases (hpv h10 c h1 h2 h3).2 hpp with ⟨j', hj', hcj⟩ | ht
          · rw [h4] at hj'
            obtain rfl := Option.some.inj hj'
            omega
          · obtain ⟨d, hd, hdc, hdq⟩ := sq_one h.1 c' hc' hs
            have hln := h.1.len
            cases hn : nextL ls t with
            | none =>
              have := next_none_sq h.1 hn
              omega
            | some j2 =>
              refine ⟨j2, rfl, ?_⟩
              have hb := fun x (hx : x < n) (hq : 0 < (lat a x).q) => nextL_before (by rw [h0.1.len]; exact h0.1.turn) h4 (by rw [h0.1.len]; exact hx) hq
              have hj2 := nextL_lt hn
              have hc := nextL_before (by rw [hln]; exact h.1.turn) hn (by rw [hln]; exact hd) hdq
              have hdq0 : 0 < (lat a d).q := by have := h7 d; rw [if_neg hdc] at this; omega
              have hj2q0 : 0 < (lat a j2).q := by have := h7 j2; split at this <;> omega
              have b1 := hb d hd hdq0
              have b2 := hb j2 (by rw [← hln]; exact hj2.1) hj2q0
              have hj2n : j2 < n := by rw [← hln]; exact hj2.1
              rw [ht, mod_two (by omega)] at b1 b2
              rw [h5, mod_two (by omega)] at hc
              split at b1 <;> split at hc <;> omega
        · refine ⟨1, ⟨by omega, by omega, fun _ c' hc' hh hal => ⟨fun h => by omega, fun _ => .inr ?_⟩⟩, by omega⟩
          have hc'j : c' = j := by
            by_cases hx : c' = j
            · exact hx
            · have := hal j h9 (fun e => hx e.symm)
              have h11 := h6 j
              have h12 := h0.1.hold0 j
              rw [if_pos rfl] at h11
              by_cases hjc : j = c
              · rw [if_pos hjc] at h11
                rw [hjc] at h11 this; omega
              · rw [if_neg hjc] at h11; omega
          rw [hc'j]; exact h5
    · by_cases he0 : e = 0
      · exact ⟨2, ⟨by omega, by omega, fun _ c hc hh hal => ⟨fun h => by omega, fun h => by omega⟩⟩, by omega⟩
      · obtain ⟨c, h1, h2, h3⟩ := m.C (by omega) hs
        refine ⟨1, ⟨by omega, by omega, fun _ c' hc' hh hal => ⟨fun h => by omega, fun _ => .inr ?_⟩⟩, by omega⟩
        by_cases hx : c = c'
        · rw [← hx]; exact h2
        · have := hal c h1 hx; omega
  · refine ⟨0, ⟨by omega, by omega, fun h => absurd h hs⟩, ?_⟩
    by_cases hk1 : k = 1
    · by_cases he0 : e = 0
      · omega
      · obtain ⟨_, _, _, _, _, _, _, _, _, _, _, _, hp1⟩ := oneF hk1 (by omega)
        omega
    · omega
theorem fine_zero {room : Int} {n t : Nat} {ls : List Ln} (h : Fine room n t ls) (hz : ∀ x, x < n → hold ls x = 0) : ∀ l ∈ ls, l = ⟨0, 0, 0⟩ := by
  have h1 : Go.held ls = 0 := by
    rw [held_tot]
    refine tot_zero fun l hl => ?_
    obtain ⟨i, hi, rfl⟩ := mem_lat hl
    exact hz i (by rw [← h.1.len]; exact hi)
  intro l hl
  have hq : l.q = 0 := by
    rcases h.2 with h2 | h2
    · have := h.1.r0; omega
    · exact h2 l hl
  have hok := h.1.ok l hl
  obtain ⟨i, hi, rfl⟩ := mem_lat hl
  have hh := hz i (by rw [← h.1.len]; exact hi)
  unfold LnOk at hok
  unfold hold at hh
  generalize lat ls i = L at *
  obtain ⟨q, g, u⟩ := L
  dsimp only at *
  simp; omega
theorem phi_zero {room : Int} {n t : Nat} {ls : List Ln} (h : Fine room n t ls) (hz : phi ls ≤ 0) : ∀ l ∈ ls, l = ⟨0, 0, 0⟩ := by
  refine fine_zero h fun x hx => ?_
  have hxl : x < ls.length := by rw [h.1.len]; exact hx
  have := tot_ge (f := fun l => 2 * l.q + 2 * l.g + l.u) (ls := ls) (fun l hl => by have := h.1.ok l hl; unfold LnOk at this; omega) x hxl
  have h2 := getD_ok h.1.ok x
  unfold LnOk at h2
  unfold phi at hz
  unfold hold
  dsimp only [lat] at *
  omega
theorem psi_start {room : Int} {n t : Nat} {ls : List Ln} (h : Fine room n t ls) : 3 * phi ls - ee ls + 2 ≤ 3072 := by
  have h1 : phi ls ≤ 2 * sq ls + 2 * Go.held ls := by
    rw [held_tot]
    have := h.1.ok
    unfold phi sq
    clear h
    induction ls with
    | nil => simp [tot]
    | cons l ls ih =>
      have h1 := this l (by simp)
      have h2 := ih fun x hx => this x (by simp [hx])
      unfold LnOk at h1
      simp only [tot]; omega
  have h2 := h.1.held
  have h3 := h.1.r1
  have h4 : sq ls ≤ 64 * ls.length := tot_le fun l hl => (h.1.ok l hl).2.1
  have h5 := h.1.len
  have h6 := h.1.hi
  unfold ee
  split <;> omega
theorem psi_end {room : Int} {n t : Nat} {ls : List Ln} {p : Int} (h : Fine room n t ls) (hp : 0 ≤ p) (hz : 3 * phi ls - ee ls + p ≤ 0) : phi ls ≤ 0 := by
  have h1 : sq ls ≤ phi ls := by
    have := h.1.ok
    unfold phi sq
    clear h hz
    induction ls with
    | nil => simp [tot]
    | cons l ls ih =>
      have h1 := this l (by simp)
      have h2 := ih fun x hx => this x (by simp [hx])
      unfold LnOk at h1
      simp only [tot]; omega
  have h2 : 0 ≤ sq ls := tot_nonneg h.1.sq0
  unfold ee at hz
  split at hz <;> omega
end Go.Proofs.Ytmdfkbckpekchaa
