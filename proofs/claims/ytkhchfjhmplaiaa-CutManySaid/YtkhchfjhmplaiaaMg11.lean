/- Texts laid together: HP14 H25. -/
import Derived.Test.YtkhchfjhmplaiaaMg10
import Derived.Maps.RangeWalk
import Derived.Deep.RegionHeld3
namespace Go
open Go.RowKit
/-- Is an event in a cut? -/
def inC (h : List Ln) (c : List Int) (j : Nat) : Bool := decide ((posN h j : Int) < c.getD (lat h j).q.toNat 0)
/-- The send of a message. -/
def sendOf (h : List Ln) (k : Nat) : Option Nat := kindIx h 2 (lat h k).u h.length
/-- Is a take in a cut whose send is not? -/
def badB (h : List Ln) (c : List Int) (k : Nat) : Bool := inC h c k && !(sendOf h k).elim false (inC h c)
def wholeB (h : List Ln) (c : List Int) : Bool := (List.range h.length).all fun k => !(decide ((lat h k).g = 3) && badB h c k)
theorem wholeB_iff (h : List Ln) (c : List Int) : wholeB h c = true ↔ ∀ k, k < h.length → (lat h k).g = 3 → badB h c k = false := by
  unfold wholeB
  rw [List.all_eq_true]
  constructor
  · intro H k hk hg
    have := H k (List.mem_range.2 hk)
    rw [decide_eq_true hg] at this
    simpa using this
  · intro H k hk
    have := H k (List.mem_range.1 hk)
    by_cases hg : (lat h k).g = 3
    · rw [this hg]; simp
    · rw [decide_eq_false hg]; rfl
theorem sendOf_some {h : List Ln} (hk : HOk h) {k : Nat} (hl : k < h.length) (hg : (lat h k).g = 3) : ∃ j, sendOf h k = some j ∧ j < k ∧ (lat h j).g = 2 ∧ (lat h j).u = (lat h k).u := by
  obtain ⟨j, h1, h2, h3⟩ := hk.sent k hl hg
  have := kindIx_eq (h := h) (g := 2) (k := h.length) (j := j) (fun x y hxy hy => hk.sends x y hxy hy) (by omega) h2
  exact ⟨j, by unfold sendOf; rw [← h3]; exact this, h1, h2, h3⟩
theorem takeIx {h : List Ln} (_ : HOk h) {x : Int} {v : Value} (hx : FG h 3 h.length x = some v) : ∃ k, k < h.length ∧ (lat h k).g = 3 ∧ (lat h k).u = x ∧ v = spotV h k := by
  unfold FG at hx
  cases hj : kindIx h 3 x h.length with
  | none => rw [hj] at hx; cases hx
  | some k =>
    rw [hj] at hx
    obtain ⟨h1, h2, h3⟩ := kindIx_some hj
    exact ⟨k, h1, h2, h3, (Option.some.inj hx).symm⟩
theorem take_has {h : List Ln} (hk : HOk h) {k : Nat} (hl : k < h.length) (hg : (lat h k).g = 3) : FG h 3 h.length (lat h k).u = some (spotV h k) := by
  unfold FG
  rw [kindIx_eq (fun x y hxy hy => hk.takes x y hxy hy) hl hg]; rfl
theorem send_get {h : List Ln} (_ : HOk h) {k j : Nat} (hs : sendOf h k = some j) : FG h 2 h.length (lat h k).u = some (spotV h j) := by
  unfold FG
  unfold sendOf at hs
  rw [hs]; rfl
theorem posN_lt {h : List Ln} (j : Nat) (hj : j < h.length) : posN h j < h.length := by
  unfold posN
  have := rk_mono (plQ h (lat h j).q) (show j ≤ h.length by omega)
  have h1 : rk (plQ h (lat h j).q) j ≤ j := by unfold rk; exact Nat.le_trans (List.length_filter_le _ _) (by simp)
  omega
end Go

namespace Go
open Go.RowKit
/-- A cut of eight numbers within the history. -/
structure CutOk (h : List Ln) (x : List Int) : Prop where
  len : x.length = 8
  bd : ∀ p : Nat, p < 8 → 0 ≤ x.getD p 0 ∧ x.getD p 0 ≤ rk (plQ h p) h.length
def InC (a b : List Int) : Prop := ∀ p : Nat, p < 8 → a.getD p 0 ≤ b.getD p 0
theorem getD_set8 {x : List Int} (hl : x.length = 8) {p : Nat} (hp : p < 8) (v : Int) (r : Nat) : (x.set p v).getD r 0 = if r = p then v else x.getD r 0 := by
  simp only [List.getD_eq_getElem?_getD, List.getElem?_set]
  by_cases e : p = r
  · subst e; simp [hl, hp]
  · rw [if_neg e, if_neg (fun h => e h.symm)]
theorem CutOk.mem {h : List Ln} {x : List Int} (c : CutOk h x) : ∀ z ∈ x, 0 ≤ z ∧ z ≤ h.length := fun z hz => by
  obtain ⟨p, hp, rfl⟩ := List.getElem_of_mem hz
  have h1 := c.bd p (by rw [← c.len]; exact hp)
  have h2 : rk (plQ h p) h.length ≤ h.length := by unfold rk; exact Nat.le_trans (List.length_filter_le _ _) (by simp)
  rw [List.getD_eq_getElem?_getD, List.getElem?_eq_getElem hp, Option.getD_some] at h1
  omega
theorem rk_le' (P : Nat → Bool) (k : Nat) : rk P k ≤ k := by unfold rk; exact Nat.le_trans (List.length_filter_le _ _) (by simp)
theorem pos_lt {h : List Ln} {j : Nat} (hj : j < h.length) : posN h j < rk (plQ h (lat h j).q) h.length := rk_lt hj (by unfold plQ; simp)
theorem inC_iff {h : List Ln} {c : List Int} {j p : Nat} (hp : (lat h j).q = p) : inC h c j = true ↔ (posN h j : Int) < c.getD p 0 := by
  unfold inC; rw [hp]; simp
/-- What a bad take says. -/
theorem bad_iff {h : List Ln} (hk : HOk h) {c : List Int} {k : Nat} (hl : k < h.length) (hg : (lat h k).g = 3) : ∃ j p1 p2 : Nat, sendOf h k = some j ∧ j < h.length ∧ (lat h k).q = p1 ∧ (lat h j).q = p2 ∧ p1 < 8 ∧ p2 < 8 ∧ (badB h c k = true ↔ (posN h k : Int) < c.getD p1 0 ∧ c.getD p2 0 ≤ posN h j) := by
  obtain ⟨j, hs, hjk, hjg, hju⟩ := sendOf_some hk hl hg
  have he1 := hk.ev k hl
  have he2 := hk.ev j (by omega)
  refine ⟨j, (lat h k).q.toNat, (lat h j).q.toNat, hs, by omega, by omega, by omega, by omega, by omega, ?_⟩
  unfold badB
  rw [hs]
  show (inC h c k && !inC h c j) = true ↔ _
  rw [Bool.and_eq_true, inC_iff (p := (lat h k).q.toNat) (by omega)]
  have : (!inC h c j) = true ↔ ¬ (posN h j : Int) < c.getD (lat h j).q.toNat 0 := by
    rw [← inC_iff (p := (lat h j).q.toNat) (by omega)]; simp
  rw [this]
  constructor
  · rintro ⟨a, b⟩; exact ⟨a, by omega⟩
  · rintro ⟨a, b⟩; exact ⟨a, by omega⟩
/-- A whole cut holds the send of each take. -/
theorem whole_use {h : List Ln} (hk : HOk h) {y : List Int} (hw : wholeB h y = true) {k j p1 p2 : Nat} (hl : k < h.length) (hg : (lat h k).g = 3) (hs : sendOf h k = some j) (h1 : (lat h k).q = p1) (h2 : (lat h j).q = p2) (ht : (posN h k : Int) < y.getD p1 0) : (posN h j : Int) < y.getD p2 0 := by
  obtain ⟨j', q1, q2, hs', _, hq1, hq2, _, _, hb⟩ := bad_iff hk (c := y) hl hg
  rw [hs] at hs'
  cases hs'
  have e1 : q1 = p1 := by omega
  have e2 : q2 = p2 := by omega
  subst e1; subst e2
  have h3 := (wholeB_iff h y).1 hw k hl hg
  by_cases e : (posN h j : Int) < y.getD q2 0
  · exact e
  · have := hb.2 ⟨ht, by omega⟩
    rw [h3] at this; cases this
def updL (h : List Ln) (x : List Int) (k : Nat) : List Int := (sendOf h k).elim x fun j => x.set (lat h j).q.toNat (posN h j + 1)
def updM (h : List Ln) (x : List Int) (k : Nat) : List Int := x.set (lat h k).q.toNat (posN h k)
/-- On the way to the least whole cut above c. -/
structure LeastI (h : List Ln) (c x : List Int) : Prop where
  ok : CutOk h x
  ge : InC c x
  least : ∀ y, wholeB h y = true → InC c y → InC x y
structure MostI (h : List Ln) (c x : List Int) : Prop where
  ok : CutOk h x
  le : InC x c
  most : ∀ y, wholeB h y = true → InC y c → InC y x
def sum8 (f : Nat → Nat) : Nat := f 0 + f 1 + f 2 + f 3 + f 4 + f 5 + f 6 + f 7
theorem sum8_lt {f g : Nat → Nat} {p : Nat} (hp : p < 8) (h : ∀ r, r < 8 → f r ≤ g r) (hl : f p < g p) : sum8 f < sum8 g := by
  have := h 0 (by omega); have := h 1 (by omega); have := h 2 (by omega); have := h 3 (by omega)
  have := h 4 (by omega); have := h 5 (by omega); have := h 6 (by omega); have := h 7 (by omega)
  unfold sum8
  rcases (by omega : p = 0 ∨ p = 1 ∨ p = 2 ∨ p = 3 ∨ p = 4 ∨ p = 5 ∨ p = 6 ∨ p = 7) with e | e | e | e | e | e | e | e <;> (subst e; omega)
def muL (h : List Ln) (x : List Int) : Nat := sum8 fun p => rk (plQ h p) h.length - (x.getD p 0).toNat
def muM (x : List Int) : Nat := sum8 fun p => (x.getD p 0).toNat
theorem least_step {h : List Ln} (hk : HOk h) {c x : List Int} {k : Nat} (i : LeastI h c x) (hl : k < h.length) (hg : (lat h k).g = 3) (hb : badB h x k = true) : LeastI h c (updL h x k) ∧ muL h (updL h x k) < muL h x := by
  obtain ⟨j, p1, p2, hs, hj, hq1, hq2, hp1, hp2, hbi⟩ := bad_iff hk (c := x) hl hg
  obtain ⟨ht, hn⟩ := hbi.1 hb
  have hu : updL h x k = x.set p2 (posN h j + 1) := by unfold updL; rw [hs]; show x.set (lat h j).q.toNat _ = _; rw [hq2]; rfl
  have hpl := pos_lt (h := h) hj
  rw [hq2] at hpl
  have hx2 := i.ok.bd p2 hp2
  rw [hu]
  refine ⟨⟨⟨by simp [i.ok.len], fun p hp => ?_⟩, fun p hp => ?_, fun y hw hc p hp => ?_⟩, ?_⟩
  · rw [getD_set8 i.ok.len hp2]
    by_cases e : p = p2
    · subst e; rw [if_pos rfl]; omega
    · rw [if_neg e]; exact i.ok.bd p hp
  · rw [getD_set8 i.ok.len hp2]
    have := i.ge p hp
    by_cases e : p = p2
    · subst e; rw [if_pos rfl]; omega
    · rw [if_neg e]; exact this
  · have h1 := i.least y hw hc
    rw [getD_set8 i.ok.len hp2]
    by_cases e : p = p2
    · subst e
      rw [if_pos rfl]
      have h2 := h1 p1 hp1
      have := whole_use hk hw hl hg hs hq1 hq2 (by omega)
      omega
    · rw [if_neg e]; exact h1 p hp
  · refine sum8_lt hp2 (fun r hr => ?_) ?_
    · rw [getD_set8 i.ok.len hp2]
      by_cases e : r = p2
      · subst e; rw [if_pos rfl]; omega
      · rw [if_neg e]; exact Nat.le_refl _
    · rw [getD_set8 i.ok.len hp2, if_pos rfl]; omega
theorem most_step {h : List Ln} (hk : HOk h) {c x : List Int} {k : Nat} (i : MostI h c x) (hl : k < h.length) (hg : (lat h k).g = 3) (hb : badB h x k = true) : MostI h c (updM h x k) ∧ muM (updM h x k) < muM x := by
  obtain ⟨j, p1, p2, hs, hj, hq1, hq2, hp1, hp2, hbi⟩ := bad_iff hk (c := x) hl hg
  obtain ⟨ht, hn⟩ := hbi.1 hb
  have hu : updM h x k = x.set p1 (posN h k) := by unfold updM; rw [hq1]; rfl
  have hx1 := i.ok.bd p1 hp1
  rw [hu]
  refine ⟨⟨⟨by simp [i.ok.len], fun p hp => ?_⟩, fun p hp => ?_, fun y hw hc p hp => ?_⟩, ?_⟩
  · rw [getD_set8 i.ok.len hp1]
    by_cases e : p = p1
    · subst e; rw [if_pos rfl]; omega
    · rw [if_neg e]; exact i.ok.bd p hp
  · rw [getD_set8 i.ok.len hp1]
    have := i.le p hp
    by_cases e : p = p1
    · subst e; rw [if_pos rfl]; omega
    · rw [if_neg e]; exact this
  · have h1 := i.most y hw hc
    rw [getD_set8 i.ok.len hp1]
    by_cases e : p = p1
    · subst e
      rw [if_pos rfl]
      by_cases e2 : (posN h k : Int) < y.getD p 0
      · have h3 := whole_use hk hw hl hg hs hq1 hq2 e2
        have h4 := h1 p2 hp2
        omega
      · omega
    · rw [if_neg e]; exact h1 p hp
  · refine sum8_lt hp1 (fun r hr => ?_) ?_
    · rw [getD_set8 i.ok.len hp1]
      by_cases e : r = p1
      · subst e; rw [if_pos rfl]; omega
      · rw [if_neg e]; exact Nat.le_refl _
    · rw [getD_set8 i.ok.len hp1, if_pos rfl]; omega
theorem cut_ext {x y : List Int} (hx : x.length = 8) (hy : y.length = 8) (h1 : InC x y) (h2 : InC y x) : x = y := by
  refine List.ext_getElem (by omega) fun p a b => ?_
  have e1 := h1 p (by omega)
  have e2 := h2 p (by omega)
  simp only [List.getD_eq_getElem?_getD, List.getElem?_eq_getElem a, List.getElem?_eq_getElem b, Option.getD_some] at e1 e2
  omega
/-- There is but one least whole cut. -/
theorem least_one {h : List Ln} {c x y : List Int} (hx : LeastI h c x) (hwx : wholeB h x = true) (hy : LeastI h c y) (hwy : wholeB h y = true) : x = y :=
  cut_ext hx.ok.len hy.ok.len (hx.least y hwy hy.ge) (hy.least x hwx hx.ge)
end Go

namespace Go
open Go.RowKit
theorem cntP_rk (h : List Ln) (p : Nat) (k : Nat) : cntP h p k = rk (plQ h p) k := by
  induction k with
  | zero => rfl
  | succ k ih =>
    rw [cntP, ih, rk_succ]
    unfold plQ
    by_cases e : (lat h k).q = p
    · rw [if_pos e, if_pos (by simpa using e)]; rfl
    · rw [if_neg e, if_neg (by simpa using e)]; rfl
theorem clk_own {h : List Ln} (hk : HOk h) {k p : Nat} (hl : k < h.length) (hp : (lat h k).q = p) : (clk h k).getD p 0 = posN h k + 1 := by
  rw [(clk_cnt hk (k + 1) k (by omega) hl).2 p hp, cntP_rk, rk_succ, if_pos (by unfold plQ; exact decide_eq_true hp)]
  unfold posN
  rw [hp]; rfl
/-- The clock holds exactly the past. -/
theorem clk_past {h : List Ln} (hk : HOk h) {i k p : Nat} (hi : i < h.length) (hl : k < h.length) (hp : (lat h k).q = p) : (posN h k : Int) < (clk h i).getD p 0 ↔ Past h k i := by
  have ho := clk_own hk hl hp
  constructor
  · intro h1
    refine cnt_reach hk hl hp (i + 1) i (by omega) hi ?_
    have := (clk_cnt hk (k + 1) k (by omega) hl).2 p hp
    omega
  · intro r
    have := reach_le hk r hi p
    omega
theorem past_front {h : List Ln} {j k i : Nat} (hjk : j < k) (he : edgeB h j k = true) (r : Past h k i) : Past h j i := by
  induction r with
  | here => exact .step .here hjk he
  | step _ h1 h2 ih => exact .step ih h1 h2
theorem clk_cut {h : List Ln} (hk : HOk h) {i : Nat} (hi : i < h.length) : CutOk h (clk h i) := by
  have hc := clk_ok hk i hi
  refine ⟨hc.len, fun p _ => ⟨(hc.at_ (by omega) p).1, ?_⟩⟩
  have h1 := (clk_cnt hk (i + 1) i (by omega) hi).1 p
  rw [cntP_rk] at h1
  have h2 := rk_mono (plQ h p) (show i + 1 ≤ h.length by omega)
  omega
theorem clk_whole {h : List Ln} (hk : HOk h) {i : Nat} (hi : i < h.length) : wholeB h (clk h i) = true := by
  refine (wholeB_iff _ _).2 fun k hl hg => ?_
  obtain ⟨j, p1, p2, hs, hj, hq1, hq2, _, _, hb⟩ := bad_iff hk (c := clk h i) hl hg
  cases e : badB h (clk h i) k with
  | false => rfl
  | true =>
    obtain ⟨h1, h2⟩ := hb.1 e
    obtain ⟨j', hs', hjk, hjg, hju⟩ := sendOf_some hk hl hg
    rw [hs] at hs'
    cases hs'
    have r := (clk_past hk hi hl hq1).1 h1
    have r2 := past_front hjk (by unfold edgeB; rw [hjg, hg, hju]; simp) r
    have := (clk_past hk hi hj hq2).2 r2
    omega
/-- The event alone: those of its place up to it, of the first k. -/
def aloneTo (h : List Ln) (q k : Nat) : List Int := zeros8.set q (rk (plQ h q) k)
theorem zeros8_len : zeros8.length = 8 := rfl
theorem alone_at (h : List Ln) {q : Nat} (hq : q < 8) (k p : Nat) : (aloneTo h q k).getD p 0 = if p = q then (rk (plQ h q) k : Int) else 0 := by
  unfold aloneTo
  rw [getD_set8 zeros8_len hq]
  by_cases e : p = q
  · rw [if_pos e, if_pos e]
  · rw [if_neg e, if_neg e, zeros8_getD]
theorem alone_cut (h : List Ln) {q k : Nat} (hq : q < 8) (hk : k ≤ h.length) : CutOk h (aloneTo h q k) := by
  refine ⟨by simp [aloneTo, zeros8], fun p hp => ?_⟩
  rw [alone_at h hq]
  by_cases e : p = q
  · subst e; rw [if_pos rfl]; have := rk_mono (plQ h p) hk; omega
  · rw [if_neg e]; omega
/-- The clock is the least whole cut that holds its event. -/
theorem clk_least {h : List Ln} (hk : HOk h) {i q : Nat} (hi : i < h.length) (hq : (lat h i).q = q) (hq8 : q < 8) : LeastI h (aloneTo h q (i + 1)) (clk h i) := by
  refine ⟨clk_cut hk hi, fun p hp => ?_, fun y hw hc p hp => ?_⟩
  · rw [alone_at h hq8]
    by_cases e : p = q
    · subst e
      rw [if_pos rfl, (clk_cnt hk (i + 1) i (by omega) hi).2 p hq, cntP_rk]
      exact Int.le_refl _
    · rw [if_neg e]; exact ((clk_cut hk hi).bd p hp).1
  · have hin : ∀ (x z : Nat), z < h.length → Past h x z → (posN h z : Int) < y.getD (lat h z).q.toNat 0 → (posN h x : Int) < y.getD (lat h x).q.toNat 0 := fun x z hz r => by
      induction r with
      | here => exact id
      | @step z' z'' _ h1 h2 ih =>
        intro h3
        refine ih (by omega) ?_
        unfold edgeB at h2
        simp only [Bool.or_eq_true, Bool.and_eq_true, decide_eq_true_eq] at h2
        rcases h2 with h2 | ⟨g1, g2, g3⟩
        · have h4 : posN h z' < posN h z'' := by
            unfold posN
            rw [h2]
            exact rk_lt h1 (by unfold plQ; simpa using h2)
          rw [h2]; omega
        · have hs : sendOf h z'' = some z' := by
            unfold sendOf
            rw [← g3]
            exact kindIx_eq (fun a b hab hb => hk.sends a b hab hb) (by omega) g1
          have e1 := hk.ev z' (by omega)
          have e2 := hk.ev z'' hz
          exact whole_use hk hw hz g2 hs (show (lat h z'').q = ((lat h z'').q.toNat : Nat) by omega) (show (lat h z').q = ((lat h z').q.toNat : Nat) by omega) h3
    have hiy : (posN h i : Int) < y.getD (lat h i).q.toNat 0 := by
      have h1 := hc q hq8
      rw [alone_at h hq8, if_pos rfl, rk_succ, if_pos (by unfold plQ; exact decide_eq_true hq)] at h1
      rw [hq]
      show (posN h i : Int) < y.getD q 0
      unfold posN
      rw [hq]; omega
    have hb := ((clk_cut hk hi).bd p hp).1
    by_cases e : (clk h i).getD p 0 = 0
    · have h1 := hc p hp
      rw [alone_at h hq8] at h1
      rw [e]
      split at h1 <;> omega
    · have h1 := (clk_cnt hk (i + 1) i (by omega) hi).1 p
      rw [cntP_rk] at h1
      obtain ⟨x, hx, hpx, hrx⟩ := rk_inv (P := plQ h p) (n := i + 1) (x := ((clk h i).getD p 0).toNat - 1) (by omega)
      have hqx : (lat h x).q = p := of_decide_eq_true hpx
      have hpos : posN h x = ((clk h i).getD p 0).toNat - 1 := by unfold posN; rw [hqx]; exact hrx
      have r := (clk_past hk hi (show x < h.length by omega) hqx).1 (by rw [hpos]; omega)
      have h3 := hin x i hi r hiy
      rw [hqx] at h3
      have h4 : (posN h x : Int) < y.getD p 0 := h3
      rw [hpos] at h4
      omega
end Go
namespace Go.Proofs.Ytkhchfjhmplaiaa
open Go.RowKit
theorem box8 {x0 x1 x2 x3 x4 x5 x6 x7 : Int} {w : World} {b p : Nat} (hb : w.heap[b]? = some (.cells #[.int .i64 x0, .int .i64 x1, .int .i64 x2, .int .i64 x3, .int .i64 x4, .int .i64 x5, .int .i64 x6, .int .i64 x7] 76 (0, 0))) (hp : p < 8) : w.cell? ⟨b, p, none⟩ = some (.int .i64 ([x0, x1, x2, x3, x4, x5, x6, x7].getD p 0)) := by
  rw [cellAt hb]
  rcases (by omega : p = 0 ∨ p = 1 ∨ p = 2 ∨ p = 3 ∨ p = 4 ∨ p = 5 ∨ p = 6 ∨ p = 7) with h | h | h | h | h | h | h | h <;> (subst h; rfl)
set_option maxRecDepth 100000 in
theorem has81_any {x0 x1 x2 x3 x4 x5 x6 x7 : Int} {q n : Nat} {w : World} (hq : q < 8) :
    Calls Try.prog 81 #[.agg #[.int .i64 x0, .int .i64 x1, .int .i64 x2, .int .i64 x3, .int .i64 x4, .int .i64 x5, .int .i64 x6, .int .i64 x7], .agg #[.int .i64 q, .int .i64 n]] w fun e w' => e = .returned (.bool (decide ((n : Int) < [x0, x1, x2, x3, x4, x5, x6, x7].getD q 0))) ∧ Keep [] w w' := by
  have hA := blk_new w (.cells #[.int .i64 x0, .int .i64 x1, .int .i64 x2, .int .i64 x3, .int .i64 x4, .int .i64 x5, .int .i64 x6, .int .i64 x7] 76)
  have hA2 := ((Keep.refl [] (w.alloc (.cells #[.int .i64 x0, .int .i64 x1, .int .i64 x2, .int .i64 x3, .int .i64 x4, .int .i64 x5, .int .i64 x6, .int .i64 x7] 76))).alloc (.cells #[.int .i64 q, .int .i64 n] 89)).at hA (by simp)
  have hc := box8 hA2 hq
  obtain ⟨y, hy⟩ : ∃ y, [x0, x1, x2, x3, x4, x5, x6, x7].getD q 0 = y := ⟨_, rfl⟩
  rw [hy] at hc ⊢
  clear hA hA2 hy
  go_enter Try.func81, Try.ntmps81
  go_wp2_with (first | (with_reducible refine Txt.wp_region_text mixed quiet (by decide +kernel) ?_) | (with_reducible refine Txt.text_done (by kernel_rfl) ?_))
  go_ret
  exact ⟨rfl, by repeat (first | apply Keep.drew | apply Keep.alloc | exact Keep.refl _ _)⟩
theorem has81_at {x0 x1 x2 x3 x4 x5 x6 x7 : Int} {q n : Nat} {A : Bool} {w : World} (hq : q < 8) (hA : Hid (decide ((n : Int) < [x0, x1, x2, x3, x4, x5, x6, x7].getD q 0) = A)) :
    Calls Try.prog 81 #[.agg #[.int .i64 x0, .int .i64 x1, .int .i64 x2, .int .i64 x3, .int .i64 x4, .int .i64 x5, .int .i64 x6, .int .i64 x7], .agg #[.int .i64 q, .int .i64 n]] w fun e w' => e = .returned (.bool A) ∧ Keep [] w w' := by
  have h := has81_any (x0 := x0) (x1 := x1) (x2 := x2) (x3 := x3) (x4 := x4) (x5 := x5) (x6 := x6) (x7 := x7) (n := n) (w := w) hq
  rw [hA.out] at h
  exact h
theorem row8 {x0 x1 x2 x3 x4 x5 x6 x7 : Int} {w : World} {b : Nat} (hb : w.heap[b]? = some (.cells #[.int .i64 x0, .int .i64 x1, .int .i64 x2, .int .i64 x3, .int .i64 x4, .int .i64 x5, .int .i64 x6, .int .i64 x7] 76 (0, 0))) : w.cell? ⟨b, 0, none⟩ = some (.int .i64 x0) ∧ w.cell? ⟨b, 1, none⟩ = some (.int .i64 x1) ∧ w.cell? ⟨b, 2, none⟩ = some (.int .i64 x2) ∧ w.cell? ⟨b, 3, none⟩ = some (.int .i64 x3) ∧ w.cell? ⟨b, 4, none⟩ = some (.int .i64 x4) ∧ w.cell? ⟨b, 5, none⟩ = some (.int .i64 x5) ∧ w.cell? ⟨b, 6, none⟩ = some (.int .i64 x6) ∧ w.cell? ⟨b, 7, none⟩ = some (.int .i64 x7) := by
  refine ⟨?_, ?_, ?_, ?_, ?_, ?_, ?_, ?_⟩ <;> (rw [cellAt hb]; rfl)
theorem lookup_run {P : Program} {w : World} {t k e : TypeId} {b n : Nat} {f : Int → Option Value} {z v : Value} {key : Int} (ht : P.underlying t = some (.map k e)) (hki : P.underlying k = some (.int .i64)) (hz : (zeroValue e).run P w = .ok z w) (hown : MapF w P k b n f) (hwf : (Lit.int .i64 key).wf = true) (hf : f key = some v) :
    (Instr.lookup t (.map (some b)) (.int .i64 key) false).run P w = .ok v w := by
  obtain ⟨D, h1, h2, h3, _⟩ := hown
  obtain ⟨v', ps, hrun, hv⟩ := h1.lookup (Maps.int_keyed hki) ht hz (show asIs z = some (.held z, []) from rfl) (keyI64 hki hwf)
  have hve : v' = v := by
    rw [h3] at hv
    unfold asIs at hv
    injection hv with hv
    injection hv with hv _
    injection hv with hv
    rw [hv, hf]; rfl
  rw [hve] at hrun
  exact hrun
theorem ranges_keep {w w' : World} {P : Program} {kt : TypeId} {Rf : Value → Option (DataW Value × List MemPlace)} {b r n : Nat} {D : DataW Value} {left : Lit → Bool} {cnt : Nat} (h : w.ranges P kt Rf b r n D left cnt) (hk : Keep [] w w') : w'.ranges P kt Rf b r n D left cnt := by
  obtain ⟨es, clock, since, seen, c0, h1, h2, h3, h4, h5, h6⟩ := h
  exact ⟨es, clock, since, seen, c0, hk.at h1 (by simp), h2, h3, h4, hk.at h5 (by simp), h6⟩
theorem Keep.mono0 {S : List Nat} {w w' : World} (h : Keep [] w w') : Keep S w w' := ⟨h.os, h.tape, h.output, h.size, fun i hi _ => h.block i hi (by simp)⟩
theorem strike_same {l : Bool} {u x : Int} (h : l = true) (hs : (l && !(Lit.int IntKind.i64 u).sameKey (.int .i64 x)) = false) : u = x := by
  subst h
  simp [Lit.sameKey] at hs
  exact hs
theorem take_same {h : List Ln} (hk : HOk h) {i k : Nat} (hi : i < h.length) (hl : k < h.length) (h1 : (lat h i).g = 3) (h2 : (lat h k).g = 3) (hu : (lat h i).u = (lat h k).u) : i = k := by
  by_cases e : i = k
  · exact e
  · by_cases e2 : i < k
    · exact absurd hu (hk.takes i k e2 hl h1 h2)
    · exact absurd hu.symm (hk.takes k i (by omega) hi h2 h1)
theorem held_some {o : Option Value} {c : Value} (h : ∀ z : Value, (DataW.held (o.getD z) : DataW Value) = .held c) : o = some c := by
  cases o with
  | some v => have := h undef; cases this; rfl
  | none =>
    have h1 := h (.bool true)
    have h2 := h (.bool false)
    rw [← h2] at h1
    cases h1
set_option maxRecDepth 100000 in
set_option maxHeartbeats 4000000 in
theorem whole66_any {x0 x1 x2 x3 x4 x5 x6 x7 : Int} {B H S T n : Nat} {h : List Ln} {V : Nat → Value} {w : World} (hs : Hst w B H S T n h V) (hn : h.length = n) (hk : HOk h) :
    Calls Try.prog 66 #[.pointer (some ⟨H, 0, none⟩), .agg #[.int .i64 x0, .int .i64 x1, .int .i64 x2, .int .i64 x3, .int .i64 x4, .int .i64 x5, .int .i64 x6, .int .i64 x7]] w fun e w' => e = .returned (.bool (wholeB h [x0, x1, x2, x3, x4, x5, x6, x7])) ∧ Keep [] w w' := by
  have hkA : Keep [] w (w.alloc (.cells #[.int .i64 x0, .int .i64 x1, .int .i64 x2, .int .i64 x3, .int .i64 x4, .int .i64 x5, .int .i64 x6, .int .i64 x7] 76)) := (Keep.refl _ _).alloc _
  have hsA := hs.keep hkA
  have hbox := blk_new w (.cells #[.int .i64 x0, .int .i64 x1, .int .i64 x2, .int .i64 x3, .int .i64 x4, .int .i64 x5, .int .i64 x6, .int .i64 x7] 76)
  obtain ⟨Wb, hWb⟩ : ∃ Wb, w.heap.size = Wb := ⟨_, rfl⟩
  obtain ⟨D, hD, hDm, hDk, hDh⟩ := hsA.tak
  obtain ⟨s8, s9⟩ := hsA.cellS
  have HSA := Lib.hid hsA
  have HBX := Lib.hid hbox
  have HDM := Lib.hid hDm
  have HDK := Lib.hid hDk
  have HDH := Lib.hid hDh
  have HD := Lib.hid hD
  have HK := Lib.hid hk
  have HN := Lib.hid hn
  clear hsA hbox hDm hDk hDh hD hs hk hn hkA
  go_enter Try.func66, Try.ntmps66
  go_wp2_with (first | (at_range; refine wpList_range_own _ rfl _ 110 rfl 3 89 (Maps.int_keyed Try.underlying3) Try.underlying110 asIs T n D rfl HD.out ?_; intro w0 hrg0 hg0 hs0; have HRG := Lib.hid hrg0; have HG0 := Lib.hid hg0) | go_in)
  go_frame
  obtain ⟨R, hR⟩ : ∃ R, (w.alloc (.cells #[.int .i64 x0, .int .i64 x1, .int .i64 x2, .int .i64 x3, .int .i64 x4, .int .i64 x5, .int .i64 x6, .int .i64 x7] 76)).heap.size = R := ⟨_, rfl⟩
  have HRw : Hid (w.heap.size ≤ R) := Lib.hid (by rw [← hR]; simp)
  have HR1 : Hid (R = Wb + 1) := Lib.hid (by rw [← hR, ← hWb]; simp)
  rw [hR] at hrg0 hs0 ⊢
  have HRG0 := Lib.hid hrg0
  have hk00 : Keep [] (w.alloc (.cells #[.int .i64 x0, .int .i64 x1, .int .i64 x2, .int .i64 x3, .int .i64 x4, .int .i64 x5, .int .i64 x6, .int .i64 x7] 76)) w0 := Keep.ofGrown hg0 (fun x hx => by cases hx)
  have hkw0 : Keep [] w w0 := ((Keep.refl _ _).alloc _).trans hk00
  have HS0 := Lib.hid (HSA.out.keep hk00)
  have HB0 := Lib.hid (hk00.at HBX.out (by simp))
  rw [hWb] at HB0
  have HSR : Hid (S < R ∧ H < R) := Lib.hid (by have h1 := HSA.out.snd.lt; have h2 := lt_of_blk HSA.out.blk; rw [← hR]; exact ⟨h1, h2⟩)
  clear HRG HG0 hrg0 hg0 HSA HBX s8 s9 HD hk00 hR hWb
  go_loopw [5, 6] (fun _ _ wr => ∃ left cnt, Keep [R] w0 wr ∧ Hid (wr.ranges Try.prog 3 asIs T R n D left cnt) ∧ Hid (∀ k, k < h.length → (lat h k).g = 3 → left (.int .i64 (lat h k).u) = false → badB h [x0, x1, x2, x3, x4, x5, x6, x7] k = false)) (fun _ _ wr => wr.rangeLeft T R)
  case atStart => exact ⟨_, _, Keep.refl _ _, HRG0, Lib.hid (fun k hk hg hl => by rw [HDH.out, ← HN.out, take_has HK.out hk hg] at hl; cases hl)⟩
  case round =>
    obtain ⟨left, cnt, hkr, HRG, HVS⟩ := hrel
    go_wp2_with (first | (at_next; refine wpList_next_ranges _ rfl _ rfl 3 (Maps.int_keyed Try.underlying3) asIs (Value.int .i64) id (fun key kl hkey => by obtain ⟨x, rfl, _⟩ := Maps.keyOf_int_inv Try.underlying3 hkey; exact ⟨x, rfl⟩) (fun v y _ => ⟨v, rfl⟩) T R n D left cnt rfl HRG.out ?_ ?_))
    · intro hc0 hl0
      go_wp2_with fail
      go_ret
      refine ⟨ret_bool ?_, Keep.call hkw0 hkr (fun z hz => .inr (by simp at hz; rw [hz]; exact HRw.out))⟩
      exact ((wholeB_iff _ _).2 fun k hk hg => HVS.out k hk hg (hl0 _)).symm
    · intro x c kl y ys w1 cnt1 hkey hlk hRc hat hrg1 hlt1 hg1 hs1 hen
      obtain ⟨x', hxe, rfl, hxw⟩ := Maps.keyOf_int_inv Try.underlying3 hkey
      cases hxe
      have hfc : FG h 3 h.length x = some c := by
        rw [HN.out]
        have hy : y = .held c := by
          have : asIs c = some (y, ys) := hRc
          unfold asIs at this
          cases this; rfl
        rw [hy] at hat
        exact held_some (fun z => by rw [← HDK.out x z]; exact hat _)
      obtain ⟨k, hkl, hkg, hku, rfl⟩ := takeIx HK.out hfc
      obtain ⟨j, hsj, hjk, hjg, hju⟩ := sendOf_some HK.out hkl hkg
      have hsg : FG h 2 n x = some (spotV h j) := by rw [← HN.out, ← hku]; exact send_get HK.out hsj
      have hbad : badB h [x0, x1, x2, x3, x4, x5, x6, x7] k = (inC h [x0, x1, x2, x3, x4, x5, x6, x7] k && !(inC h [x0, x1, x2, x3, x4, x5, x6, x7] j)) := by unfold badB; rw [hsj]; rfl
      obtain ⟨p1, hp1⟩ : ∃ p : Nat, (lat h k).q = p := ⟨(lat h k).q.toNat, by have := HK.out.ev k hkl; omega⟩
      obtain ⟨p2, hp2⟩ : ∃ p : Nat, (lat h j).q = p := ⟨(lat h j).q.toNat, by have := HK.out.ev j (by omega); omega⟩
      have hp18 : p1 < 8 := by have := HK.out.ev k hkl; omega
      have hp28 : p2 < 8 := by have := HK.out.ev j (by omega); omega
      have hi1 : inC h [x0, x1, x2, x3, x4, x5, x6, x7] k = decide ((posN h k : Int) < [x0, x1, x2, x3, x4, x5, x6, x7].getD p1 0) := by unfold inC; rw [hp1]; rfl
      have hi2 : inC h [x0, x1, x2, x3, x4, x5, x6, x7] j = decide ((posN h j : Int) < [x0, x1, x2, x3, x4, x5, x6, x7].getD p2 0) := by unfold inC; rw [hp2]; rfl
      have hs1 : spotV h k = .agg #[.int .i64 p1, .int .i64 (posN h k)] := by unfold spotV; rw [hp1]
      have hs2 : spotV h j = .agg #[.int .i64 p2, .int .i64 (posN h j)] := by unfold spotV; rw [hp2]
      obtain ⟨m1, hm1⟩ : ∃ m, posN h k = m := ⟨_, rfl⟩
      obtain ⟨m2, hm2⟩ : ∃ m, posN h j = m := ⟨_, rfl⟩
      rw [hm1] at hi1 hs1
      rw [hm2] at hi2 hs2
      rw [hs1] at hen ⊢
      rw [hs2] at hsg
      rw [hi1, hi2] at hbad
      obtain ⟨A1, hA1⟩ : ∃ A, decide ((m1 : Int) < [x0, x1, x2, x3, x4, x5, x6, x7].getD p1 0) = A := ⟨_, rfl⟩
      obtain ⟨A2, hA2⟩ : ∃ A, decide ((m2 : Int) < [x0, x1, x2, x3, x4, x5, x6, x7].getD p2 0) = A := ⟨_, rfl⟩
      rw [hA1, hA2] at hbad
      have HBAD := Lib.hid hbad
      have HA1 := Lib.hid hA1
      have HA2 := Lib.hid hA2
      have HSG := Lib.hid hsg
      have hkr1 : Keep [R] wr w1 := Keep.ofGrown hg1 (fun z hz => by cases hz; simp)
      have hk01 := hkr.trans hkr1
      have hRw := HRw.out
      have hb1 := hk01.at HB0.out (by simp; have := HR1.out; omega)
      have hS1 := HS0.out.snd.keep hk01 (by have := HSR.out.1; simp; omega)
      have s8 := hk01.cell HS0.out.cellS.1 (by have := HSR.out.2; simp; omega)
      have HB1 := Lib.hid hb1
      have HS1 := Lib.hid hS1
      have HRG1 := Lib.hid hrg1
      have HXK := Lib.hid hku
      have HKL := Lib.hid hkl
      have HKG := Lib.hid hkg
      clear hbad hA1 hA2 hsg hi1 hi2 hs1 hs2 hm1 hm2 hp1 hp2 hb1 hS1 hkey hat hfc hRc hsj hju hjg hjk hkg hku hrg1
      go_upto_region 4 with fail
      obtain ⟨E, hE⟩ : ∃ E, wr.heap.size = E := ⟨_, rfl⟩
      have hE1 : w1.heap.size = E := by rw [← hE]; assumption
      have hkE : Keep [] w1 (w1.alloc (.cells #[.int .i64 p1, .int .i64 m1] 89)) := (Keep.refl _ _).alloc _
      have hb2 := hkE.at HB1.out (by simp)
      have hsp := blk_new w1 (.cells #[.int .i64 p1, .int .i64 m1] 89)
      have s82 := hkE.cell s8 (by simp)
      have HS2 := Lib.hid (HS1.out.keep hkE (by simp))
      rw [hE1] at hsp
      obtain ⟨w2, hw2⟩ : ∃ w2, w1.alloc (.cells #[.int .i64 p1, .int .i64 m1] 89) = w2 := ⟨_, rfl⟩
      rw [hw2] at hkE hb2 hsp s82 HS2 ⊢
      rw [hE]
      have HB2 := Lib.hid hb2
      have HXW := Lib.hid hxw
      obtain ⟨r0, r1, _⟩ := row2 hsp
      have HALL : Hid (∀ w', Keep [] w2 w' → w'.cell? ⟨Wb, 0, none⟩ = some (.int .i64 x0) ∧ w'.cell? ⟨Wb, 1, none⟩ = some (.int .i64 x1) ∧ w'.cell? ⟨Wb, 2, none⟩ = some (.int .i64 x2) ∧ w'.cell? ⟨Wb, 3, none⟩ = some (.int .i64 x3) ∧ w'.cell? ⟨Wb, 4, none⟩ = some (.int .i64 x4) ∧ w'.cell? ⟨Wb, 5, none⟩ = some (.int .i64 x5) ∧ w'.cell? ⟨Wb, 6, none⟩ = some (.int .i64 x6) ∧ w'.cell? ⟨Wb, 7, none⟩ = some (.int .i64 x7) ∧ w'.cell? ⟨E, 0, none⟩ = some (.int .i64 p1) ∧ w'.cell? ⟨E, 1, none⟩ = some (.int .i64 m1) ∧ w'.cell? ⟨H, 8, none⟩ = some (.map (some S)) ∧ (Instr.lookup 110 (.map (some S)) (.int .i64 x) false).run Try.prog w' = .ok (.agg #[.int .i64 p2, .int .i64 m2]) w') := Lib.hid (fun w' hk => by
        obtain ⟨b0, b1, b2, b3, b4, b5, b6, b7⟩ := row8 (hk.at HB2.out (by simp))
        exact ⟨b0, b1, b2, b3, b4, b5, b6, b7, hk.cell r0 (by simp), hk.cell r1 (by simp), hk.cell s82 (by simp), lookup_run Try.underlying110 Try.underlying3 (zero89 _) (HS2.out.keep hk (by simp)) HXW.out HSG.out⟩)
      clear hw2 s8 hb2 hsp hxw r0 r1 s82
      have tok1 : True := trivial
      have tok2 : True := trivial
      have hkz : Keep [] w2 w2 := Keep.refl _ _
      obtain ⟨b0, b1, b2, b3, b4, b5, b6, b7, r0, r1, s82, hlk⟩ := HALL.out w2 hkz
      cases A1
      · go_wp2_with (first | (with_reducible refine Txt.wp_region_text mixed quiet (by decide +kernel) ?_) | (with_reducible refine Txt.text_done (by kernel_rfl) ?_) | (go_at_call 81; (with_reducible refine (has81_at hp18 HA1).mono ?_); rintro e w3 ⟨rfl, hk3d⟩; have hk3 : Keep [] w2 w3 := (by first | exact hk3d | exact (hkz.drew).trans hk3d); clear hk3d; obtain ⟨d0, d1, d2, d3, d4, d5, d6, d7, t0, t1, t2, tlk⟩ := HALL.out w3 hk3))
        all_goals
          go_wp2_with fail
          go_roundw
          case measure => rw [(ranges_keep HRG1.out (hkE.trans (by first | exact hk3 | exact hk3.drew))).left_eq, HRG.out.left_eq]; exact hlt1
          case rel => exact ⟨fun z => left z && !z.sameKey (.int .i64 x), cnt1, hk01.trans (Keep.mono0 (hkE.trans (by first | exact hk3 | exact hk3.drew))), Lib.hid (ranges_keep HRG1.out (hkE.trans (by first | exact hk3 | exact hk3.drew))), Lib.hid (fun k' hk' hg' hl' => by
            by_cases e : left (.int .i64 (lat h k').u) = false
            · exact HVS.out k' hk' hg' e
            · have hux := strike_same (by simpa using e) hl'
              have : k' = k := take_same HK.out hk' HKL.out hg' HKG.out (hux.trans HXK.out.symm)
              rw [this, HBAD.out]
              rfl)⟩
      · cases A2
        · go_wp2_with (first | (with_reducible refine Txt.wp_region_text mixed quiet (by decide +kernel) ?_) | (with_reducible refine Txt.text_done (by kernel_rfl) ?_) | (go_at_call 81; (with_reducible refine (has81_at hp18 HA1).mono ?_); rintro e w3 ⟨rfl, hk3d⟩; have hk3 : Keep [] w2 w3 := (by first | exact hk3d | exact (hkz.drew).trans hk3d); clear hk3d; obtain ⟨d0, d1, d2, d3, d4, d5, d6, d7, t0, t1, t2, tlk⟩ := HALL.out w3 hk3) | (go_at_call 81; (with_reducible refine (has81_at hp28 HA2).mono ?_); rintro e w4 ⟨rfl, hk4d⟩; have hk4 : Keep [] w2 w4 := (by first | exact hk3.trans hk4d | exact (hk3.drew).trans hk4d); clear hk4d))
          all_goals
            go_wp2_with fail
            go_ret
            refine ⟨ret_bool ?_, Keep.call hkw0 (hk01.trans (Keep.mono0 (hkE.trans (by first | exact hk4 | exact hk4.drew)))) (fun z hz => .inr (by simp at hz; rw [hz]; exact hRw))⟩
            cases hb : wholeB h [x0, x1, x2, x3, x4, x5, x6, x7] with
            | false => rfl
            | true =>
              have h9 := (wholeB_iff _ _).1 hb k HKL.out HKG.out
              rw [HBAD.out] at h9
              cases h9
        · go_wp2_with (first | (with_reducible refine Txt.wp_region_text mixed quiet (by decide +kernel) ?_) | (with_reducible refine Txt.text_done (by kernel_rfl) ?_) | (go_at_call 81; (with_reducible refine (has81_at hp18 HA1).mono ?_); rintro e w3 ⟨rfl, hk3d⟩; have hk3 : Keep [] w2 w3 := (by first | exact hk3d | exact (hkz.drew).trans hk3d); clear hk3d; obtain ⟨d0, d1, d2, d3, d4, d5, d6, d7, t0, t1, t2, tlk⟩ := HALL.out w3 hk3) | (go_at_call 81; (with_reducible refine (has81_at hp28 HA2).mono ?_); rintro e w4 ⟨rfl, hk4d⟩; have hk4 : Keep [] w2 w4 := (by first | exact hk3.trans hk4d | exact (hk3.drew).trans hk4d); clear hk4d))
          all_goals
            go_wp2_with fail
            go_roundw
            case measure => rw [(ranges_keep HRG1.out (hkE.trans (by first | exact hk4 | exact hk4.drew))).left_eq, HRG.out.left_eq]; exact hlt1
            case rel => exact ⟨fun z => left z && !z.sameKey (.int .i64 x), cnt1, hk01.trans (Keep.mono0 (hkE.trans (by first | exact hk4 | exact hk4.drew))), Lib.hid (ranges_keep HRG1.out (hkE.trans (by first | exact hk4 | exact hk4.drew))), Lib.hid (fun k' hk' hg' hl' => by
              by_cases e : left (.int .i64 (lat h k').u) = false
              · exact HVS.out k' hk' hg' e
              · have hux := strike_same (by simpa using e) hl'
                have : k' = k := take_same HK.out hk' HKL.out hg' HKG.out (hux.trans HXK.out.symm)
                rw [this, HBAD.out]
                rfl)⟩
end Go.Proofs.Ytkhchfjhmplaiaa
