/- Texts laid together: LE1 L22 L23. -/
import Derived.Test.YtfgipbjaaciiiaaMg10
/- LineEnds: how the rounds go, in plain words. -/
namespace Go
def takenE (E : En) : En := { E with inn := [], due := E.due || decide (0 < E.inn.length) }
def tickE (E : En) : En := { E with lim := if 0 < E.out.length then max E.lim 1 else E.lim, out := E.out.map (fun p => ⟨p.b, false⟩) }
/-- The other end, O0 ahead, when i packets of E came. -/
structure CF (E O0 O : En) (i : Nat) : Prop where
  win : O.win = O0.win
  sum : O.base + O.out.length = O0.base + O0.out.length
  mono : O0.base ≤ O.base
  ack : 0 < i → O.base = E.want
  zero : i = 0 → O = O0
  took : 0 < i → 0 < E.out.length → O.due = true ∧ (O0.inn = [] → E.base < O.want)
theorem CF.start (E O : En) : CF E O O 0 := ⟨rfl, rfl, Nat.le_refl _, fun h => absurd h (by decide), fun _ => rfl, fun h => absurd h (by decide)⟩
theorem ack_base {O : En} {a win : Nat} (h1 : O.base ≤ a) (h2 : a ≤ O.base + O.out.length) : (ackE O a win).base = a ∧ (ackE O a win).base + (ackE O a win).out.length = O.base + O.out.length := by
  unfold ackE
  split
  · exact ⟨rfl, by simp only [List.length_drop]; omega⟩
  · have : a = O.base := by omega
    rw [if_pos this]
    exact ⟨this.symm, rfl⟩
theorem CF.step {E O0 O : En} {i : Nat} (h : CF E O0 O i) {q : Pk} {d : Bd} (h1 : O0.base ≤ E.want) (h2 : E.want ≤ O0.base + O0.out.length) (h3 : E.base ≤ O0.want) (h4 : 1 ≤ O0.win)
    (hq : q.ack = E.want) (hh : 0 < E.out.length → q.has = true ∧ (i = 0 → q.seq = E.base)) : CF E O0 (gotE (ackE O q.ack q.win) q.has q.seq d) (i + 1) := by
  have hb : O.base ≤ E.want := by
    by_cases hi : i = 0
    · rw [h.zero hi]; exact h1
    · rw [h.ack (by omega)]; exact Nat.le_refl _
  have hs := h.sum
  obtain ⟨a1, a2⟩ := ack_base (O := O) (a := q.ack) (win := q.win) (by omega) (by omega)
  obtain ⟨g1, g2⟩ := gotE_side (ackE O q.ack q.win) q.has q.seq d
  obtain ⟨s1, s2, s3⟩ := ackE_side O q.ack q.win
  have hm := h.mono
  refine ⟨?_, by rw [g1, g2, a2]; exact hs, by rw [g1, a1, hq]; exact h1, fun _ => by rw [g1, a1, hq], fun h => absurd h (by omega), fun _ hE => ?_⟩
  · have hw := h.win
    unfold gotE
    split
    · split <;> exact s3.trans hw
    · exact s3.trans hw
  · obtain ⟨hh1, hh2⟩ := hh hE
    unfold gotE
    rw [if_pos hh1]
    by_cases hi : i = 0
    · have hO := h.zero hi
      have hseq := hh2 hi
      split
      · rename_i hc
        exact ⟨rfl, fun _ => by simp only; omega⟩
      · rename_i hc
        refine ⟨rfl, fun hin => ?_⟩
        simp only
        rw [hO] at s1 s2 s3 hc ⊢
        rw [s1]
        rw [s1, s2, s3, hin, hseq] at hc
        simp only [List.length_nil] at hc
        omega
    · obtain ⟨t1, t2⟩ := h.took (by omega) hE
      split
      · exact ⟨rfl, fun hin => by have := t2 hin; simp only; rw [s1]; omega⟩
      · exact ⟨rfl, fun hin => by have := t2 hin; simp only; rw [s1]; exact this⟩
/-- What an end sends that was ticked. -/
theorem outL_tick (E : En) (ds : Nat → Bd) : ∀ k, k ≤ E.out.length → outL (tickE E) ds k = (List.range k).map (fun i => (⟨E.base + i, E.want, true, E.win - E.inn.length, ds i⟩ : Pk))
  | 0, _ => rfl
  | k + 1, hk => by
    rw [outL, outL_tick E ds k (by omega), List.range_succ, List.map_append]
    have : (tickE E).out[k]? = some ⟨E.out[k].b, false⟩ := by
      show (E.out.map _)[k]? = _
      rw [List.getElem?_map, List.getElem?_eq_getElem (by omega)]
      rfl
    rw [this]
    rfl
theorem tick_lim {E : En} (h : 0 < E.out.length) : 0 < min (tickE E).lim (tickE E).out.length := by
  have h1 : (tickE E).out.length = E.out.length := by simp [tickE]
  have h2 : (tickE E).lim = max E.lim 1 := by simp [tickE, h]
  rw [h1, h2]
  omega
theorem outP_tick_some {E : En} (ds : Nat → Bd) (h : 0 < E.out.length) : outP (tickE E) ds = (List.range (min (tickE E).lim (tickE E).out.length)).map (fun i => (⟨E.base + i, E.want, true, E.win - E.inn.length, ds i⟩ : Pk)) := by
  have h1 : (tickE E).out.length = E.out.length := by simp [tickE]
  have h0 := tick_lim h
  unfold outP
  rw [outL_tick E ds _ (by rw [← h1]; exact Nat.min_le_right _ _), if_neg (by rw [List.length_map, List.length_range]; omega)]
theorem outP_tick_none {E : En} (ds : Nat → Bd) (h : E.out.length = 0) : outP (tickE E) ds = if E.due = true then [⟨E.base, E.want, false, E.win - E.inn.length, noBd⟩] else [] := by
  have h1 : (tickE E).out.length = 0 := by simp [tickE, h]
  unfold outP
  rw [h1, Nat.min_zero]
  rw [show outL (tickE E) ds 0 = [] from rfl]
  simp only [List.length_nil, true_and]
  rfl
theorem outP_tick_at {E : En} {ds : Nat → Bd} {i : Nat} {q : Pk} (h : (outP (tickE E) ds)[i]? = some q) : q.ack = E.want ∧ (0 < E.out.length → q.has = true ∧ (i = 0 → q.seq = E.base)) := by
  by_cases h0 : 0 < E.out.length
  · rw [outP_tick_some ds h0, List.getElem?_map] at h
    obtain ⟨j, hj, rfl⟩ := Option.map_eq_some_iff.1 h
    have hi := (List.getElem?_eq_some_iff.1 hj)
    obtain ⟨hi, he⟩ := hi
    rw [List.getElem_range] at he
    exact ⟨rfl, fun _ => ⟨rfl, fun h => by subst he; show E.base + i = E.base; omega⟩⟩
  · rw [outP_tick_none ds (by omega)] at h
    split at h
    · match i, h with
      | 0, h => cases h; exact ⟨rfl, fun h => absurd h h0⟩
    · cases h
theorem outP_tick_pos {E : En} {ds : Nat → Bd} (h : 0 < E.out.length ∨ E.due = true) : 0 < (outP (tickE E) ds).length := by
  by_cases h0 : 0 < E.out.length
  · rw [outP_tick_some ds h0, List.length_map, List.length_range]
    exact tick_lim h0
  · rw [outP_tick_none ds (by omega), if_pos (h.resolve_left h0)]
    exact Nat.one_pos
/-- One end got, was ticked, sent; and all came. -/
structure HalfR (E O E' O' : En) : Prop where
  base : E'.base = E.base
  len : E'.out.length = E.out.length
  want : E'.want = E.want
  inn : E'.inn = []
  sum : O'.base + O'.out.length = O.base + O.out.length
  mono : O.base ≤ O'.base
  ack : (0 < E.out.length ∨ E.due = true) → O'.base = E.want
  took : 0 < E.out.length → O'.due = true ∧ (O.inn = [] → E.base < O'.want)
theorem half_of {E O O' : En} {ds : Nat → Bd} (h : CF (tickE (takenE E)) O O' (outP (tickE (takenE E)) ds).length) : HalfR E O (outE (tickE (takenE E))) O' := by
  have hl : (tickE (takenE E)).out.length = E.out.length := by simp [tickE, takenE]
  have hp : (0 < E.out.length ∨ E.due = true) → 0 < (outP (tickE (takenE E)) ds).length := fun hh => outP_tick_pos (hh.imp (fun h => by simpa [takenE] using h) (fun h => by simp [takenE, h]))
  exact ⟨rfl, by show (sentL _ _).length = _; rw [sentL_len, hl], rfl, rfl, h.sum, h.mono, fun hh => h.ack (hp hh), fun h0 => h.took (hp (.inl h0)) (by rw [hl]; exact h0)⟩
def Few (r : Nat) (E : En) : Prop := E.out.length = 0 ∨ E.out.length + r ≤ 17
def Cl (E O : En) : Prop := E.out.length = 0 ∨ (E.base < O.want ∧ O.due = true)
/-- Where the rounds stand: round r, the end e is next. -/
def Rd (r e : Nat) (X : Nat → En) : Prop :=
  (e = 0 → 1 ≤ r → (X 1).inn = [] ∧ Cl (X 1) (X 0) ∧ Few r (X 0) ∧ Few r (X 1)) ∧
  (e = 1 → (X 0).inn = [] ∧ (1 ≤ r → Cl (X 0) (X 1) ∧ Few r (X 0) ∧ Few (r + 1) (X 1))) ∧
  (e = 2 → (X 1).inn = [] ∧ Cl (X 1) (X 0) ∧ Few (r + 1) (X 0) ∧ Few (r + 1) (X 1))
theorem Rd.zero (X : Nat → En) : Rd 0 0 X := ⟨fun _ h => absurd h (by decide), fun h => absurd h (by decide), fun h => absurd h (by decide)⟩
theorem HalfR.cl {E O E' O' : En} (h : HalfR E O E' O') (hi : O.inn = []) : Cl E' O' := by
  by_cases h0 : E.out.length = 0
  · exact .inl (h.len.trans h0)
  · obtain ⟨h1, h2⟩ := h.took (by omega)
    exact .inr ⟨by rw [h.base]; exact h2 hi, h1⟩
theorem HalfR.few {E O E' O' : En} (h : HalfR E O E' O') {r : Nat} (hf : Few r O) (hc : Cl O E) : Few (r + 1) O' := by
  have h1 := h.sum
  have h2 := h.mono
  rcases hc with hc | ⟨hc1, hc2⟩
  · exact .inl (by omega)
  · have h3 := h.ack (.inr hc2)
    rcases hf with hf | hf
    · exact .inl (by omega)
    · exact .inr (by omega)
theorem HalfR.same {E O E' O' : En} (h : HalfR E O E' O') {r : Nat} (hf : Few r E) : Few r E' := by
  unfold Few at *
  rw [h.len]; exact hf
theorem Rd.step {r e : Nat} {X X' : Nat → En} (h : Rd r e X) (he : e < 2) (hh : HalfR (X e) (X (1 - e)) (X' e) (X' (1 - e))) (hok : ∀ e, e < 2 → EnOk (X' e)) : Rd r (e + 1) X' := by
  obtain ⟨h0, h1, h2⟩ := h
  rcases (show e = 0 ∨ e = 1 by omega) with rfl | rfl
  · refine ⟨fun h => absurd h (by decide), fun _ => ⟨hh.inn, fun hr => ?_⟩, fun h => absurd h (by decide)⟩
    obtain ⟨a1, a2, a3, a4⟩ := h0 rfl hr
    exact ⟨hh.cl a1, hh.same a3, hh.few a4 a2⟩
  · obtain ⟨a1, a2⟩ := h1 rfl
    refine ⟨fun h => absurd h (by decide), fun h => absurd h (by decide), fun _ => ⟨hh.inn, hh.cl a1, ?_⟩⟩
    by_cases hr : 1 ≤ r
    · obtain ⟨b1, b2, b3⟩ := a2 hr
      exact ⟨hh.few b2 b1, hh.same b3⟩
    · obtain rfl : r = 0 := by omega
      have k0 := hok 0 (by decide)
      have k1 := hok 1 (by decide)
      have := k0.win; have := k0.out; have := k1.win; have := k1.out
      exact ⟨.inr (by omega), .inr (by omega)⟩
theorem Rd.next {r : Nat} {X : Nat → En} (h : Rd r 2 X) : Rd (r + 1) 0 X := ⟨fun _ _ => h.2.2 rfl, fun h => absurd h (by decide), fun h => absurd h (by decide)⟩
theorem Rd.done {r : Nat} {X : Nat → En} (h : Rd r 0 X) (hr : 17 ≤ r) : ∀ e, e < 2 → (X e).out.length = 0 := by
  obtain ⟨_, _, h1, h2⟩ := h.1 rfl (by omega)
  intro e he
  rcases (show e = 0 ∨ e = 1 by omega) with rfl | rfl
  · rcases h1 with h1 | h1 <;> omega
  · rcases h2 with h2 | h2 <;> omega
/-- When nothing waits, all that was put in was got. -/
theorem Dir.all {E O : En} {P G : List Bd} {W V : List Pk} (h : Dir E O P G W V) (h0 : E.out.length = 0) : bsOf (G ++ O.inn) = bsOf P := by
  have h1 := h.len
  have h2 := h.base
  have h3 := h.want
  rw [h.got, List.take_of_length_le (by unfold bsOf; rw [List.length_map]; omega)]
theorem Dir.few {E O : En} {P G : List Bd} {W V : List Pk} (h : Dir E O P G W V) : G.length + O.inn.length ≤ P.length := by
  have h1 := congrArg List.length h.got
  unfold bsOf at h1
  simp only [List.length_map, List.length_append, List.length_take] at h1
  omega
end Go
/- LineEnds: the contracts in terms of the state of both ends. -/
namespace Go
def EndsSt (w wr : World) (qe qw qp qg : Nat) (B : Nat → Nat) (Q : (Nat → En) → Prop) : Prop :=
  ∃ tag X VO VI VW VP VG W P G, PW w wr qe qw qp qg tag B X VO VI VW VP VG W P G ∧ LInv X P G (fun _ => []) ∧ (∀ e, e < 2 → (P e).length ≤ 300) ∧ Q X
def PkSt (w wr : World) (qe qw qp qg : Nat) (B : Nat → Nat) (e : Nat) (E O : En) (ps : List Pk) (i : Nat) : Prop :=
  ∃ tag X VO VI VW VP VG W P G, PW w wr qe qw qp qg tag B X VO VI VW VP VG W P G ∧ LInv X P G (upd (fun _ => []) (1 - e) ps) ∧ (∀ e, e < 2 → (P e).length ≤ 300) ∧ X e = outE E ∧ CF E O (X (1 - e)) i
def Fr23 (w w' : World) : Prop := ∀ (x : Nat) (cs : Array Value), w.heap[x]? = some (.cells cs 23 (0, 0)) → w'.heap[x]? = some (.cells cs 23 (0, 0))
def FrPk (w w' : World) : Prop := (∀ (B n : Nat) (v : Value) (xs : List Value), w.ownsRow B 34 5 v n xs → w'.ownsRow B 34 5 v n xs) ∧ ∀ d : Bd, d.ok w → d.ok w'
def Fc (E O : En) : Prop := O.base ≤ E.want ∧ E.want ≤ O.base + O.out.length ∧ E.base ≤ O.want ∧ 1 ≤ O.win
def Sm (q : Pk) : Prop := q.win ≤ 16 ∧ q.seq ≤ 1000 ∧ q.ack ≤ 1000 ∧ q.body.bs.length ≤ 1000
theorem EndsSt.mono {w wr : World} {qe qw qp qg : Nat} {B : Nat → Nat} {Q Q' : (Nat → En) → Prop} (h : EndsSt w wr qe qw qp qg B Q) (hq : ∀ X, Q X → Q' X) : EndsSt w wr qe qw qp qg B Q' := by
  obtain ⟨tag, X, VO, VI, VW, VP, VG, W, P, G, h1, h2, h3, h4⟩ := h
  exact ⟨_, _, _, _, _, _, _, _, _, _, h1, h2, h3, hq X h4⟩
theorem EndsSt.of {w wr : World} {qe qw qp qg : Nat} {tag B : Nat → Nat} {X : Nat → En} {VO VI VW VP VG : Nat → Value} {W : Nat → List Pk} {P G : Nat → List Bd} {Q : (Nat → En) → Prop} (h1 : PW w wr qe qw qp qg tag B X VO VI VW VP VG W P G) (h2 : LInv X P G (fun _ => [])) (h3 : ∀ e, e < 2 → (P e).length ≤ 300) (h4 : Q X) : EndsSt w wr qe qw qp qg B Q := ⟨_, _, _, _, _, _, _, _, _, _, h1, h2, h3, h4⟩
theorem EndsSt.keep0 {w wr w' : World} {qe qw qp qg : Nat} {B : Nat → Nat} {Q : (Nat → En) → Prop} (h : EndsSt w wr qe qw qp qg B Q) (hk : Keep [] wr w') : EndsSt w w' qe qw qp qg B Q := by
  obtain ⟨tag, X, VO, VI, VW, VP, VG, W, P, G, h1, h2⟩ := h
  exact ⟨_, _, _, _, _, _, _, _, _, _, h1.keep0 hk, h2⟩
theorem PkSt.keep0 {w wr w' : World} {qe qw qp qg e i : Nat} {B : Nat → Nat} {E O : En} {ps : List Pk} (h : PkSt w wr qe qw qp qg B e E O ps i) (hk : Keep [] wr w') : PkSt w w' qe qw qp qg B e E O ps i := by
  obtain ⟨tag, X, VO, VI, VW, VP, VG, W, P, G, h1, h2⟩ := h
  exact ⟨_, _, _, _, _, _, _, _, _, _, h1.keep0 hk, h2⟩
theorem Fr23.ofEn {w w' : World} {B b : Nat} {E E' : En} {vo vi vo' vi' : Value} (hx : EnAt w B b E vo vi) (ht : EnTo w w' B b E' vo vi vo' vi') : Fr23 w w' := fun _ _ h => ht.keep.at h (notEn hx h (by decide) (by decide) (by decide))
theorem FrPk.ofEn {w w' : World} {B b : Nat} {E E' : En} {vo vi vo' vi' : Value} (hx : EnAt w B b E vo vi) (ht : EnTo w w' B b E' vo vi vo' vi') : FrPk w w' := ⟨fun _ _ _ _ ho => ht.row hx ho (by decide) (by decide) (by decide), fun _ hd => ht.bd hx hd⟩
theorem FrPk.keep0 {w w' : World} (hk : Keep [] w w') : FrPk w w' := ⟨fun _ _ _ _ ho => own_keep ho hk (by simp), fun _ hd => hd.keep hk (NoB.nil _)⟩
theorem FrPk.trans {w w1 w2 : World} (h1 : FrPk w w1) (h2 : FrPk w1 w2) : FrPk w w2 := ⟨fun B n v xs h => h2.1 B n v xs (h1.1 B n v xs h), fun d h => h2.2 d (h1.2 d h)⟩
theorem Fr23.keep0 {w w' : World} (hk : Keep [] w w') : Fr23 w w' := fun _ _ h => hk.at h (by simp)
theorem Fr23.trans {w w1 w2 : World} (h1 : Fr23 w w1) (h2 : Fr23 w1 w2) : Fr23 w w2 := fun x cs h => h2 x cs (h1 x cs h)
theorem PkSt.done {w wr : World} {qe qw qp qg e r : Nat} {B : Nat → Nat} {ps : List Pk} {ds : Nat → Bd} {X0 : Nat → En} (he : e < 2) (hps : ps = outP (tickE (takenE (X0 e))) ds) (h : PkSt w wr qe qw qp qg B e (tickE (takenE (X0 e))) (X0 (1 - e)) ps ps.length) (hr : Rd r e X0) : EndsSt w wr qe qw qp qg B (Rd r (e + 1)) := by
  obtain ⟨tag, X, VO, VI, VW, VP, VG, W, P, G, h1, h2, h3, h4, h5⟩ := h
  subst hps
  have hl := h2.less (e := 1 - e) (by omega) (W' := []) (fun q hq => by cases hq)
  have hu : upd (upd (fun _ => []) (1 - e) (outP (tickE (takenE (X0 e))) ds)) (1 - e) [] = (fun _ => ([] : List Pk)) := by
    funext k
    unfold upd
    split <;> rfl
  rw [hu] at hl
  refine ⟨_, _, _, _, _, _, _, _, _, _, h1, hl, h3, hr.step he ?_ (fun j hj => (h1.en j hj).2.1)⟩
  rw [h4]
  exact half_of h5
end Go
namespace Go.Proofs.Ytfgipbjaaciiiaa
open Go.RowKit
theorem tick20_st {w wr : World} {qe qw qp qg e : Nat} {B : Nat → Nat} {E O : En} (he : e < 2) (h : EndsSt w wr qe qw qp qg B (fun X => X e = E ∧ X (1 - e) = O)) :
    Calls Try.prog 20 #[.pointer (some ⟨B e, 0, none⟩)] wr fun r w' => r = .returned (.tuple #[]) ∧ EndsSt w w' qe qw qp qg B (fun X => X e = tickE E ∧ X (1 - e) = O) ∧ Fr23 wr w' := by
  obtain ⟨tag, X, VO, VI, VW, VP, VG, W, P, G, hPW, hLI, hP, rfl, rfl⟩ := h
  obtain ⟨hx, hok, _⟩ := hPW.en e he
  refine (tick20_any hx hok).mono ?_
  rintro r w' ⟨rfl, ht⟩
  have hl := hLI.tick he (if 0 < (X e).out.length then max (X e).lim 1 else (X e).lim)
  refine ⟨rfl, ⟨_, _, _, _, _, _, _, _, _, _, hPW.onEnd he ht hok.tick, hl, hP, ?_, ?_⟩, Fr23.ofEn hx ht⟩
  · rw [upd_same]; rfl
  · rw [upd_other _ _ (by omega)]
theorem out14_st {w wr : World} {qe qw qp qg e : Nat} {B : Nat → Nat} {E O : En} (he : e < 2) (h : EndsSt w wr qe qw qp qg B (fun X => X e = E ∧ X (1 - e) = O)) :
    Calls Try.prog 14 #[.pointer (some ⟨B e, 0, none⟩)] wr fun r w' => ∃ a c ds ps n, r = .returned (.slice a n c) ∧ ps = outP E ds ∧ ps.length = n ∧ n ≤ 16 ∧ n ≤ c ∧ c ≤ maxLen ∧ w'.ownsRow wr.heap.size 34 5 (.slice a n c) n (pksC ps) ∧ (∀ q ∈ ps, q.body.ok w') ∧ (∀ q ∈ ps, Sm q) ∧ PkSt w w' qe qw qp qg B e E O ps 0 ∧ Fc E O ∧ Fr23 wr w' := by
  obtain ⟨tag, X, VO, VI, VW, VP, VG, W, P, G, hPW, hLI, hP, rfl, rfl⟩ := h
  obtain ⟨hx, hok, _⟩ := hPW.en e he
  refine (out14_any hx hok).mono ?_
  rintro r w' ⟨v', rfl, ds, ho, ht, hd⟩
  obtain ⟨a, c, rfl, hc1, hc2, -⟩ := ownAny ho
  obtain ⟨d1, d2⟩ := hLI.both he
  have hl := hLI.sends he (ds := ds) (fun i p h1 h2 h3 => (hd i h1 p h2 h3).1)
  rw [List.nil_append] at hl
  have hlen := d2.len
  have hw2 := d2.want
  have hpo := hP (1 - e) (by omega)
  refine ⟨a, c, ds, _, _, rfl, rfl, rfl, outP_len hok.lim, hc1, hc2, ho, outP_bodies hd, fun q hq => ?_, ⟨_, _, _, _, _, _, _, _, _, _, hPW.onEnd he ht hok.outE, hl, hP, upd_same _ _ _, ?_⟩, ⟨d2.base, by omega, d1.base, (hPW.en (1 - e) (by omega)).2.1.win.1⟩, Fr23.ofEn hx ht⟩
  · obtain ⟨h1, h2, h3, h4⟩ := outP_mem hq
    have hp := hP e he
    have hl := d1.len
    have hw := hok.win
    refine ⟨by omega, ?_, by omega, ?_⟩
    · cases hh : q.has with
      | true => obtain ⟨i, p, g1, g2, g3, g4, g5⟩ := h3 hh; omega
      | false => have := (h4 hh).1; omega
    · cases hh : q.has with
      | true =>
        obtain ⟨i, p, g1, g2, g3, g4, g5⟩ := h3 hh
        rw [g5, (hd i g1 p g2 g3).1]
        exact hok.bo p (List.mem_of_getElem? g2)
      | false => rw [(h4 hh).2]; exact Nat.zero_le _
  · rw [upd_other _ _ (by omega)]
    exact CF.start _ _
theorem come15_st {w wr : World} {qe qw qp qg e o i : Nat} {B : Nat → Nat} {E O : En} {ps : List Pk} {ds : Nat → Bd} {q : Pk} (he : e < 2) (ho : 1 - e = o) (hF : Fc (tickE E) O) (hps : ps = outP (tickE E) ds) (h : PkSt w wr qe qw qp qg B e (tickE E) O ps i) (hq : ps[i]? = some q) (hb : q.body.ok wr) (hs : Sm q) :
    Calls Try.prog 15 #[.pointer (some ⟨B o, 0, none⟩), .agg #[.int .u32 q.seq, .int .u32 q.ack, .bool q.has, .int .i64 q.win, .slice q.body.a q.body.bs.length q.body.c]] wr fun r w' => r = .returned (.int .i64 0) ∧ PkSt w w' qe qw qp qg B e (tickE E) O ps (i + 1) ∧ Fr23 wr w' ∧ FrPk wr w' := by
  obtain ⟨tag, X, VO, VI, VW, VP, VG, W, P, G, hPW, hLI, hP, hXe, hCF⟩ := h
  subst ho
  have ho : 1 - e < 2 := by omega
  obtain ⟨hx, hok, _⟩ := hPW.en (1 - e) ho
  obtain ⟨hs1, hs2, hs3, hs4⟩ := hs
  refine (come15_any hx hok hb hs4 (by omega) (by omega) hs1).mono ?_
  rintro r w' ⟨rfl, vo', vi', a', c', hf, ht⟩
  have hmem : q ∈ upd (fun _ => []) (1 - e) ps (1 - e) := by rw [upd_same]; exact List.mem_of_getElem? hq
  have hl := hLI.come ho hmem (d := ⟨a', c', q.body.bs⟩) rfl
  obtain ⟨d1, d2⟩ := hLI.both ho
  have hw := d2.want
  have hpe := hP (1 - (1 - e)) (by omega)
  have hpo := hP (1 - e) (by omega)
  have hok2 : EnOk (gotE (ackE (X (1 - e)) q.ack q.win) q.has q.seq ⟨a', c', q.body.bs⟩) := (hok.ack (by omega) hs1).got (by rw [(ackE_side _ _ _).1]; omega)
  subst hps
  obtain ⟨t1, t2⟩ := outP_tick_at hq
  have f1 : O.base ≤ E.want := hF.1
  have f2 : E.want ≤ O.base + O.out.length := hF.2.1
  have f3 : E.base ≤ O.want := hF.2.2.1
  have f4 := hF.2.2.2
  refine ⟨rfl, ⟨_, _, _, _, _, _, _, _, _, _, hPW.onEnd ho ht hok2, hl, hP, ?_, ?_⟩, Fr23.ofEn hx ht, FrPk.ofEn hx ht⟩
  · rw [upd_other _ _ (by omega)]; exact hXe
  · rw [upd_same]
    have hl0 : (tickE E).out.length = E.out.length := by simp [tickE]
    exact hCF.step f1 f2 f3 f4 t1 (by rw [hl0]; exact t2)
theorem equalF21_eq {w : World} {a1 a2 : Option Addr} {n m c1 c2 : Nat} {Z : Nat → List Int} (hnm : n = m) (h1 : RowB w a1 n Z) (h2 : RowB w a2 n Z) (hn : n ≤ 100000) (hm1 : n ≤ c1 ∧ c1 ≤ maxLen) (hm2 : m ≤ c2 ∧ c2 ≤ maxLen) :
    Calls Try.prog 21 #[.slice a1 n c1, .slice a2 m c2, .func (.func 18) #[] #[]] w fun e w' => e = .returned (.bool true) ∧ Keep [] w w' := by
  subst hnm
  exact equalF21_same h1 h2 hn hm1 hm2
theorem idle25_t {w : World} {B b : Nat} {E : En} {vo vi : Value} (h : EnAt w B b E vo vi) (hok : EnOk E) (h0 : E.out.length = 0) :
    Calls Try.prog 25 #[.pointer (some ⟨b, 0, none⟩)] w fun e w' => e = .returned (.bool true) ∧ w' = w := by
  have := idle25_any h hok
  rw [h0] at this
  exact this
end Go.Proofs.Ytfgipbjaaciiiaa
/- LineEnds: the walk. -/
namespace Go.Proofs.Ytfgipbjaaciiiaa
open Go.RowKit
set_option maxRecDepth 100000 in
set_option maxHeartbeats 8000000 in
theorem lineEnds_walk (a b : Int) (ap : Option Addr) (len cap : Nat) (zs : List Int) (w : World) (hz : IntsV w ap len cap zs) :
    Calls Try.prog 6 #[.int .i64 a, .int .i64 b, .slice ap len cap] w fun e w' => e = .returned (.bool true) ∧ Keep [] w w' := by
  have HZ := Lib.hid hz
  obtain ⟨i29, hi29, hy0, hy1, hy2⟩ := info_parts2 info29
  clear hz
  go_enter Try.func6, Try.ntmps6
  go_wp2_with (first | (with_reducible refine Txt.wp_region_text mixed quiet (by decide +kernel) ?_) | (with_reducible refine Txt.text_done (by kernel_rfl) ?_) | (go_at_call 10; (with_reducible refine begun10_any.mono ?_); rintro e w1 ⟨rfl, hk1⟩) | (go_at_call 23; (with_reducible refine (played23_any (HZ.out.keep hk1 (by simp))).mono ?_); rintro e w2 ⟨qe, qw, qp, qg, tag, B, X, VO, VI, VW, VP, VG, W, P, G, rfl, hPW, hLI, hBD⟩; have HPW := Lib.hid (PW.base hk1 hPW); have HLI := Lib.hid hLI; have HBD := Lib.hid hBD; obtain ⟨p0, x0, hp0, -, -, -⟩ := ownAny (hPW.rp 0 (by decide)).1; obtain ⟨p1, x1, hp1, -, -, -⟩ := ownAny (hPW.rp 1 (by decide)).1; obtain ⟨g0, y0, hg0, -, -, -⟩ := ownAny (hPW.rg 0 (by decide)).1; obtain ⟨g1, y1, hg1, -, -, -⟩ := ownAny (hPW.rg 1 (by decide)).1; rw [hp0, hp1, hg0, hg1]; have HP0 := Lib.hid hp0; have HP1 := Lib.hid hp1; have HG0 := Lib.hid hg0; have HG1 := Lib.hid hg1; clear hPW hLI hBD hp0 hp1 hg0 hg1))
  obtain ⟨b1, b2, b3⟩ := alloc3 w2 (.cells #[.slice p0 (P 0).length x0, .slice p1 (P 1).length x1] 46) (.cells #[.slice g0 (G 0).length y0, .slice g1 (G 1).length y1] 46) (.cells #[] 46)
  have hsw := HPW.out.kx.size
  have b1' : ((w2.alloc (.cells #[.slice p0 (P 0).length x0, .slice p1 (P 1).length x1] 46)).alloc (.cells #[.slice g0 (G 0).length y0, .slice g1 (G 1).length y1] 46)).heap[w2.heap.size]? = some (.cells #[.slice p0 (P 0).length x0, .slice p1 (P 1).length x1] 46) := by
    rw [blk_alloc, if_neg (by rw [show (w2.alloc (.cells #[.slice p0 (P 0).length x0, .slice p1 (P 1).length x1] 46)).heap.size = w2.heap.size + 1 by show (w2.heap.push _).size = _; rw [Array.size_push]]; omega), blk_alloc, if_pos rfl]
  have b2' : ((w2.alloc (.cells #[.slice p0 (P 0).length x0, .slice p1 (P 1).length x1] 46)).alloc (.cells #[.slice g0 (G 0).length y0, .slice g1 (G 1).length y1] 46)).heap[w2.heap.size + 1]? = some (.cells #[.slice g0 (G 0).length y0, .slice g1 (G 1).length y1] 46) := by
    rw [blk_alloc, if_pos (by show _ = (w2.heap.push _).size; rw [Array.size_push])]
  have HST : Hid (EndsSt w ((w2.alloc (.cells #[.slice p0 (P 0).length x0, .slice p1 (P 1).length x1] 46)).alloc (.cells #[.slice g0 (G 0).length y0, .slice g1 (G 1).length y1] 46)) qe qw w2.heap.size (w2.heap.size + 1) B (Rd 0 0)) := Lib.hid ⟨_, _, _, _, _, _, _, _, _, _, (HPW.out.keep0 (((Keep.refl [] w2).alloc _).alloc _)).copy (by rw [HP0.out, HP1.out]; exact b1') (by rw [HG0.out, HG1.out]; exact b2') ⟨by omega, by omega, by omega⟩, fun e he => (HLI.out e he).lessW (fun q hq => by cases hq) (fun q hq => by cases hq), fun e he => HBD.out.put e he, Rd.zero _⟩
  clear b1 b2 b3 b1' b2' HPW HLI HBD HP0 HP1 HG0 HG1
  obtain ⟨q1, hq1⟩ : ∃ x, w2.heap.size = x := ⟨_, rfl⟩
  rw [hq1] at HST ⊢
  clear hq1 hsw
  go_loopw [33] (fun j wr => ∃ r : Nat, r ≤ 36 ∧ j = .int .i64 r ∧ Hid (EndsSt w wr qe qw q1 (q1 + 1) B (Rd r 0))) (fun j _ => 36 - (intOf j).toNat)
  case atStart => exact ⟨0, by omega, rfl, HST⟩
  case round =>
    obtain ⟨r, hk, rfl, HP⟩ := hrel
    by_cases hr : r < 36
    · have hdec : decide ((r : Int) < 36) = true := by simp; omega
      go_wp2_with (first | (with_reducible refine Txt.wp_region_text mixed quiet (by decide +kernel) ?_) | (with_reducible refine Txt.text_done (by kernel_rfl) ?_))
      have HP1 : Hid (EndsSt w (wr.alloc (.cells #[.pointer (some ⟨B 0, 0, none⟩), .pointer (some ⟨B 1, 0, none⟩)] 23)) qe qw q1 (q1 + 1) B (Rd r 0)) := Lib.hid (HP.out.keep0 ((Keep.refl [] wr).alloc _))
      have HQ : Hid ((wr.alloc (.cells #[.pointer (some ⟨B 0, 0, none⟩), .pointer (some ⟨B 1, 0, none⟩)] 23)).heap[wr.heap.size]? = some (.cells #[.pointer (some ⟨B 0, 0, none⟩), .pointer (some ⟨B 1, 0, none⟩)] 23 (0, 0))) := Lib.hid (blk_new wr _)
      obtain ⟨q2, hq2⟩ : ∃ x, wr.heap.size = x := ⟨_, rfl⟩
      rw [hq2] at HQ ⊢
      clear hq2 HP HST
      go_loopw [39] (fun j wr => ∃ e : Nat, e ≤ 2 ∧ j = .int .i64 e ∧ Hid (EndsSt w wr qe qw q1 (q1 + 1) B (Rd r e)) ∧ Hid (wr.heap[q2]? = some (.cells #[.pointer (some ⟨B 0, 0, none⟩), .pointer (some ⟨B 1, 0, none⟩)] 23 (0, 0)))) (fun j _ => 2 - (intOf j).toNat)
      case atStart => exact ⟨0, by omega, rfl, HP1, HQ⟩
      case round =>
        obtain ⟨e, hk2, rfl, HP2, HQ2⟩ := hrel
        by_cases he : e < 2
        · have hce := two_at (V := fun e => .pointer (some ⟨B e, 0, none⟩)) HQ2.out he
          obtain ⟨tag, X, VO, VI, VW, VP, VG, W, P, G, hPW, hLI, hP, hRd⟩ := HP2.out
          have hcb := two_at (V := fun e => .pointer (some ⟨B (1 - e), 0, none⟩)) (blk_new wr (.cells #[.pointer (some ⟨B 1, 0, none⟩), .pointer (some ⟨B 0, 0, none⟩)] 23)) he
          have hdec2 : decide ((e : Int) < 2) = true := by simp; omega
          have hei : (e : Int) < 2 := by omega
          obtain ⟨o, ho⟩ : ∃ o, 1 - e = o := ⟨_, rfl⟩
          have ho2 : o < 2 := by omega
          simp only [ho] at hcb
          have HOO := Lib.hid ho
          have hne1 : ¬ q1 + 1 = wr.heap.size := by have := lt_of_blk hPW.gots; omega
          have hne2 : ¬ q1 + 1 = q2 := neType hPW.gots HQ2.out (by decide)
          have HEN0 := Lib.hid (hPW.en e he).1
          have HEO : Hid (EnOk (X e)) := Lib.hid (hPW.en e he).2.1
          obtain ⟨ai, ci, hvi, hi1, hi2, -⟩ := ownAny HEN0.out.inn
          have HVI := Lib.hid hvi
          obtain ⟨ag, cg, hvg, hg1, hg2, -⟩ := ownAny (hPW.rg e he).1
          have HVG := Lib.hid hvg
          have hcg2 := two_at (V := VG) (hPW.keep0 ((Keep.refl [] wr).alloc (.cells #[.pointer (some ⟨B 1, 0, none⟩), .pointer (some ⟨B 0, 0, none⟩)] 23))).gots he
          rw [hvg] at hcg2
          have HPWD := Lib.hid ((hPW.keep0 ((Keep.refl [] wr).alloc (.cells #[.pointer (some ⟨B 1, 0, none⟩), .pointer (some ⟨B 0, 0, none⟩)] 23))).keep0 (Keep.refl [] _).drew)
          have HEND := Lib.hid (HPWD.out.en e he).1
          have HQD : Hid ((wr.alloc (.cells #[.pointer (some ⟨B 1, 0, none⟩), .pointer (some ⟨B 0, 0, none⟩)] 23)).drew.heap[q2]? = some (.cells #[.pointer (some ⟨B 0, 0, none⟩), .pointer (some ⟨B 1, 0, none⟩)] 23 (0, 0))) := Lib.hid (((Keep.refl [] wr).alloc _).at HQ2.out (by simp))
          have HGL : Hid ((G e).length + (X e).inn.length ≤ 300) := Lib.hid (by have h8 := (hLI.both he).2.few; have h9 := hP (1 - e) (by omega); omega)
          have HLI := Lib.hid hLI
          have HP300 := Lib.hid hP
          have HRD := Lib.hid hRd
          unfold maxLen at hi2 hg2
          clear hvi hvg hPW hLI hP hRd ho
          go_wp2_with (first | (with_reducible refine Txt.wp_region_text mixed quiet (by decide +kernel) ?_) | (with_reducible refine Txt.text_done (by kernel_rfl) ?_))
          go_region_law (first | (refine step_append_any rfl (.tmp 53) (.tmp 55) 37 rfl w.heap.size 29 i29 (.slice none 0 0) 1 24 Try.underlying37 hi29 hy0 hy1 hy2 rfl (by decide) (.slice ag (G e).length cg) (G e).length ((G e).map Bd.val) (by simp [Act.eval]) HOG.out ai (X e).inn.length ci ((X e).inn.map Bd.val) (by simp [Act.eval]) HLI4.out HNI.out (one_bds _) HMG.out HMH.out HBG.out ?_; intro a6 c6 w6 hown6 hgr6 hat6; have hk6 : Keep (VG e).ownBlock.toList w4 w6 := Keep.ofGrown hgr6 (fun x hx => (by rw [HVG.out]; simp [hx])); have hg6 := hk6.at HPW4.out.gots (fun hm => (by obtain ⟨c9, h9⟩ := ownCells (HPW4.out.rg e he).1 (by simpa using hm); exact neType h9 HPW4.out.gots (by decide) rfl)); have hcg6 := two_at (V := VG) hg6 he; rw [HVG.out] at hcg6; have hzg6 := thaw hg6; have hq6 := hk6.at HQ4.out (fun hm => (by obtain ⟨c9, h9⟩ := ownCells (HPW4.out.rg e he).1 (by simpa using hm); exact neType h9 HQ4.out (by decide) rfl)); have HQ6 := Lib.hid hq6; clear hq6; have hbg6 := lt_of_blk hg6; have HFG := Lib.hid (HPW4.out.onGot he (l := G e ++ (X e).inn) hk6 (by rw [List.length_append, List.map_append]; exact hown6) (got_bodies HPW4.out he hk6 HBI4.out) (nw_any (by rw [HVG.out]) hat6)); clear hown6 hgr6 hat6 hk6 hg6) | (go_simp; go_at_call 22; (with_reducible refine (got22_any HEND.out HEO.out).mono ?_); rintro e4 w4 ⟨rfl, hk4, he4⟩; have HPW4 := Lib.hid (HPWD.out.onEnd he (got_to hk4 he4) (HEO.out.taken _)); have hg4 := HPW4.out.gots; have HQ4 := Lib.hid (hk4.at HQD.out (fun hm => neType HQD.out HEND.out.blk (by decide) (List.mem_singleton.1 hm))); have hcg4 := two_at (V := VG) hg4 he; rw [HVG.out] at hcg4; have hog := (HPW4.out.rg e he).1; rw [HVG.out] at hog; have HOG := Lib.hid hog; have hin := own_keep HEND.out.inn hk4 (fun g hg hm => (by obtain ⟨c9, h9⟩ := ownCells HEND.out.inn hg; exact neType h9 HEND.out.blk (by decide) (List.mem_singleton.1 hm))); rw [HVI.out] at hin; have HNI := Lib.hid (own_news hin); have HBI4 : Hid (∀ d ∈ (X e).inn, d.ok w4) := Lib.hid (fun d hd => (HEND.out.bi d hd).keep hk4 (fun x hx cs f hc => (by rw [List.mem_singleton.1 hx] at hc; exact neType HEND.out.blk hc (by decide) rfl))); have HLI4 : Hid (((X e).inn.map Bd.val).length = (X e).inn.length * 1) := Lib.hid (by rw [List.length_map, Nat.mul_one]); have HMG : Hid ((G e).length + (X e).inn.length ≤ maxLen) := Lib.hid (by have := HGL.out; unfold maxLen; omega); have HMH : Hid (((G e).length + (X e).inn.length) * 24 ≤ 140737488355328) := Lib.hid (by have := HGL.out; omega); have HBG : Hid (w.heap.size ≤ w4.heap.size) := Lib.hid HPW4.out.kx.size; rw [HVI.out]; clear hk4 he4 hg4 hog hin))
          all_goals
            have HS1 := Lib.hid (EndsSt.of (Q := fun X' => X' e = takenE (X e) ∧ X' (1 - e) = X (1 - e)) HFG.out (HLI.out.taken he ((X e).due || decide (0 < (X e).inn.length))) HP300.out ⟨upd_same _ _ _, upd_other _ _ (by omega)⟩)
            have hq9 : (w6.setCell ⟨q1 + 1, e, none⟩ (.slice a6 ((G e).length + (X e).inn.length) c6)).heap[q2]? = some (.cells #[.pointer (some ⟨B 0, 0, none⟩), .pointer (some ⟨B 1, 0, none⟩)] 23 (0, 0)) := by rw [blk_setCell, if_neg hne2]; exact HQ6.out
            have HQ9 := Lib.hid hq9
            clear hq9 HFG HQ6 HQ4
            go_wp2_with (first | (with_reducible refine Txt.wp_region_text mixed quiet (by decide +kernel) ?_) | (with_reducible refine Txt.text_done (by kernel_rfl) ?_) | (go_at_call 20; (with_reducible refine (tick20_st he HS1.out).mono ?_); rintro e7 w7 ⟨rfl, hs7, hf7⟩; have HS7 := Lib.hid hs7; have HF7 := Lib.hid hf7; clear hs7 hf7) | (go_at_call 14; (with_reducible refine (out14_st he HS7.out).mono ?_); rintro e8 w8 ⟨a8, c8, ds, ps, n, rfl, hps, hpl, hn16, hnc, hcm, ho8, hb8, hs8, hpk, hfc, hf8⟩; unfold maxLen at hcm; have HO8 := Lib.hid ho8; have HB8 := Lib.hid hb8; have HSM := Lib.hid hs8; have HPK := Lib.hid hpk; have HFC := Lib.hid hfc; have HPS := Lib.hid hps; have HPL := Lib.hid hpl; have HQ8 := Lib.hid (hf8 _ _ (HF7.out _ _ HQ9.out)); clear hps hpl ho8 hb8 hs8 hpk hfc hf8))
            have hEN : (e : Int) < 2 := by omega
            go_loopw [63] (fun j wr => ∃ i : Nat, i ≤ n ∧ j = .int .i64 i ∧ Hid (PkSt w wr qe qw q1 (q1 + 1) B e (tickE (takenE (X e))) (X (1 - e)) ps i) ∧ Hid (wr.ownsRow w7.heap.size 34 5 (.slice a8 n c8) n (pksC ps)) ∧ Hid (∀ q ∈ ps, q.body.ok wr) ∧ Hid (wr.heap[q2]? = some (.cells #[.pointer (some ⟨B 0, 0, none⟩), .pointer (some ⟨B 1, 0, none⟩)] 23 (0, 0)))) (fun j _ => n - (intOf j).toNat)
            case atStart => exact ⟨0, by omega, rfl, HPK, HO8, HB8, HQ8⟩
            case round =>
              obtain ⟨i, hk3, rfl, HP3, HO3, HB3, HQ3⟩ := hrel
              by_cases hi : i < n
              · obtain ⟨g, c', heq, _, _, hgl, hzg, hq⟩ := pkrow HO3.out (by omega)
                obtain ⟨rfl, -, -⟩ : a8 = some ⟨g, 0, none⟩ ∧ n = n ∧ c8 = c' := by injection heq with h1 h2 h3; exact ⟨h1, h2, h3⟩
                obtain ⟨q, hqq⟩ : ∃ q, ps[i]? = some q := ⟨_, List.getElem?_eq_getElem (by have := HPL.out; omega)⟩
                obtain ⟨k0, k1, k2, k3, k4⟩ := hq i q hqq
                have HQQ := Lib.hid hqq
                have HMEM := Lib.hid (List.mem_of_getElem? hqq)
                have HPA : Hid (∀ o, PkSt w (wr.alloc o) qe qw q1 (q1 + 1) B e (tickE (takenE (X e))) (X (1 - e)) ps i) := Lib.hid (fun o => HP3.out.keep0 ((Keep.refl [] wr).alloc o))
                have HBA : Hid (∀ o, q.body.ok (wr.alloc o)) := Lib.hid (fun o => (FrPk.keep0 ((Keep.refl [] wr).alloc o)).2 _ (HB3.out q HMEM.out))
                clear hq hqq heq
                go_wp2_with (first | (with_reducible refine Txt.wp_region_text mixed quiet (by decide +kernel) ?_) | (with_reducible refine Txt.text_done (by kernel_rfl) ?_) | (go_at_call 15; (with_reducible refine (come15_st he HOO.out HFC.out HPS.out (HPA.out _) HQQ.out (HBA.out _) (HSM.out q HMEM.out)).mono ?_); rintro e9 w9 ⟨rfl, hk9, hf9, hr9⟩; have HK9 := Lib.hid hk9; have HF9 := Lib.hid hf9; have HR9 := Lib.hid hr9; clear hk9 hf9 hr9))
                exact ⟨⟨i + 1, hi, by go_num, HK9, Lib.hid (HR9.out.1 _ _ _ _ ((FrPk.keep0 ((Keep.refl [] wr).alloc _)).1 _ _ _ _ HO3.out)), Lib.hid (fun q hq => HR9.out.2 _ ((FrPk.keep0 ((Keep.refl [] wr).alloc _)).2 _ (HB3.out q hq))), Lib.hid (HF9.out _ _ (Fr23.keep0 ((Keep.refl [] wr).alloc _) _ _ HQ3.out))⟩, by simp [intOf]; omega⟩
              · obtain rfl : i = n := by omega
                have HD3 : Hid (EndsSt w wr qe qw q1 (q1 + 1) B (Rd r (e + 1))) := Lib.hid (PkSt.done he HPS.out (by rw [HPL.out]; exact HP3.out) HRD.out)
                clear HP3
                go_wp2_with (first | (with_reducible refine Txt.wp_region_text mixed quiet (by decide +kernel) ?_) | (with_reducible refine Txt.text_done (by kernel_rfl) ?_))
                exact ⟨⟨e + 1, by omega, by go_num, HD3, HQ3⟩, by simp [intOf]; omega⟩
        · obtain rfl : e = 2 := by omega
          have HD2 : Hid (EndsSt w wr qe qw q1 (q1 + 1) B (Rd (r + 1) 0)) := Lib.hid (HP2.out.mono (fun X h => h.next))
          clear HP2
          go_wp2_with (first | (with_reducible refine Txt.wp_region_text mixed quiet (by decide +kernel) ?_) | (with_reducible refine Txt.text_done (by kernel_rfl) ?_))
          exact ⟨⟨r + 1, by omega, by go_num, HD2⟩, by simp [intOf]; omega⟩
    · have hdec : decide ((r : Int) < 36) = false := by simp; omega
      have HDN : Hid (EndsSt w wr qe qw q1 (q1 + 1) B (fun X => ∀ e, e < 2 → (X e).out.length = 0)) := Lib.hid (HP.out.mono (fun X h => h.done (by omega)))
      clear HP HST
      go_wp2_with (first | (with_reducible refine Txt.wp_region_text mixed quiet (by decide +kernel) ?_) | (with_reducible refine Txt.text_done (by kernel_rfl) ?_))
      have HP1 : Hid (EndsSt w (wr.alloc (.cells #[.pointer (some ⟨B 0, 0, none⟩), .pointer (some ⟨B 1, 0, none⟩)] 23)) qe qw q1 (q1 + 1) B (fun X => ∀ e, e < 2 → (X e).out.length = 0)) := Lib.hid (HDN.out.keep0 ((Keep.refl [] wr).alloc _))
      have HQ : Hid ((wr.alloc (.cells #[.pointer (some ⟨B 0, 0, none⟩), .pointer (some ⟨B 1, 0, none⟩)] 23)).heap[wr.heap.size]? = some (.cells #[.pointer (some ⟨B 0, 0, none⟩), .pointer (some ⟨B 1, 0, none⟩)] 23 (0, 0))) := Lib.hid (blk_new wr _)
      obtain ⟨q2, hq2⟩ : ∃ x, wr.heap.size = x := ⟨_, rfl⟩
      rw [hq2] at HQ ⊢
      clear hq2 HDN
      go_loopw [78] (fun j wr => ∃ e : Nat, e ≤ 2 ∧ j = .int .i64 e ∧ Hid (EndsSt w wr qe qw q1 (q1 + 1) B (fun X => ∀ e, e < 2 → (X e).out.length = 0)) ∧ Hid (wr.heap[q2]? = some (.cells #[.pointer (some ⟨B 0, 0, none⟩), .pointer (some ⟨B 1, 0, none⟩)] 23 (0, 0)))) (fun j _ => 2 - (intOf j).toNat)
      case atStart => exact ⟨0, by omega, rfl, HP1, HQ⟩
      case round =>
        obtain ⟨e, hk2, rfl, HP2, HQ2⟩ := hrel
        obtain ⟨tag, X, VO, VI, VW, VP, VG, W, P, G, hPW, hLI, hP, h0⟩ := HP2.out
        by_cases he : e < 2
        · have hce := two_at (V := fun e => .pointer (some ⟨B e, 0, none⟩)) HQ2.out he
          obtain ⟨o, ho⟩ : ∃ o, 1 - e = o := ⟨_, rfl⟩
          have ho2 : o < 2 := by omega
          have hoi : (1 : Int) - (e : Int) = (o : Int) := by omega
          have hwo : IntKind.i64.wrap (o : Int) = (o : Int) := wrap_o01 ho2
          have hoi2 : (o : Int) < 2 := by omega
          have hei : (e : Int) < 2 := by omega
          have HOO := Lib.hid ho
          have hne2 : ¬ q1 + 1 = q2 := neType hPW.gots HQ2.out (by decide)
          have HEN0 := Lib.hid (hPW.en e he).1
          have HEO : Hid (EnOk (X e)) := Lib.hid (hPW.en e he).2.1
          obtain ⟨ai, ci, hvi, hi1, hi2, -⟩ := ownAny HEN0.out.inn
          have HVI := Lib.hid hvi
          obtain ⟨ag, cg, hvg, hg1, hg2, -⟩ := ownAny (hPW.rg e he).1
          have HVG := Lib.hid hvg
          have hcg2 := two_at (V := VG) hPW.gots he
          rw [hvg] at hcg2
          obtain ⟨apo, cpo, hvp, hp1, hp2, -⟩ := ownAny (hPW.rp o ho2).1
          have HVPO := Lib.hid hvp
          have HPWD := Lib.hid (hPW.keep0 (Keep.refl [] wr).drew)
          have HEND := Lib.hid (HPWD.out.en e he).1
          have HQD : Hid (wr.drew.heap[q2]? = some (.cells #[.pointer (some ⟨B 0, 0, none⟩), .pointer (some ⟨B 1, 0, none⟩)] 23 (0, 0))) := Lib.hid HQ2.out
          have hall := (hLI.both he).2.all (h0 (1 - e) (by omega))
          rw [ho] at hall
          have hlen := congrArg List.length hall
          simp only [bsOf, List.length_map, List.length_append] at hlen
          have HLEN := Lib.hid hlen
          have HALL := Lib.hid hall
          have HP300 : Hid ((P o).length ≤ 300) := Lib.hid (hP o ho2)
          have HGL : Hid ((G e).length + (X e).inn.length ≤ 300) := Lib.hid (by have := hP o ho2; omega)
          have HLI := Lib.hid hLI
          have HPB := Lib.hid hP
          have H0 := Lib.hid h0
          unfold maxLen at hi2 hg2 hp2
          clear hvi hvg hvp hPW hLI hP h0 ho hall hlen
          go_wp2_with (first | (with_reducible refine Txt.wp_region_text mixed quiet (by decide +kernel) ?_) | (with_reducible refine Txt.text_done (by kernel_rfl) ?_))
          go_region_law (first | (refine step_append_any rfl (.tmp 86) (.tmp 88) 37 rfl w.heap.size 29 i29 (.slice none 0 0) 1 24 Try.underlying37 hi29 hy0 hy1 hy2 rfl (by decide) (.slice ag (G e).length cg) (G e).length ((G e).map Bd.val) (by simp [Act.eval]) HOG.out ai (X e).inn.length ci ((X e).inn.map Bd.val) (by simp [Act.eval]) HLI4.out HNI.out (one_bds _) HMG.out HMH.out HBG.out ?_; intro a6 c6 w6 hown6 hgr6 hat6; have hk6 : Keep (VG e).ownBlock.toList w4 w6 := Keep.ofGrown hgr6 (fun x hx => (by rw [HVG.out]; simp [hx])); have hg6 := hk6.at HPW4.out.gots (fun hm => (by obtain ⟨c9, h9⟩ := ownCells (HPW4.out.rg e he).1 (by simpa using hm); exact neType h9 HPW4.out.gots (by decide) rfl)); have hcg6 := two_at (V := VG) hg6 he; rw [HVG.out] at hcg6; have hzg6 := thaw hg6; have hcp6 := two_at (V := VP) (hk6.at HPW4.out.puts (fun hm => (by obtain ⟨c9, h9⟩ := ownCells (HPW4.out.rg e he).1 (by simpa using hm); exact neType h9 HPW4.out.puts (by decide) rfl))) ho2; rw [HVPO.out] at hcp6; have hq6 := hk6.at HQ4.out (fun hm => (by obtain ⟨c9, h9⟩ := ownCells (HPW4.out.rg e he).1 (by simpa using hm); exact neType h9 HQ4.out (by decide) rfl)); have HQ6 := Lib.hid hq6; clear hq6; have hbg6 := lt_of_blk hg6; have HFG := Lib.hid (HPW4.out.onGot he (l := G e ++ (X e).inn) hk6 (by rw [List.length_append, List.map_append]; exact hown6) (got_bodies HPW4.out he hk6 HBI4.out) (nw_any (by rw [HVG.out]) hat6)); clear hown6 hgr6 hat6 hk6 hg6) | (go_simp; go_at_call 22; (with_reducible refine (got22_any HEND.out HEO.out).mono ?_); rintro e4 w4 ⟨rfl, hk4, he4⟩; have HPW4 := Lib.hid (HPWD.out.onEnd he (got_to hk4 he4) (HEO.out.taken _)); have hg4 := HPW4.out.gots; have HQ4 := Lib.hid (hk4.at HQD.out (fun hm => neType HQD.out HEND.out.blk (by decide) (List.mem_singleton.1 hm))); have hcg4 := two_at (V := VG) hg4 he; rw [HVG.out] at hcg4; have hog := (HPW4.out.rg e he).1; rw [HVG.out] at hog; have HOG := Lib.hid hog; have hin := own_keep HEND.out.inn hk4 (fun g hg hm => (by obtain ⟨c9, h9⟩ := ownCells HEND.out.inn hg; exact neType h9 HEND.out.blk (by decide) (List.mem_singleton.1 hm))); rw [HVI.out] at hin; have HNI := Lib.hid (own_news hin); have HBI4 : Hid (∀ d ∈ (X e).inn, d.ok w4) := Lib.hid (fun d hd => (HEND.out.bi d hd).keep hk4 (fun x hx cs f hc => (by rw [List.mem_singleton.1 hx] at hc; exact neType HEND.out.blk hc (by decide) rfl))); have HLI4 : Hid (((X e).inn.map Bd.val).length = (X e).inn.length * 1) := Lib.hid (by rw [List.length_map, Nat.mul_one]); have HMG : Hid ((G e).length + (X e).inn.length ≤ maxLen) := Lib.hid (by have := HGL.out; unfold maxLen; omega); have HMH : Hid (((G e).length + (X e).inn.length) * 24 ≤ 140737488355328) := Lib.hid (by have := HGL.out; omega); have HBG : Hid (w.heap.size ≤ w4.heap.size) := Lib.hid HPW4.out.kx.size; rw [HVI.out]; clear hk4 he4 hg4 hog hin))
          all_goals
            have hq9 : (w6.setCell ⟨q1 + 1, e, none⟩ (.slice a6 ((G e).length + (X e).inn.length) c6)).heap[q2]? = some (.cells #[.pointer (some ⟨B 0, 0, none⟩), .pointer (some ⟨B 1, 0, none⟩)] 23 (0, 0)) := by rw [blk_setCell, if_neg hne2]; exact HQ6.out
            have HQ9 := Lib.hid hq9
            have hFD := HFG.out.keep0 (Keep.refl [] _).drew
            have hro := (hFD.rg e he).1
            have hrb := (hFD.rg e he).2.1
            rw [upd_same, upd_same] at hro
            rw [upd_same] at hrb
            rw [List.length_append] at hro
            have hpo := (hFD.rp o ho2).1
            have hpb := (hFD.rp o ho2).2.1
            rw [HVPO.out] at hpo
            obtain ⟨hle, hZZ⟩ := prefix_of (k := (P o).length) (HALL.out.trans (List.take_of_length_le (by unfold bsOf; rw [List.length_map]; exact Nat.le_refl _)).symm)
            rw [List.length_append] at hle hZZ
            obtain ⟨a9, c9, he9, hc91, hc92, -⟩ := ownAny hro
            have hcc : c9 = c6 := by injection he9 with _ _ h; exact h.symm
            subst hcc
            have HR1 := Lib.hid (RowB.ofBds hro hrb)
            have HR2 := Lib.hid ((RowB.ofBds hpo hpb).less hle hZZ)
            have HN9 : Hid ((G e).length + (X e).inn.length ≤ 100000) := Lib.hid (by have := HGL.out; omega)
            have HM1 : Hid ((G e).length + (X e).inn.length ≤ c9 ∧ c9 ≤ maxLen) := Lib.hid ⟨hc91, hc92⟩
            have HM2 : Hid ((P o).length ≤ cpo ∧ cpo ≤ maxLen) := Lib.hid ⟨hp1, by unfold maxLen; exact hp2⟩
            have HEX := Lib.hid (hFD.en e he).1
            have HEXO : Hid (EnOk (upd X e { X e with inn := [], due := (X e).due || decide (0 < (X e).inn.length) } e)) := Lib.hid (hFD.en e he).2.1
            have HE0 : Hid ((upd X e { X e with inn := [], due := (X e).due || decide (0 < (X e).inn.length) } e).out.length = 0) := Lib.hid (by rw [upd_same]; exact H0.out e he)
            have HFD := Lib.hid hFD
            have hgot := two_at (V := upd VG e (.slice a6 ((G e).length + (X e).inn.length) c9)) hFD.gots he
            rw [upd_same] at hgot
            have hput := two_at (V := VP) hFD.puts ho2
            rw [HVPO.out] at hput
            unfold maxLen at hc92
            clear hFD hro hrb hpo hpb he9 hle hZZ hq9
            go_wp2_with fail
            go_region_law (first | (go_simp; go_at_call 25; (with_reducible refine (idle25_t HEX.out HEXO.out HE0.out).mono ?_); rintro e7 w7 ⟨rfl, rfl⟩) | (go_simp; go_at_call 21; (with_reducible refine (equalF21_eq HLEN.out HR1.out HR2.out HN9.out HM1.out HM2.out).mono ?_); rintro e8 w8 ⟨rfl, hk8⟩))
          all_goals
            go_wp2_with (first | (with_reducible refine Txt.wp_region_text mixed quiet (by decide +kernel) ?_) | (with_reducible refine Txt.text_done (by kernel_rfl) ?_))
            have hl9 := HLI.out.taken he ((X e).due || decide (0 < (X e).inn.length))
            have hp9 := EndsSt.of (Q := fun X' => ∀ e, e < 2 → (X' e).out.length = 0) (HFD.out.keep0 hk8) hl9 HPB.out (fun j hj => by by_cases hje : j = e; (subst hje; rw [upd_same]; exact H0.out j hj); (rw [upd_other _ _ hje]; exact H0.out j hj))
            have hq8 := hk8.at HQ9.out (by simp)
            exact ⟨⟨e + 1, by omega, by go_num, Lib.hid hp9, Lib.hid hq8⟩, by simp [intOf]; omega⟩
        · obtain rfl : e = 2 := by omega
          have hkx := hPW.kx
          clear hPW hLI HP2
          go_wp2_with (first | (with_reducible refine Txt.wp_region_text mixed quiet (by decide +kernel) ?_) | (with_reducible refine Txt.text_done (by kernel_rfl) ?_))
          go_ret
          exact ⟨rfl, hkx⟩
end Go.Proofs.Ytfgipbjaaciiiaa
