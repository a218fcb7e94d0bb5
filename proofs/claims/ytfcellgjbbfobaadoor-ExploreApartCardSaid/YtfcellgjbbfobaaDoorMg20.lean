/- Texts laid together: DP4 DP5 R21 DP6 DA8. -/
import Derived.Test.YtfcellgjbbfobaaDoorMg19
import Derived.BigRegion
/- ExploreApart: programs that have each a cell of its own; plain. -/
namespace Go.Ex
open Go.Bf
/-- The steps of each program, in their order. -/
theorem Way.own {ps : List (List Ln)} (hp : PsOk ps) {s u : List Int} {l : List Ln} (h : Way ps s l u) : SOk ps s → ∀ j : Nat, j < 4 → ((ps.getD j []).drop (s.getD (8 + j) 0).toNat).map (stepOf j) = l.filter (fun x => x.q == (j : Int)) ++ ((ps.getD j []).drop (u.getD (8 + j) 0).toNat).map (stepOf j) := by
  induction h with
  | nil s => intro _ j _; rfl
  | @cons s t u i d l h1 h2 h3 ih =>
    intro hs j hj
    obtain ⟨hd, hi⟩ := opAt_ok hp h1
    have ht := (hs.next hp h2).1
    have ih2 := ih ht j hj
    have hc := ctr_next hp hs h1 h2
    have hg : t.getD (8 + j) 0 = if j = i then s.getD (8 + i) 0 + 1 else s.getD (8 + j) 0 := by
      rw [← ctr_at, hc, getD_set (by rw [List.length_drop, hs.len]; exact hi)]
      by_cases e : j = i
      · rw [if_pos e, if_pos e]
      · rw [if_neg e, if_neg e, ctr_at]
    by_cases e : j = i
    · subst e
      rw [if_pos rfl] at hg
      have h0 := (hs.at_ j hj).1
      unfold opAt at h1
      obtain ⟨hy, hye⟩ := List.getElem?_eq_some_iff.1 h1
      rw [List.filter_cons, if_pos (by simp [stepOf]), List.drop_eq_getElem_cons hy, hye, List.map_cons, List.cons_append, ← ih2, hg]
      congr 3
      omega
    · rw [if_neg e] at hg
      rw [List.filter_cons, if_neg (by simp [stepOf]; omega), ← ih2, hg]
/-- Each program has a cell of its own, and waits for nothing. -/
structure Lone (ps : List (List Ln)) : Prop where
  cell : ∀ (j : Nat) (r : List Ln), ps[j]? = some r → ∀ d ∈ r, d.g = (j : Int) ∧ d.q ≠ 4
theorem lone_op {ps : List (List Ln)} (hl : Lone ps) {j : Nat} {s : List Int} {d : Ln} (h : opAt ps j s = some d) : d.g = (j : Int) ∧ d.q ≠ 4 := by
  obtain ⟨h1, h2, _, _⟩ := opAt_lt h
  refine hl.cell j _ ?_ d h2
  rw [List.getD_eq_getElem?_getD, List.getElem?_eq_getElem h1]; rfl
theorem lone_mem {ps : List (List Ln)} (hp : PsOk ps) (hl : Lone ps) {s u : List Int} {l : List Ln} (h : Way ps s l u) : ∀ x ∈ l, ∃ (j : Nat) (d : Ln), x = stepOf j d ∧ DoOk d ∧ d.g = (j : Int) ∧ j < 4 := by
  induction h with
  | nil => intro x hx; cases hx
  | cons h1 h2 _ ih =>
    intro x hx
    rcases List.mem_cons.1 hx with rfl | hx
    · exact ⟨_, _, rfl, (opAt_ok hp h1).1, (lone_op hl h1).1, (opAt_ok hp h1).2⟩
    · exact ih x hx
theorem lone_end {ps : List (List Ln)} (hl : Lone ps) {u : List Int} (hf : fin ps u = true) (j : Nat) : ((ps.getD j []).drop (u.getD (8 + j) 0).toNat) = [] := by
  by_cases hj : j < ps.length
  · have h1 := fin_iff.1 hf j hj
    unfold nx at h1
    cases ho : opAt ps j u with
    | none =>
      unfold opAt at ho
      exact List.drop_eq_nil_of_le (List.getElem?_eq_none_iff.1 ho)
    | some d =>
      rw [ho] at h1
      simp only at h1
      rw [if_neg (fun h => (lone_op hl ho).2 h.1)] at h1
      cases h1
  · have e : ps.getD j [] = [] := by rw [List.getD_eq_getElem?_getD, List.getElem?_eq_none (by omega)]; rfl
    rw [e]; simp
theorem lone_eqv {ps : List (List Ln)} (hp : PsOk ps) (hl : Lone ps) {l l' : List Ln} {u u' : List Int} (h : Way ps s0 l u) (h' : Way ps s0 l' u') (hf : fin ps u = true) (hf' : fin ps u' = true) : Tr.Eqv dep l l' := by
  have own : ∀ j : Nat, j < 4 → l.filter (fun x => x.q == (j : Int)) = l'.filter (fun x => x.q == (j : Int)) := fun j hj => by
    have h1 := h.own hp (SOk.start ps) j hj
    have h2 := h'.own hp (SOk.start ps) j hj
    rw [lone_end hl hf j, List.map_nil, List.append_nil] at h1
    rw [lone_end hl hf' j, List.map_nil, List.append_nil] at h2
    rw [← h1, ← h2]
  have ag : Tr.Ag dep l l' := fun C hC => by
    by_cases hx : ∃ x, (x ∈ l ∨ x ∈ l') ∧ C x = true
    · obtain ⟨x, hx, hcx⟩ := hx
      have hm : ∀ y, y ∈ l ∨ y ∈ l' → ∃ (j : Nat) (d : Ln), y = stepOf j d ∧ DoOk d ∧ d.g = (j : Int) ∧ j < 4 := fun y hy => hy.elim (lone_mem hp hl h y) (lone_mem hp hl h' y)
      obtain ⟨j, d, rfl, hd, hg, hj⟩ := hm x hx
      have key : ∀ y, y ∈ l ∨ y ∈ l' → C y = true → (y.q == (j : Int)) = true := fun y hy hcy => by
        obtain ⟨i, e, rfl, he, hge, hi⟩ := hm y hy
        have h1 := hC _ _ hcx hcy
        by_cases e1 : i = j
        · subst e1; simp [stepOf]
        · rw [dep_far hd he (fun h => e1 h.symm) (by rw [hg, hge]; omega)] at h1
          cases h1
      have cut : ∀ m : List Ln, (∀ y ∈ m, y ∈ l ∨ y ∈ l') → m.filter C = (m.filter (fun x => x.q == (j : Int))).filter C := fun m hm2 => by
        rw [List.filter_filter]
        refine List.filter_congr fun y hy => ?_
        cases hcy : C y with
        | false => rfl
        | true => rw [key y (hm2 y hy) hcy]; rfl
      rw [cut l (fun y hy => .inl hy), cut l' (fun y hy => .inr hy), own j hj]
    · rw [List.filter_eq_nil_iff.2 (fun y hy hc => hx ⟨y, .inl hy, hc⟩), List.filter_eq_nil_iff.2 (fun y hy hc => hx ⟨y, .inr hy, hc⟩)]
  have hlen : l.length = l'.length := by

    have hperm : l.Perm l' := by
      refine List.perm_iff_count.2 fun x => ?_
      by_cases hx : x ∈ l ∨ x ∈ l'
      · have hq : ∃ j : Nat, j < 4 ∧ x.q = (j : Int) := by
          obtain ⟨j, d, rfl, _, _, hj⟩ := hx.elim (lone_mem hp hl h x) (lone_mem hp hl h' x)
          exact ⟨j, hj, rfl⟩
        obtain ⟨j, hj, hq⟩ := hq
        have h2 := congrArg (List.count x) (own j hj)
        rw [List.count_filter (by simp [hq]), List.count_filter (by simp [hq])] at h2
        exact h2
      · rw [List.count_eq_zero.2 (fun h => hx (.inl h)), List.count_eq_zero.2 (fun h => hx (.inr h))]
    exact hperm.length_eq
  have hn := Tr.norm_ag dep_q dep_refl dep_symm l.length l l' rfl hlen.symm ag
  have e1 := Tr.norm_eqv (D := dep) dep_symm Ln.q l.length l rfl
  have e2 := Tr.norm_eqv (D := dep) dep_symm Ln.q l.length l' hlen.symm
  rw [hn] at e1
  exact e1.trans (eqv_symm e2)
end Go.Ex
/- ExploreApart: one end, one kind of order; plain. -/
namespace Go.Ex
open Go.Bf
theorem rc_way {ps : List (List Ln)} {s : List Int} (h : Rc ps.length (nx ps) s0 s) : ∃ l, Way ps s0 l s := by
  induction h with
  | start => exact ⟨[], .nil _⟩
  | step _ _ hn ih =>
    obtain ⟨l, hl⟩ := ih
    obtain ⟨d, hd, _⟩ := nx_some hn
    exact ⟨_, hl.snoc hd hn⟩
theorem one_of {α : Type} {l : List α} {R : α → α → Prop} (hp : l.Pairwise R) (hn : ∀ a ∈ l, ∀ b ∈ l, ¬ R a b) (h : ∃ a, a ∈ l) : l.length = 1 := by
  match l, hp, hn, h with
  | [], _, _, h => obtain ⟨a, ha⟩ := h; cases ha
  | [a], _, _, _ => rfl
  | a :: b :: l, hp, hn, _ => exact absurd ((List.pairwise_cons.1 hp).1 b (by simp)) (hn a (by simp) b (by simp))
theorem lone_out {ps : List (List Ln)} (hp : PsOk ps) (hl : Lone ps) {out : List PF} (h : OutOk ps out) : out.length = 1 := by
  refine one_of h.apart (fun a ha b hb => ?_) ?_
  · obtain ⟨h1, h2⟩ := h.way a ha
    obtain ⟨h3, h4⟩ := h.way b hb
    exact fun hn => hn (lone_eqv hp hl h1 h3 h2 h4)
  · obtain ⟨t, h1, h2⟩ := fin_ex hp 12 s0 .start (by decide)
    obtain ⟨l, hw⟩ := rc_way h1
    obtain ⟨p, hpm, _⟩ := h.full l t hw h2
    exact ⟨p, hpm⟩
theorem lone_ends {ps : List (List Ln)} (hp : PsOk ps) (hl : Lone ps) {E : List (List Int)} (h : EndsOf ps E) : E.length = 1 := by
  refine one_of (R := fun a b => a ≠ b) h.nodup (fun a ha b hb hne => hne ?_) ?_
  · obtain ⟨r1, f1⟩ := (h.mem a).1 ha
    obtain ⟨r2, f2⟩ := (h.mem b).1 hb
    obtain ⟨l1, w1⟩ := rc_way r1
    obtain ⟨l2, w2⟩ := rc_way r2
    exact eqv_state hp (SOk.start ps) w1 w2 (lone_eqv hp hl w1 w2 f1 f2)
  · obtain ⟨t, h1, h2⟩ := fin_ex hp 12 s0 .start (by decide)
    exact ⟨t, (h.mem t).2 ⟨h1, h2⟩⟩
end Go.Ex
/- Rows of rows of one's own: the second number of a thing is turned. -/
namespace Go
open Go.RowKit
theorem RowsO.putG {w : World} {B g : Nat} {e1 e2 : TypeId} {vals : List Value} {rs : List (List Ln)} (he : e2 ≠ e1) {r k b c : Nat} {l : List Ln} {d : Ln} (h : RowsO w B e1 e2 g vals rs) (hx : vals[r]? = some (.slice (some ⟨b, 0, none⟩) l.length c)) (hl : rs[r]? = some l) (hk : l[k]? = some d) (q : Int) :
    RowsO (w.setCell ⟨b, k * 3 + 1, none⟩ (.int .i64 q)) B e1 e2 g vals (rs.set r (l.set k ⟨d.q, q, d.u⟩)) := by
  have hrl := (List.getElem?_eq_some_iff.1 hl).1
  have hkl := (List.getElem?_eq_some_iff.1 hk).1
  have hK : Keep [b] w (w.setCell ⟨b, k * 3 + 1, none⟩ (.int .i64 q)) := (Keep.refl _ _).setCell (.inl (by simp)) _
  have hbg : b ≠ g := h.blkNe he hx hl b rfl
  refine ⟨by simpa using h.len, hK.at h.blk (by simp; exact fun e => hbg e.symm), h.low, fun i y m hy hm => ?_, h.apart⟩
  by_cases e : i = r
  · subst e
    rw [hx] at hy
    injection hy with hy
    subst hy
    rw [List.getElem?_set_self hrl] at hm
    injection hm with hm
    subst hm
    have h1 := own_put_cellO (h.row i _ l hx hl) (k * 3 + 1) (.int .i64 q)
    have hlat : lat l k = d := by rw [lat, List.getD_eq_getElem?_getD, hk]; rfl
    have h2 := lanes_put l k 1 (.int .i64 q) ⟨d.q, q, d.u⟩ hkl (by omega) (by rw [hlat]; rfl)
    rw [h2] at h1
    rw [List.length_set]
    exact h1
  · rw [List.getElem?_set_ne (fun h => e h.symm)] at hm
    exact own_keep (h.row i y m hy hm) hK (fun a ha hm2 => by
      rw [List.mem_singleton] at hm2
      subst hm2
      exact e (h.apart i r y _ a hy hx ha rfl))
end Go
/- ExploreApart: the programs as they are turned; plain. -/
namespace Go.Ex
def loD (j : Nat) (d : Ln) : Ln := ⟨if d.q = 4 then 3 else d.q, j, d.u⟩
def loTo (j k : Nat) (l : List Ln) : List Ln := (l.take k).map (loD j) ++ l.drop k
theorem loTo_zero (j : Nat) (l : List Ln) : loTo j 0 l = l := by simp [loTo]
theorem loTo_all (j : Nat) (l : List Ln) : loTo j l.length l = l.map (loD j) := by simp [loTo]
theorem loTo_len (j k : Nat) (l : List Ln) : (loTo j k l).length = l.length := by simp [loTo]; omega
theorem loTo_at {j k : Nat} {l : List Ln} {d : Ln} (h : l[k]? = some d) : (loTo j k l)[k]? = some d := by
  have hk := (List.getElem?_eq_some_iff.1 h).1
  unfold loTo
  rw [List.getElem?_append_right (by simp; omega)]
  simp only [List.length_map, List.length_take, List.getElem?_drop]
  rw [show k + (k - min k l.length) = k by omega]
  exact h
theorem loTo_next {j k : Nat} {l : List Ln} {d : Ln} (h : l[k]? = some d) : loTo j (k + 1) l = (loTo j k l).set k (loD j d) := by
  have hk := (List.getElem?_eq_some_iff.1 h).1
  have hm : ((l.take k).map (loD j)).length = k := by simp; omega
  unfold loTo
  rw [List.set_append_right _ _ (by omega), hm, Nat.sub_self, List.take_add_one, h]
  obtain ⟨h1, h2⟩ := List.getElem?_eq_some_iff.1 h
  rw [List.drop_eq_getElem_cons h1, h2]
  simp
def loA (rs : List (List Ln)) : List (List Ln) := rs.mapIdx fun j l => l.map (loD j)
def rsL (i : Nat) (rs : List (List Ln)) : List (List Ln) := (loA rs).take i ++ rs.drop i
theorem loA_len (rs : List (List Ln)) : (loA rs).length = rs.length := by simp [loA]
theorem loA_at {rs : List (List Ln)} {i : Nat} {l : List Ln} (h : rs[i]? = some l) : (loA rs)[i]? = some (l.map (loD i)) := by
  unfold loA
  rw [List.getElem?_mapIdx, h]; rfl
theorem rsL_zero (rs : List (List Ln)) : rsL 0 rs = rs := by simp [rsL]
theorem rsL_all {rs : List (List Ln)} {i : Nat} (h : rs.length ≤ i) : rsL i rs = loA rs := by
  unfold rsL
  rw [List.take_of_length_le (by rw [loA_len]; exact h), List.drop_eq_nil_of_le h, List.append_nil]
theorem rsL_at {rs : List (List Ln)} {i : Nat} {l : List Ln} (h : rs[i]? = some l) : (rsL i rs)[i]? = some l := by
  have hk := (List.getElem?_eq_some_iff.1 h).1
  unfold rsL
  rw [List.getElem?_append_right (by rw [List.length_take, loA_len]; omega)]
  simp only [List.length_take, List.getElem?_drop, loA_len]
  rw [show i + (i - min i rs.length) = i by omega]
  exact h
theorem rsL_len (i : Nat) (rs : List (List Ln)) : (rsL i rs).length = rs.length := by
  unfold rsL
  rw [List.length_append, List.length_take, List.length_drop, loA_len]
  omega
theorem rsL_set0 {rs : List (List Ln)} {i : Nat} {l : List Ln} (h : rs[i]? = some l) : (rsL i rs).set i (loTo i 0 l) = rsL i rs := by
  rw [loTo_zero]
  obtain ⟨h2, h3⟩ := List.getElem?_eq_some_iff.1 (rsL_at h)
  rw [← h3, List.set_getElem_self]
theorem rsL_next {rs : List (List Ln)} {i : Nat} {l : List Ln} (h : rs[i]? = some l) : (rsL i rs).set i (loTo i l.length l) = rsL (i + 1) rs := by
  have hk := (List.getElem?_eq_some_iff.1 h).1
  have hm : ((loA rs).take i).length = i := by rw [List.length_take, loA_len]; omega
  rw [loTo_all]
  unfold rsL
  rw [List.set_append_right _ _ (by omega), hm, Nat.sub_self, List.take_add_one, loA_at h]
  obtain ⟨h1, h2⟩ := List.getElem?_eq_some_iff.1 h
  rw [List.drop_eq_getElem_cons h1, h2]
  simp
theorem loD_ok {j : Nat} (hj : j < 4) {d : Ln} (h : DoOk d) : DoOk (loD j d) := by
  obtain ⟨⟨h1, h2⟩, _, h3, h4⟩ := h
  refine ⟨?_, ⟨by simp [loD], by simp only [loD]; omega⟩, h3, h4⟩
  unfold loD
  simp only
  split <;> omega
theorem loA_row {rs : List (List Ln)} {j : Nat} {r : List Ln} (h : (loA rs)[j]? = some r) : ∃ l, rs[j]? = some l ∧ r = l.map (loD j) := by
  unfold loA at h
  rw [List.getElem?_mapIdx] at h
  obtain ⟨l, hl, rfl⟩ := Option.map_eq_some_iff.1 h
  exact ⟨l, hl, rfl⟩
theorem loA_flat (rs : List (List Ln)) : (loA rs).flatten.length = rs.flatten.length := by
  rw [List.length_flatten, List.length_flatten]
  congr 1
  refine List.ext_getElem? fun i => ?_
  rw [List.getElem?_map, List.getElem?_map]
  unfold loA
  rw [List.getElem?_mapIdx]
  cases rs[i]? with
  | none => rfl
  | some l => simp
theorem loA_ok {rs : List (List Ln)} (h : PsOk rs) : PsOk (loA rs) where
  few := by rw [loA_len]; exact h.few
  all := fun p hp d hd => by
    obtain ⟨j, hj, rfl⟩ := List.getElem_of_mem hp
    obtain ⟨l, hl, hr⟩ := loA_row (List.getElem?_eq_getElem hj)
    rw [hr] at hd
    obtain ⟨e, he, rfl⟩ := List.mem_map.1 hd
    rw [loA_len] at hj
    exact loD_ok (by have := h.few; omega) (h.all l (List.mem_of_getElem? hl) e he)
  tot := by rw [loA_flat]; exact h.tot
theorem loA_lone (rs : List (List Ln)) : Lone (loA rs) where
  cell := fun j r h d hd => by
    obtain ⟨l, hl, rfl⟩ := loA_row h
    obtain ⟨e, he, rfl⟩ := List.mem_map.1 hd
    refine ⟨rfl, ?_⟩
    simp only [loD]
    split <;> omega
end Go.Ex
/- ExploreApart: the walk. -/
namespace Go.Proofs.YtfcellgjbbfobaaDoor
open Go.RowKit Go.Ex Go.Bf
theorem own_thawE {w : World} {B e m n g c : Nat} {xs : List Value} (h : w.ownsRow B e m (.slice (some ⟨g, 0, none⟩) n c) n xs) : ∀ j, w.frozen? ⟨g, j, none⟩ = false := by
  rcases h.2 with ⟨h0, _⟩ | ⟨g', cap, cur, hv, hb, hg, _⟩
  · cases h0
  · cases hv
    exact thaw hg
set_option maxRecDepth 100000 in
set_option maxHeartbeats 8000000 in
theorem exploreApart_walk (ap : Option Addr) (len cap : Nat) (zs : List Int) (w : World) (hz : IntsV w ap len cap zs) :
    Calls Tryd.prog 3 #[.slice ap len cap] w fun e w' => e = .returned (.bool true) ∧ Keep [] w w' := by
  have HZ := Lib.hid hz
  clear hz
  go_enter Tryd.func3, Tryd.ntmps3
  go_wp2_with (first | (go_at_call 6; (with_reducible refine (begun25_any _).mono ?_); rintro e0 w0 ⟨rfl, hk0⟩; have HK0 := Lib.hid hk0; clear hk0) | (go_at_call 7; (refine (progs26_any (most := 12) (HZ.out.keep HK0.out (by simp)) (by omega)).mono ?_); rintro e1 w1 ⟨g, vals, rs, rfl, hr1, hr3, hps, _, hk1⟩; have HR1 := Lib.hid hr1; have HPS := Lib.hid hps; have HK1 := Lib.hid (HK0.out.trans hk1); have HB0 := Lib.hid (HK0.out.size); clear hr1 hps hk1))
  go_loopw [17] (fun j wr => ∃ i : Nat, i ≤ 3 ∧ j = .int .i64 i ∧ Hid (RowsO wr w0.heap.size 26 29 g vals (rsL i rs)) ∧ Hid (Keep [] w wr)) (fun j _ => 3 - (intOf j).toNat)
  case atStart => exact ⟨0, by omega, rfl, Lib.hid (by rw [rsL_zero]; exact HR1.out), HK1⟩
  case round =>
    obtain ⟨i, hi, rfl, HR, HK⟩ := hrel
    by_cases hlt : i < 3
    · obtain ⟨l, hl⟩ : ∃ l, rs[i]? = some l := ⟨_, List.getElem?_eq_getElem (by omega)⟩
      have hla := rsL_at hl
      obtain ⟨x, l', hx, hl', ho⟩ := HR.out.get (show i < (rsL i rs).length by rw [rsL_len]; omega)
      rw [hla] at hl'
      injection hl' with hl'
      subst hl'
      obtain ⟨a1, c1, hve⟩ := own_sliceE ho
      subst hve
      have hcx := HR.out.cell hx
      have hdec : decide ((i : Int) < 3) = true := by simp; omega
      have HX := Lib.hid hx
      have HL := Lib.hid hl
      have HLA := Lib.hid hla
      obtain ⟨m, hm⟩ : ∃ m, l.length = m := ⟨_, rfl⟩
      have HM := Lib.hid hm
      rw [hm] at hcx HX
      clear hl hla hx ho hm
      go_wp2_with fail
      go_loopw [25] (fun j wr2 => ∃ k : Nat, k ≤ m ∧ j = .int .i64 k ∧ Hid (RowsO wr2 w0.heap.size 26 29 g vals ((rsL i rs).set i (loTo i k l))) ∧ Hid (Keep [] w wr2)) (fun j _ => m - (intOf j).toNat)
      case atStart => exact ⟨0, by omega, rfl, Lib.hid (by rw [rsL_set0 HL.out]; exact HR.out), HK⟩
      case round =>
        obtain ⟨k, hk, rfl, HR2', HK2'⟩ := hrel
        by_cases hlt2 : k < m
        · obtain ⟨d, hd⟩ : ∃ d, l[k]? = some d := ⟨_, List.getElem?_eq_getElem (by rw [HM.out]; exact hlt2)⟩
          have hin : i < (rsL i rs).length := by rw [rsL_len]; omega
          have hrow : ((rsL i rs).set i (loTo i k l))[i]? = some (loTo i k l) := List.getElem?_set_self hin
          have hown := HR2'.out.row i _ _ HX.out hrow
          rw [loTo_len, HM.out] at hown
          obtain ⟨b, cb, hve, hbc1, hbc2, hbB, hbl, hbat⟩ := own_at hown (by omega)
          injection hve with hv1 hv2 hv3
          subst hv1 hv3
          have hlv := LnsV.ofOwn hown
          obtain ⟨a9, c9, he9, hlv9, _⟩ := hlv
          injection he9 with e1 e2 e3
          subst e1 e3
          obtain ⟨b', o', hbe, c0, c1', c2⟩ := hlv9.at_ hlt2
          injection hbe with hbe
          injection hbe with hbe1 hbe2
          subst hbe1 hbe2
          have hlat : lat (loTo i k l) k = d := by rw [lat, List.getD_eq_getElem?_getD, loTo_at hd]; rfl
          rw [hlat, Nat.zero_add] at c0 c1' c2
          have hrn := HR2'.out.putG (by decide) (k := k) (b := b) (c := c1) (by rw [loTo_len, HM.out]; exact HX.out) hrow (loTo_at hd) (i : Int)
          rw [List.set_set] at hrn
          have hcg := HR2'.out.cell HX.out
          have hzb : ∀ j, wr.frozen? ⟨b, j, none⟩ = false := own_thawE hown
          have HKb : Hid (Keep [b] wr (wr.setCell ⟨b, k * 3 + 1, none⟩ (.int .i64 (i : Int)))) := Lib.hid ((Keep.refl _ _).setCell (.inl (by simp)) _)
          have HBB0 : Hid (w.heap.size ≤ b) := Lib.hid (Nat.le_trans HB0.out hbB)
          have hin2 : i < ((rsL i rs).set i ((loTo i k l).set k ⟨d.q, i, d.u⟩)).length := by rw [List.length_set]; exact hin
          have hrow2 : ((rsL i rs).set i ((loTo i k l).set k ⟨d.q, i, d.u⟩))[i]? = some ((loTo i k l).set k ⟨d.q, i, d.u⟩) := List.getElem?_set_self hin
          have hset : ((loTo i k l).set k ⟨d.q, i, d.u⟩)[k]? = some ⟨d.q, i, d.u⟩ := List.getElem?_set_self (by rw [loTo_len]; exact (List.getElem?_eq_some_iff.1 hd).1)
          have hln2 : ((loTo i k l).set k ⟨d.q, i, d.u⟩).length = m := by rw [List.length_set, loTo_len, HM.out]
          have hrq := hrn.putQ (by decide) (k := k) (b := b) (c := c1) (by rw [hln2]; exact HX.out) hrow2 hset 3
          rw [List.set_set, List.set_set] at hrq
          have hdec2 : decide ((k : Int) < (m : Int)) = true := by simp; omega
          have HRN := Lib.hid hrn
          have HRQ := Lib.hid hrq
          have HD := Lib.hid hd
          obtain ⟨q, g0, u⟩ := d
          simp only at c0 c1' c2
          have hown2 := hrn.row i _ _ HX.out hrow2
          rw [hln2] at hown2
          have hne : ¬ k * 3 = k * 3 + 1 := by omega
          have hb0 : (wr.setCell ⟨b, k * 3 + 1, none⟩ (.int .i64 (i : Int))).cell? ⟨b, k * 3, none⟩ = some (.int .i64 q) := by
            obtain ⟨a9, c9, he9, hlv9, _⟩ := LnsV.ofOwn hown2
            injection he9 with e1 e2 e3
            subst e1 e3
            obtain ⟨b', o', hbe, d0, d1, d2⟩ := hlv9.at_ hlt2
            injection hbe with hbe
            injection hbe with hbe1 hbe2
            subst hbe1 hbe2
            have hlat2 : lat ((loTo i k l).set k ⟨q, i, u⟩) k = ⟨q, i, u⟩ := by rw [lat, List.getD_eq_getElem?_getD, hset]; rfl
            rw [hlat2, Nat.zero_add] at d0
            exact d0
          have hz2 : ∀ j, (wr.setCell ⟨b, k * 3 + 1, none⟩ (.int .i64 (i : Int))).frozen? ⟨b, j, none⟩ = false := own_thawE hown2
          clear hrow hown hlv9 hbat hd hin hrn hrq hlat hin2 hrow2 hset hln2 hown2
          go_upto_region 12 with fail
          clear c0 c1' c2 hzb hcg
          obtain ⟨W, hW⟩ : ∃ W, wr.setCell ⟨b, k * 3 + 1, none⟩ (.int .i64 (i : Int)) = W := ⟨_, rfl⟩
          rw [hW] at HRN HRQ HKb hb0 hz2 ⊢
          clear hW
          by_cases hq4 : q = 4
          · subst hq4
            have HFI : Hid (RowsO (W.setCell ⟨b, k * 3, none⟩ (.int .i64 3)) w0.heap.size 26 29 g vals ((rsL i rs).set i (loTo i (k + 1) l))) := Lib.hid (by
              have h := HRQ.out
              rw [loTo_next HD.out]
              exact h)
            go_wp2_with fail
            exact ⟨⟨k + 1, hlt2, by go_num, HFI, Lib.hid ((HK2'.out.call HKb.out (fun c hc => by rw [List.mem_singleton] at hc; subst hc; exact .inr HBB0.out)).setCell (.inr HBB0.out) _)⟩, by simp [intOf]; omega⟩
          · have hbe : (q == 4) = false := by simp [hq4]
            have HFI : Hid (RowsO W w0.heap.size 26 29 g vals ((rsL i rs).set i (loTo i (k + 1) l))) := Lib.hid (by
              have h := HRN.out
              rw [loTo_next HD.out, show loD i ⟨q, g0, u⟩ = ⟨q, i, u⟩ by simp [loD, hq4]]
              exact h)
            clear hq4
            go_wp2_with fail
            exact ⟨⟨k + 1, hlt2, by go_num, HFI, Lib.hid (HK2'.out.call HKb.out (fun c hc => by rw [List.mem_singleton] at hc; subst hc; exact .inr HBB0.out))⟩, by simp [intOf]; omega⟩
        · have hkm : k = m := by omega
          have hdec2 : decide ((k : Int) < (m : Int)) = false := by simp; omega
          have HRF : Hid (RowsO wr w0.heap.size 26 29 g vals (rsL (i + 1) rs)) := Lib.hid (by
            have h := HR2'.out
            rw [hkm, ← HM.out, rsL_next HL.out] at h
            exact h)
          subst hkm
          clear HR2'
          go_wp2_with fail
          exact ⟨⟨i + 1, hlt, by go_num, HRF, HK2'⟩, by simp [intOf]; omega⟩
    · have hi3 : i = 3 := by omega
      subst hi3
      have HPA := Lib.hid (loA_ok HPS.out)
      have HRS : Hid (RowsL wr (some ⟨g, 0, none⟩) 3 3 (loA rs)) := Lib.hid (by
        have h := HR.out
        rw [rsL_all (by omega)] at h
        exact h.rows (by rw [loA_len]; exact hr3) (by omega))
      go_wp2_with (first | (go_at_call 8; (with_reducible refine (ends27_any HRS.out HPA.out).mono ?_); rintro e3 w3 ⟨v3, E3, rfl, hE3, hEl3, hk3, ho3⟩; have hE1 := lone_ends HPA.out (loA_lone rs) hE3; rw [hE1] at ho3; obtain ⟨aE, cE, hvE⟩ := own_sliceE ho3; subst hvE; have HK3 := Lib.hid (HK.out.trans hk3); have HRS3 := Lib.hid (HRS.out.keep hk3); clear hE3 hEl3 hk3 ho3 hE1) | (go_at_call 9; (with_reducible refine (orders9_any HRS3.out HPA.out).mono ?_); rintro e4 w4 ⟨v4, os4, rfl, hO4, hk4, ho4, _⟩; have hO1 := lone_out HPA.out (loA_lone rs) hO4; rw [List.length_map] at hO1; rw [hO1] at ho4; obtain ⟨aO, cO, hvO⟩ := own_sliceE ho4; subst hvO; have HK4 := Lib.hid (HK3.out.trans hk4); clear hO4 hk4 ho4 hO1))
      go_ret
      exact ⟨rfl, HK4.out⟩
end Go.Proofs.YtfcellgjbbfobaaDoor
