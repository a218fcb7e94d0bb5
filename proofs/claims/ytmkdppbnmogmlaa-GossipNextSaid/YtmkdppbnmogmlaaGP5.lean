import Derived.Test.YtmkdppbnmogmlaaGP4
namespace Go
open Go.RowKit
def gat (gs : List Gs) (i : Nat) : Gs := gs.getD i g0
/-- One play. -/
def chatStep (gs : List Gs) (k : Int) : List Gs :=
  let i := (restI (wrap64 (k.tdiv 8)) gs.length).toNat
  let j := (restI (wrap64 (k.tdiv 64)) gs.length).toNat
  if restI k 8 = 0 then gs.set i (doubtG (gat gs i) (j + 1))
  else if restI k 8 = 1 then gs.set i (tickG (gat gs i))
  else gs.set i (mergeG (gat gs i) (stateL (gat gs j).rs))
def chatL (gs : List Gs) (ks : List Int) : List Gs := ks.foldl chatStep gs
structure NetOk (n : Nat) (B : Int) (gs : List Gs) : Prop where
  len : gs.length = n
  hi : n ≤ 8
  B0 : 0 ≤ B
  BM : B ≤ 1099511627776
  ok : ∀ i, i < n → GOk (i + 1) B (gat gs i) ∧ Full n (gat gs i)
theorem NetOk.more {n : Nat} {B B' : Int} {gs : List Gs} (h : NetOk n B gs) (hB : B ≤ B') (hM : B' ≤ 1099511627776) : NetOk n B' gs :=
  ⟨h.len, h.hi, by have := h.B0; omega, hM, fun i hi => ⟨(h.ok i hi).1.more hB hM, (h.ok i hi).2⟩⟩
theorem gat_set (gs : List Gs) (i j : Nat) (g : Gs) (hi : i < gs.length) : gat (gs.set i g) j = if i = j then g else gat gs j := by
  simp only [gat, List.getD_eq_getElem?_getD, List.getElem?_set]
  split
  · rename_i e; subst e; simp [hi]
  · rfl
theorem NetOk.put {n i : Nat} {B : Int} {gs : List Gs} {g : Gs} (h : NetOk n B gs) (hi : i < n) (hg : GOk (i + 1) B g ∧ Full n g) : NetOk n B (gs.set i g) :=
  ⟨by simpa using h.len, h.hi, h.B0, h.BM, fun j hj => by
    rw [gat_set _ _ _ _ (by rw [h.len]; exact hi)]
    by_cases e : i = j
    · rw [if_pos e, ← e]; exact hg
    · rw [if_neg e]; exact h.ok j hj⟩
theorem rest_lt {k : Int} {n : Nat} (hn : 0 < n) : (restI k n).toNat < n ∧ ((restI k n).toNat : Int) = restI k n := by
  have h0 := restI_lo k (n := n) (by omega)
  have h1 := restI_hi k (n := n) (by omega)
  omega
theorem chat_ok {n : Nat} {B : Int} {gs : List Gs} (h : NetOk n B gs) (hn : 0 < n) (k : Int) (hM : B + 1 ≤ 1099511627776) : NetOk n (B + 1) (chatStep gs k) := by
  have hi := (rest_lt (k := wrap64 (k.tdiv 8)) hn).1
  have hj := (rest_lt (k := wrap64 (k.tdiv 64)) hn).1
  have hlen := h.len
  unfold chatStep
  rw [hlen]
  dsimp only
  generalize (restI (wrap64 (k.tdiv 8)) n).toNat = i at *
  generalize (restI (wrap64 (k.tdiv 64)) n).toNat = j at *
  have hm := h.more (B' := B + 1) (by omega) hM
  have h8 := h.hi
  split
  · exact hm.put hi ⟨ok_doubt (hm.ok i hi).1 (by omega), full_doubt (h.ok i hi).1 (h.ok i hi).2 (by omega)⟩
  · split
    · exact hm.put hi ⟨ok_tick (hm.ok i hi).1, full_tick (h.ok i hi).1 (h.ok i hi).2⟩
    · exact hm.put hi ⟨ok_merge (h.ok i hi).1 (h.ok j hj).1 (Int.le_refl _) hM, full_merge (h.ok i hi).1 (h.ok j hj).1 (h.ok i hi).2 (h.ok j hj).2⟩
theorem chatL_ok {n : Nat} (hn : 0 < n) (ks : List Int) : ∀ {B : Int} {gs : List Gs}, NetOk n B gs → B + ks.length ≤ 1099511627776 → NetOk n (B + ks.length) (chatL gs ks) := by
  induction ks with
  | nil => intro B gs h _; simpa [chatL] using h
  | cons k ks ih =>
    intro B gs h hM
    simp only [List.length_cons] at hM ⊢
    have := ih (chat_ok h hn k (by omega)) (by omega)
    rw [show B + ((ks.length + 1 : Nat) : Int) = B + 1 + ks.length by omega]
    exact this
theorem chatL_snoc (gs : List Gs) (ks : List Int) (k : Nat) (h : k < ks.length) : chatL gs (ks.take (k + 1)) = chatStep (chatL gs (ks.take k)) (ks.getD k 0) := by
  rw [List.take_succ_eq_append_getElem h, chatL, List.foldl_append]
  simp [List.getD_eq_getElem?_getD, h, chatL]
end Go
