/- Texts laid together: WP2 W9 WP3 W10 W11 W12 W13. -/
import Derived.Test.YtfgipbjaaciiiaaMg4
/- Weighted reference counting, in plain words: what no step changes. -/
namespace Go
def sumR (f : Int → Int) : Nat → Int
  | 0 => 0
  | n + 1 => sumR f n + f n
def wsum (k : Nat) : List Wy → Int
  | [] => 0
  | x :: l => (if x.th = k then x.wt else 0) + wsum k l
theorem sumR_upd (f : Int → Int) (a v : Int) : ∀ n : Nat, sumR (fun y => if y = a then v else f y) n = sumR f n + (if 0 ≤ a ∧ a < n then v - f a else 0)
  | 0 => by simp only [sumR]; rw [if_neg (by omega)]; rfl
  | n + 1 => by
    simp only [sumR]
    rw [sumR_upd f a v n]
    by_cases e : (n : Int) = a
    · subst e; rw [if_pos rfl, if_neg (by omega), if_pos (by omega)]; omega
    · rw [if_neg e]
      by_cases h : 0 ≤ a ∧ a < n
      · rw [if_pos h, if_pos (by omega)]; omega
      · rw [if_neg h, if_neg (by omega)]; omega
theorem sumR_nonneg {f : Int → Int} (h : ∀ x, 0 ≤ f x) : ∀ n : Nat, 0 ≤ sumR f n
  | 0 => by simp [sumR]
  | n + 1 => by have := sumR_nonneg h n; have := h n; simp only [sumR]; omega
theorem sumR_ge {f : Int → Int} (h : ∀ x, 0 ≤ f x) {a : Int} : ∀ n : Nat, 0 ≤ a → a < n → f a ≤ sumR f n
  | 0 => fun h0 h1 => by omega
  | n + 1 => fun h0 h1 => by
    simp only [sumR]
    by_cases e : (n : Int) = a
    · subst e; have := sumR_nonneg h n; omega
    · have := sumR_ge h n h0 (by omega); have := h n; omega
theorem sumR_zero {f : Int → Int} : ∀ n : Nat, (∀ x : Int, 0 ≤ x → x < n → f x = 0) → sumR f n = 0
  | 0 => fun _ => rfl
  | n + 1 => fun h => by simp only [sumR]; rw [sumR_zero n (fun x h0 h1 => h x h0 (by omega)), h n (by omega) (by omega)]; rfl
theorem wsum_app (k : Nat) : ∀ l m : List Wy, wsum k (l ++ m) = wsum k l + wsum k m
  | [], m => by simp [wsum]
  | x :: l, m => by simp only [List.cons_append, wsum]; rw [wsum_app k l m]; omega
theorem wsum_nonneg {k : Nat} : ∀ {l : List Wy}, (∀ x ∈ l, 0 ≤ x.wt) → 0 ≤ wsum k l
  | [], _ => by simp [wsum]
  | x :: l, h => by
    have := wsum_nonneg (k := k) (l := l) (fun y hy => h y (List.mem_cons_of_mem _ hy))
    have := h x (by simp)
    simp only [wsum]; split <;> omega
theorem wsum_ge {l : List Wy} (h : ∀ x ∈ l, 0 ≤ x.wt) {x : Wy} (hx : x ∈ l) : x.wt ≤ wsum x.th l := by
  induction l with
  | nil => cases hx
  | cons a l ih =>
    have h2 := wsum_nonneg (k := x.th) (l := l) (fun y hy => h y (List.mem_cons_of_mem _ hy))
    have h3 := h a (by simp)
    simp only [wsum]
    rcases List.mem_cons.1 hx with e | e
    · subst e; rw [if_pos rfl]; omega
    · have := ih (fun y hy => h y (List.mem_cons_of_mem _ hy)) e
      split <;> omega
theorem wsum_none {k : Nat} : ∀ {l : List Wy}, (∀ x ∈ l, x.th ≠ k) → wsum k l = 0
  | [], _ => rfl
  | x :: l, h => by simp only [wsum]; rw [if_neg (h x (by simp)), wsum_none (fun y hy => h y (List.mem_cons_of_mem _ hy))]; rfl
theorem wsum_erase (k : Nat) : ∀ (l : List Wy) (i : Nat), i < l.length → wsum k (l.eraseIdx i) + (if (l.getD i noWy).th = k then (l.getD i noWy).wt else 0) = wsum k l
  | [], i, h => by simp at h
  | x :: l, 0, _ => by simp only [List.eraseIdx_cons_zero, wsum, List.getD_cons_zero]; omega
  | x :: l, i + 1, h => by
    have := wsum_erase k l i (by simpa using h)
    simp only [List.eraseIdx_cons_succ, wsum, List.getD_cons_succ]; omega
/-- What no step changes. -/
structure WInv (s : WS) : Prop where
  nodes : 1 ≤ s.nodes ∧ s.nodes ≤ 8
  len : s.th.length ≤ 20
  way : s.ways.length ≤ 60
  tg : ∀ k, k < s.th.length → (0 ≤ (tgAt s k).home ∧ (tgAt s k).home < s.nodes) ∧ 0 ≤ (tgAt s k).back ∧ (∀ x, 0 ≤ (tgAt s k).refs x) ∧ (∀ x, x < 0 ∨ s.nodes ≤ x → (tgAt s k).refs x = 0) ∧ sumR (tgAt s k).refs s.nodes.toNat + wsum k s.ways + (tgAt s k).back = 65536
  wy : ∀ x ∈ s.ways, x.th < s.th.length ∧ (0 ≤ x.to ∧ x.to < s.nodes) ∧ 0 ≤ x.wt
theorem WInv.bd {s : WS} (h : WInv s) : WBd s := by
  have hn := h.nodes
  have hws : ∀ k, 0 ≤ wsum k s.ways := fun k => wsum_nonneg fun x hx => (h.wy x hx).2.2
  refine ⟨h.nodes, h.len, h.way, fun k hk => ?_, fun x hx => ?_⟩
  · obtain ⟨h1, h2, h3, h4, h5⟩ := h.tg k hk
    have h6 := sumR_nonneg h3 s.nodes.toNat
    have h7 := hws k
    refine ⟨h1, h2, by omega, fun x => ⟨h3 x, ?_⟩⟩
    by_cases hx : x < 0 ∨ s.nodes ≤ x
    · rw [h4 x hx]; omega
    · have := sumR_ge h3 (a := x) s.nodes.toNat (by omega) (by omega)
      omega
  · obtain ⟨h1, h2, h3⟩ := h.wy x hx
    obtain ⟨_, h5, h6, _, h7⟩ := h.tg x.th h1
    have h8 := sumR_nonneg h6 s.nodes.toNat
    have h9 := wsum_ge (fun y hy => (h.wy y hy).2.2) hx
    exact ⟨h1, h2, h3, by omega⟩
theorem inv_new {x : Int} (h1 : 1 ≤ x) (h8 : x ≤ 8) : WInv ⟨x, [], []⟩ := ⟨⟨h1, h8⟩, by simp, by simp, fun k hk => absurd hk (by simp), fun x hx => absurd hx (by simp)⟩
theorem isN_iff {s : WS} {x : Int} : isN s x = true ↔ 0 ≤ x ∧ x < s.nodes := by simp [isN]
theorem th_getD {l : List Tg} {g : Tg} (k : Nat) : (l ++ [g]).getD k noTg = if k = l.length then g else l.getD k noTg := by
  simp only [List.getD_eq_getElem?_getD]
  by_cases e : k = l.length
  · subst e; simp
  · rw [if_neg e]
    by_cases h : k < l.length
    · rw [List.getElem?_append_left h]
    · rw [List.getElem?_eq_none (by simp; omega), List.getElem?_eq_none (by omega)]
theorem make_inv {s s' : WS} {node r c : Int} (h : WInv s) (hm : makeW s node = (s', r, c)) : WInv s' ∧ s'.nodes = s.nodes ∧ s'.ways = s.ways ∧ (c = 0 ∧ s'.th.length = s.th.length + 1 ∧ r = s.th.length ∨ c ≠ 0 ∧ s' = s) ∧ (isN s node = true → c = 0 ∨ c = 6) := by
  unfold makeW at hm
  by_cases hn : isN s node = true
  · rw [if_pos hn] at hm
    by_cases h20 : s.th.length = 20
    · rw [if_pos h20] at hm
      obtain ⟨rfl, hm2⟩ := Prod.mk.inj hm
      obtain ⟨rfl, rfl⟩ := Prod.mk.inj hm2
      exact ⟨h, rfl, rfl, .inr ⟨by decide, rfl⟩, fun _ => .inr rfl⟩
    · rw [if_neg h20] at hm
      obtain ⟨rfl, hm2⟩ := Prod.mk.inj hm
      obtain ⟨rfl, rfl⟩ := Prod.mk.inj hm2
      have hnn := isN_iff.1 hn
      have hl := h.len
      refine ⟨⟨h.nodes, by simp; omega, h.way, fun k hk => ?_, fun x hx => ?_⟩, rfl, rfl, .inl ⟨rfl, by simp, rfl⟩, fun _ => .inl rfl⟩
      · have hat : tgAt { s with th := s.th ++ [(⟨node, 0, fun y => if y = node then 65536 else 0⟩ : Tg)] } k = if k = s.th.length then (⟨node, 0, fun y => if y = node then 65536 else 0⟩ : Tg) else tgAt s k := th_getD k
        simp only [List.length_append, List.length_singleton] at hk
        rw [hat]
        by_cases e : k = s.th.length
        · rw [if_pos e]
          subst e
          refine ⟨hnn, Int.le_refl _, fun x => by dsimp only; split <;> decide, fun x hx => by change x < 0 ∨ s.nodes ≤ x at hx; dsimp only; rw [if_neg]; rintro rfl; omega, ?_⟩
          have hw : wsum s.th.length s.ways = 0 := wsum_none fun x hx => by have := (h.wy x hx).1; omega
          have h1 := sumR_upd (fun _ => 0) node 65536 s.nodes.toNat
          rw [if_pos (by omega), sumR_zero s.nodes.toNat (fun _ _ _ => rfl)] at h1
          show sumR (fun y => if y = node then 65536 else 0) s.nodes.toNat + wsum s.th.length s.ways + 0 = 65536
          rw [h1, hw]; rfl
        · rw [if_neg e]
          exact h.tg k (by omega)
      · obtain ⟨h1, h2⟩ := h.wy x hx
        exact ⟨by simp; omega, h2⟩
  · rw [if_neg hn] at hm
    obtain ⟨rfl, hm2⟩ := Prod.mk.inj hm
    obtain ⟨rfl, rfl⟩ := Prod.mk.inj hm2
    exact ⟨h, rfl, rfl, .inr ⟨by decide, rfl⟩, fun hh => absurd hh hn⟩
theorem hasW_pos {s : WS} {node t q c : Int} (h : hasW s node t = (q, c)) : (c = 0 ∧ isN s node = true ∧ 0 ≤ t ∧ t < s.th.length ∧ (tgAt s t.toNat).refs node = q ∧ q ≠ 0) ∨ (c ≠ 0 ∧ q = 0 ∧ (isN s node = true → 0 ≤ t → t < s.th.length → c = 4 ∧ (tgAt s t.toNat).refs node = 0)) := by
  unfold hasW at h
  by_cases hc : isN s node = true ∧ 0 ≤ t ∧ t < s.th.length
  · rw [if_pos hc] at h
    by_cases hz : (tgAt s t.toNat).refs node = 0
    · rw [if_pos hz] at h
      obtain ⟨rfl, rfl⟩ := Prod.mk.inj h
      exact .inr ⟨by decide, rfl, fun _ _ _ => ⟨rfl, hz⟩⟩
    · rw [if_neg hz] at h
      obtain ⟨rfl, rfl⟩ := Prod.mk.inj h
      exact .inl ⟨rfl, hc.1, hc.2.1, hc.2.2, rfl, hz⟩
  · rw [if_neg hc] at h
    obtain ⟨rfl, rfl⟩ := Prod.mk.inj h
    exact .inr ⟨by decide, rfl, fun h1 h2 h3 => absurd ⟨h1, h2, h3⟩ hc⟩
theorem len_setRef (s : WS) (t : Nat) (node v : Int) : (setRef s t node v).th.length = s.th.length := by simp [setRef]
theorem len_addBack (s : WS) (t : Nat) (v : Int) : (addBack s t v).th.length = s.th.length := by simp [addBack]
/-- A reference lost weight to a message. -/
theorem post_inv {s : WS} (h : WInv s) {t : Nat} (ht : t < s.th.length) {node : Int} (hn : 0 ≤ node ∧ node < s.nodes) {v : Int} (h0 : 0 ≤ v) (h1 : v ≤ (tgAt s t).refs node) {to : Int} (hto : 0 ≤ to ∧ to < s.nodes) {b : Bool} (hw : s.ways.length ≠ 60) :
    WInv { setRef s t node ((tgAt s t).refs node - v) with ways := s.ways ++ [⟨to, t, v, b⟩] } := by
  have hway := h.way
  have hat := tgAt_setRef ht node ((tgAt s t).refs node - v)
  refine ⟨h.nodes, by show (setRef s t node _).th.length ≤ 20; rw [len_setRef]; exact h.len, by simp; omega, fun k hk => ?_, fun x hx => ?_⟩
  · have hk' : k < s.th.length := by rw [← len_setRef s t node ((tgAt s t).refs node - v)]; exact hk
    obtain ⟨g1, g2, g3, g4, g5⟩ := h.tg k hk'
    show _ ∧ _ ∧ _ ∧ _ ∧ sumR (tgAt (setRef s t node ((tgAt s t).refs node - v)) k).refs s.nodes.toNat + wsum k (s.ways ++ [⟨to, t, v, b⟩]) + (tgAt (setRef s t node ((tgAt s t).refs node - v)) k).back = 65536
    change ((0 : Int) ≤ (tgAt (setRef s t node ((tgAt s t).refs node - v)) k).home ∧ (tgAt (setRef s t node ((tgAt s t).refs node - v)) k).home < s.nodes) ∧ 0 ≤ (tgAt (setRef s t node ((tgAt s t).refs node - v)) k).back ∧ (∀ x, 0 ≤ (tgAt (setRef s t node ((tgAt s t).refs node - v)) k).refs x) ∧ (∀ x, x < 0 ∨ s.nodes ≤ x → (tgAt (setRef s t node ((tgAt s t).refs node - v)) k).refs x = 0) ∧ _
    rw [hat, wsum_app]
    by_cases e : k = t
    · subst e
      rw [if_pos rfl]
      refine ⟨g1, g2, fun x => ?_, fun x hx => ?_, ?_⟩
      · dsimp only; split
        · omega
        · exact g3 x
      · dsimp only; rw [if_neg (by rintro rfl; omega)]; exact g4 x hx
      · dsimp only
        rw [sumR_upd, if_pos (by omega)]
        simp only [wsum, if_true]
        omega
    · rw [if_neg e]
      refine ⟨g1, g2, g3, g4, ?_⟩
      simp only [wsum]
      rw [if_neg (fun h => e h.symm)]
      omega
  · have hl : ({ setRef s t node ((tgAt s t).refs node - v) with ways := s.ways ++ [⟨to, t, v, b⟩] } : WS).th.length = s.th.length := len_setRef _ _ _ _
    rw [hl]
    rcases List.mem_append.1 hx with hx | hx
    · exact h.wy x hx
    · obtain rfl : x = ⟨to, t, v, b⟩ := by simpa using hx
      exact ⟨ht, hto, h0⟩
theorem send_inv {s s' : WS} {node t to c : Int} (h : WInv s) (hr : sendW s node t to = (s', c)) : WInv s' ∧ s'.nodes = s.nodes ∧ s'.th.length = s.th.length := by
  unfold sendW at hr
  obtain ⟨q, c1, hh⟩ : ∃ q c, hasW s node t = (q, c) := ⟨_, _, rfl⟩
  rw [hh] at hr
  dsimp only at hr
  by_cases h1 : c1 ≠ 0
  · rw [if_pos h1] at hr; obtain ⟨rfl, _⟩ := Prod.mk.inj hr; exact ⟨h, rfl, rfl⟩
  rw [if_neg h1] at hr
  by_cases h2 : isN s to = false ∨ to = node
  · rw [if_pos h2] at hr; obtain ⟨rfl, _⟩ := Prod.mk.inj hr; exact ⟨h, rfl, rfl⟩
  rw [if_neg h2] at hr
  by_cases h3 : s.ways.length = 60
  · rw [if_pos h3] at hr; obtain ⟨rfl, _⟩ := Prod.mk.inj hr; exact ⟨h, rfl, rfl⟩
  rw [if_neg h3] at hr
  by_cases h4 : q = 1
  · rw [if_pos h4] at hr; obtain ⟨rfl, _⟩ := Prod.mk.inj hr; exact ⟨h, rfl, rfl⟩
  rw [if_neg h4] at hr
  obtain ⟨rfl, _⟩ := Prod.mk.inj hr
  rcases hasW_pos hh with ⟨_, hn, ht0, ht, hq, hq0⟩ | ⟨hc, _⟩
  · subst hq
    have ht' : t.toNat < s.th.length := by omega
    have hpos := (h.tg _ ht').2.2.1 node
    have hto : isN s to = true := by cases e : isN s to with | true => rfl | false => exact absurd (.inl e) h2
    exact ⟨post_inv h ht' (isN_iff.1 hn) (by omega) (by omega) (isN_iff.1 hto) h3, rfl, len_setRef _ _ _ _⟩
  · exact absurd hc h1
theorem drop_inv {s s' : WS} {node t c : Int} (h : WInv s) (hr : dropW s node t = (s', c)) : WInv s' ∧ s'.nodes = s.nodes ∧ s'.th.length = s.th.length := by
  unfold dropW at hr
  obtain ⟨q, c1, hh⟩ : ∃ q c, hasW s node t = (q, c) := ⟨_, _, rfl⟩
  rw [hh] at hr
  dsimp only at hr
  by_cases h1 : c1 ≠ 0
  · rw [if_pos h1] at hr; obtain ⟨rfl, _⟩ := Prod.mk.inj hr; exact ⟨h, rfl, rfl⟩
  rw [if_neg h1] at hr
  by_cases h3 : s.ways.length = 60
  · rw [if_pos h3] at hr; obtain ⟨rfl, _⟩ := Prod.mk.inj hr; exact ⟨h, rfl, rfl⟩
  rw [if_neg h3] at hr
  obtain ⟨rfl, _⟩ := Prod.mk.inj hr
  rcases hasW_pos hh with ⟨_, hn, ht0, ht, hq, hq0⟩ | ⟨hc, _⟩
  · subst hq
    have ht' : t.toNat < s.th.length := by omega
    have hpos := (h.tg _ ht').2.2.1 node
    have h9 := post_inv h ht' (isN_iff.1 hn) hpos (Int.le_refl _) (h.tg _ ht').1 (b := true) h3
    rw [Int.sub_self] at h9
    exact ⟨h9, rfl, len_setRef _ _ _ _⟩
  · exact absurd hc h1
theorem come_inv {s s' : WS} {i c : Int} (h : WInv s) (hr : comeW s i = (s', c)) : WInv s' ∧ s'.nodes = s.nodes ∧ s'.th.length = s.th.length := by
  unfold comeW at hr
  by_cases hc : 0 ≤ i ∧ i < s.ways.length
  · rw [if_pos hc] at hr
    have hi : i.toNat < s.ways.length := by omega
    have hmem : wyAt s i.toNat ∈ s.ways := by unfold wyAt; rw [List.getD_eq_getElem?_getD, List.getElem?_eq_getElem hi]; exact List.getElem_mem hi
    obtain ⟨m1, m2, m3⟩ := h.wy _ hmem
    have hway := h.way
    have hwl : (s.ways.eraseIdx i.toNat).length ≤ 60 := by rw [List.length_eraseIdx, if_pos hi]; omega
    have hwe := fun k => wsum_erase k s.ways i.toNat hi
    have hxd : s.ways.getD i.toNat noWy = wyAt s i.toNat := rfl
    simp only [hxd] at hwe
    obtain ⟨⟨xto, xt, xw, xb⟩, hX⟩ : ∃ x, wyAt s i.toNat = x := ⟨_, rfl⟩
    rw [hX] at m1 m2 m3 hr
    simp only [hX] at hwe
    dsimp only at m1 m2 m3 hr
    have hm : ∀ x ∈ s.ways.eraseIdx i.toNat, x.th < s.th.length ∧ (0 ≤ x.to ∧ x.to < s.nodes) ∧ 0 ≤ x.wt := fun x hx => h.wy x (List.mem_of_mem_eraseIdx hx)
    have hsx : ∀ k, tgAt { s with ways := s.ways.eraseIdx i.toNat } k = tgAt s k := fun k => rfl
    have ht1 : xt < ({ s with ways := s.ways.eraseIdx i.toNat } : WS).th.length := m1
    cases xb with
    | true =>
      rw [if_pos rfl] at hr
      obtain ⟨rfl, _⟩ := Prod.mk.inj hr
      have hl := len_addBack { s with ways := s.ways.eraseIdx i.toNat } xt ((tgAt s xt).back + xw)
      refine ⟨⟨h.nodes, by rw [hl]; exact h.len, hwl, fun k hk => ?_, fun x hx => by rw [hl]; exact hm x hx⟩, rfl, hl⟩
      rw [hl] at hk
      obtain ⟨g1, g2, g3, g4, g5⟩ := h.tg k hk
      have hw := hwe k
      rw [tgAt_addBack ht1, hsx, hsx]
      by_cases e : k = xt
      · subst e
        rw [if_pos rfl] at hw ⊢
        refine ⟨g1, by dsimp only; omega, g3, g4, ?_⟩
        show sumR (tgAt s k).refs s.nodes.toNat + wsum k (s.ways.eraseIdx i.toNat) + ((tgAt s k).back + xw) = 65536
        omega
      · rw [if_neg (fun h => e h.symm)] at hw
        rw [if_neg e]
        refine ⟨g1, g2, g3, g4, ?_⟩
        show sumR (tgAt s k).refs s.nodes.toNat + wsum k (s.ways.eraseIdx i.toNat) + (tgAt s k).back = 65536
        omega
    | false =>
      rw [if_neg (by decide)] at hr
      obtain ⟨rfl, _⟩ := Prod.mk.inj hr
      have hl := len_setRef { s with ways := s.ways.eraseIdx i.toNat } xt xto ((tgAt s xt).refs xto + xw)
      refine ⟨⟨h.nodes, by rw [hl]; exact h.len, hwl, fun k hk => ?_, fun x hx => by rw [hl]; exact hm x hx⟩, rfl, hl⟩
      rw [hl] at hk
      obtain ⟨g1, g2, g3, g4, g5⟩ := h.tg k hk
      have hw := hwe k
      rw [tgAt_setRef ht1, hsx, hsx]
      by_cases e : k = xt
      · subst e
        rw [if_pos rfl] at hw ⊢
        have hnn : s.nodes = (setRef { s with ways := s.ways.eraseIdx i.toNat } k xto ((tgAt s k).refs xto + xw)).nodes := rfl
        rw [← hnn]
        refine ⟨g1, g2, fun x => ?_, fun x hx => ?_, ?_⟩
        · dsimp only; split
          · have := g3 xto; omega
          · exact g3 x
        · dsimp only; rw [if_neg (by rintro rfl; omega)]; exact g4 x hx
        · dsimp only
          show sumR (fun y => if y = xto then (tgAt s k).refs xto + xw else (tgAt s k).refs y) s.nodes.toNat + wsum k (s.ways.eraseIdx i.toNat) + (tgAt s k).back = 65536
          rw [sumR_upd, if_pos (by omega)]
          omega
      · rw [if_neg (fun h => e h.symm)] at hw
        rw [if_neg e]
        refine ⟨g1, g2, g3, g4, ?_⟩
        show sumR (tgAt s k).refs s.nodes.toNat + wsum k (s.ways.eraseIdx i.toNat) + (tgAt s k).back = 65536
        omega
  · rw [if_neg hc] at hr; obtain ⟨rfl, _⟩ := Prod.mk.inj hr; exact ⟨h, rfl, rfl⟩
end Go
namespace Go
theorem make0_new {x : Int} (h1 : 1 ≤ x) : makeW ⟨x, [], []⟩ 0 = (⟨x, [⟨0, 0, fun y => if y = 0 then 65536 else 0⟩], []⟩, 0, 0) := by
  unfold makeW
  rw [if_pos (isN_iff.2 ⟨Int.le_refl _, by show 0 < x; omega⟩), if_neg (by simp)]
  rfl
theorem has0_new {x : Int} (h1 : 1 ≤ x) : hasW ⟨x, [⟨0, 0, fun y => if y = 0 then 65536 else 0⟩], []⟩ 0 0 = (65536, 0) := by
  unfold hasW
  rw [if_pos ⟨isN_iff.2 ⟨Int.le_refl _, by show 0 < x; omega⟩, Int.le_refl _, by simp⟩]
  rfl
end Go
namespace Go.Proofs.Ytfgipbjaaciiiaa
open Go.RowKit
set_option maxRecDepth 100000 in
set_option maxHeartbeats 2000000 in
theorem begun26_any (w : World) : Calls Try.prog 26 #[] w fun e w' => e = .returned (.bool true) ∧ Keep [] w w' := by
  have HM := Lib.hid (make0_new (x := 1) (by decide))
  have HH := Lib.hid (has0_new (x := 1) (by decide))
  have HI0 := Lib.hid (inv_new (x := 1) (by decide) (by decide))
  have HI := Lib.hid (make_inv HI0.out HM.out).1
  have HN := Lib.hid (isN_iff (s := ⟨1, [], []⟩) (x := 0) |>.2 ⟨by decide, by decide⟩)
  go_enter Try.func26, Try.ntmps26
  go_wp2_with (first | (with_reducible refine Txt.wp_region_text mixed quiet (by decide +kernel) ?_) | (with_reducible refine Txt.text_done (by kernel_rfl) ?_) | (go_at_call 27; refine (new27_any (x := 1) (by omega) (by omega)).mono ?_; rintro e w1 ⟨Wb, rfl, hc1⟩; have HC1 : Hid (WC w Wb 0 ⟨1, [], []⟩ w1) := Lib.hid hc1; clear hc1) | (go_at_call 28; (with_reducible refine (make28_any HC1.out HI0.out.bd (by omega) HN.out HM.out).mono ?_); rintro e w2 ⟨rfl, hc2, -⟩; have HC2 := Lib.hid hc2; clear hc2) | (go_at_call 29; (with_reducible refine (has29_any HC2.out HI.out.bd HH.out).mono ?_); rintro e w3 ⟨rfl, rfl⟩))

  go_ret
  exact ⟨rfl, HC2.out.1⟩
end Go.Proofs.Ytfgipbjaaciiiaa
/- Weighted reference counting, in plain words: handed on sixteen times. -/
namespace Go
theorem come_one {s : WS} {x : Wy} (h : s.ways = [x]) : comeW s 0 = (if x.back = true then addBack { s with ways := [] } x.th ((tgAt s x.th).back + x.wt) else setRef { s with ways := [] } x.th x.to ((tgAt s x.th).refs x.to + x.wt), 0) := by
  unfold comeW
  rw [if_pos ⟨Int.le_refl _, by rw [h]; simp⟩]
  have h1 : wyAt s (0 : Int).toNat = x := by unfold wyAt; rw [h]; rfl
  have h2 : s.ways.eraseIdx (0 : Int).toNat = [] := by rw [h]; rfl
  simp only [h1, h2]
structure HS (a : Int) (j : Nat) (s : WS) : Prop where
  inv : WInv s
  nodes : s.nodes = 2
  len : s.th.length = 1
  ways : s.ways = []
  at_ : a = 0 ∨ a = 1
  refs : ((65536 / 2 ^ j : Nat) : Int) ≤ (tgAt s 0).refs a
theorem half_step {a : Int} {j : Nat} {s : WS} (h : HS a j s) (hj : j < 16) : ∃ k s1 s2, hasW s a 0 = (k, 0) ∧ ((65536 / 2 ^ j : Nat) : Int) ≤ k ∧ k ≤ 65536 ∧ sendW s a 0 (1 - a) = (s1, 0) ∧ comeW s1 0 = (s2, 0) ∧ WInv s1 ∧ HS (1 - a) (j + 1) s2 ∧ 1 ≤ (tgAt s2 0).refs a := by
  obtain ⟨hi, hn, hl, hw, ha, hr⟩ := h
  have hN : isN s a = true := isN_iff.2 (by rw [hn]; omega)
  have hN1 : isN s (1 - a) = true := isN_iff.2 (by rw [hn]; omega)
  have h2 : (2 : Int) ≤ ((65536 / 2 ^ j : Nat) : Int) ∧ ((65536 / 2 ^ (j + 1) : Nat) : Int) = ((65536 / 2 ^ j : Nat) : Int) / 2 := by
    have h1 : 65536 / 2 ^ (j + 1) = 65536 / 2 ^ j / 2 := by rw [Nat.pow_succ, Nat.div_div_eq_div_mul]
    have h3 : 2 ≤ 65536 / 2 ^ j := by
      rw [Nat.le_div_iff_mul_le (Nat.two_pow_pos j), ← Nat.pow_succ']
      exact Nat.le_trans (Nat.pow_le_pow_right (by decide) (show j + 1 ≤ 16 by omega)) (by decide)
    rw [h1]
    exact ⟨by omega, by omega⟩
  obtain ⟨k, hk⟩ : ∃ k, (tgAt s 0).refs a = k := ⟨_, rfl⟩
  have hk2 := hi.bd.tg 0 (by omega)
  have hka := hk2.2.2.2 a
  have hkb := hk2.2.2.2 (1 - a)
  rw [hk] at hr hka
  have hh : hasW s a 0 = (k, 0) := by
    unfold hasW
    rw [if_pos ⟨hN, Int.le_refl _, by omega⟩, if_neg (by show ¬ (tgAt s 0).refs a = 0; omega)]
    exact congrArg (·, 0) hk
  have hs : sendW s a 0 (1 - a) = ({ setRef s 0 a (k - k / 2) with ways := [⟨1 - a, 0, k / 2, false⟩] }, 0) := by
    unfold sendW
    rw [hh, if_neg (by simp), if_neg (by rw [hN1]; simp; omega), if_neg (by rw [hw]; simp), if_neg (by dsimp only; omega), hw]
    rfl
  obtain ⟨s1, hs1⟩ : ∃ s1 : WS, { setRef s 0 a (k - k / 2) with ways := [(⟨1 - a, 0, k / 2, false⟩ : Wy)] } = s1 := ⟨_, rfl⟩
  rw [hs1] at hs
  have hi1 := send_inv hi hs
  have hc := come_one (s := s1) (x := ⟨1 - a, 0, k / 2, false⟩) (by rw [← hs1])
  rw [if_neg (by simp)] at hc
  have hi2 := come_inv hi1.1 hc
  have hat1 : ∀ x, (tgAt s1 0).refs x = if x = a then k - k / 2 else (tgAt s 0).refs x := fun x => by
    have h9 : tgAt s1 0 = tgAt (setRef s 0 a (k - k / 2)) 0 := by rw [← hs1]; rfl
    rw [h9, tgAt_setRef (by omega), if_pos rfl]
  have hat2 : ∀ x, (tgAt (setRef { s1 with ways := [] } 0 (1 - a) ((tgAt s1 0).refs (1 - a) + k / 2)) 0).refs x = if x = 1 - a then (tgAt s1 0).refs (1 - a) + k / 2 else (tgAt s1 0).refs x := fun x => by
    rw [tgAt_setRef (show 0 < ({ s1 with ways := [] } : WS).th.length from by show 0 < s1.th.length; omega), if_pos rfl]
    rfl
  refine ⟨k, s1, _, hh, hr, hka.2, hs, hc, hi1.1, ⟨hi2.1, by omega, by omega, rfl, by omega, ?_⟩, ?_⟩
  · rw [hat2, if_pos rfl, hat1, if_neg (by omega), h2.2]
    omega
  · rw [hat2, if_neg (by omega), hat1, if_pos rfl]
    omega
theorem half_drop {a : Int} {j : Nat} {s : WS} (h : HS (1 - a) j s) (hr : 1 ≤ (tgAt s 0).refs a) : ∃ s3 s4, dropW s a 0 = (s3, 0) ∧ comeW s3 0 = (s4, 0) ∧ WInv s3 ∧ HS (1 - a) j s4 := by
  obtain ⟨hi, hn, hl, hw, ha, hrr⟩ := h
  have hN : isN s a = true := isN_iff.2 (by rw [hn]; omega)
  obtain ⟨k, hk⟩ : ∃ k, (tgAt s 0).refs a = k := ⟨_, rfl⟩
  rw [hk] at hr
  have hh : hasW s a 0 = (k, 0) := by
    unfold hasW
    rw [if_pos ⟨hN, Int.le_refl _, by omega⟩, if_neg (by show ¬ (tgAt s 0).refs a = 0; omega)]
    exact congrArg (·, 0) hk
  have hs : dropW s a 0 = ({ setRef s 0 a 0 with ways := [⟨(tgAt s 0).home, 0, k, true⟩] }, 0) := by
    unfold dropW
    rw [hh, if_neg (by simp), if_neg (by rw [hw]; simp), hw]
    rfl
  obtain ⟨s1, hs1⟩ : ∃ s1 : WS, { setRef s 0 a 0 with ways := [(⟨(tgAt s 0).home, 0, k, true⟩ : Wy)] } = s1 := ⟨_, rfl⟩
  rw [hs1] at hs
  have hi1 := drop_inv hi hs
  have hc := come_one (s := s1) (x := ⟨(tgAt s 0).home, 0, k, true⟩) (by rw [← hs1])
  rw [if_pos rfl] at hc
  have hi2 := come_inv hi1.1 hc
  have hat1 : ∀ x, (tgAt s1 0).refs x = if x = a then 0 else (tgAt s 0).refs x := fun x => by
    have h9 : tgAt s1 0 = tgAt (setRef s 0 a 0) 0 := by rw [← hs1]; rfl
    rw [h9, tgAt_setRef (by omega), if_pos rfl]
  have hat2 : ∀ x, (tgAt (addBack { s1 with ways := [] } 0 ((tgAt s1 0).back + k)) 0).refs x = (tgAt s1 0).refs x := fun x => by
    rw [tgAt_addBack (show 0 < ({ s1 with ways := [] } : WS).th.length from by show 0 < s1.th.length; omega), if_pos rfl]
    rfl
  refine ⟨s1, _, hs, hc, hi1.1, ⟨hi2.1, by omega, by omega, rfl, by omega, ?_⟩⟩
  rw [hat2, hat1, if_neg (by omega)]
  exact hrr
theorem half_start : HS 0 0 ⟨2, [⟨0, 0, fun y => if y = 0 then 65536 else 0⟩], []⟩ :=
  ⟨(make_inv (inv_new (x := 2) (by decide) (by decide)) (show makeW ⟨2, [], []⟩ 0 = (⟨2, [⟨0, 0, fun y => if y = 0 then 65536 else 0⟩], []⟩, 0, 0) by rfl)).1, rfl, rfl, rfl, .inl rfl, by decide⟩
end Go
namespace Go.Proofs.Ytfgipbjaaciiiaa
open Go.RowKit
theorem new27_two (w : World) : Calls Try.prog 27 #[.int .i64 2] w fun e w' => ∃ Wb, e = .returned (.tuple #[.pointer (some ⟨Wb, 0, none⟩), .int .i64 0]) ∧ WC w Wb 0 ⟨2, [], []⟩ w' := new27_any (x := 2) (by omega) (by omega)
set_option maxRecDepth 100000 in
set_option maxHeartbeats 8000000 in
theorem weightHalves_walk (x : Int) (w : World) :
    Calls Try.prog 7 #[.int .i64 x] w fun e w' => e = .returned (.bool true) ∧ Keep [] w w' := by
  obtain ⟨q, hq, hq1⟩ := rest_nat x 2 (by omega)
  have HQ := Lib.hid hq
  have HM := Lib.hid (make0_new (x := 2) (by decide))
  have HI0 := Lib.hid (inv_new (x := 2) (by decide) (by decide))
  have HN := Lib.hid (isN_iff (s := ⟨2, [], []⟩) (x := 0) |>.2 ⟨by decide, by decide⟩)
  clear hq
  go_enter Try.func7, Try.ntmps7
  go_wp2_with (first | (with_reducible refine Txt.wp_region_text mixed quiet (by decide +kernel) ?_) | (with_reducible refine Txt.text_done (by kernel_rfl) ?_) | (go_at_call 26; refine (begun26_any _).mono ?_; rintro e w0 ⟨rfl, hk0⟩) | (go_at_call 27; refine (new27_two _).mono ?_; rintro e w1 ⟨Wb, rfl, hc1⟩; have HC1 := Lib.hid hc1; clear hc1) | (go_at_call 28; (with_reducible refine (make28_any HC1.out HI0.out.bd (by omega) HN.out HM.out).mono ?_); rintro e w2 ⟨rfl, hc2, -⟩; have HC2 := Lib.hid hc2; clear hc2))
  have HS0 := Lib.hid half_start
  go_loopw [7, 8, 9, 10, 27] (fun at_ want _ _ i wr => ∃ (r : Nat) (a : Int) (s : WS), r ≤ 16 ∧ (a = 0 ∨ a = 1) ∧ i = .int .i64 r ∧ at_ = .int .i64 a ∧ want = .int .i64 ((65536 / 2 ^ r : Nat) : Int) ∧ Hid (WC w0 Wb (1 + 4 * r) s wr) ∧ Hid (HS a r s)) (fun _ _ _ _ i _ => 16 - (intOf i).toNat)
  case atStart => exact ⟨0, 0, _, by omega, .inl rfl, rfl, rfl, rfl, HC2, HS0⟩
  case round =>
    obtain ⟨r, a, s, hr, ha, rfl, rfl, rfl, HC, HSr⟩ := hrel
    by_cases hlt : r < 16
    · obtain ⟨k, s1, s2, hh, hwk, hk, hsnd, hcom, hi1, hsn, hra⟩ := half_step HSr.out hlt
      have hwn : ((65536 / 2 ^ (r + 1) : Nat) : Int) = ((65536 / 2 ^ r : Nat) : Int) / 2 := by
        have h1 : 65536 / 2 ^ (r + 1) = 65536 / 2 ^ r / 2 := by rw [Nat.pow_succ, Nat.div_div_eq_div_mul]
        rw [h1]; omega
      have hw0 : (0 : Int) ≤ ((65536 / 2 ^ r : Nat) : Int) := Int.natCast_nonneg _
      have HHAS := Lib.hid hh
      have HSND := Lib.hid hsnd
      have HCOM := Lib.hid hcom
      have HI1 := Lib.hid hi1
      have HSN := Lib.hid hsn
      have HRA := Lib.hid hra
      have HIV := Lib.hid HSr.out.inv
      have HIV2 := Lib.hid hsn.inv
      obtain ⟨W, hW⟩ : ∃ W, ((65536 / 2 ^ r : Nat) : Int) = W := ⟨_, rfl⟩
      rw [hW] at hwn hwk hw0 ⊢
      have HWN := Lib.hid hwn
      have hdec : decide (k < W) = false := by simpa using hwk
      have hdec2 : decide ((r : Int) < 16) = true := by simp; omega
      clear hh hsnd hcom hi1 hsn hra hW hwn
      rcases ha with rfl | rfl
      · rw [show (1 : Int) - 0 = 1 from rfl] at HSND HSN
        go_wp2_with (first | (with_reducible refine Txt.wp_region_text mixed quiet (by decide +kernel) ?_) | (with_reducible refine Txt.text_done (by kernel_rfl) ?_) | (go_at_call 29; (with_reducible refine (has29_any HC.out HIV.out.bd HHAS.out).mono ?_); rintro e w3 ⟨rfl, rfl⟩) | (go_at_call 30; (with_reducible refine (send30_any HC.out HIV.out.bd (by omega) HSND.out).mono ?_); rintro e w4 ⟨rfl, hc4, -⟩; have HC4 := Lib.hid hc4; clear hc4) | (go_at_call 31; (with_reducible refine (come31_any HC4.out HI1.out.bd (by omega) HCOM.out).mono ?_); rintro e w5 ⟨rfl, hc5, -⟩; have HC5 := Lib.hid hc5; clear hc5) | (go_at_call 12; (with_reducible refine (rest_at HQ (by omega) (by omega)).mono ?_); rintro e w' ⟨rfl, rfl⟩))
        go_roundw
        case measure => simp [intOf]; omega
        case rel => exact ⟨r + 1, _, s2, by omega, by omega, by go_num, rfl, by rw [HWN.out], Lib.hid (HC5.out.mono (by omega)), HSN⟩
      · rw [show (1 : Int) - 1 = 0 from rfl] at HSND HSN
        by_cases hq0 : q = 0
        · subst hq0
          obtain ⟨s3, s4, hd, hcd, hi3, hs4⟩ := half_drop (a := 1) HSN.out HRA.out
          rw [show (1 : Int) - 1 = 0 from rfl] at hs4
          have HDRP := Lib.hid hd
          have HCOD := Lib.hid hcd
          have HI3 := Lib.hid hi3
          have HSN := Lib.hid hs4
          clear hd hcd hi3 hs4
          go_wp2_with (first | (with_reducible refine Txt.wp_region_text mixed quiet (by decide +kernel) ?_) | (with_reducible refine Txt.text_done (by kernel_rfl) ?_) | (go_at_call 31; (with_reducible refine (come31_any HC6.out HI3.out.bd (by omega) HCOD.out).mono ?_); rintro e w7 ⟨rfl, hc7, -⟩; have HC7 := Lib.hid hc7; clear hc7) | (go_at_call 29; (with_reducible refine (has29_any HC.out HIV.out.bd HHAS.out).mono ?_); rintro e w3 ⟨rfl, rfl⟩) | (go_at_call 30; (with_reducible refine (send30_any HC.out HIV.out.bd (by omega) HSND.out).mono ?_); rintro e w4 ⟨rfl, hc4, -⟩; have HC4 := Lib.hid hc4; clear hc4) | (go_at_call 31; (with_reducible refine (come31_any HC4.out HI1.out.bd (by omega) HCOM.out).mono ?_); rintro e w5 ⟨rfl, hc5, -⟩; have HC5 := Lib.hid hc5; clear hc5) | (go_at_call 32; (with_reducible refine (drop32_any HC5.out HIV2.out.bd (by omega) HDRP.out).mono ?_); rintro e w6 ⟨rfl, hc6, -⟩; have HC6 := Lib.hid hc6; clear hc6) | (go_at_call 12; (with_reducible refine (rest_at HQ (by omega) (by omega)).mono ?_); rintro e w' ⟨rfl, rfl⟩))
          go_roundw
          case measure => simp [intOf]; omega
          case rel => exact ⟨r + 1, _, s4, by omega, by omega, by go_num, rfl, by rw [HWN.out], Lib.hid (HC7.out.mono (by omega)), HSN⟩
        · obtain rfl : q = 1 := by omega
          go_wp2_with (first | (with_reducible refine Txt.wp_region_text mixed quiet (by decide +kernel) ?_) | (with_reducible refine Txt.text_done (by kernel_rfl) ?_) | (go_at_call 29; (with_reducible refine (has29_any HC.out HIV.out.bd HHAS.out).mono ?_); rintro e w3 ⟨rfl, rfl⟩) | (go_at_call 30; (with_reducible refine (send30_any HC.out HIV.out.bd (by omega) HSND.out).mono ?_); rintro e w4 ⟨rfl, hc4, -⟩; have HC4 := Lib.hid hc4; clear hc4) | (go_at_call 31; (with_reducible refine (come31_any HC4.out HI1.out.bd (by omega) HCOM.out).mono ?_); rintro e w5 ⟨rfl, hc5, -⟩; have HC5 := Lib.hid hc5; clear hc5) | (go_at_call 12; (with_reducible refine (rest_at HQ (by omega) (by omega)).mono ?_); rintro e w' ⟨rfl, rfl⟩))
          go_roundw
          case measure => simp [intOf]; omega
          case rel => exact ⟨r + 1, _, s2, by omega, by omega, by go_num, rfl, by rw [HWN.out], Lib.hid (HC5.out.mono (by omega)), HSN⟩
    · obtain rfl : r = 16 := by omega
      obtain ⟨k, hk⟩ : ∃ k, (tgAt s 0).refs a = k := ⟨_, rfl⟩
      have hk1 := HSr.out.refs
      rw [hk] at hk1
      have hk1' : 1 ≤ k := by simpa using hk1
      have hh : hasW s a 0 = (k, 0) := by
        unfold hasW
        rw [if_pos ⟨isN_iff.2 (by rw [HSr.out.nodes]; omega), Int.le_refl _, by rw [HSr.out.len]; decide⟩, if_neg (by show ¬ (tgAt s 0).refs a = 0; omega)]
        exact congrArg (·, 0) hk
      have HHAS := Lib.hid hh
      have HIV := Lib.hid HSr.out.inv
      rw [show ((65536 / 2 ^ 16 : Nat) : Int) = 1 from rfl] at *
      clear hh hk hk1
      go_wp2_with (first | (with_reducible refine Txt.wp_region_text mixed quiet (by decide +kernel) ?_) | (with_reducible refine Txt.text_done (by kernel_rfl) ?_) | (go_at_call 29; (with_reducible refine (has29_any HC.out HIV.out.bd HHAS.out).mono ?_); rintro e w3 ⟨rfl, rfl⟩) | (go_at_call 30; (with_reducible refine (send30_any HC.out HIV.out.bd (by omega) HSND.out).mono ?_); rintro e w4 ⟨rfl, hc4, -⟩; have HC4 := Lib.hid hc4; clear hc4) | (go_at_call 31; (with_reducible refine (come31_any HC4.out HI1.out.bd (by omega) HCOM.out).mono ?_); rintro e w5 ⟨rfl, hc5, -⟩; have HC5 := Lib.hid hc5; clear hc5))
      go_ret
      exact ⟨rfl, hk0.trans HC.out.1⟩
end Go.Proofs.Ytfgipbjaaciiiaa
namespace Go.Proofs.Ytfgipbjaaciiiaa
open Go.RowKit
theorem new27_three (w : World) : Calls Try.prog 27 #[.int .i64 3] w fun e w' => ∃ Wb, e = .returned (.tuple #[.pointer (some ⟨Wb, 0, none⟩), .int .i64 0]) ∧ WC w Wb 0 ⟨3, [], []⟩ w' := new27_any (x := 3) (by omega) (by omega)
set_option maxRecDepth 100000 in
set_option maxHeartbeats 8000000 in
theorem weights33_any (a : Option Addr) (len cap : Nat) (zs : List Int) (w : World) (hv : IntsV w a len cap zs) :
    Calls Try.prog 33 #[.slice a len cap] w fun e w' => ∃ (Wb m : Nat) (s : WS), e = .returned (.tuple #[.pointer (some ⟨Wb, 0, none⟩), .int .i64 m, .bool true]) ∧ WC w Wb 150 s w' ∧ WInv s ∧ s.nodes = 3 ∧ s.th.length = m := by
  have hroom := hv.room
  have hmost := hv.most
  unfold maxLen at hmost
  obtain ⟨N, hN, hNl, hN1⟩ : ∃ N : Nat, (if (150 : Int) < (len : Int) then (150 : Int) else (len : Int)) = (N : Int) ∧ N ≤ len ∧ N ≤ 150 :=
    ⟨min 150 len, by split <;> omega, by omega, by omega⟩
  have hroom := hv.room
  have hmost := hv.most
  unfold maxLen at hmost
  obtain ⟨N, hN, hNl, hN1⟩ : ∃ N : Nat, (if (150 : Int) < (len : Int) then (150 : Int) else (len : Int)) = (N : Int) ∧ N ≤ len ∧ N ≤ 150 :=
    ⟨min 150 len, by split <;> omega, by omega, by omega⟩
  have hroom := hv.room
  have hmost := hv.most
  unfold maxLen at hmost
  obtain ⟨N, hN, hNl, hN1⟩ : ∃ N : Nat, max (min (len : Int) 150) 0 = (N : Int) ∧ N ≤ len ∧ N ≤ 150 :=
    ⟨min 150 len, by omega, by omega, by omega⟩
  have hroom := hv.room
  have hmost := hv.most
  unfold maxLen at hmost
  obtain ⟨N, hN, hNl, hN1⟩ : ∃ N : Nat, max (min (len : Int) 150) 0 = (N : Int) ∧ N ≤ len ∧ N ≤ 150 :=
    ⟨min 150 len, by omega, by omega, by omega⟩
  have hroom := hv.room
  have hmost := hv.most
  unfold maxLen at hmost
  obtain ⟨N, hN, hNl, hN1⟩ : ∃ N : Nat, max (min (len : Int) 150) 0 = (N : Int) ∧ N ≤ len ∧ N ≤ 150 :=
    ⟨min 150 len, by omega, by omega, by omega⟩
  have HV := Lib.hid hv
  clear hv
  go_enter Try.func33, Try.ntmps33
  go_wp2_with (first | (with_reducible refine Txt.wp_region_text mixed quiet (by decide +kernel) ?_) | (with_reducible refine Txt.text_done (by kernel_rfl) ?_) | (go_at_call 27; refine (new27_three _).mono ?_; rintro e w1 ⟨Wb, rfl, hc1⟩; have HC1 := Lib.hid hc1; clear hc1))
  go_loopw [7, 9, 10, 11, 12, 13, 53, 65, 76, 30] (fun m _ _ _ _ _ _ _ _ i wr => ∃ (r md : Nat) (s : WS), r ≤ N ∧ i = .int .i64 r ∧ m = .int .i64 md ∧ md ≤ 20 ∧ Hid (WC w Wb r s wr) ∧ Hid (WInv s) ∧ Hid (s.nodes = 3) ∧ Hid (s.th.length = md)) (fun _ _ _ _ _ _ _ _ _ i _ => N - (intOf i).toNat)
  case atStart => exact ⟨0, 0, _, by omega, rfl, rfl, by omega, HC1, Lib.hid (inv_new (by decide) (by decide)), Lib.hid rfl, Lib.hid rfl⟩
  case round =>
    obtain ⟨r, md, s, hr, rfl, rfl, hmd, HC, HI, HN3, HMD⟩ := hrel
    by_cases hlt : r < N
    · obtain ⟨b2, off2, rfl, hcell⟩ := HV.out.cells (by omega)
      have hck := HC.out.1.cell (hcell r (by omega)) (by simp)
      clear hcell
      generalize zs.getD r 0 = z at *
      obtain ⟨n, hn, hn3⟩ := rest_nat (wrap64 (z.tdiv 8)) 3 (by omega)
      have HNN := Lib.hid hn
      obtain ⟨mx, hmx, hmx1⟩ : ∃ mx : Nat, max (md : Int) 1 = mx ∧ 1 ≤ mx ∧ mx ≤ 20 := ⟨max md 1, by omega, by omega, by omega⟩
      obtain ⟨t, ht, ht3⟩ := rest_nat (wrap64 (z.tdiv 32)) mx (by omega)
      have HTT := Lib.hid ht
      obtain ⟨to, hto, hto3⟩ := rest_nat (wrap64 (z.tdiv 256)) 3 (by omega)
      have HTO := Lib.hid hto
      obtain ⟨op, hop, hop8⟩ := rest_nat z 8 (by omega)
      have HOP := Lib.hid hop
      have HNO : Hid (isN s n = true) := Lib.hid (isN_iff.2 (by rw [HN3.out]; omega))
      clear hn ht hto hop
      by_cases h0 : op = 0
      · subst h0
        obtain ⟨s', rv, c, hm⟩ : ∃ s' rv c, makeW s n = (s', rv, c) := ⟨_, _, _, rfl⟩
        obtain ⟨hi', hn', _, hl', he'⟩ := make_inv HI.out hm
        have HM := Lib.hid hm
        have HI' := Lib.hid hi'
        have HN' : Hid (s'.nodes = 3) := Lib.hid (by rw [hn']; exact HN3.out)
        have hc06 := he' HNO.out
        clear hm hi' hn' he'
        rcases hl' with ⟨rfl, hl', hrv⟩ | ⟨hcne, rfl⟩
        · have HL' := Lib.hid (show s'.th.length = md + 1 by rw [hl', HMD.out])
          have hmd20 : md + 1 ≤ 20 := by have := HI'.out.len; have := HL'.out; omega
          clear hl' hrv hc06
          go_wp2_with (first | (with_reducible refine Txt.wp_region_text mixed quiet (by decide +kernel) ?_) | (with_reducible refine Txt.text_done (by kernel_rfl) ?_) | (go_at_call 12; (with_reducible refine (rest_at HNN (by omega) (by omega)).mono ?_); rintro e w' ⟨rfl, rfl⟩) | (go_at_call 12; (with_reducible refine (rest_at HTT (by omega) (by omega)).mono ?_); rintro e w' ⟨rfl, rfl⟩) | (go_at_call 12; (with_reducible refine (rest_at HTO (by omega) (by omega)).mono ?_); rintro e w' ⟨rfl, rfl⟩) | (go_at_call 12; (with_reducible refine (rest_at HOP (by omega) (by omega)).mono ?_); rintro e w' ⟨rfl, rfl⟩) | (go_at_call 28; (with_reducible refine (make28_any HC.out HI.out.bd (by omega) HNO.out HM.out).mono ?_); rintro e w2 ⟨rfl, hc2, -⟩; have HC2 := Lib.hid hc2; clear hc2))
          go_roundw
          case measure => simp [intOf]; omega
          case rel => exact ⟨r + 1, md + 1, s', by omega, by go_num, by go_num, hmd20, HC2, HI', HN', HL'⟩
        · obtain rfl : c = 6 := hc06.resolve_left hcne
          clear hc06 hcne
          go_wp2_with (first | (with_reducible refine Txt.wp_region_text mixed quiet (by decide +kernel) ?_) | (with_reducible refine Txt.text_done (by kernel_rfl) ?_) | (go_at_call 12; (with_reducible refine (rest_at HNN (by omega) (by omega)).mono ?_); rintro e w' ⟨rfl, rfl⟩) | (go_at_call 12; (with_reducible refine (rest_at HTT (by omega) (by omega)).mono ?_); rintro e w' ⟨rfl, rfl⟩) | (go_at_call 12; (with_reducible refine (rest_at HTO (by omega) (by omega)).mono ?_); rintro e w' ⟨rfl, rfl⟩) | (go_at_call 12; (with_reducible refine (rest_at HOP (by omega) (by omega)).mono ?_); rintro e w' ⟨rfl, rfl⟩) | (go_at_call 28; (with_reducible refine (make28_any HC.out HI.out.bd (by omega) HNO.out HM.out).mono ?_); rintro e w2 ⟨rfl, hc2, -⟩; have HC2 := Lib.hid hc2; clear hc2))
          go_roundw
          case measure => simp [intOf]; omega
          case rel => exact ⟨r + 1, md, _, by omega, by go_num, rfl, hmd, HC2, HI', HN', HMD⟩
      · by_cases h4 : op = 4
        · subst h4
          obtain ⟨s', c, hm⟩ : ∃ s' c, dropW s n t = (s', c) := ⟨_, _, rfl⟩
          obtain ⟨hi', hn', hl'⟩ := drop_inv HI.out hm
          have HM := Lib.hid hm
          have HI' := Lib.hid hi'
          have HN' : Hid (s'.nodes = 3) := Lib.hid (by rw [hn']; exact HN3.out)
          have HL' : Hid (s'.th.length = md) := Lib.hid (by rw [hl']; exact HMD.out)
          clear hm hi' hn' hl' h0
          go_wp2_with (first | (with_reducible refine Txt.wp_region_text mixed quiet (by decide +kernel) ?_) | (with_reducible refine Txt.text_done (by kernel_rfl) ?_) | (go_at_call 12; (with_reducible refine (rest_at HNN (by omega) (by omega)).mono ?_); rintro e w' ⟨rfl, rfl⟩) | (go_at_call 12; (with_reducible refine (rest_at HTT (by omega) (by omega)).mono ?_); rintro e w' ⟨rfl, rfl⟩) | (go_at_call 12; (with_reducible refine (rest_at HTO (by omega) (by omega)).mono ?_); rintro e w' ⟨rfl, rfl⟩) | (go_at_call 12; (with_reducible refine (rest_at HOP (by omega) (by omega)).mono ?_); rintro e w' ⟨rfl, rfl⟩) | (go_at_call 32; (with_reducible refine (drop32_any HC.out HI.out.bd (by omega) HM.out).mono ?_); rintro e w2 ⟨rfl, hc2, -⟩; have HC2 := Lib.hid hc2; clear hc2))
          go_roundw
          case measure => simp [intOf]; omega
          case rel => exact ⟨r + 1, md, s', by omega, by go_num, rfl, hmd, HC2, HI', HN', HL'⟩
        · by_cases h13 : op ≤ 3
          · obtain ⟨s', c, hm⟩ : ∃ s' c, sendW s n t to = (s', c) := ⟨_, _, rfl⟩
            obtain ⟨hi', hn', hl'⟩ := send_inv HI.out hm
            have HM := Lib.hid hm
            have HI' := Lib.hid hi'
            have HN' : Hid (s'.nodes = 3) := Lib.hid (by rw [hn']; exact HN3.out)
            have HL' : Hid (s'.th.length = md) := Lib.hid (by rw [hl']; exact HMD.out)
            have hcs : op = 1 ∨ op = 2 ∨ op = 3 := by omega
            clear hm hi' hn' hl' h0 h4 h13 hop8
            rcases hcs with rfl | rfl | rfl
            · go_wp2_with (first | (with_reducible refine Txt.wp_region_text mixed quiet (by decide +kernel) ?_) | (with_reducible refine Txt.text_done (by kernel_rfl) ?_) | (go_at_call 12; (with_reducible refine (rest_at HNN (by omega) (by omega)).mono ?_); rintro e w' ⟨rfl, rfl⟩) | (go_at_call 12; (with_reducible refine (rest_at HTT (by omega) (by omega)).mono ?_); rintro e w' ⟨rfl, rfl⟩) | (go_at_call 12; (with_reducible refine (rest_at HTO (by omega) (by omega)).mono ?_); rintro e w' ⟨rfl, rfl⟩) | (go_at_call 12; (with_reducible refine (rest_at HOP (by omega) (by omega)).mono ?_); rintro e w' ⟨rfl, rfl⟩) | (go_at_call 30; (with_reducible refine (send30_any HC.out HI.out.bd (by omega) HM.out).mono ?_); rintro e w2 ⟨rfl, hc2, -⟩; have HC2 := Lib.hid hc2; clear hc2))
              go_roundw
              case measure => simp [intOf]; omega
              case rel => exact ⟨r + 1, md, s', by omega, by go_num, rfl, hmd, HC2, HI', HN', HL'⟩
            · go_wp2_with (first | (with_reducible refine Txt.wp_region_text mixed quiet (by decide +kernel) ?_) | (with_reducible refine Txt.text_done (by kernel_rfl) ?_) | (go_at_call 12; (with_reducible refine (rest_at HNN (by omega) (by omega)).mono ?_); rintro e w' ⟨rfl, rfl⟩) | (go_at_call 12; (with_reducible refine (rest_at HTT (by omega) (by omega)).mono ?_); rintro e w' ⟨rfl, rfl⟩) | (go_at_call 12; (with_reducible refine (rest_at HTO (by omega) (by omega)).mono ?_); rintro e w' ⟨rfl, rfl⟩) | (go_at_call 12; (with_reducible refine (rest_at HOP (by omega) (by omega)).mono ?_); rintro e w' ⟨rfl, rfl⟩) | (go_at_call 30; (with_reducible refine (send30_any HC.out HI.out.bd (by omega) HM.out).mono ?_); rintro e w2 ⟨rfl, hc2, -⟩; have HC2 := Lib.hid hc2; clear hc2))
              go_roundw
              case measure => simp [intOf]; omega
              case rel => exact ⟨r + 1, md, s', by omega, by go_num, rfl, hmd, HC2, HI', HN', HL'⟩
            · go_wp2_with (first | (with_reducible refine Txt.wp_region_text mixed quiet (by decide +kernel) ?_) | (with_reducible refine Txt.text_done (by kernel_rfl) ?_) | (go_at_call 12; (with_reducible refine (rest_at HNN (by omega) (by omega)).mono ?_); rintro e w' ⟨rfl, rfl⟩) | (go_at_call 12; (with_reducible refine (rest_at HTT (by omega) (by omega)).mono ?_); rintro e w' ⟨rfl, rfl⟩) | (go_at_call 12; (with_reducible refine (rest_at HTO (by omega) (by omega)).mono ?_); rintro e w' ⟨rfl, rfl⟩) | (go_at_call 12; (with_reducible refine (rest_at HOP (by omega) (by omega)).mono ?_); rintro e w' ⟨rfl, rfl⟩) | (go_at_call 30; (with_reducible refine (send30_any HC.out HI.out.bd (by omega) HM.out).mono ?_); rintro e w2 ⟨rfl, hc2, -⟩; have HC2 := Lib.hid hc2; clear hc2))
              go_roundw
              case measure => simp [intOf]; omega
              case rel => exact ⟨r + 1, md, s', by omega, by go_num, rfl, hmd, HC2, HI', HN', HL'⟩
          · have hcs : op = 5 ∨ op = 6 ∨ op = 7 := by omega
            obtain ⟨L, hL⟩ : ∃ L, s.ways.length = L := ⟨_, rfl⟩
            have hL60 := HI.out.way
            rw [hL] at hL60
            obtain ⟨lx, hlx, hlx1⟩ : ∃ lx : Nat, max 1 (L : Int) = lx ∧ 1 ≤ lx ∧ lx ≤ 60 := ⟨max 1 L, by omega, by omega, by omega⟩
            obtain ⟨ci, hci, hci3⟩ := rest_nat (wrap64 (z.tdiv 256)) lx (by omega)
            have HCI := Lib.hid hci
            obtain ⟨s', c, hm⟩ : ∃ s' c, comeW s ci = (s', c) := ⟨_, _, rfl⟩
            obtain ⟨hi', hn', hl'⟩ := come_inv HI.out hm
            have HM := Lib.hid hm
            have HI' := Lib.hid hi'
            have HLW := Lib.hid hL
            have HN' : Hid (s'.nodes = 3) := Lib.hid (by rw [hn']; exact HN3.out)
            have HL' : Hid (s'.th.length = md) := Lib.hid (by rw [hl']; exact HMD.out)
            clear hm hi' hn' hl' h0 h4 h13 hop8 hci hL
            rcases hcs with rfl | rfl | rfl
            · go_wp2_with (first | (with_reducible refine Txt.wp_region_text mixed quiet (by decide +kernel) ?_) | (with_reducible refine Txt.text_done (by kernel_rfl) ?_) | (go_at_call 12; (with_reducible refine (rest_at HNN (by omega) (by omega)).mono ?_); rintro e w' ⟨rfl, rfl⟩) | (go_at_call 12; (with_reducible refine (rest_at HTT (by omega) (by omega)).mono ?_); rintro e w' ⟨rfl, rfl⟩) | (go_at_call 12; (with_reducible refine (rest_at HTO (by omega) (by omega)).mono ?_); rintro e w' ⟨rfl, rfl⟩) | (go_at_call 12; (with_reducible refine (rest_at HOP (by omega) (by omega)).mono ?_); rintro e w' ⟨rfl, rfl⟩) | (go_at_call 12; (with_reducible refine (rest_at HCI (by omega) (by omega)).mono ?_); rintro e w' ⟨rfl, rfl⟩) | (go_at_call 37; (with_reducible refine (under37_any HC.out HI.out.bd).mono ?_); rintro e w2 ⟨v2, rfl, hk2, ho2⟩; obtain ⟨a2, c2, rfl, _, _⟩ := own_any ho2; rw [HLW.out]; have HC2 := Lib.hid (HC.out.keep hk2); clear ho2) | (go_at_call 31; (with_reducible refine (come31_any HC2.out HI.out.bd (by omega) HM.out).mono ?_); rintro e w3 ⟨rfl, hc3, -⟩; have HC3 := Lib.hid hc3; clear hc3))
              go_roundw
              case measure => simp [intOf]; omega
              case rel => exact ⟨r + 1, md, s', by omega, by go_num, rfl, hmd, HC3, HI', HN', HL'⟩
            · go_wp2_with (first | (with_reducible refine Txt.wp_region_text mixed quiet (by decide +kernel) ?_) | (with_reducible refine Txt.text_done (by kernel_rfl) ?_) | (go_at_call 12; (with_reducible refine (rest_at HNN (by omega) (by omega)).mono ?_); rintro e w' ⟨rfl, rfl⟩) | (go_at_call 12; (with_reducible refine (rest_at HTT (by omega) (by omega)).mono ?_); rintro e w' ⟨rfl, rfl⟩) | (go_at_call 12; (with_reducible refine (rest_at HTO (by omega) (by omega)).mono ?_); rintro e w' ⟨rfl, rfl⟩) | (go_at_call 12; (with_reducible refine (rest_at HOP (by omega) (by omega)).mono ?_); rintro e w' ⟨rfl, rfl⟩) | (go_at_call 12; (with_reducible refine (rest_at HCI (by omega) (by omega)).mono ?_); rintro e w' ⟨rfl, rfl⟩) | (go_at_call 37; (with_reducible refine (under37_any HC.out HI.out.bd).mono ?_); rintro e w2 ⟨v2, rfl, hk2, ho2⟩; obtain ⟨a2, c2, rfl, _, _⟩ := own_any ho2; rw [HLW.out]; have HC2 := Lib.hid (HC.out.keep hk2); clear ho2) | (go_at_call 31; (with_reducible refine (come31_any HC2.out HI.out.bd (by omega) HM.out).mono ?_); rintro e w3 ⟨rfl, hc3, -⟩; have HC3 := Lib.hid hc3; clear hc3))
              go_roundw
              case measure => simp [intOf]; omega
              case rel => exact ⟨r + 1, md, s', by omega, by go_num, rfl, hmd, HC3, HI', HN', HL'⟩
            · go_wp2_with (first | (with_reducible refine Txt.wp_region_text mixed quiet (by decide +kernel) ?_) | (with_reducible refine Txt.text_done (by kernel_rfl) ?_) | (go_at_call 12; (with_reducible refine (rest_at HNN (by omega) (by omega)).mono ?_); rintro e w' ⟨rfl, rfl⟩) | (go_at_call 12; (with_reducible refine (rest_at HTT (by omega) (by omega)).mono ?_); rintro e w' ⟨rfl, rfl⟩) | (go_at_call 12; (with_reducible refine (rest_at HTO (by omega) (by omega)).mono ?_); rintro e w' ⟨rfl, rfl⟩) | (go_at_call 12; (with_reducible refine (rest_at HOP (by omega) (by omega)).mono ?_); rintro e w' ⟨rfl, rfl⟩) | (go_at_call 12; (with_reducible refine (rest_at HCI (by omega) (by omega)).mono ?_); rintro e w' ⟨rfl, rfl⟩) | (go_at_call 37; (with_reducible refine (under37_any HC.out HI.out.bd).mono ?_); rintro e w2 ⟨v2, rfl, hk2, ho2⟩; obtain ⟨a2, c2, rfl, _, _⟩ := own_any ho2; rw [HLW.out]; have HC2 := Lib.hid (HC.out.keep hk2); clear ho2) | (go_at_call 31; (with_reducible refine (come31_any HC2.out HI.out.bd (by omega) HM.out).mono ?_); rintro e w3 ⟨rfl, hc3, -⟩; have HC3 := Lib.hid hc3; clear hc3))
              go_roundw
              case measure => simp [intOf]; omega
              case rel => exact ⟨r + 1, md, s', by omega, by go_num, rfl, hmd, HC3, HI', HN', HL'⟩
    · go_wp2_with (first | (with_reducible refine Txt.wp_region_text mixed quiet (by decide +kernel) ?_) | (with_reducible refine Txt.text_done (by kernel_rfl) ?_))
      go_ret3
      exact ⟨Wb, md, s, rfl, HC.out.mono (by omega), HI.out, HN3.out, HMD.out⟩
end Go.Proofs.Ytfgipbjaaciiiaa
namespace Go
theorem wsum_snoc (k : Nat) {l : List Wy} {j : Nat} (hj : j < l.length) : wsum k (l.take (j + 1)) = wsum k (l.take j) + (if (l.getD j noWy).th = k then (l.getD j noWy).wt else 0) := by
  rw [List.take_succ_eq_append_getElem hj, wsum_app]
  simp only [wsum, List.getD_eq_getElem?_getD, List.getElem?_eq_getElem hj, Option.getD_some]
  omega
theorem wsum_part {k : Nat} {l : List Wy} (h : ∀ x ∈ l, 0 ≤ x.wt) (j : Nat) : 0 ≤ wsum k (l.take j) ∧ wsum k (l.take j) ≤ wsum k l := by
  have h1 := wsum_app k (l.take j) (l.drop j)
  rw [List.take_append_drop] at h1
  have h2 := wsum_nonneg (k := k) (l := l.take j) (fun x hx => h x (List.mem_of_mem_take hx))
  have h3 := wsum_nonneg (k := k) (l := l.drop j) (fun x hx => h x (List.mem_of_mem_drop hx))
  omega
theorem hasW_val {s : WS} {r t : Nat} {q c : Int} (hr : (r : Int) < s.nodes) (ht : t < s.th.length) (h : hasW s r t = (q, c)) : q = (tgAt s t).refs r := by
  rcases hasW_pos h with ⟨_, _, _, _, h5, _⟩ | ⟨_, h5, h6⟩
  · exact h5.symm
  · rw [h5]; exact (h6 (isN_iff.2 ⟨by omega, hr⟩) (by omega) (by omega)).2.symm
theorem sumR_le {f : Int → Int} (h : ∀ x, f x ≤ 65536) : ∀ n : Nat, sumR f n ≤ 65536 * n
  | 0 => by simp [sumR]
  | n + 1 => by have := sumR_le h n; have := h n; simp only [sumR]; omega
end Go
namespace Go.Proofs.Ytfgipbjaaciiiaa
open Go.RowKit
set_option maxRecDepth 100000 in
set_option maxHeartbeats 8000000 in
theorem sum35_any {w0 w : World} {Wb n t : Nat} {s : WS} (h : WC w0 Wb n s w) (hi : WInv s) (hn : s.nodes = 3) (ht : t < s.th.length) :
    Calls Try.prog 35 #[.pointer (some ⟨Wb, 0, none⟩), .int .i64 t] w fun e w' => ∃ A B : Int, e = .returned (.tuple #[.int .i64 A, .int .i64 B]) ∧ Keep [] w w' ∧ 0 ≤ A ∧ 0 ≤ B ∧ A + B + (tgAt s t).back = 65536 := by
  have HC := Lib.hid h
  have HI := Lib.hid hi
  have HN := Lib.hid hn
  have HT := Lib.hid ht
  have hlen := hi.len
  have ht20 : t ≤ 20 := by omega
  obtain ⟨_, hb0, hrf, _, hsum⟩ := hi.tg t ht
  have hwn := fun j => wsum_part (k := t) (fun x hx => (hi.wy x hx).2.2) j
  rw [hn] at hsum
  have HSUM : Hid (sumR (tgAt s t).refs 3 + wsum t s.ways + (tgAt s t).back = 65536) := Lib.hid hsum
  have HWN := Lib.hid hwn
  have HRF := Lib.hid hrf
  have HB0 := Lib.hid hb0
  clear h hi hn ht hlen hb0 hrf hsum hwn
  go_enter Try.func35, Try.ntmps35
  go_wp2_with (first | (with_reducible refine Txt.wp_region_text mixed quiet (by decide +kernel) ?_) | (with_reducible refine Txt.text_done (by kernel_rfl) ?_))
  go_loopw [6, 8, 9, 10, 13] (fun hs _ _ _ i wr => ∃ (r : Nat) (A : Int), r ≤ 3 ∧ i = .int .i64 r ∧ hs = .int .i64 A ∧ wr = w ∧ Hid (A = sumR (tgAt s t).refs r)) (fun _ _ _ _ i _ => 3 - (intOf i).toNat)
  case atStart => exact ⟨0, 0, by omega, rfl, rfl, rfl, Lib.hid rfl⟩
  case round =>
    obtain ⟨r, A, hr, rfl, rfl, hwr, HA⟩ := hrel
    subst hwr
    by_cases hlt : r < 3
    · obtain ⟨q, c, hh⟩ : ∃ q c, hasW s r t = (q, c) := ⟨_, _, rfl⟩
      have HH := Lib.hid hh
      have HQ := Lib.hid (hasW_val (by rw [HN.out]; omega) HT.out hh)
      have hA0 : 0 ≤ A ∧ A ≤ 65536 * 8 ∧ 0 ≤ q ∧ q ≤ 65536 := by
        have h1 := HI.out.bd.tg t HT.out
        have h2 := h1.2.2.2 r
        rw [← HQ.out] at h2
        have h3 := sumR_nonneg HRF.out r
        rw [← HA.out] at h3
        have h4 := sumR_le (fun x => (h1.2.2.2 x).2) r
        rw [← HA.out] at h4
        omega
      clear hh
      go_wp2_with (first | (with_reducible refine Txt.wp_region_text mixed quiet (by decide +kernel) ?_) | (with_reducible refine Txt.text_done (by kernel_rfl) ?_) | (go_at_call 29; (with_reducible refine (has29_any HC.out HI.out.bd HH.out).mono ?_); rintro e w3 ⟨rfl, rfl⟩))
      go_roundw
      case measure => simp [intOf]; omega
      case rel => exact ⟨r + 1, A + q, by omega, by go_num, rfl, trivial, Lib.hid (by rw [HA.out, HQ.out]; rfl)⟩
    · obtain rfl : r = 3 := by omega
      obtain ⟨L, hL⟩ : ∃ L, s.ways.length = L := ⟨_, rfl⟩
      have hL60 := HI.out.way
      rw [hL] at hL60
      have HLW := Lib.hid hL
      clear hL
      go_wp2_with (first | (with_reducible refine Txt.wp_region_text mixed quiet (by decide +kernel) ?_) | (with_reducible refine Txt.text_done (by kernel_rfl) ?_) | (go_at_call 37; (with_reducible refine (under37_any HC.out HI.out.bd).mono ?_); rintro e w2 ⟨v2, rfl, hk2, ho2⟩; obtain ⟨a2, c2, rfl, hLc, hcm, hcc⟩ := own_any ho2; rw [HLW.out] at hLc hcc ⊢; have HCC := Lib.hid hcc; have HO2 := Lib.hid ho2; clear ho2 hcc))
      unfold maxLen at hcm
      go_loopw [6, 7, 12, 30] (fun hs bk _ i wr => ∃ (r : Nat) (A B : Int), r ≤ L ∧ i = .int .i64 r ∧ hs = .int .i64 A ∧ bk = .int .i64 B ∧ Keep [] w2 wr ∧ 0 ≤ A ∧ 0 ≤ B ∧ Hid (A + B = sumR (tgAt s t).refs 3 + wsum t (s.ways.take r))) (fun _ _ _ i _ => L - (intOf i).toNat)
      case atStart => exact ⟨0, A, 0, by omega, rfl, by first | rfl | trivial, by first | rfl | trivial, Keep.refl _ _, by rw [HA.out]; exact sumR_nonneg HRF.out 3, by omega, Lib.hid (by rw [HA.out]; simp [wsum])⟩
      case round =>
        obtain ⟨r, A, B, hr, rfl, rfl, rfl, hkw, hA0, hB0, HAB⟩ := hrel
        by_cases hlt : r < L
        · have hj : r < s.ways.length := by rw [HLW.out]; exact hlt
          obtain ⟨g2, rfl, hg0, hgl, hgc, _⟩ := HCC.out (by omega)
          have hx0 := hgc (r * 4) (by omega)
          have hx1 := hgc (r * 4 + 1) (by omega)
          have hx2 := hgc (r * 4 + 2) (by omega)
          have hx3 := hgc (r * 4 + 3) (by omega)
          rw [show r * 4 = r * 4 + 0 by omega, waysC_at hj (by omega)] at hx0
          rw [waysC_at hj (by omega)] at hx1 hx2 hx3
          rw [Nat.add_zero] at hx0
          have hmem : s.ways.getD r noWy ∈ s.ways := by rw [List.getD_eq_getElem?_getD, List.getElem?_eq_getElem hj]; exact List.getElem_mem hj
          obtain ⟨_, _, hxw0⟩ := HI.out.wy _ hmem
          have hxw := (HI.out.bd.wy _ hmem).2.2.2
          have hsn := wsum_snoc t hj
          obtain ⟨⟨xto, xt, xw, xb⟩, hX⟩ : ∃ x, s.ways.getD r noWy = x := ⟨_, rfl⟩
          rw [hX] at hx0 hx1 hx2 hx3 hxw hxw0 hsn
          change _ = some (Value.int .i64 xto) at hx0
          change _ = some (Value.int .i64 (xt : Nat)) at hx1
          change _ = some (Value.int .i64 xw) at hx2
          change _ = some (Value.bool xb) at hx3
          dsimp only at hxw hxw0 hsn
          have hx0 := hkw.cell hx0 (by simp)
          have hx1 := hkw.cell hx1 (by simp)
          have hx2 := hkw.cell hx2 (by simp)
          have hx3 := hkw.cell hx3 (by simp)
          have hAB1 : A + B ≤ 65536 := by have h1 := (HWN.out r).2; have h2 := HB0.out; have h3 := HSUM.out; have h4 := HAB.out; omega
          have HSN := Lib.hid hsn
          have hE := blk_new wr (.cells #[.int .i64 xto, .int .i64 xt, .int .i64 xw, .bool xb] 94)
          obtain ⟨e0, e1, e2, e3, _⟩ := row4 hE
          have HE := Lib.hid hE
          have hkE : Keep [] wr (wr.alloc (.cells #[.int .i64 xto, .int .i64 xt, .int .i64 xw, .bool xb] 94)) := (Keep.refl _ _).alloc _
          clear hgc hX hsn hE
          by_cases het : xt = t
          · subst het
            rw [if_pos rfl] at HSN
            cases xb with
            | true =>
              go_wp2_with (first | (with_reducible refine Txt.wp_region_text mixed quiet (by decide +kernel) ?_) | (with_reducible refine Txt.text_done (by kernel_rfl) ?_))
              go_roundw
              case measure => simp [intOf]; omega
              case rel => exact ⟨r + 1, A, B + xw, by omega, by go_num, rfl, rfl, hkw.trans hkE, hA0, by omega, Lib.hid (by rw [HSN.out]; have := HAB.out; omega)⟩
            | false =>
              go_wp2_with (first | (with_reducible refine Txt.wp_region_text mixed quiet (by decide +kernel) ?_) | (with_reducible refine Txt.text_done (by kernel_rfl) ?_))
              go_roundw
              case measure => simp [intOf]; omega
              case rel => exact ⟨r + 1, A + xw, B, by omega, by go_num, rfl, rfl, hkw.trans hkE, by omega, hB0, Lib.hid (by rw [HSN.out]; have := HAB.out; omega)⟩
          · rw [if_neg het] at HSN
            have hne : ((xt : Int) == (t : Int)) = false := beq_eq_false_iff_ne.2 (by omega)
            go_wp2_with (first | (with_reducible refine Txt.wp_region_text mixed quiet (by decide +kernel) ?_) | (with_reducible refine Txt.text_done (by kernel_rfl) ?_))
            go_roundw
            case measure => simp [intOf]; omega
            case rel => exact ⟨r + 1, A, B, by omega, by go_num, rfl, rfl, hkw.trans hkE, hA0, hB0, Lib.hid (by rw [HSN.out]; have := HAB.out; omega)⟩
        · obtain rfl : r = L := by omega
          go_wp2_with (first | (with_reducible refine Txt.wp_region_text mixed quiet (by decide +kernel) ?_) | (with_reducible refine Txt.text_done (by kernel_rfl) ?_))
          go_ret2
          exact ⟨A, B, rfl, hk2.trans hkw, hA0, hB0, by have h1 := HAB.out; rw [List.take_of_length_le (by rw [HLW.out]; omega)] at h1; have := HSUM.out; omega⟩
end Go.Proofs.Ytfgipbjaaciiiaa
namespace Go.Proofs.Ytfgipbjaaciiiaa
open Go.RowKit
set_option maxRecDepth 100000 in
set_option maxHeartbeats 8000000 in
theorem weightSafe_walk (a : Option Addr) (len cap : Nat) (zs : List Int) (w : World) (hv : IntsV w a len cap zs) :
    Calls Try.prog 8 #[.slice a len cap] w fun e w' => e = .returned (.bool true) ∧ Keep [] w w' := by
  have HV := Lib.hid hv
  clear hv
  go_enter Try.func8, Try.ntmps8
  go_wp2_with (first | (with_reducible refine Txt.wp_region_text mixed quiet (by decide +kernel) ?_) | (with_reducible refine Txt.text_done (by kernel_rfl) ?_) | (go_at_call 26; refine (begun26_any _).mono ?_; rintro e w0 ⟨rfl, hk0⟩) | (go_at_call 33; (with_reducible refine (weights33_any _ _ _ _ _ (HV.out.keep hk0 (by simp))).mono ?_); rintro e w1 ⟨Wb, m, s, rfl, hc, hi, hn, hm⟩; have HC := Lib.hid hc; have HI := Lib.hid hi; have HN := Lib.hid hn; have HM := Lib.hid hm; clear hc hi hn hm))
  have hm20 : m ≤ 20 := by have := HI.out.len; have := HM.out; omega
  go_loopw [6, 7, 8, 9, 10, 22] (fun _ _ _ _ _ i wr => ∃ t : Nat, t ≤ m ∧ i = .int .i64 t ∧ Keep [] w1 wr) (fun _ _ _ _ _ i _ => m - (intOf i).toNat)
  case atStart => exact ⟨0, by omega, rfl, Keep.refl _ _⟩
  case round =>
    obtain ⟨t, ht, rfl, hkw⟩ := hrel
    by_cases hlt : t < m
    · have hts : t < s.th.length := by rw [HM.out]; exact hlt
      have HC1 := Lib.hid (HC.out.keep hkw)
      obtain ⟨Bk, hBk⟩ : ∃ b, (tgAt s t).back = b := ⟨_, rfl⟩
      obtain ⟨Q, hQ⟩ : ∃ Q, decide ((tgAt s t).back = 65536) = Q := ⟨_, rfl⟩
      have HF := Lib.hid (freed34_any HC1.out HI.out.bd hts hQ)
      have HS := Lib.hid (sum35_any HC1.out HI.out HN.out hts)
      have hbb := (HI.out.bd.tg t hts).2
      rw [hBk] at hQ HS hbb
      by_cases hz : Bk = 65536
      · obtain rfl : Q = true := by rw [← hQ]; exact decide_eq_true hz
        subst hz
        clear hQ hBk hbb
        go_wp2_with (first | (with_reducible refine Txt.wp_region_text mixed quiet (by decide +kernel) ?_) | (with_reducible refine Txt.text_done (by kernel_rfl) ?_) | (go_at_call 34; (with_reducible refine HF.out.mono ?_); rintro e w2 ⟨rfl, rfl⟩) | (go_at_call 35; (with_reducible refine HS.out.mono ?_); rintro e w3 ⟨A, B, rfl, hk3, hA0, hB0, hAB⟩; obtain rfl : A = 0 := (by omega); obtain rfl : B = 0 := (by omega); clear hAB hA0 hB0))
        go_roundw
        case measure => simp [intOf]; omega
        case rel => exact ⟨t + 1, by omega, by go_num, hkw.trans hk3⟩
      · obtain rfl : Q = false := by rw [← hQ]; exact decide_eq_false hz
        have hb1 := hbb.1
        clear hQ hBk hbb
        go_wp2_with (first | (with_reducible refine Txt.wp_region_text mixed quiet (by decide +kernel) ?_) | (with_reducible refine Txt.text_done (by kernel_rfl) ?_) | (go_at_call 34; (with_reducible refine HF.out.mono ?_); rintro e w2 ⟨rfl, rfl⟩) | (go_at_call 35; (with_reducible refine HS.out.mono ?_); rintro e w3 ⟨A, B, rfl, hk3, hA0, hB0, hAB⟩; have hnz : (A + B == 0) = false := beq_eq_false_iff_ne.2 (by omega); have hAB1 : A + B ≤ 65536 := (by omega); clear hAB))
        go_roundw
        case measure => simp [intOf]; omega
        case rel => exact ⟨t + 1, by omega, by go_num, hkw.trans hk3⟩
    · go_wp2_with (first | (with_reducible refine Txt.wp_region_text mixed quiet (by decide +kernel) ?_) | (with_reducible refine Txt.text_done (by kernel_rfl) ?_))
      go_ret
      exact ⟨rfl, (hk0.trans HC.out.1).trans hkw⟩
end Go.Proofs.Ytfgipbjaaciiiaa
