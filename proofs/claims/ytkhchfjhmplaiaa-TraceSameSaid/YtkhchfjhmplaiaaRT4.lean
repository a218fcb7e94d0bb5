import Derived.Test.YtkhchfjhmplaiaaRT3
namespace Go
namespace Txt
section
variable {P : Program} {ops : Array Oper}

/-- Where bit j of B's row i is set, i waits for j, directly or by way of one that does. -/
def waitsB (ops : Array Oper) (B : Array Nat) : Bool :=
  (List.range ops.size).all fun i => (List.range i).all fun j => !(B.getD i 0).testBit j ||
    (match ops[i]? with
    | some o => o.after.any fun e => Region.binds .any e && (e.on == j || (decide (j < e.on) && decide (e.on < i) && (B.getD e.on 0).testBit j))
    | none => false)
def backB (ops : Array Oper) : Bool :=
  (List.range ops.size).all fun i => match ops[i]? with
    | some o => noSelect o && o.after.all fun e => !Region.binds .any e || decide (e.on < i)
    | none => true
def passB (P : Program) (q : Quiet) (ops : Array Oper) (B : Array Nat) : Bool :=
  (List.range ops.size).all fun i => (List.range i).all fun j => (B.getD i 0).testBit j ||
    (match ops[j]?, ops[i]? with
    | some x, some y => mayPass P q ops x y
    | _, _ => true)
def sensesB (P : Program) (q : Quiet) (ops : Array Oper) : Bool :=
  (List.range ops.size).all fun j => match ops[j]? with
    | some x => !decide (kind P q x = 1) || (x.looksAt ops).all fun t =>
        (List.range ops.size).all fun m => decide (m < j) || (match ops[m]? with | some o => o.dst != some t | none => true)
    | none => true
/-- THE CHECK. -/
def check (P : Program) (q : Quiet) (ops : Array Oper) : Bool :=
  backB ops && waitsB ops (Region.before ops) && passB P q ops (Region.before ops) && sensesB P q ops

def rem (ops : Array Oper) (listed : Array Bool) : List Nat := (List.range ops.size).filter fun i => !listed.getD i true
def Closed (ops : Array Oper) (listed : Array Bool) : Prop :=
  ∀ i o, ops[i]? = some o → listed.getD i false = true → ∀ e ∈ o.after, Region.binds .any e = true → listed.getD e.on false = true

theorem tameOp_congr {q : Quiet} {o : Oper} {ρ ρ' : Operand → Value} (h : ∀ x ∈ o.op.operands, ρ x = ρ' x) : tameOp q o ρ = tameOp q o ρ' := by
  obtain ⟨dst, op, type, pos, after, guard⟩ := o
  cases op <;> simp only [tameOp, Op.operands] at h ⊢
  case binOp op t x y yt => rw [h x (by simp), h y (by simp)]
  case convert s d x => rw [h x (by simp)]
  case call c =>
    obtain ⟨callee, args, argTypes⟩ := c
    cases callee with
    | value f =>
      cases f <;> try rfl
      dsimp only
      congr 1
      exact Array.map_congr_left fun x hx => h x (by simp [Call.operands, hx])
    | _ => rfl
theorem op_looks {o : Oper} {t : Tmp} (h : Operand.tmp t ∈ o.op.operands) : t ∈ o.looksAt ops :=
  List.mem_append_left _ (List.mem_filterMap.2 ⟨.tmp t, by simpa using h, rfl⟩)
theorem wanted_congr {o : Oper} {a a' : Act} (h : ∀ t ∈ o.looksAt ops, a'.tmps.getD t undef = a.tmps.getD t undef) :
    Region.wanted o (yielded ops a'.tmps) = Region.wanted o (yielded ops a.tmps) := by
  unfold Region.wanted
  cases hg : o.guard with
  | none => rfl
  | some g =>
    obtain ⟨g, b⟩ := g
    dsimp only
    congr 1
    unfold yielded
    cases ho : (ops[g]?).bind (·.dst) with
    | none => rfl
    | some t =>
      have ht := h t (List.mem_append_right _ (by simp [hg, ho]))
      have key : ∀ x : Option Value, (match x with | some (.bool b) => some b | _ => none) = (match x.getD undef with | .bool b => some b | _ => none) := fun x => by
        cases x with
        | none => rfl
        | some v => cases v <;> rfl
      have e1 : a'.tmps[t]?.getD undef = a.tmps[t]?.getD undef := by
        rw [← Array.getD_eq_getD_getElem?, ← Array.getD_eq_getD_getElem?]; exact ht
      show (match a'.tmps[t]? with | some (.bool b) => some b | _ => none) = (match a.tmps[t]? with | some (.bool b) => some b | _ => none)
      rw [key, key, e1]
theorem waits_listed {B : Array Nat} (hB : waitsB ops B = true) {listed : Array Bool} (hcl : Closed ops listed) :
    ∀ (n i j : Nat) (o : Oper), i ≤ n → ops[i]? = some o → j < i → (B.getD i 0).testBit j = true →
      (∀ e ∈ o.after, Region.binds .any e = true → listed.getD e.on false = true) → listed.getD j false = true := by
  intro n
  induction n with
  | zero => intro i j o hi _ hj; omega
  | succ n ih =>
    intro i j o hin ho hj hb hl
    have hi : i < ops.size := (Array.getElem?_eq_some_iff.1 ho).1
    have h1 := List.all_eq_true.1 (List.all_eq_true.1 hB i (List.mem_range.2 hi)) j (List.mem_range.2 hj)
    rw [ho, hb] at h1
    simp only [Bool.not_true, Bool.false_or] at h1
    obtain ⟨e, he, h2⟩ := Array.any_eq_true'.1 h1
    simp only [Bool.and_eq_true, Bool.or_eq_true, beq_iff_eq, decide_eq_true_eq] at h2
    obtain ⟨hbe, h3⟩ := h2
    have hle := hl e he hbe
    rcases h3 with rfl | ⟨⟨hje, hlt⟩, hbit⟩
    · exact hle
    · have hes : e.on < ops.size := by omega
      exact ih e.on j ops[e.on] (by omega) (Array.getElem?_eq_getElem hes) hje hbit (fun e' he' hb' => hcl e.on _ (Array.getElem?_eq_getElem hes) hle e' he' hb')
theorem strict_to {Q : Exit → Act → World → Prop} {Qn : Act → World → Prop} {i : Nat} {a : Act} {w : World} {K : Act → World → Prop} (h : wpOp P ops (NQ Qn) i K a w) : wpOp P ops Q i K a w := by
  unfold wpOp at *
  split
  · rename_i ho; simp only [ho] at h; exact h
  · rename_i o ho
    simp only [ho] at h
    split
    · rename_i hw
      simp only [hw, if_true] at h
      refine .inl ?_
      have h := h.resolve_right fun h => NQ.noOut h.2
      unfold Oper.wp at *
      generalize (execOp a.eval o).run P w = r at *
      cases r with
      | ok n w' =>
        cases n <;> simp only [Oper.upon] at h ⊢ <;> first
          | exact h
          | exact h.mono fun e w'' he => by cases e <;> first | exact he | exact (NQ.noOut he).elim | exact (he : False).elim
      | halt x w' => cases x <;> simp only [Oper.upon, NQ] at h
    · rename_i hw; simp only [hw] at h; exact h
theorem eval_of_getD {a a' : Act} {x : Operand} (h : ∀ t, x = .tmp t → a'.tmps.getD t undef = a.tmps.getD t undef) : a'.eval x = a.eval x := by
  cases x with
  | tmp t => exact h t rfl
  | _ => rfl
theorem filter_drop {i : Nat} : ∀ {l1 l2 : List Nat}, (l1 ++ i :: l2).Pairwise (· < ·) → (l1 ++ i :: l2).filter (fun j => j != i) = l1 ++ l2 := by
  intro l1
  induction l1 with
  | nil =>
    intro l2 h
    simp only [List.nil_append, List.pairwise_cons] at h ⊢
    simp only [List.filter_cons, bne_self_eq_false, Bool.false_eq_true, if_false]
    exact List.filter_eq_self.2 fun j hj => by have := h.1 j hj; simp; omega
  | cons k l1 ih =>
    intro l2 h
    simp only [List.cons_append, List.pairwise_cons] at h ⊢
    have : k < i := h.1 i (by simp)
    simp only [List.filter_cons, ih h.2]
    rw [if_pos (by simp; omega)]
theorem rem_set {listed : Array Bool} {i : Nat} {l1 l2 : List Nat} (hs : listed.size = ops.size) (hi : i < ops.size) (h : rem ops listed = l1 ++ i :: l2) : rem ops (listed.setIfInBounds i true) = l1 ++ l2 := by
  have hp : (l1 ++ i :: l2).Pairwise (· < ·) := by
    rw [← h]; exact List.Pairwise.filter _ List.pairwise_lt_range
  rw [← filter_drop hp, ← h]
  unfold rem
  rw [List.filter_filter]
  refine List.filter_congr fun j hj => ?_
  by_cases e : j = i
  · subst e
    simp [hs, hi]
  · have hne : i ≠ j := fun h => e h.symm
    simp [Array.getElem?_setIfInBounds_ne hne, e]
/-- An operation whose waits are over goes ahead of all that stand ahead of it in the text. -/
theorem bubble {q : Quiet} (hqo : QuietOk P q) {Q : Act → World → Prop} (hQ : ∀ a w, Q a w → tameAt P q ops a = true) (hse : sensesB P q ops = true) (hbk : backB ops = true) {i : Nat} {y : Oper} (hi : ops[i]? = some y) {l2 : List Nat} :
    ∀ (l1 : List Nat) (a : Act) (w : World), (l1 ++ i :: l2).Pairwise (· < ·) → (∀ j ∈ l1, ∀ x, ops[j]? = some x → mayPass P q ops x y = true) →
      wpOps P ops (NQ Q) (l1 ++ i :: l2) a w → wpOps P ops (NQ Q) (i :: (l1 ++ l2)) a w := by
  have noSel : ∀ j x, ops[j]? = some x → noSelect x = true := fun j x hj => by
    have hlt : j < ops.size := (Array.getElem?_eq_some_iff.1 hj).1
    have h1 := List.all_eq_true.1 hbk j (List.mem_range.2 hlt)
    rw [hj] at h1
    simp only [Bool.and_eq_true] at h1
    exact h1.1
  have sense : ∀ (j : Nat) (x : Oper) (t : Tmp), ops[j]? = some x → kind P q x = 1 → t ∈ x.looksAt ops → ∀ (m : Nat) (o : Oper), j ≤ m → ops[m]? = some o → o.dst ≠ some t := fun j x t hj hk1 hx m o hm ho => by
    have hlt : j < ops.size := (Array.getElem?_eq_some_iff.1 hj).1
    have hmt : m < ops.size := (Array.getElem?_eq_some_iff.1 ho).1
    have h1 := List.all_eq_true.1 hse j (List.mem_range.2 hlt)
    rw [hj] at h1
    simp only [hk1, decide_true, Bool.not_true, Bool.false_or] at h1
    have h2 := List.all_eq_true.1 h1 _ hx
    have h3 := List.all_eq_true.1 h2 m (List.mem_range.2 hmt)
    rw [ho] at h3
    simp only [Bool.or_eq_true, decide_eq_true_eq, bne_iff_ne] at h3
    rcases h3 with h3 | h3
    · omega
    · exact h3
  intro l1
  induction l1 with
  | nil => intro a w _ _ h; exact h
  | cons j l1 ih =>
    intro a w hp hm h
    have hend := text_end _ _ _ h
    simp only [List.cons_append, wpOps_cons] at h ⊢
    have hp' := hp
    simp only [List.cons_append, List.pairwise_cons] at hp'
    have hji : j < i := hp'.1 i (by simp)
    have hmid : wpOp P ops (NQ Q) j (wpOp P ops (NQ Q) i (wpOps P ops (NQ Q) (l1 ++ l2))) a w :=
      wpOp_mono (fun a w hk => by
        have := ih a w hp'.2 (fun k hk' => hm k (List.mem_cons_of_mem _ hk')) hk
        rwa [wpOps_cons] at this) h
    cases hj : ops[j]? with
    | none =>
      have e1 : ∀ K a w, wpOp P ops (NQ Q) j K a w = K a w := fun K a w => by simp [wpOp, hj]
      rw [e1] at hmid
      refine wpOp_mono (fun a w hk => ?_) hmid
      rw [wpOps_cons, e1]; exact hk
    | some x =>
      have hmp := hm j List.mem_cons_self x hj
      unfold mayPass at hmp
      simp only [Bool.and_eq_true, Bool.or_eq_true, decide_eq_true_eq] at hmp
      obtain ⟨hap, hk⟩ := hmp
      refine wpOp_mono (fun a w hk => by rw [wpOps_cons]; exact hk) (exchange hj hi hap (noSel j x hj) (noSel i y hi) ?_ hmid)
      obtain ⟨a', w', hq, hkeep⟩ := hend
      have htame := List.all_eq_true.1 (hQ _ _ hq)
      have tameOf : ∀ (m : Nat) (o : Oper), ops[m]? = some o → kind P q o = 1 → (∀ t ∈ o.looksAt ops, ∀ k ∈ j :: l1 ++ i :: l2, ∀ o', ops[k]? = some o' → o'.dst ≠ some t) →
          Region.wanted o (yielded ops a.tmps) = true → tameOp q o a.eval = true := fun m o ho hk1 hne hwa => by
        have h1 := htame o (by
          have := Array.getElem?_eq_some_iff.1 ho
          obtain ⟨hlt, rfl⟩ := this
          exact Array.mem_toList_iff.2 (Array.getElem_mem hlt))
        have hslots : ∀ t ∈ o.looksAt ops, a'.tmps.getD t undef = a.tmps.getD t undef := fun t ht => hkeep t fun k hk' o' ho' => hne t ht k hk' o' ho'
        have he : ∀ x ∈ o.op.operands, a'.eval x = a.eval x := fun x hx => eval_of_getD fun t ht => by
          subst ht
          exact hslots t (op_looks hx)
        rw [tameOp_congr he, wanted_congr hslots] at h1
        simpa [hk1, hwa] using h1
      have pureX : kind P q x ≤ 1 → Region.wanted x (yielded ops a.tmps) = true → PureK P x a.eval := fun h1 hwa => by
        rcases (by omega : kind P q x = 0 ∨ kind P q x = 1) with h0 | h0
        · exact (pure_of_kind0 h0 _ (eval_const a)).toK
        · refine pure_of_kind1 hqo h0 _ (fun _ => rfl) (tameOf j x hj h0 (fun t ht k hk' o' ho' => sense j x t hj h0 ht k o' ?_ ho') hwa)
          simp only [List.cons_append, List.mem_cons] at hk'
          rcases hk' with rfl | hk'
          · exact Nat.le_refl _
          · exact Nat.le_of_lt (hp'.1 k hk')
      have pureY : kind P q y ≤ 1 → Region.wanted y (yielded ops a.tmps) = true → PureK P y a.eval := fun h1 hwa => by
        rcases (by omega : kind P q y = 0 ∨ kind P q y = 1) with h0 | h0
        · exact (pure_of_kind0 h0 _ (eval_const a)).toK
        · refine pure_of_kind1 hqo h0 _ (fun _ => rfl) (tameOf i y hi h0 (fun t ht k hk' o' ho' => ?_) hwa)
          by_cases hki : i ≤ k
          · exact sense i y t hi h0 ht k o' hki ho'
          · have hk1 : k ∈ j :: l1 := by
              have hk2 : k ∈ (j :: l1) ∨ k ∈ (i :: l2) := List.mem_append.1 hk'
              rcases hk2 with hk2 | hk2
              · exact hk2
              · exfalso
                rcases List.mem_cons.1 hk2 with rfl | hk3
                · omega
                · have := (List.pairwise_append.1 hp).2.1
                  have := (List.pairwise_cons.1 this).1 k hk3
                  omega
            have hmp := hm k hk1 o' ho'
            unfold mayPass at hmp
            simp only [Bool.and_eq_true] at hmp
            have := (Oper.apart_spec hmp.1).1
            intro hd
            exact this t hd ht
      rcases hk with (h1 | h1) | ⟨h1, h2⟩
      · exact .inr (.inl (pureX h1))
      · exact .inr (.inr (pureY h1))
      · refine .inl ⟨?_, ?_⟩
        · intro hwa
          rcases Nat.lt_or_ge 1 (kind P q x) with h3 | h3
          · exact (read_of_kind2 (q := q) (by omega) _).toK
          · exact (pureX h3 hwa).read
        · intro hwa
          rcases Nat.lt_or_ge 1 (kind P q y) with h3 | h3
          · exact (read_of_kind2 (q := q) (by omega) _).toK
          · exact (pureY h3 hwa).read
/-- What the region's end owes: the operands are tame, and Q. -/
def TQ (P : Program) (q : Quiet) (ops : Array Oper) (Q : Exit → Act → World → Prop) (a : Act) (w : World) : Prop := tameAt P q ops a = true ∧ Q .normal a w
theorem any_of_text {q : Quiet} (hqo : QuietOk P q) (hc : check P q ops = true) {Q : Exit → Act → World → Prop} : ∀ (fuel : Nat) (listed : Array Bool) (a : Act) (w : World),
    listed.size = ops.size → Closed ops listed → (rem ops listed).length ≤ fuel → wpOps P ops (NQ (TQ P q ops Q)) (rem ops listed) a w → wpAny P .any ops Q fuel listed a w := by
  have hc' := hc
  unfold check at hc'
  simp only [Bool.and_eq_true] at hc'
  obtain ⟨⟨⟨hbk, hwt⟩, hps⟩, hse⟩ := hc'
  have readyIff : ∀ listed i, i ∈ Region.ready .any ops listed ↔ i ∈ rem ops listed ∧ ∃ o, ops[i]? = some o ∧ ∀ e ∈ o.after, Region.binds .any e = true → listed.getD e.on false = true := by
    intro listed i
    unfold Region.ready rem
    simp only [List.mem_filter, List.mem_range, Bool.and_eq_true, Bool.not_eq_true']
    constructor
    · rintro ⟨h1, h2, h3⟩
      refine ⟨⟨h1, h2⟩, ops[i], Array.getElem?_eq_getElem h1, fun e he hb => ?_⟩
      rw [Array.getElem?_eq_getElem h1] at h3
      simp only [Option.map_some, Option.getD_some] at h3
      have := Array.all_eq_true'.1 h3 e he
      simpa [hb] using this
    · rintro ⟨⟨h1, h2⟩, o, ho, h3⟩
      refine ⟨h1, h2, ?_⟩
      rw [ho]
      simp only [Option.map_some, Option.getD_some]
      refine Array.all_eq_true'.2 fun e he => ?_
      cases hb : Region.binds .any e with
      | false => rfl
      | true => simp only [Bool.not_true, Bool.false_or]; exact h3 e he hb
  have done : ∀ listed, Region.ready .any ops listed = [] → listed.size = ops.size → rem ops listed = [] := by
    intro listed hr hsz
    cases hrem : rem ops listed with
    | nil => rfl
    | cons i l =>
      exfalso
      have hmem : i ∈ rem ops listed := by rw [hrem]; exact List.mem_cons_self
      have hi : i < ops.size := by
        unfold rem at hmem; exact List.mem_range.1 (List.mem_filter.1 hmem).1
      have hp : (rem ops listed).Pairwise (· < ·) := List.Pairwise.filter _ List.pairwise_lt_range
      have : i ∈ Region.ready .any ops listed := (readyIff listed i).2 ⟨hmem, ops[i], Array.getElem?_eq_getElem hi, fun e he hb => by
        have h1 := List.all_eq_true.1 hbk i (List.mem_range.2 hi)
        rw [Array.getElem?_eq_getElem hi] at h1
        simp only [Bool.and_eq_true] at h1
        have h2 := Array.all_eq_true'.1 h1.2 e he
        simp only [hb, Bool.not_true, Bool.false_or, decide_eq_true_eq] at h2
        have hes : e.on < listed.size := by omega
        cases hv : listed.getD e.on true with
        | true =>
          simp [hes] at hv ⊢; exact hv
        | false =>
          exfalso
          have hmem2 : e.on ∈ rem ops listed := by
            unfold rem; exact List.mem_filter.2 ⟨List.mem_range.2 (by omega), by simp only [hv, Bool.not_false]⟩
          rw [hrem] at hmem2 hp
          rcases List.mem_cons.1 hmem2 with h3 | h3
          · omega
          · have := (List.pairwise_cons.1 hp).1 _ h3; omega⟩
      rw [hr] at this; cases this
  intro fuel
  induction fuel with
  | zero =>
    intro listed a w hsz hcl hlen h
    have hnil : rem ops listed = [] := List.eq_nil_of_length_eq_zero (by omega)
    have hr : Region.ready .any ops listed = [] := by
      cases hr : Region.ready .any ops listed with
      | nil => rfl
      | cons i l =>
        have := ((readyIff listed i).1 (by rw [hr]; exact List.mem_cons_self)).1
        rw [hnil] at this; cases this
    rw [hnil] at h
    exact ⟨hr, h.2⟩
  | succ fuel ih =>
    intro listed a w hsz hcl hlen h
    refine ⟨fun hr => ?_, fun i hir => ?_⟩
    · rw [done listed hr hsz] at h
      exact h.2
    · obtain ⟨hmem, y, hy, hall⟩ := (readyIff listed i).1 hir
      have hi : i < ops.size := (Array.getElem?_eq_some_iff.1 hy).1
      obtain ⟨l1, l2, hsplit⟩ := List.append_of_mem hmem
      have hp : (l1 ++ i :: l2).Pairwise (· < ·) := by rw [← hsplit]; exact List.Pairwise.filter _ List.pairwise_lt_range
      rw [hsplit] at h
      have hb := bubble hqo (fun _ _ h => h.1) hse hbk hy l1 a w hp (fun j hj x hx => by
        have hji : j < i := (List.pairwise_append.1 hp).2.2 j hj i List.mem_cons_self
        have hjs : j < ops.size := by omega
        have h1 := List.all_eq_true.1 (List.all_eq_true.1 hps i (List.mem_range.2 hi)) j (List.mem_range.2 hji)
        rw [hx, hy] at h1
        simp only [Bool.or_eq_true] at h1
        rcases h1 with h1 | h1
        · exfalso
          have hl := waits_listed hwt hcl i i j y (Nat.le_refl _) hy hji h1 hall
          have hun : j ∈ rem ops listed := by rw [hsplit]; exact List.mem_append_left _ hj
          unfold rem at hun
          have := (List.mem_filter.1 hun).2
          have hjl : j < listed.size := by omega
          simp [hjl] at this hl
          rw [this] at hl; cases hl
        · exact h1) h
      rw [wpOps_cons] at hb
      refine strict_to (wpOp_mono (fun a w hk => ?_) hb)
      have hrem := rem_set hsz hi hsplit
      refine ih _ a w (by simpa using hsz) ?_ ?_ (by rw [hrem]; exact hk)
      · intro k o hk' hl e he hbd
        have hesz : ∀ m, listed.getD m false = true → (listed.setIfInBounds i true).getD m false = true := fun m hm => by
          by_cases e : i = m
          · subst e; simp [hsz, hi]
          · simpa [Array.getElem?_setIfInBounds_ne e] using hm
        by_cases e' : i = k
        · subst e'
          have : o = y := Option.some.inj (hk'.symm.trans hy)
          subst this
          exact hesz _ (hall e he hbd)
        · exact hesz _ (hcl k o hk' (by simpa [Array.getElem?_setIfInBounds_ne e'] using hl) e he hbd)
      · rw [hrem]
        rw [hsplit] at hlen
        simp only [List.length_append, List.length_cons] at hlen ⊢
        omega
/-- A REGION THAT DRAWS ITS ORDER, WALKED IN THE TEXT's. -/
theorem wp_region_text {id : Nat} {Q : Exit → Act → World → Prop} {a : Act} {w : World} {l : List Oper} {q : Quiet} (hm : P.follows .mixedOrders = true) (hqo : QuietOk P q) (hc : check P q l.toArray = true)
    (h : wpList P l.toArray (NQ (TQ P q l.toArray Q)) l a w.drew) : (Code.region id l.toArray true).wp P Q a w := by
  refine wp_region_any hm (any_of_text hqo hc _ _ _ _ (by simp) ?_ ?_ ?_)
  · intro i o ho hl
    exfalso
    by_cases hi : i < l.toArray.size
    · simp only [Array.getD_eq_getD_getElem?, Array.getElem?_replicate] at hl
      rw [if_pos hi] at hl
      cases hl
    · simp only [Array.getD_eq_getD_getElem?, Array.getElem?_replicate] at hl
      rw [if_neg hi] at hl
      cases hl
  · unfold rem
    exact Nat.le_trans (List.length_filter_le _ _) (by simp)
  · have : rem l.toArray (Array.replicate l.toArray.size false) = List.range l.toArray.size := by
      unfold rem
      refine List.filter_eq_self.2 fun j hj => ?_
      have := List.mem_range.1 hj
      simp only [Array.getD_eq_getD_getElem?, Array.getElem?_replicate]
      rw [if_pos this]; rfl
    rw [this, List.range_eq_range', show l.toArray.size = l.length by simp, wpOps_eq_wpList l 0 (by simp)]
    exact h
/-- The end of such a region. -/
theorem text_done {Q : Exit → Act → World → Prop} {a : Act} {w : World} {ops : Array Oper} {q : Quiet} (ht : tameAt P q ops a = true) (h : Q .normal a w) : NQ (TQ P q ops Q) .normal a w := ⟨ht, h⟩
end
end Txt
end Go
