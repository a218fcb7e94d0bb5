/- Texts laid together: RT4 Base Args DQRst DA1. -/
import Derived.Test.YtfcellgjbbfobaaDoorMg2
import Derived.WalkKit
import Derived.WalkSpells
import Derived.WalkLawsBesides
import Derived.Lib.Hide
import Derived.ProofKit
import Derived.OpenShut
import Derived.Below
import Derived.Carry
import Derived.Deep.Matrix
import Derived.SizedLaws
import Derived.Test.YtfcellgjbbfobaaDoorRows
namespace Go
namespace Txt
section
variable {P : Program} {ops : Array Oper}

/-- Where bit j of B's row i is set, i waits for j, directly or by way of one that does. -/
def waitsB (ops : Array Oper) (B : Array Nat) : Bool :=
  (List.range ops.size).all fun i => (List.range i).all fun j => !(B.getD i 0).testBit j ||
    (match ops[i]? with
    | some o => o.after.any fun e => Region.binds .any e && (e.on == j || (decide (j < e.on) && decide (e.on < i) && (B.getD e.on 0).testBit j))
    | none => false)
def backB (ops : Array Oper) : Bool :=
  (List.range ops.size).all fun i => match ops[i]? with
    | some o => noSelect o && o.after.all fun e => !Region.binds .any e || decide (e.on < i)
    | none => true
def passB (P : Program) (q : Quiet) (ops : Array Oper) (B : Array Nat) : Bool :=
  (List.range ops.size).all fun i => (List.range i).all fun j => (B.getD i 0).testBit j ||
    (match ops[j]?, ops[i]? with
    | some x, some y => mayPass P q ops x y
    | _, _ => true)
def sensesB (P : Program) (q : Quiet) (ops : Array Oper) : Bool :=
  (List.range ops.size).all fun j => match ops[j]? with
    | some x => !decide (kind P q x = 1) || (x.looksAt ops).all fun t =>
        (List.range ops.size).all fun m => decide (m < j) || (match ops[m]? with | some o => o.dst != some t | none => true)
    | none => true
/-- THE CHECK. -/
def check (P : Program) (q : Quiet) (ops : Array Oper) : Bool :=
  backB ops && waitsB ops (Region.before ops) && passB P q ops (Region.before ops) && sensesB P q ops

def rem (ops : Array Oper) (listed : Array Bool) : List Nat := (List.range ops.size).filter fun i => !listed.getD i true
def Closed (ops : Array Oper) (listed : Array Bool) : Prop :=
  ∀ i o, ops[i]? = some o → listed.getD i false = true → ∀ e ∈ o.after, Region.binds .any e = true → listed.getD e.on false = true

theorem tameOp_congr {q : Quiet} {o : Oper} {ρ ρ' : Operand → Value} (h : ∀ x ∈ o.op.operands, ρ x = ρ' x) : tameOp q o ρ = tameOp q o ρ' := by
  obtain ⟨dst, op, type, pos, after, guard⟩ := o
  cases op <;> simp only [tameOp, Op.operands] at h ⊢
  case binOp op t x y yt => rw [h x (by simp), h y (by simp)]
  case convert s d x => rw [h x (by simp)]
  case call c =>
    obtain ⟨callee, args, argTypes⟩ := c
    cases callee with
    | value f =>
      cases f <;> try rfl
      dsimp only
      congr 1
      exact Array.map_congr_left fun x hx => h x (by simp [Call.operands, hx])
    | _ => rfl
theorem op_looks {o : Oper} {t : Tmp} (h : Operand.tmp t ∈ o.op.operands) : t ∈ o.looksAt ops :=
  List.mem_append_left _ (List.mem_filterMap.2 ⟨.tmp t, by simpa using h, rfl⟩)
theorem wanted_congr {o : Oper} {a a' : Act} (h : ∀ t ∈ o.looksAt ops, a'.tmps.getD t undef = a.tmps.getD t undef) :
    Region.wanted o (yielded ops a'.tmps) = Region.wanted o (yielded ops a.tmps) := by
  unfold Region.wanted
  cases hg : o.guard with
  | none => rfl
  | some g =>
    obtain ⟨g, b⟩ := g
    dsimp only
    congr 1
    unfold yielded
    cases ho : (ops[g]?).bind (·.dst) with
    | none => rfl
    | some t =>
      have ht := h t (List.mem_append_right _ (by simp [hg, ho]))
      have key : ∀ x : Option Value, (match x with | some (.bool b) => some b | _ => none) = (match x.getD undef with | .bool b => some b | _ => none) := fun x => by
        cases x with
        | none => rfl
        | some v => cases v <;> rfl
      have e1 : a'.tmps[t]?.getD undef = a.tmps[t]?.getD undef := by
        rw [← Array.getD_eq_getD_getElem?, ← Array.getD_eq_getD_getElem?]; exact ht
      show (match a'.tmps[t]? with | some (.bool b) => some b | _ => none) = (match a.tmps[t]? with | some (.bool b) => some b | _ => none)
      rw [key, key, e1]
theorem waits_listed {B : Array Nat} (hB : waitsB ops B = true) {listed : Array Bool} (hcl : Closed ops listed) :
    ∀ (n i j : Nat) (o : Oper), i ≤ n → ops[i]? = some o → j < i → (B.getD i 0).testBit j = true →
      (∀ e ∈ o.after, Region.binds .any e = true → listed.getD e.on false = true) → listed.getD j false = true := by
  intro n
  induction n with
  | zero => intro i j o hi _ hj; omega
  | succ n ih =>
    intro i j o hin ho hj hb hl
    have hi : i < ops.size := (Array.getElem?_eq_some_iff.1 ho).1
    have h1 := List.all_eq_true.1 (List.all_eq_true.1 hB i (List.mem_range.2 hi)) j (List.mem_range.2 hj)
    rw [ho, hb] at h1
    simp only [Bool.not_true, Bool.false_or] at h1
    obtain ⟨e, he, h2⟩ := Array.any_eq_true'.1 h1
    simp only [Bool.and_eq_true, Bool.or_eq_true, beq_iff_eq, decide_eq_true_eq] at h2
    obtain ⟨hbe, h3⟩ := h2
    have hle := hl e he hbe
    rcases h3 with rfl | ⟨⟨hje, hlt⟩, hbit⟩
    · exact hle
    · have hes : e.on < ops.size := by omega
      exact ih e.on j ops[e.on] (by omega) (Array.getElem?_eq_getElem hes) hje hbit (fun e' he' hb' => hcl e.on _ (Array.getElem?_eq_getElem hes) hle e' he' hb')
theorem strict_to {Q : Exit → Act → World → Prop} {Qn : Act → World → Prop} {i : Nat} {a : Act} {w : World} {K : Act → World → Prop} (h : wpOp P ops (NQ Qn) i K a w) : wpOp P ops Q i K a w := by
  unfold wpOp at *
  split
  · rename_i ho; simp only [ho] at h; exact h
  · rename_i o ho
    simp only [ho] at h
    split
    · rename_i hw
      simp only [hw, if_true] at h
      refine .inl ?_
      have h := h.resolve_right fun h => NQ.noOut h.2
      unfold Oper.wp at *
      generalize (execOp a.eval o).run P w = r at *
      cases r with
      | ok n w' =>
        cases n <;> simp only [Oper.upon] at h ⊢ <;> first
          | exact h
          | exact h.mono fun e w'' he => by cases e <;> first | exact he | exact (NQ.noOut he).elim | exact (he : False).elim
      | halt x w' => cases x <;> simp only [Oper.upon, NQ] at h
    · rename_i hw; simp only [hw] at h; exact h
theorem eval_of_getD {a a' : Act} {x : Operand} (h : ∀ t, x = .tmp t → a'.tmps.getD t undef = a.tmps.getD t undef) : a'.eval x = a.eval x := by
  cases x with
  | tmp t => exact h t rfl
  | _ => rfl
theorem filter_drop {i : Nat} : ∀ {l1 l2 : List Nat}, (l1 ++ i :: l2).Pairwise (· < ·) → (l1 ++ i :: l2).filter (fun j => j != i) = l1 ++ l2 := by
  intro l1
  induction l1 with
  | nil =>
    intro l2 h
    simp only [List.nil_append, List.pairwise_cons] at h ⊢
    simp only [List.filter_cons, bne_self_eq_false, Bool.false_eq_true, if_false]
    exact List.filter_eq_self.2 fun j hj => by have := h.1 j hj; simp; omega
  | cons k l1 ih =>
    intro l2 h
    simp only [List.cons_append, List.pairwise_cons] at h ⊢
    have : k < i := h.1 i (by simp)
    simp only [List.filter_cons, ih h.2]
    rw [if_pos (by simp; omega)]
theorem rem_set {listed : Array Bool} {i : Nat} {l1 l2 : List Nat} (hs : listed.size = ops.size) (hi : i < ops.size) (h : rem ops listed = l1 ++ i :: l2) : rem ops (listed.setIfInBounds i true) = l1 ++ l2 := by
  have hp : (l1 ++ i :: l2).Pairwise (· < ·) := by
    rw [← h]; exact List.Pairwise.filter _ List.pairwise_lt_range
  rw [← filter_drop hp, ← h]
  unfold rem
  rw [List.filter_filter]
  refine List.filter_congr fun j hj => ?_
  by_cases e : j = i
  · subst e
    simp [hs, hi]
  · have hne : i ≠ j := fun h => e h.symm
    simp [Array.getElem?_setIfInBounds_ne hne, e]
/-- An operation whose waits are over goes ahead of all that stand ahead of it in the text. -/
theorem bubble {q : Quiet} (hqo : QuietOk P q) {Q : Act → World → Prop} (hQ : ∀ a w, Q a w → tameAt P q ops a = true) (hse : sensesB P q ops = true) (hbk : backB ops = true) {i : Nat} {y : Oper} (hi : ops[i]? = some y) {l2 : List Nat} :
    ∀ (l1 : List Nat) (a : Act) (w : World), (l1 ++ i :: l2).Pairwise (· < ·) → (∀ j ∈ l1, ∀ x, ops[j]? = some x → mayPass P q ops x y = true) →
      wpOps P ops (NQ Q) (l1 ++ i :: l2) a w → wpOps P ops (NQ Q) (i :: (l1 ++ l2)) a w := by
  have noSel : ∀ j x, ops[j]? = some x → noSelect x = true := fun j x hj => by
    have hlt : j < ops.size := (Array.getElem?_eq_some_iff.1 hj).1
    have h1 := List.all_eq_true.1 hbk j (List.mem_range.2 hlt)
    rw [hj] at h1
    simp only [Bool.and_eq_true] at h1
    exact h1.1
  have sense : ∀ (j : Nat) (x : Oper) (t : Tmp), ops[j]? = some x → kind P q x = 1 → t ∈ x.looksAt ops → ∀ (m : Nat) (o : Oper), j ≤ m → ops[m]? = some o → o.dst ≠ some t := fun j x t hj hk1 hx m o hm ho => by
    have hlt : j < ops.size := (Array.getElem?_eq_some_iff.1 hj).1
    have hmt : m < ops.size := (Array.getElem?_eq_some_iff.1 ho).1
    have h1 := List.all_eq_true.1 hse j (List.mem_range.2 hlt)
    rw [hj] at h1
    simp only [hk1, decide_true, Bool.not_true, Bool.false_or] at h1
    have h2 := List.all_eq_true.1 h1 _ hx
    have h3 := List.all_eq_true.1 h2 m (List.mem_range.2 hmt)
    rw [ho] at h3
    simp only [Bool.or_eq_true, decide_eq_true_eq, bne_iff_ne] at h3
    rcases h3 with h3 | h3
    · omega
    · exact h3
  intro l1
  induction l1 with
  | nil => intro a w _ _ h; exact h
  | cons j l1 ih =>
    intro a w hp hm h
    have hend := text_end _ _ _ h
    simp only [List.cons_append, wpOps_cons] at h ⊢
    have hp' := hp
    simp only [List.cons_append, List.pairwise_cons] at hp'
    have hji : j < i := hp'.1 i (by simp)
    have hmid : wpOp P ops (NQ Q) j (wpOp P ops (NQ Q) i (wpOps P ops (NQ Q) (l1 ++ l2))) a w :=
      wpOp_mono (fun a w hk => by
        have := ih a w hp'.2 (fun k hk' => hm k (List.mem_cons_of_mem _ hk')) hk
        rwa [wpOps_cons] at this) h
    cases hj : ops[j]? with
    | none =>
      have e1 : ∀ K a w, wpOp P ops (NQ Q) j K a w = K a w := fun K a w => by simp [wpOp, hj]
      rw [e1] at hmid
      refine wpOp_mono (fun a w hk => ?_) hmid
      rw [wpOps_cons, e1]; exact hk
    | some x =>
      have hmp := hm j List.mem_cons_self x hj
      unfold mayPass at hmp
      simp only [Bool.and_eq_true, Bool.or_eq_true, decide_eq_true_eq] at hmp
      obtain ⟨hap, hk⟩ := hmp
      refine wpOp_mono (fun a w hk => by rw [wpOps_cons]; exact hk) (exchange hj hi hap (noSel j x hj) (noSel i y hi) ?_ hmid)
      obtain ⟨a', w', hq, hkeep⟩ := hend
      have htame := List.all_eq_true.1 (hQ _ _ hq)
      have tameOf : ∀ (m : Nat) (o : Oper), ops[m]? = some o → kind P q o = 1 → (∀ t ∈ o.looksAt ops, ∀ k ∈ j :: l1 ++ i :: l2, ∀ o', ops[k]? = some o' → o'.dst ≠ some t) →
          Region.wanted o (yielded ops a.tmps) = true → tameOp q o a.eval = true := fun m o ho hk1 hne hwa => by
        have h1 := htame o (by
          have := Array.getElem?_eq_some_iff.1 ho
          obtain ⟨hlt, rfl⟩ := this
          exact Array.mem_toList_iff.2 (Array.getElem_mem hlt))
        have hslots : ∀ t ∈ o.looksAt ops, a'.tmps.getD t undef = a.tmps.getD t undef := fun t ht => hkeep t fun k hk' o' ho' => hne t ht k hk' o' ho'
        have he : ∀ x ∈ o.op.operands, a'.eval x = a.eval x := fun x hx => eval_of_getD fun t ht => by
          subst ht
          exact hslots t (op_looks hx)
        rw [tameOp_congr he, wanted_congr hslots] at h1
        simpa [hk1, hwa] using h1
      have pureX : kind P q x ≤ 1 → Region.wanted x (yielded ops a.tmps) = true → PureK P x a.eval := fun h1 hwa => by
        rcases (by omega : kind P q x = 0 ∨ kind P q x = 1) with h0 | h0
        · exact (pure_of_kind0 h0 _ (eval_const a)).toK
        · refine pure_of_kind1 hqo h0 _ (fun _ => rfl) (tameOf j x hj h0 (fun t ht k hk' o' ho' => sense j x t hj h0 ht k o' ?_ ho') hwa)
          simp only [List.cons_append, List.mem_cons] at hk'
          rcases hk' with rfl | hk'
          · exact Nat.le_refl _
          · exact Nat.le_of_lt (hp'.1 k hk')
      have pureY : kind P q y ≤ 1 → Region.wanted y (yielded ops a.tmps) = true → PureK P y a.eval := fun h1 hwa => by
        rcases (by omega : kind P q y = 0 ∨ kind P q y = 1) with h0 | h0
        · exact (pure_of_kind0 h0 _ (eval_const a)).toK
        · refine pure_of_kind1 hqo h0 _ (fun _ => rfl) (tameOf i y hi h0 (fun t ht k hk' o' ho' => ?_) hwa)
          by_cases hki : i ≤ k
          · exact sense i y t hi h0 ht k o' hki ho'
          · have hk1 : k ∈ j :: l1 := by
              have hk2 : k ∈ (j :: l1) ∨ k ∈ (i :: l2) := List.mem_append.1 hk'
              rcases hk2 with hk2 | hk2
              · exact hk2
              · exfalso
                rcases List.mem_cons.1 hk2 with rfl | hk3
                · omega
                · have := (List.pairwise_append.1 hp).2.1
                  have := (List.pairwise_cons.1 this).1 k hk3
                  omega
            have hmp := hm k hk1 o' ho'
            unfold mayPass at hmp
            simp only [Bool.and_eq_true] at hmp
            have := (Oper.apart_spec hmp.1).1
            intro hd
            exact this t hd ht
      rcases hk with (h1 | h1) | ⟨h1, h2⟩
      · exact .inr (.inl (pureX h1))
      · exact .inr (.inr (pureY h1))
      · refine .inl ⟨?_, ?_⟩
        · intro hwa
          rcases Nat.lt_or_ge 1 (kind P q x) with h3 | h3
          · exact (read_of_kind2 (q := q) (by omega) _).toK
          · exact (pureX h3 hwa).read
        · intro hwa
          rcases Nat.lt_or_ge 1 (kind P q y) with h3 | h3
          · exact (read_of_kind2 (q := q) (by omega) _).toK
          · exact (pureY h3 hwa).read
/-- What the region's end owes: the operands are tame, and Q. -/
def TQ (P : Program) (q : Quiet) (ops : Array Oper) (Q : Exit → Act → World → Prop) (a : Act) (w : World) : Prop := tameAt P q ops a = true ∧ Q .normal a w
theorem any_of_text {q : Quiet} (hqo : QuietOk P q) (hc : check P q ops = true) {Q : Exit → Act → World → Prop} : ∀ (fuel : Nat) (listed : Array Bool) (a : Act) (w : World),
    listed.size = ops.size → Closed ops listed → (rem ops listed).length ≤ fuel → wpOps P ops (NQ (TQ P q ops Q)) (rem ops listed) a w → wpAny P .any ops Q fuel listed a w := by
  have hc' := hc
  unfold check at hc'
  simp only [Bool.and_eq_true] at hc'
  obtain ⟨⟨⟨hbk, hwt⟩, hps⟩, hse⟩ := hc'
  have readyIff : ∀ listed i, i ∈ Region.ready .any ops listed ↔ i ∈ rem ops listed ∧ ∃ o, ops[i]? = some o ∧ ∀ e ∈ o.after, Region.binds .any e = true → listed.getD e.on false = true := by
    intro listed i
    unfold Region.ready rem
    simp only [List.mem_filter, List.mem_range, Bool.and_eq_true, Bool.not_eq_true']
    constructor
    · rintro ⟨h1, h2, h3⟩
      refine ⟨⟨h1, h2⟩, ops[i], Array.getElem?_eq_getElem h1, fun e he hb => ?_⟩
      rw [Array.getElem?_eq_getElem h1] at h3
      simp only [Option.map_some, Option.getD_some] at h3
      have := Array.all_eq_true'.1 h3 e he
      simpa [hb] using this
    · rintro ⟨⟨h1, h2⟩, o, ho, h3⟩
      refine ⟨h1, h2, ?_⟩
      rw [ho]
      simp only [Option.map_some, Option.getD_some]
      refine Array.all_eq_true'.2 fun e he => ?_
      cases hb : Region.binds .any e with
      | false => rfl
      | true => simp only [Bool.not_true, Bool.false_or]; exact h3 e he hb
  have done : ∀ listed, Region.ready .any ops listed = [] → listed.size = ops.size → rem ops listed = [] := by
    intro listed hr hsz
    cases hrem : rem ops listed with
    | nil => rfl
    | cons i l =>
      exfalso
      have hmem : i ∈ rem ops listed := by rw [hrem]; exact List.mem_cons_self
      have hi : i < ops.size := by
        unfold rem at hmem; exact List.mem_range.1 (List.mem_filter.1 hmem).1
      have hp : (rem ops listed).Pairwise (· < ·) := List.Pairwise.filter _ List.pairwise_lt_range
      have : i ∈ Region.ready .any ops listed := (readyIff listed i).2 ⟨hmem, ops[i], Array.getElem?_eq_getElem hi, fun e he hb => by
        have h1 := List.all_eq_true.1 hbk i (List.mem_range.2 hi)
        rw [Array.getElem?_eq_getElem hi] at h1
        simp only [Bool.and_eq_true] at h1
        have h2 := Array.all_eq_true'.1 h1.2 e he
        simp only [hb, Bool.not_true, Bool.false_or, decide_eq_true_eq] at h2
        have hes : e.on < listed.size := by omega
        cases hv : listed.getD e.on true with
        | true =>
          simp [hes] at hv ⊢; exact hv
        | false =>
          exfalso
          have hmem2 : e.on ∈ rem ops listed := by
            unfold rem; exact List.mem_filter.2 ⟨List.mem_range.2 (by omega), by simp only [hv, Bool.not_false]⟩
          rw [hrem] at hmem2 hp
          rcases List.mem_cons.1 hmem2 with h3 | h3
          · omega
          · have := (List.pairwise_cons.1 hp).1 _ h3; omega⟩
      rw [hr] at this; cases this
  intro fuel
  induction fuel with
  | zero =>
    intro listed a w hsz hcl hlen h
    have hnil : rem ops listed = [] := List.eq_nil_of_length_eq_zero (by omega)
    have hr : Region.ready .any ops listed = [] := by
      cases hr : Region.ready .any ops listed with
      | nil => rfl
      | cons i l =>
        have := ((readyIff listed i).1 (by rw [hr]; exact List.mem_cons_self)).1
        rw [hnil] at this; cases this
    rw [hnil] at h
    exact ⟨hr, h.2⟩
  | succ fuel ih =>
    intro listed a w hsz hcl hlen h
    refine ⟨fun hr => ?_, fun i hir => ?_⟩
    · rw [done listed hr hsz] at h
      exact h.2
    · obtain ⟨hmem, y, hy, hall⟩ := (readyIff listed i).1 hir
      have hi : i < ops.size := (Array.getElem?_eq_some_iff.1 hy).1
      obtain ⟨l1, l2, hsplit⟩ := List.append_of_mem hmem
      have hp : (l1 ++ i :: l2).Pairwise (· < ·) := by rw [← hsplit]; exact List.Pairwise.filter _ List.pairwise_lt_range
      rw [hsplit] at h
      have hb := bubble hqo (fun _ _ h => h.1) hse hbk hy l1 a w hp (fun j hj x hx => by
        have hji : j < i := (List.pairwise_append.1 hp).2.2 j hj i List.mem_cons_self
        have hjs : j < ops.size := by omega
        have h1 := List.all_eq_true.1 (List.all_eq_true.1 hps i (List.mem_range.2 hi)) j (List.mem_range.2 hji)
        rw [hx, hy] at h1
        simp only [Bool.or_eq_true] at h1
        rcases h1 with h1 | h1
        · exfalso
          have hl := waits_listed hwt hcl i i j y (Nat.le_refl _) hy hji h1 hall
          have hun : j ∈ rem ops listed := by rw [hsplit]; exact List.mem_append_left _ hj
          unfold rem at hun
          have := (List.mem_filter.1 hun).2
          have hjl : j < listed.size := by omega
          simp [hjl] at this hl
          rw [this] at hl; cases hl
        · exact h1) h
      rw [wpOps_cons] at hb
      refine strict_to (wpOp_mono (fun a w hk => ?_) hb)
      have hrem := rem_set hsz hi hsplit
      refine ih _ a w (by simpa using hsz) ?_ ?_ (by rw [hrem]; exact hk)
      · intro k o hk' hl e he hbd
        have hesz : ∀ m, listed.getD m false = true → (listed.setIfInBounds i true).getD m false = true := fun m hm => by
          by_cases e : i = m
          · subst e; simp [hsz, hi]
          · simpa [Array.getElem?_setIfInBounds_ne e] using hm
        by_cases e' : i = k
        · subst e'
          have : o = y := Option.some.inj (hk'.symm.trans hy)
          subst this
          exact hesz _ (hall e he hbd)
        · exact hesz _ (hcl k o hk' (by simpa [Array.getElem?_setIfInBounds_ne e'] using hl) e he hbd)
      · rw [hrem]
        rw [hsplit] at hlen
        simp only [List.length_append, List.length_cons] at hlen ⊢
        omega
/-- A REGION THAT DRAWS ITS ORDER, WALKED IN THE TEXT's. -/
theorem wp_region_text {id : Nat} {Q : Exit → Act → World → Prop} {a : Act} {w : World} {l : List Oper} {q : Quiet} (hm : P.follows .mixedOrders = true) (hqo : QuietOk P q) (hc : check P q l.toArray = true)
    (h : wpList P l.toArray (NQ (TQ P q l.toArray Q)) l a w.drew) : (Code.region id l.toArray true).wp P Q a w := by
  refine wp_region_any hm (any_of_text hqo hc _ _ _ _ (by simp) ?_ ?_ ?_)
  · intro i o ho hl
    exfalso
    by_cases hi : i < l.toArray.size
    · simp only [Array.getD_eq_getD_getElem?, Array.getElem?_replicate] at hl
      rw [if_pos hi] at hl
      cases hl
    · simp only [Array.getD_eq_getD_getElem?, Array.getElem?_replicate] at hl
      rw [if_neg hi] at hl
      cases hl
  · unfold rem
    exact Nat.le_trans (List.length_filter_le _ _) (by simp)
  · have : rem l.toArray (Array.replicate l.toArray.size false) = List.range l.toArray.size := by
      unfold rem
      refine List.filter_eq_self.2 fun j hj => ?_
      have := List.mem_range.1 hj
      simp only [Array.getD_eq_getD_getElem?, Array.getElem?_replicate]
      rw [if_pos this]; rfl
    rw [this, List.range_eq_range', show l.toArray.size = l.length by simp, wpOps_eq_wpList l 0 (by simp)]
    exact h
/-- The end of such a region. -/
theorem text_done {Q : Exit → Act → World → Prop} {a : Act} {w : World} {ops : Array Oper} {q : Quiet} (ht : tameAt P q ops a = true) (h : Q .normal a w) : NQ (TQ P q ops Q) .normal a w := ⟨ht, h⟩
end
end Txt
end Go
/- Words of this seat's own for memory: which blocks a call may have written, and what a block holds. -/
namespace Go
open Go.RowKit
/-- Nothing that was there has changed but for the blocks of S; the streams are as they were. -/
structure Keep (S : List Nat) (w w' : World) : Prop where
  os : w'.os = w.os
  tape : w'.tape = w.tape
  output : w'.output = w.output
  size : w.heap.size ≤ w'.heap.size
  block : ∀ k, k < w.heap.size → k ∉ S → w'.heap[k]? = w.heap[k]?
def Obj.put (o : Obj) (i : Nat) (v : Value) : Obj :=
  match o with
  | .cells c e f => .cells (c.setIfInBounds i v) e f
  | o => o
@[simp] theorem Obj.put_cells (c : Array Value) (e : TypeId) (f : Nat × Nat) (i : Nat) (v : Value) : (Obj.cells c e f).put i v = .cells (c.setIfInBounds i v) e f := rfl
section
variable {S : List Nat} {w w' w'' : World}
@[simp] theorem blk_setCell (w : World) (a i k : Nat) (v : Value) : (w.setCell ⟨a, i, none⟩ v).heap[k]? = if a = k then (w.heap[k]?).map (·.put i v) else w.heap[k]? := by
  simp only [World.setCell, Array.getElem?_modify]
  split
  · refine congrArg (fun f => Option.map f _) ?_
    funext o
    cases o <;> rfl
  · rfl
@[simp] theorem blk_drew (w : World) (k : Nat) : w.drew.heap[k]? = w.heap[k]? := rfl
@[simp] theorem blk_alloc (w : World) (o : Obj) (k : Nat) : (w.alloc o).heap[k]? = if k = w.heap.size then some o else w.heap[k]? := by
  show (w.heap.push o)[k]? = _
  rw [Array.getElem?_push]
theorem blk_new (w : World) (o : Obj) : (w.alloc o).heap[w.heap.size]? = some o := by rw [blk_alloc, if_pos rfl]
theorem Keep.refl (S : List Nat) (w : World) : Keep S w w := ⟨rfl, rfl, rfl, Nat.le_refl _, fun _ _ _ => rfl⟩
theorem Keep.trans (h : Keep S w w') (k : Keep S w' w'') : Keep S w w'' :=
  ⟨k.os.trans h.os, k.tape.trans h.tape, k.output.trans h.output, Nat.le_trans h.size k.size, fun i hi hs => (k.block i (Nat.lt_of_lt_of_le hi h.size) hs).trans (h.block i hi hs)⟩
theorem Keep.drew (h : Keep S w w') : Keep S w w'.drew := ⟨h.os, h.tape, h.output, h.size, h.block⟩
theorem Keep.alloc (h : Keep S w w') (o : Obj) : Keep S w (w'.alloc o) :=
  h.trans ⟨rfl, rfl, rfl, by simp, fun k hk _ => Below.heap_alloc _ _ _ hk⟩
theorem Keep.setCell (h : Keep S w w') {a i : Nat} (ha : a ∈ S ∨ w.heap.size ≤ a) (v : Value) : Keep S w (w'.setCell ⟨a, i, none⟩ v) :=
  ⟨h.os, h.tape, h.output, by simpa using h.size, fun k hk hs => by
    rw [Below.heap_setCell _ _ _ _ (fun e => by
      have e : k = a := e
      subst e
      rcases ha with ha | ha
      · exact hs ha
      · omega)]
    exact h.block k hk hs⟩
/-- A call inside: what it may write is in S, or was made on the way. -/
theorem Keep.call {S' : List Nat} (h : Keep S w w') (k : Keep S' w' w'') (hs : ∀ b ∈ S', b ∈ S ∨ w.heap.size ≤ b) : Keep S w w'' :=
  ⟨k.os.trans h.os, k.tape.trans h.tape, k.output.trans h.output, Nat.le_trans h.size k.size, fun i hi his =>
    (k.block i (Nat.lt_of_lt_of_le hi h.size) (fun hm => by rcases hs i hm with h1 | h1 <;> first | exact his h1 | omega)).trans (h.block i hi his)⟩
theorem Keep.at {k : Nat} {o : Obj} (h : Keep S w w') (hk : w.heap[k]? = some o) (hs : k ∉ S) : w'.heap[k]? = some o :=
  (h.block k (Array.getElem?_eq_some_iff.1 hk).1 hs).trans hk
theorem Keep.below {B : Nat} (h : Keep S w w') (hs : ∀ b ∈ S, B ≤ b) (hB : B ≤ w.heap.size) : Below B w w' :=
  ⟨h.os, h.tape, h.output, h.size, fun k hk => h.block k (by omega) (fun hm => by have := hs k hm; omega)⟩
theorem Keep.grown {v : Option Nat} (h : Keep S w w') (hg : w'.grownBy w'' v) (hv : ∀ k, v = some k → k ∈ S ∨ w.heap.size ≤ k) : Keep S w w'' :=
  ⟨hg.os.trans h.os, hg.tape.trans h.tape, hg.output.trans h.output, Nat.le_trans h.size hg.size, fun k hk hs =>
    (hg.block k (Nat.lt_of_lt_of_le hk h.size) (fun e => by
      rcases hv k e.symm with h1 | h1
      · exact hs h1
      · omega)).trans (h.block k hk hs)⟩
theorem Keep.cell {a : Addr} {v : Value} (h : Keep S w w') (hc : w.cell? a = some v) (hs : a.block ∉ S) : w'.cell? a = some v :=
  (World.cell?_of_block (w := w) (h.block a.block (World.block_lt_of_cell? w a hc) hs)).trans hc
theorem lt_of_blk {k : Nat} {o : Obj} (h : w.heap[k]? = some o) : k < w.heap.size := (Array.getElem?_eq_some_iff.1 h).1
/-- One cell of a block. -/
theorem cellAt {b : Nat} {cs : Array Value} {T : TypeId} {f : Nat × Nat} (h : w.heap[b]? = some (.cells cs T f)) (i : Nat) : w.cell? ⟨b, i, none⟩ = cs[i]? := cell_of_row w b i cs T f h
theorem thaw {b : Nat} {cs : Array Value} {T : TypeId} (h : w.heap[b]? = some (.cells cs T (0, 0))) (i : Nat) : w.frozen? ⟨b, i, none⟩ = false := frozen_of_row w b i cs T h
theorem row1 {b : Nat} {x0 : Value} {T : TypeId} (h : w.heap[b]? = some (.cells #[x0] T (0, 0))) :
    w.cell? ⟨b, 0, none⟩ = some x0 ∧ (∀ i, w.frozen? ⟨b, i, none⟩ = false) := ⟨cellAt h 0, thaw h⟩
theorem row2 {b : Nat} {x0 x1 : Value} {T : TypeId} (h : w.heap[b]? = some (.cells #[x0, x1] T (0, 0))) :
    w.cell? ⟨b, 0, none⟩ = some x0 ∧ w.cell? ⟨b, 1, none⟩ = some x1 ∧ (∀ i, w.frozen? ⟨b, i, none⟩ = false) := ⟨cellAt h 0, cellAt h 1, thaw h⟩
theorem row3 {b : Nat} {x0 x1 x2 : Value} {T : TypeId} (h : w.heap[b]? = some (.cells #[x0, x1, x2] T (0, 0))) :
    w.cell? ⟨b, 0, none⟩ = some x0 ∧ w.cell? ⟨b, 1, none⟩ = some x1 ∧ w.cell? ⟨b, 2, none⟩ = some x2 ∧ (∀ i, w.frozen? ⟨b, i, none⟩ = false) := ⟨cellAt h 0, cellAt h 1, cellAt h 2, thaw h⟩
theorem row4 {b : Nat} {x0 x1 x2 x3 : Value} {T : TypeId} (h : w.heap[b]? = some (.cells #[x0, x1, x2, x3] T (0, 0))) :
    w.cell? ⟨b, 0, none⟩ = some x0 ∧ w.cell? ⟨b, 1, none⟩ = some x1 ∧ w.cell? ⟨b, 2, none⟩ = some x2 ∧ w.cell? ⟨b, 3, none⟩ = some x3 ∧ (∀ i, w.frozen? ⟨b, i, none⟩ = false) :=
  ⟨cellAt h 0, cellAt h 1, cellAt h 2, cellAt h 3, thaw h⟩
end
/-- A slice of integers that reads as zs. -/
structure IntsV (w : World) (a : Option Addr) (n c : Nat) (zs : List Int) : Prop where
  len : zs.length = n
  room : n ≤ c
  most : c ≤ maxLen
  wf : ∀ z ∈ zs, (Lit.int .i64 z).wf = true
  cells : 0 < n → ∃ b off, a = some ⟨b, off, none⟩ ∧ ∀ i, i < n → w.cell? ⟨b, off + i, none⟩ = some (.int .i64 (zs.getD i 0))
theorem IntsV.keep {S : List Nat} {w w' : World} {a : Option Addr} {n c : Nat} {zs : List Int} (h : IntsV w a n c zs) (k : Keep S w w') (hs : ∀ x, a = some x → x.block ∉ S) : IntsV w' a n c zs :=
  ⟨h.len, h.room, h.most, h.wf, fun hn => by
    obtain ⟨b, off, rfl, hc⟩ := h.cells hn
    exact ⟨b, off, rfl, fun i hi => k.cell (hc i hi) (hs ⟨b, off, none⟩ rfl)⟩⟩
/-- A slice of slices of integers. -/
structure RowsV (w : World) (a : Option Addr) (n c : Nat) (A : Nat → Option Addr) (L C : Nat → Nat) (Z : Nat → List Int) : Prop where
  room : n ≤ c
  most : c ≤ maxLen
  cells : 0 < n → ∃ b off, a = some ⟨b, off, none⟩ ∧ ∀ i, i < n → w.cell? ⟨b, off + i, none⟩ = some (.slice (A i) (L i) (C i))
  rows : ∀ i, i < n → IntsV w (A i) (L i) (C i) (Z i)
theorem RowsV.keep {w w' : World} {a : Option Addr} {n c : Nat} {A : Nat → Option Addr} {L C : Nat → Nat} {Z : Nat → List Int} (h : RowsV w a n c A L C Z) (k : Keep [] w w') : RowsV w' a n c A L C Z :=
  ⟨h.room, h.most, fun hn => by
    obtain ⟨b, off, rfl, hc⟩ := h.cells hn
    exact ⟨b, off, rfl, fun i hi => k.cell (hc i hi) (by simp)⟩, fun i hi => (h.rows i hi).keep k (by simp)⟩
/-- The remainder that 'Rest' gives: of the number as an unsigned one. -/
def restI (k n : Int) : Int := (k % 18446744073709551616) % n
theorem restI_lo (k : Int) {n : Int} (h : 0 < n) : 0 ≤ restI k n := Int.emod_nonneg _ (by omega)
theorem restI_hi (k : Int) {n : Int} (h : 0 < n) : restI k n < n := Int.emod_lt_of_pos _ h
theorem u64_wrap (k : Int) : IntKind.u64.wrap k = k % 18446744073709551616 := by
  simp [IntKind.wrap, IntKind.bits, IntKind.signed]
theorem rest_eq (k n : Int) (hn : 0 < n) (hn1 : n ≤ 1000000000) : wrap64 ((IntKind.u64.wrap k).tmod n) = restI k n := by
  rw [u64_wrap, Int.tmod_eq_emod_of_nonneg (by omega)]
  have h1 := restI_lo k hn
  have h2 := restI_hi k hn
  unfold restI at *
  unfold wrap64
  omega
theorem ret_int {k : IntKind} {a b : Int} (h : a = b) : Ending.returned (.int k a) = .returned (.int k b) := by rw [h]
theorem ret_bool {a b : Bool} (h : a = b) : Ending.returned (.bool a) = .returned (.bool b) := by rw [h]
end Go
/- What a law's arguments read as, in the words of the walks. -/
namespace Go
open Go.ChangeShapes Go.WideShapes Go.ChangeAt Go.RowKit Go.Deep
section
variable {H : Type} {enc : TypeId × Value → H} {P : Program} {W : World}
theorem IntsV.nil (W : World) : IntsV W none 0 0 [] := ⟨rfl, Nat.le_refl _, Nat.zero_le _, by simp, fun h => absurd h (by decide)⟩
theorem IntsV.ofRow {x : Addr} {n c : Nat} {zs : List Int} (hl : n ≤ c) (hm : c ≤ maxLen) (hz : zs.length = c) (hc : ∀ i, i < zs.length → W.cell? (x.add i) = some (.int .i64 (zs.getD i 0))) (hw : ∀ z ∈ zs, (Lit.int .i64 z).wf = true) :
    IntsV W (some x) n c (zs.take n) := by
  refine ⟨by simp; omega, hl, hm, fun z hz => hw z (List.mem_of_mem_take hz), fun hn => ?_⟩
  obtain ⟨b, off, rfl, h⟩ := ints_at hc (by omega)
  refine ⟨b, off, rfl, fun i hi => ?_⟩
  rw [h i (by omega)]
  congr 2
  simp [List.getD_eq_getElem?_getD, hi]
theorem ints_of {t e : TypeId} {a : Option Addr} {n c : Nat} {d : DataW H} {ps : List MemPlace} (ht : P.underlying t = some (.slice e)) (he : P.underlying e = some (.int .i64)) (ce : P.cellsOf e = 1)
    (h : DataW.Trod enc P W 0 (fun _ => true) true t (.slice a n c) d ps) : ∃ zs, IntsV W a n c zs := by
  obtain ⟨fuel, hf⟩ := h
  rcases open_ints ht he ce hf with ⟨hcs, _⟩ | ⟨x, l, c', zs, hcs, _, hl, hm, hz, _, hcell, hwz⟩
  · simp [Value.cells] at hcs
    obtain ⟨rfl, rfl, rfl⟩ := hcs
    exact ⟨[], IntsV.nil W⟩
  · simp [Value.cells] at hcs
    obtain ⟨rfl, rfl, rfl⟩ := hcs
    exact ⟨_, IntsV.ofRow hl hm (by simpa using hz) hcell hwz⟩
theorem rows_of {t e q : TypeId} {a : Option Addr} {n c : Nat} {d : DataW H} {ps : List MemPlace} (ht : P.underlying t = some (.slice e)) (he : P.underlying e = some (.slice q)) (hq : P.underlying q = some (.int .i64)) (ce : P.cellsOf e = 1) (cq : P.cellsOf q = 1)
    (h : DataW.Trod enc P W 0 (fun _ => true) true t (.slice a n c) d ps) : ∃ A L C Z, RowsV W a n c A L C Z := by
  obtain ⟨fuel, hf⟩ := h
  rcases open_int_rows ht he hq ce cq hf with ⟨hcs, _⟩ | ⟨x, l, c', A, L, C, Z, hcs, _, hl, hm, _, hr⟩
  · simp [Value.cells] at hcs
    obtain ⟨rfl, rfl, rfl⟩ := hcs
    exact ⟨fun _ => none, fun _ => 0, fun _ => 0, fun _ => [], Nat.le_refl _, Nat.zero_le _, fun h => absurd h (by decide), fun i hi => absurd hi (by omega)⟩
  · simp [Value.cells] at hcs
    obtain ⟨rfl, rfl, rfl⟩ := hcs
    refine ⟨A, L, C, fun i => (Z i).take (L i), hl, hm, fun hn => ?_, fun i hi => ?_⟩
    · obtain ⟨b, off, spot⟩ := x
      have hspot : spot = none := by simpa [Addr.add] using World.cell?_spot (hr 0 (by omega)).1
      subst hspot
      exact ⟨b, off, rfl, fun i hi => by rw [← add_plain]; exact (hr i (by omega)).1⟩
    · obtain ⟨_, h1, h2, h3, h4, h5, h6⟩ := hr i (by omega)
      cases hA : A i with
      | none =>
        have hc := h5 hA
        have hl0 : L i = 0 := by omega
        refine ⟨by simp [hl0], h1, h2, fun z hz => h4 z (List.mem_of_mem_take hz), fun hn => absurd hn (by omega)⟩
      | some y => exact IntsV.ofRow h1 h2 h3 (fun j hj => (h6 y hA).2 j (by omega)) h4
/-- The form's own reach: a slice that is read takes at most so many bytes. -/
theorem ints_room {ts : List TypeId} {ds : List (DataW H)} {j : Nat} {t e : TypeId} {a : Option Addr} {n c : Nat} {d : DataW H} {ps : List MemPlace} (ht : P.underlying t = some (.slice e)) (he : P.underlying e = some (.int .i64)) (ce : P.cellsOf e = 1) (be : P.bytesOf e = 8)
    (hs : (DataW.weightsEach P ts ds).all (· ≤ reachBytes) = true) (htj : ts[j]? = some t) (hdj : ds[j]? = some d)
    (h : DataW.Trod enc P W 0 (fun _ => true) true t (.slice a n c) d ps) : n * 8 ≤ 140737488351232 := by
  obtain ⟨fuel, hf⟩ := h
  rcases open_ints ht he ce hf with ⟨hcs, _⟩ | ⟨x, l, c', zs, hcs, _, hl, hm, hz, hx, hcell, hwz⟩
  · simp [Value.cells] at hcs
    omega
  · simp [Value.cells] at hcs
    obtain ⟨rfl, rfl, rfl⟩ := hcs
    simp only [Prod.mk.injEq] at hx
    obtain ⟨rfl, _⟩ := hx
    have := sized_slice hs htj hdj ht
    rw [be] at this
    simp only [lits, List.length_map, List.length_take, List.length_drop, reachBytes] at this
    simp only [if_true] at hz
    omega
end
end Go
namespace Go.Proofs.YtfcellgjbbfobaaDoor
open Go.RowKit
theorem mixed : Tryd.prog.follows .mixedOrders = true := by kernel_rfl
set_option maxHeartbeats 400000 in
theorem rest_any (k n : Int) (w : World) (hn : 0 < n) (hn1 : n ≤ 1000000000) : Calls Tryd.prog 17 #[.int .i64 k, .int .i64 n] w fun e w' => e = .returned (.int .i64 (restI k n)) ∧ w = w' := by
  have hr := Lib.hid (rest_eq k n hn hn1)
  go_enter Tryd.func17, Tryd.ntmps17
  go_wp2_with fail
  go_ret
  exact ⟨ret_int hr.out, rfl⟩
theorem rest_at {k n q : Int} {w : World} (h : Hid (restI k n = q)) (hn : 0 < n) (hn1 : n ≤ 1000000000) : Calls Tryd.prog 17 #[.int .i64 k, .int .i64 n] w fun e w' => e = .returned (.int .i64 q) ∧ w = w' := by
  have := rest_any k n w hn hn1
  rw [h.out] at this
  exact this
/-- 'Rest' neither reads nor writes memory. -/
def isRest (args : Array Value) : Bool :=
  match args.toList with
  | [.int .i64 _, .int .i64 n] => decide (0 < n) && decide (n ≤ 1000000000)
  | _ => false
def quiets : Txt.Quiet := ⟨[17], fun f args => f == 17 && isRest args⟩
theorem quiet : Txt.QuietOk Tryd.prog quiets := by
  intro f args h
  simp only [quiets, Bool.and_eq_true, beq_iff_eq] at h
  obtain ⟨rfl, h⟩ := h
  refine ⟨by kernel_rfl, fun w => ?_, ?_⟩
  · have h1 : (Tryd.f17.name == "runtime.NumGoroutine") = false := by kernel_rfl
    have h2 : Tryd.f17.body.isNone = false := by kernel_rfl
    simp only [callFunc, Sem.run_bind, run_program, Result.andThen_ok, Tryd.func17, h1, h2, Bool.false_eq_true, if_false, Sem.run_pure]
  · unfold isRest at h
    split at h
    · rename_i k n he
      obtain rfl : args = #[.int .i64 k, .int .i64 n] := by cases args; simp_all
      simp only [Bool.and_eq_true, decide_eq_true_eq] at h
      exact ⟨_, fun w => rest_any k n w h.1 h.2⟩
    · cases h
theorem info3 : (Tryd.prog.info? 3).map (fun i => (i.zero, i.size, i.bytes)) = some (some (.int .i64 0), 1, 8) := by kernel_rfl
theorem rest_nat (k n : Int) (hn : 0 < n) : ∃ q : Nat, restI k n = q ∧ (q : Int) < n := by
  have h0 := restI_lo k hn
  have h1 := restI_hi k hn
  exact ⟨(restI k n).toNat, by omega, by omega⟩
end Go.Proofs.YtfcellgjbbfobaaDoor
/- strconv.Itoa of a digit. -/
namespace Go.Proofs.YtfcellgjbbfobaaDoor
open Go.RowKit
def digV (q : Nat) : Value := .string ⟨#[UInt8.ofNat (48 + q)]⟩
theorem small73 (q : Nat) (hq : q < 4) (w : World) : Calls Tryd.prog 73 #[.int .i64 q] w fun e w' => e = .returned (digV q) ∧ w' = w := by
  obtain rfl | rfl | rfl | rfl : q = 0 ∨ q = 1 ∨ q = 2 ∨ q = 3 := by omega
  all_goals
    go_enter Tryd.func73, Tryd.ntmps73
    go_wp2_with (first | (with_reducible refine Txt.wp_region_text mixed quiet (by decide +kernel) ?_) | (with_reducible refine Txt.text_done (by kernel_rfl) ?_))
    go_ret
    exact ⟨rfl, rfl⟩
theorem format63 (q : Nat) (hq : q < 4) (w : World) : Calls Tryd.prog 63 #[.int .i64 q, .int .i64 10] w fun e w' => e = .returned (digV q) ∧ w' = w := by
  have H := Lib.hid (small73 q hq)
  have h1 : decide ((0 : Int) ≤ (q : Int)) = true := by simp
  have h2 : decide ((q : Int) < 100) = true := by simp; omega
  go_enter Tryd.func63, Tryd.ntmps63
  go_wp2_with (first | (with_reducible refine Txt.wp_region_text mixed quiet (by decide +kernel) ?_) | (with_reducible refine Txt.text_done (by kernel_rfl) ?_) | (go_at_call 73; (refine (H.out _).mono ?_); rintro e1 w1 ⟨rfl, hw8⟩; have hw9 := hw8.symm; clear hw8; subst hw9))
  go_ret
  exact ⟨rfl, rfl⟩
theorem itoa55 (q : Nat) (hq : q < 4) (w : World) : Calls Tryd.prog 55 #[.int .i64 q] w fun e w' => e = .returned (digV q) ∧ w' = w := by
  have H := Lib.hid (format63 q hq)
  go_enter Tryd.func55, Tryd.ntmps55
  go_wp2_with (first | (with_reducible refine Txt.wp_region_text mixed quiet (by decide +kernel) ?_) | (with_reducible refine Txt.text_done (by kernel_rfl) ?_) | (go_at_call 63; (refine (H.out _).mono ?_); rintro e1 w1 ⟨rfl, hw8⟩; have hw9 := hw8.symm; clear hw8; subst hw9))
  go_ret
  exact ⟨rfl, rfl⟩
theorem itoa39 (q : Nat) (hq : q < 4) (w : World) : Calls Tryd.prog 39 #[.int .i64 q] w fun e w' => e = .returned (digV q) ∧ w' = w := by
  have H := Lib.hid (itoa55 q hq)
  go_enter Tryd.func39, Tryd.ntmps39
  go_wp2_with (first | (with_reducible refine Txt.wp_region_text mixed quiet (by decide +kernel) ?_) | (with_reducible refine Txt.text_done (by kernel_rfl) ?_) | (go_at_call 55; (refine (H.out _).mono ?_); rintro e1 w1 ⟨rfl, hw8⟩; have hw9 := hw8.symm; clear hw8; subst hw9))
  go_ret
  exact ⟨rfl, rfl⟩
end Go.Proofs.YtfcellgjbbfobaaDoor
