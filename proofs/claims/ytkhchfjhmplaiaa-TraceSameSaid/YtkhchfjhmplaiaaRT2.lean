import Derived.Test.YtkhchfjhmplaiaaRT
namespace Go
namespace Txt
section
variable {P : Program}

/-! ### kinds of operations -/
def fieldSized (P : Program) (s : TypeId) (f : Nat) : Bool :=
  match P.underlying s with
  | some (.struct fields) => match fields[f]? with
    | some fl => match P.info? fl.type with
      | some i => i.size != 0
      | none => false
    | none => false
  | _ => false
def plainLen (P : Program) (t : Option TypeId) : Bool :=
  match t with
  | some t => match P.underlying t with
    | some (.slice _) | some .string | some (.array ..) => true
    | _ => false
  | none => false
def intTo (P : Program) (s d : TypeId) : Bool :=
  match P.underlying s, P.underlying d with
  | some (.int _), some (.int _) => true
  | _, _ => false
def nilCmp (P : Program) (op : BinOp) (t : TypeId) (y : Operand) : Bool :=
  (match op with | .eql | .neq => true | _ => false) &&
  (match y, P.underlying t with
  | .const (.pointer none), some (.pointer _) => true
  | .const (.slice none _ _), some (.slice _) => true
  | _, _ => false)
/-- Functions that neither read nor write memory: which, and at which arguments. -/
structure Quiet where
  fs : List FuncId
  ok : FuncId → Array Value → Bool
/-- 0: it neither writes nor reads memory, whatever its operands · 1: the same where its operands are tame · 2: it only reads · 3: any other -/
def kind (P : Program) (q : Quiet) (o : Oper) : Nat :=
  match o.op with
  | .move _ | .assign _ | .pick .. | .extract .. | .nilCheck _ | .field .. | .indexAddr .. | .index .. | .slice .. | .unOp .. => 0
  | .fieldAddr s _ f => if fieldSized P s f then 0 else 3
  | .binOp op t _ y _ => if nilCmp P op t y then 0 else 1
  | .convert s d _ => if intTo P s d then 1 else 3
  | .call { callee := .builtin .len, argTypes, .. } => if plainLen P argTypes[0]? then 0 else 3
  | .call { callee := .builtin .cap, argTypes, .. } => if plainLen P argTypes[0]? then 0 else 3
  | .call { callee := .value (.func f), .. } => if q.fs.contains f then 1 else 3
  | .load .. => 2
  | _ => 3
def PureV (P : Program) (o : Oper) (ρ : Operand → Value) : Prop :=
  ∀ w n w', (execOp ρ o).run P w = .ok n w' → ∃ v, n = .value v ∧ w' = w ∧ ∀ w2, (execOp ρ o).run P w2 = .ok (.value v) w2
def ReadV (P : Program) (o : Oper) (ρ : Operand → Value) : Prop :=
  ∀ w n w', (execOp ρ o).run P w = .ok n w' → ∃ v, n = .value v ∧ w' = w
theorem PureV.read {o : Oper} {ρ : Operand → Value} (h : PureV P o ρ) : ReadV P o ρ := fun w n w' e =>
  let ⟨v, h1, h2, _⟩ := h w n w' e; ⟨v, h1, h2⟩
theorem PureV.of {o : Oper} {ρ : Operand → Value} {s : Sem Value} (he : execOp ρ o = (do pure (.value (← s)))) (hs : PureAt P s) : PureV P o ρ := by
  intro w n w' h
  rw [he, Sem.run_bind] at h
  obtain ⟨a, w1, h1, h2⟩ := andThen_ok h
  simp only [Sem.run_pure, Result.ok.injEq] at h2
  obtain ⟨rfl, rfl⟩ := h2
  obtain ⟨rfl, h3⟩ := hs _ _ _ h1
  exact ⟨a, rfl, rfl, fun w2 => by rw [he, Sem.run_bind, h3, Result.andThen_ok]; rfl⟩
theorem PureV.const {o : Oper} {ρ : Operand → Value} {v : Value} (he : execOp ρ o = pure (.value v)) : PureV P o ρ := by
  intro w n w' h
  rw [he] at h
  simp only [Sem.run_pure, Result.ok.injEq] at h
  obtain ⟨rfl, rfl⟩ := h
  exact ⟨v, rfl, rfl, fun w2 => by rw [he]; rfl⟩
theorem PureV.ofNext {o : Oper} {ρ : Operand → Value} (h : PureAt P (execOp ρ o)) (hv : ∀ w n w', (execOp ρ o).run P w = .ok n w' → ∃ v, n = .value v) : PureV P o ρ := by
  intro w n w' e
  obtain ⟨h1, h2⟩ := h _ _ _ e
  obtain ⟨v, rfl⟩ := hv _ _ _ e
  exact ⟨v, rfl, h1, h2⟩
theorem ReadAt.bind {α β : Type} {s : Sem α} {f : α → Sem β} (hs : ReadAt P s) (hf : ∀ a, ReadAt P (f a)) : ReadAt P (s >>= f) := by
  intro w x w' h
  rw [Sem.run_bind] at h
  obtain ⟨a, w1, h1, h2⟩ := andThen_ok h
  obtain rfl := hs _ _ _ h1
  exact hf _ _ _ _ h2
theorem PureAt.readAt {α : Type} {s : Sem α} (h : PureAt P s) : ReadAt P s := fun w x w' e => (h w x w' e).1
theorem ReadAt.load (a : Addr) (m : Mode) : ReadAt P (load a m) := by
  intro w x w' h
  rw [run_load] at h
  split at h
  · simp only [Result.ok.injEq] at h; exact h.2.symm
  · split at h
    · simp only [Result.ok.injEq] at h; exact h.2.symm
    · simp at h
theorem ReadAt.loadCellsFrom (a : Addr) : ∀ (n i : Nat) (acc : Array Value), ReadAt P (loadCellsFrom a i n acc) := by
  intro n
  induction n with
  | zero => intro i acc; exact (PureAt.pure _).readAt
  | succ n ih => intro i acc; exact ReadAt.bind (ReadAt.load _ _) fun _ => ih _ _
theorem ReadAt.loadAt (t : TypeId) (x : Value) : ReadAt P (Instr.loadAt t x) := by
  refine ReadAt.bind (PureAt.sureAddr x).readAt fun a => ?_
  refine ReadAt.bind (PureAt.isAgg t).readAt fun b => ?_
  split
  · exact ReadAt.bind (PureAt.sizeOf t).readAt fun _ => ReadAt.bind (ReadAt.loadCellsFrom _ _ _ _) fun _ => (PureAt.pure _).readAt
  · exact ReadAt.load _ _
theorem fieldAt_pure {s : TypeId} {f : Nat} (h : fieldSized P s f = true) (x : Value) : PureAt P (Instr.fieldAt s x f) := by
  unfold fieldSized at h
  split at h
  · rename_i fields hd
    split at h
    · rename_i fl hf
      split at h
      · rename_i i hi
        unfold Instr.fieldAt
        refine PureAt.of_underlying hd ?_
        simp only [hf]
        refine PureAt.bind (PureAt.sureAddr _) fun a => PureAt.bind ?_ fun _ => PureAt.pure _
        unfold fieldPlace
        have hs : ∀ w, (Go.sizeOf fl.type).run P w = .ok i.size w := fun w => by simp [Go.sizeOf, Go.typeInfo, hi]
        intro w y w' e
        rw [Sem.run_bind, hs, Result.andThen_ok, if_neg (by simpa using h)] at e
        simp only [Sem.run_pure, Result.ok.injEq] at e
        obtain ⟨rfl, rfl⟩ := e
        exact ⟨rfl, fun w2 => by rw [Sem.run_bind, hs, Result.andThen_ok, if_neg (by simpa using h)]; rfl⟩
      · cases h
    · cases h
  · cases h
/-- What 'kind' 1 asks of the operands. -/
def tameOp (q : Quiet) (o : Oper) (ρ : Operand → Value) : Bool :=
  match o.op with
  | .binOp _ _ x y _ => tame (ρ x) && tame (ρ y)
  | .convert _ _ x => tame (ρ x)
  | .call { callee := .value (.func f), args, .. } => q.ok f (args.map ρ)
  | _ => true
theorem len_pure {t : Option TypeId} (h : plainLen P t = true) (ats : Array TypeId) (ht : ats[0]? = t) (ty : TypeId) (args : Array Value) : PureAt P (Builtin.len_ ats ty args) := by
  subst ht
  unfold plainLen at h
  split at h
  · rename_i t ht
    unfold Builtin.len_
    rw [ht]
    cases ha : args[0]? with
    | none => exact PureAt.stuck _
    | some x =>
      dsimp only
      split at h
      case h_4 => cases h
      all_goals
        rename_i hd
        refine PureAt.of_underlying hd ?_
        first | exact PureAt.pure _ | exact PureAt.stuck _ | (split <;> first | exact PureAt.pure _ | exact PureAt.stuck _ | contradiction)
  · cases h
theorem cap_pure {t : Option TypeId} (h : plainLen P t = true) (ats : Array TypeId) (ht : ats[0]? = t) (ty : TypeId) (args : Array Value) : PureAt P (Builtin.cap_ ats ty args) := by
  subst ht
  unfold plainLen at h
  split at h
  · rename_i t ht
    unfold Builtin.cap_
    rw [ht]
    cases ha : args[0]? with
    | none => exact PureAt.stuck _
    | some x =>
      dsimp only
      split at h
      case h_4 => cases h
      all_goals
        rename_i hd
        refine PureAt.of_underlying hd ?_
        first | exact PureAt.pure _ | exact PureAt.stuck _ | (split <;> first | exact PureAt.pure _ | exact PureAt.stuck _ | contradiction)
  · cases h
theorem convert_pure {s d : TypeId} (h : intTo P s d = true) {x : Value} (hx : tame x = true) : PureAt P (convert s d x) := by
  unfold intTo at h
  split at h
  · rename_i k k' hs hd
    unfold Go.convert
    refine PureAt.of_underlying hs (PureAt.of_underlying hd ?_)
    cases x <;> simp only [tame, Bool.false_eq_true] at hx <;> dsimp only <;> first | exact PureAt.pure _ | exact PureAt.stuck _ | exact PureAt.unsupported _
  · cases h
theorem nilCmp_pure {op : BinOp} {t : TypeId} {y : Operand} (h : nilCmp P op t y = true) (x : Operand) (ρ : Operand → Value) (hρ : ∀ v, ρ (.const v) = v) :
    PureAt P (do eqGuard op t x y (ρ x) (ρ y); binOp op t (ρ x) (ρ y)) := by
  unfold nilCmp at h
  simp only [Bool.and_eq_true] at h
  obtain ⟨h1, h2⟩ := h
  split at h2
  · rename_i e hu
    rw [hρ]
    refine PureAt.bind (PureAt.eqGuard_nilp _ _ _ _ _) fun _ => ?_
    split at h1
    · exact PureAt.eql_nilp _ _ _ hu
    · exact PureAt.neq_nilp _ _ _ hu
    · cases h1
  · rename_i n c e hu
    rw [hρ]
    refine PureAt.bind (PureAt.eqGuard_nils _ _ _ _ _ _ _) fun _ => ?_
    split at h1
    · exact PureAt.eql_nils _ _ _ _ _ hu
    · exact PureAt.neq_nils _ _ _ _ _ hu
    · cases h1
  · cases h2
theorem pure_of_kind0 {q : Quiet} {o : Oper} (h : kind P q o = 0) (ρ : Operand → Value) (hρ : ∀ v, ρ (.const v) = v) : PureV P o ρ := by
  obtain ⟨dst, op, type, pos, after, guard⟩ := o
  cases op <;> simp only [kind] at h <;> try (exact absurd h (by decide))
  case move x => exact PureV.const (v := ρ x) rfl
  case assign x => exact PureV.const (v := ρ x) rfl
  case pick c a b =>
    refine PureV.of (s := do pure (if ← asBool (ρ c) then ρ a else ρ b)) ?_ (PureAt.bind (PureAt.asBool _) fun _ => PureAt.pure _)
    simp [execOp]
  case extract => exact PureV.of rfl (PureAt.extract _ _)
  case field => exact PureV.of rfl (PureAt.field _ _ _)
  case indexAddr => exact PureV.of rfl (PureAt.indexAt _ _ _)
  case index => exact PureV.of rfl (PureAt.index _ _ _)
  case slice => exact PureV.of rfl (PureAt.sliceAt _ _ _ _ _)
  case unOp => exact PureV.of rfl (PureAt.unary _ _)
  case fieldAddr s x f =>
    split at h
    · rename_i hf; exact PureV.of rfl (fieldAt_pure hf _)
    · cases h
  case binOp op t x y yt =>
    split at h
    · rename_i hn; exact PureV.of rfl (nilCmp_pure hn x ρ hρ)
    · cases h
  case convert => split at h <;> cases h
  case nilCheck x =>
    have never : ∀ {e : RuntimeError}, execOp ρ { dst, op := .nilCheck x, type, pos, after, guard } = runtimePanic e → PureV P { dst, op := .nilCheck x, type, pos, after, guard } ρ := fun he w n w' h => by
      rw [he] at h; exact absurd h (NeverAt.runtimePanic _ w n w')
    cases hx : ρ x with
    | pointer a =>
      cases a with
      | none => exact never (e := .nilDeref) (by simp only [execOp, hx])
      | some a => exact PureV.const (v := .pointer (some a)) (by simp only [execOp, hx])
    | nilIface => exact never (e := .nilDeref) (by simp only [execOp, hx])
    | nilFunc => exact never (e := .nilDeref) (by simp only [execOp, hx])
    | func fn first captured =>
      cases fn with
      | method name =>
        cases hf : (first[0]? : Option Value) with
        | none => exact PureV.const (v := .func (.method name) first captured) (by simp only [execOp, hx, hf])
        | some y =>
          cases y with
          | nilIface => exact never (e := .nilDeref) (by simp only [execOp, hx, hf])
          | iface t u =>
            refine PureV.ofNext ?_ ?_
            · simp only [execOp, hx, hf]
              refine PureAt.bind PureAt.program fun p => PureAt.bind (PureAt.nilAhead _ _ _ _) fun b => ?_
              split
              · exact PureAt.bind (PureAt.unsupported _) fun _ => PureAt.pure _
              · exact PureAt.pure _
            · intro w n w' h
              simp only [execOp, hx, hf] at h
              rw [Sem.run_bind, run_program, Result.andThen_ok, Sem.run_bind] at h
              obtain ⟨b, w1, e1, e2⟩ := andThen_ok h
              split at e2
              · rw [Sem.run_bind, run_unsupported] at e2; simp at e2
              · simp only [Sem.run_pure, Result.ok.injEq] at e2; exact ⟨_, e2.1.symm⟩
          | _ => exact PureV.const (v := .func (.method name) first captured) (by simp only [execOp, hx, hf])
      | _ => exact PureV.const (v := ρ x) (by simp only [execOp, hx])
    | _ => exact PureV.const (v := ρ x) (by simp only [execOp, hx])
  case call c =>
    obtain ⟨callee, args, argTypes⟩ := c
    cases callee with
    | builtin b =>
      cases b <;> simp only at h <;> try (exact absurd h (by decide))
      · split at h
        · rename_i hl; exact PureV.of rfl (cap_pure hl _ rfl _ _)
        · cases h
      · split at h
        · rename_i hl; exact PureV.of rfl (len_pure hl _ rfl _ _)
        · cases h
    | value f =>
      cases f <;> simp only at h <;> first | exact absurd h (by decide) | (split at h <;> cases h)
    | _ => simp only at h; exact absurd h (by decide)
theorem read_of_kind2 {q : Quiet} {o : Oper} (h : kind P q o = 2) (ρ : Operand → Value) : ReadV P o ρ := by
  obtain ⟨dst, op, type, pos, after, guard⟩ := o
  cases op <;> simp only [kind] at h <;> try (exact absurd h (by decide))
  case fieldAddr => split at h <;> cases h
  case binOp => split at h <;> cases h
  case convert => split at h <;> cases h
  case load t x =>
    intro w n w' e
    simp only [execOp, Sem.run_bind] at e
    obtain ⟨a, w1, h1, h2⟩ := andThen_ok e
    simp only [Sem.run_pure, Result.ok.injEq] at h2
    obtain ⟨rfl, rfl⟩ := h2
    exact ⟨a, rfl, ReadAt.loadAt _ _ _ _ _ h1⟩
  case call c =>
    obtain ⟨callee, args, argTypes⟩ := c
    cases callee with
    | builtin b =>
      cases b <;> simp only at h <;> first | exact absurd h (by decide) | (split at h <;> cases h)
    | value f =>
      cases f <;> simp only at h <;> first | exact absurd h (by decide) | (split at h <;> cases h)
    | _ => simp only at h; exact absurd h (by decide)
/-- What is asked of the quiet functions. -/
def QuietOk (P : Program) (q : Quiet) : Prop :=
  ∀ f args, q.ok f args = true → P.inits.idxOf? f = none ∧ (∀ w, (callFunc f args).run P w = .ok (.enter f args) w) ∧ ∃ v, ∀ w, Calls P f args w fun e w' => e = .returned v ∧ w = w'
theorem quiet_none : QuietOk P ⟨[], fun _ _ => false⟩ := fun _ _ h => by cases h

/-- What a run of an operation comes to, said of its value. -/
def upV (P : Program) (k : Option Deferred → Value → World → Prop) : Result Next → Prop
  | .ok (.value v) w => k none v w
  | .ok .skip w => k none undef w
  | .ok (.defer d) w => k (some d) undef w
  | .ok (.enter f args) w => Calls P f args w fun e w' => match e with | .returned v => k none v w' | _ => False
  | .ok (.row row args) w => Rows P row args w (k none)
  | _ => False
/-- At w the operation comes to v, and leaves the world as it is. -/
def ValAt (P : Program) (o : Oper) (ρ : Operand → Value) (w : World) (v : Value) : Prop :=
  ∀ k, upV P k ((execOp ρ o).run P w) ↔ k none v w
def PureK (P : Program) (o : Oper) (ρ : Operand → Value) : Prop := ∀ w k, upV P k ((execOp ρ o).run P w) → ∃ v, ∀ w2, ValAt P o ρ w2 v
def ReadK (P : Program) (o : Oper) (ρ : Operand → Value) : Prop := ∀ w k, upV P k ((execOp ρ o).run P w) → ∃ v, ValAt P o ρ w v
theorem PureK.read {o : Oper} {ρ : Operand → Value} (h : PureK P o ρ) : ReadK P o ρ := fun w k e => let ⟨v, hv⟩ := h w k e; ⟨v, hv w⟩
theorem PureV.toK {o : Oper} {ρ : Operand → Value} (h : PureV P o ρ) : PureK P o ρ := by
  intro w k e
  cases hr : (execOp ρ o).run P w with
  | ok n w' =>
    obtain ⟨v, rfl, rfl, hv⟩ := h _ _ _ hr
    exact ⟨v, fun w2 k => by rw [hv]; exact Iff.rfl⟩
  | halt x w' => rw [hr] at e; exact e.elim
theorem ReadV.toK {o : Oper} {ρ : Operand → Value} (h : ReadV P o ρ) : ReadK P o ρ := by
  intro w k e
  cases hr : (execOp ρ o).run P w with
  | ok n w' =>
    obtain ⟨v, rfl, rfl⟩ := h _ _ _ hr
    exact ⟨v, fun k => by rw [hr]; exact Iff.rfl⟩
  | halt x w' => rw [hr] at e; exact e.elim
/-- Two accounts of one call that returns agree. -/
theorem calls_agree {f : FuncId} {args : Array Value} {w : World} {v : Value} {k : Value → World → Prop} (hi : P.inits.idxOf? f = none)
    (h1 : Calls P f args w fun e w' => e = .returned v ∧ w = w') (h2 : Calls P f args w fun e w' => match e with | .returned v => k v w' | _ => False) : k v w := by
  obtain ⟨n1, v1, w1, e1, rfl, rfl⟩ := Calls.done (R := fun v' w' => v' = v ∧ w = w') (h1.mono fun e w' ⟨he, hw⟩ => by subst he; exact ⟨rfl, hw⟩) hi
  obtain ⟨n2, v2, w2, e2, hk⟩ := Calls.done (R := k) (h2.mono fun e w' he => by cases e <;> exact he) hi
  have det : ∀ (n m : Nat) (M : Machine) (o o' : Outcome) (u u' : World), runN P n M = .ended o u → runN P m M = .ended o' u' → o = o' ∧ u = u' := by
    intro n
    induction n with
    | zero => intro m M o o' u u' h; simp [runN] at h
    | succ n ih =>
      intro m M o o' u u' h h'
      cases m with
      | zero => simp [runN] at h'
      | succ m =>
        simp only [runN] at h h'
        cases hs : step P M with
        | next M' => rw [hs] at h h'; exact ih m M' _ _ _ _ h h'
        | ended q z =>
          rw [hs] at h h'
          simp only [Stepped.ended.injEq] at h h'
          exact ⟨h.1.symm.trans h'.1, h.2.symm.trans h'.2⟩
  obtain ⟨h3, h4⟩ := det _ _ _ _ _ _ _ e1 e2
  cases h3
  subst h4
  exact hk
theorem pure_of_kind1 {q : Quiet} (hq : QuietOk P q) {o : Oper} (h : kind P q o = 1) (ρ : Operand → Value) (hf : ∀ f, ρ (.func f) = .func (.func f) #[] #[]) (ht : tameOp q o ρ = true) : PureK P o ρ := by
  obtain ⟨dst, op, type, pos, after, guard⟩ := o
  cases op <;> simp only [kind] at h <;> try (exact absurd h (by decide))
  case fieldAddr => split at h <;> cases h
  case binOp op t x y yt =>
    simp only [tameOp, Bool.and_eq_true] at ht
    exact (PureV.of rfl (PureAt.bind (PureAt.eqGuard_tame _ _ _ _ ht.1 ht.2) fun _ => PureAt.binOp_tame _ _ ht.1 ht.2)).toK
  case convert s d x =>
    split at h
    · rename_i hi; exact (PureV.of rfl (convert_pure hi ht)).toK
    · cases h
  case call c =>
    obtain ⟨callee, args, argTypes⟩ := c
    cases callee with
    | builtin b =>
      cases b <;> simp only at h <;> first | exact absurd h (by decide) | (split at h <;> cases h)
    | value f =>
      cases f with
      | func f =>
        simp only [tameOp] at ht
        obtain ⟨hi, hcf, v, hv⟩ := hq _ _ ht
        intro w k e
        have hrun : ∀ w, (execOp ρ { dst, op := .call { callee := .value (.func f), args, argTypes }, type, pos, after, guard }).run P w = .ok (.enter f (args.map ρ)) w := fun w => by
          rw [← hcf w]
          simp [execOp, resolve, hf, Deferred.ofValue, invoke]
        refine ⟨v, fun w2 k => ?_⟩
        rw [hrun]
        constructor
        · intro h; exact calls_agree (k := k none) hi (hv w2) h
        · intro h; exact (hv w2).mono fun e w' ⟨he, hw⟩ => by subst he; subst hw; exact h
      | _ => simp only at h; exact absurd h (by decide)
    | _ => simp only at h; exact absurd h (by decide)
end
end Txt
end Go
