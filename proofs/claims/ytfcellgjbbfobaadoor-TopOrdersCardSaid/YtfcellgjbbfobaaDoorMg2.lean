/- Texts laid together: RT2 RT3. -/
import Derived.Test.YtfcellgjbbfobaaDoorMg1
namespace Go
namespace Txt
section
variable {P : Program}

theorem ReadAt.bind' {α β : Type} {s : Sem α} {f : α → Sem β} (hs : ReadAt P s) (hf : ∀ a, ReadAt P (f a)) : ReadAt P (s >>= f) := by
  intro w x w' h
  rw [Sem.run_bind] at h
  obtain ⟨a, w1, h1, h2⟩ := andThen_ok h
  obtain rfl := hs _ _ _ h1
  exact hf _ _ _ _ h2
theorem PureAt.readAt' {α : Type} {s : Sem α} (h : PureAt P s) : ReadAt P s := fun w x w' e => (h w x w' e).1
/-- A map whose keys are ints. -/
def intMap (P : Program) (t : TypeId) : Bool :=
  match P.underlying t with
  | some (.map k _) => match P.underlying k with
    | some (.int _) => true
    | _ => false
  | _ => false
theorem ReadAt.getObj (r : Nat) : ReadAt P (Go.getObj r) := by
  intro w x w' h
  simp only [Go.getObj, Sem.run] at h
  split at h <;> simp_all
theorem PureAt.checkInt {k : TypeId} {i : IntKind} (hk : P.underlying k = some (.int i)) (e : Bool) (n : Nat) (v : Value) : PureAt P (Instr.checkKey e (n + 1) k v) := by
  unfold Instr.checkKey
  exact PureAt.of_underlying hk (PureAt.pure _)
theorem ReadAt.shape (r : Nat) : ReadAt P (Go.shape r) := by
  intro w x w' h
  rw [run_shape] at h
  simp only [Result.ok.injEq] at h
  exact h.2.symm
theorem ReadAt.ite {α : Type} {c : Prop} [Decidable c] {s t : Sem α} (hs : ReadAt P s) (ht : ReadAt P t) : ReadAt P (if c then s else t) := by
  split <;> assumption
theorem ReadAt.of_underlying {α : Type} {t : TypeId} {d : TypeDesc} (h : P.underlying t = some d) {f : TypeDesc → Sem α} (hf : ReadAt P (f d)) : ReadAt P (Go.underlying t >>= f) := by
  intro w x w' e
  rw [Sem.run_bind, run_underlying h w, Result.andThen_ok] at e
  exact hf _ _ _ e
theorem ReadAt.number (r : Nat) : ReadAt P (numberAt r) := by
  unfold numberAt
  refine ReadAt.bind' (ReadAt.shape _) fun o => ?_
  refine ReadAt.ite (PureAt.pure _).readAt' (ReadAt.bind' (ReadAt.getObj _) fun o => ?_)
  split <;> exact (PureAt.pure _).readAt'
theorem ReadAt.view (r : Nat) : ReadAt P (viewAt r) := by
  unfold viewAt
  refine ReadAt.bind' (ReadAt.shape _) fun o => ?_
  refine ReadAt.ite (PureAt.pure _).readAt' (ReadAt.bind' (ReadAt.getObj _) fun o => ?_)
  split <;> exact (PureAt.pure _).readAt'
theorem ReadAt.behind (a : Addr) : ReadAt P (behindNumber a) := by
  unfold behindNumber
  exact ReadAt.bind' (ReadAt.number _) fun _ => (PureAt.pure _).readAt'
theorem ReadAt.noView (a : Addr) : ReadAt P (noView a) := by
  unfold Go.noView
  exact ReadAt.bind' (ReadAt.view _) fun _ => ReadAt.ite (PureAt.unsupported _).readAt' (PureAt.pure _).readAt'
theorem ReadAt.byteOf (a : Addr) : ReadAt P (byteOf a) := by
  unfold Go.byteOf
  split
  · exact (PureAt.pure _).readAt'
  · refine ReadAt.bind' PureAt.program.readAt' fun p => ReadAt.bind' (ReadAt.noView _) fun _ => ReadAt.bind' (ReadAt.shape _) fun o => ?_
    split
    · refine ReadAt.ite (PureAt.pure _).readAt' ?_
      split
      · exact (PureAt.pure _).readAt'
      · exact (PureAt.stuck _).readAt'
    · exact (PureAt.stuck _).readAt'
theorem ReadAt.equalInt {k : TypeId} {i : IntKind} (hk : P.underlying k = some (.int i)) (x y : Value) : ReadAt P (Op.equal k x y) := by
  show ReadAt P (Op.equalIn (9999 + 1) k x y)
  unfold Op.equalIn
  refine ReadAt.of_underlying hk ?_
  split <;> first
    | exact (PureAt.pure _).readAt'
    | exact (PureAt.stuck _).readAt'
    | exact (PureAt.unsupported _).readAt'
    | contradiction
    | exact ReadAt.ite (PureAt.pure _).readAt' (PureAt.stuck _).readAt'
    | (repeat' (first | exact (PureAt.pure _).readAt' | exact (PureAt.stuck _).readAt' | exact (PureAt.unsupported _).readAt' | exact ReadAt.behind _ | exact ReadAt.byteOf _ | exact PureAt.program.readAt' | exact (PureAt.typeInfo _).readAt' | refine ReadAt.ite ?_ ?_ | refine ReadAt.bind' ?_ fun _ => ?_ | split | dsimp only))
theorem ReadAt.asking {k : TypeId} {i : IntKind} (hk : P.underlying k = some (.int i)) (v : Value) : ∀ (es : List MapEntry) (n : Nat), ReadAt P (Instr.findAsking k v es n) := by
  intro es
  induction es with
  | nil => intro n; exact (PureAt.pure _).readAt'
  | cons e es ih =>
    intro n
    unfold Instr.findAsking
    exact ReadAt.bind' (ReadAt.equalInt hk _ _) fun b => ReadAt.ite (PureAt.pure _).readAt' (ih _)
theorem ReadAt.findKey {k : TypeId} {i : IntKind} (hk : P.underlying k = some (.int i)) (v : Value) (es : List MapEntry) : ReadAt P (Instr.findKey k v es) := by
  unfold Instr.findKey
  refine ReadAt.of_underlying hk ?_
  split
  · exact (PureAt.pure _).readAt'
  · exact ReadAt.asking hk v es _
theorem PureAt.zeroValue (t : TypeId) : PureAt P (zeroValue t) := by
  unfold Go.zeroValue
  refine PureAt.bind (PureAt.typeInfo _) fun i => ?_
  split
  · exact PureAt.pure _
  · exact PureAt.unsupported _
theorem ReadAt.lookup {t : TypeId} (h : intMap P t = true) (x k : Value) (b : Bool) : ReadAt P (Instr.lookup t x k b) := by
  unfold intMap at h
  split at h
  · rename_i kt e ht
    split at h
    · rename_i i hk
      unfold Instr.lookup
      refine ReadAt.of_underlying ht ?_
      have tail : ∀ es : Array MapEntry, ReadAt P (do
          Instr.checkKey es.isEmpty 10000 kt k
          let (v, ok) ← match ← Instr.findKey kt k es.toList with
            | some (_, v) => pure (v, true)
            | none => pure (← Go.zeroValue e, false)
          pure (if b then Value.tuple #[v, .bool ok] else v)) := fun es => by
        refine ReadAt.bind' (PureAt.checkInt hk _ 9999 _).readAt' fun _ => ReadAt.bind' (ReadAt.findKey hk _ _) fun o => ?_
        cases o with
        | some z => obtain ⟨m, v⟩ := z; exact ReadAt.bind' (PureAt.pure _).readAt' fun _ => (PureAt.pure _).readAt'
        | none => exact ReadAt.bind' (PureAt.zeroValue _).readAt' fun _ => ReadAt.bind' (PureAt.pure _).readAt' fun _ => (PureAt.pure _).readAt'
      dsimp only
      split
      · exact ReadAt.bind' (PureAt.pure _).readAt' tail
      · refine ReadAt.bind' (ReadAt.getObj _) fun o => ?_
        split
        · exact ReadAt.bind' (PureAt.pure _).readAt' tail
        · exact ReadAt.bind' (PureAt.stuck _).readAt' tail
      · exact ReadAt.bind' (PureAt.stuck _).readAt' tail
    · cases h
  · cases h
/-! ### kinds of operations -/
def fieldSized (P : Program) (s : TypeId) (f : Nat) : Bool :=
  match P.underlying s with
  | some (.struct fields) => match fields[f]? with
    | some fl => match P.info? fl.type with
      | some i => i.size != 0
      | none => false
    | none => false
  | _ => false
def plainLen (P : Program) (t : Option TypeId) : Bool :=
  match t with
  | some t => match P.underlying t with
    | some (.slice _) | some .string | some (.array ..) => true
    | _ => false
  | none => false
def intTo (P : Program) (s d : TypeId) : Bool :=
  match P.underlying s, P.underlying d with
  | some (.int _), some (.int _) => true
  | _, _ => false
def nilCmp (P : Program) (op : BinOp) (t : TypeId) (y : Operand) : Bool :=
  (match op with | .eql | .neq => true | _ => false) &&
  (match y, P.underlying t with
  | .const (.pointer none), some (.pointer _) => true
  | .const (.slice none _ _), some (.slice _) => true
  | _, _ => false)
/-- Functions that neither read nor write memory: which, and at which arguments. -/
structure Quiet where
  fs : List FuncId
  ok : FuncId → Array Value → Bool
/-- 0: it neither writes nor reads memory, whatever its operands · 1: the same where its operands are tame · 2: it only reads · 3: any other -/
def kind (P : Program) (q : Quiet) (o : Oper) : Nat :=
  match o.op with
  | .move _ | .assign _ | .pick .. | .extract .. | .nilCheck _ | .field .. | .indexAddr .. | .index .. | .slice .. | .unOp .. => 0
  | .fieldAddr s _ f => if fieldSized P s f then 0 else 3
  | .binOp op t _ y _ => if nilCmp P op t y then 0 else 1
  | .convert s d _ => if intTo P s d then 1 else 3
  | .call { callee := .builtin .len, argTypes, .. } => if plainLen P argTypes[0]? then 0 else 3
  | .call { callee := .builtin .cap, argTypes, .. } => if plainLen P argTypes[0]? then 0 else 3
  | .call { callee := .value (.func f), .. } => if q.fs.contains f then 1 else 3
  | .load .. => 2
  | .lookup t _ _ _ => if intMap P t then 2 else 3
  | _ => 3
def PureV (P : Program) (o : Oper) (ρ : Operand → Value) : Prop :=
  ∀ w n w', (execOp ρ o).run P w = .ok n w' → ∃ v, n = .value v ∧ w' = w ∧ ∀ w2, (execOp ρ o).run P w2 = .ok (.value v) w2
def ReadV (P : Program) (o : Oper) (ρ : Operand → Value) : Prop :=
  ∀ w n w', (execOp ρ o).run P w = .ok n w' → ∃ v, n = .value v ∧ w' = w
theorem PureV.read {o : Oper} {ρ : Operand → Value} (h : PureV P o ρ) : ReadV P o ρ := fun w n w' e =>
  let ⟨v, h1, h2, _⟩ := h w n w' e; ⟨v, h1, h2⟩
theorem PureV.of {o : Oper} {ρ : Operand → Value} {s : Sem Value} (he : execOp ρ o = (do pure (.value (← s)))) (hs : PureAt P s) : PureV P o ρ := by
  intro w n w' h
  rw [he, Sem.run_bind] at h
  obtain ⟨a, w1, h1, h2⟩ := andThen_ok h
  simp only [Sem.run_pure, Result.ok.injEq] at h2
  obtain ⟨rfl, rfl⟩ := h2
  obtain ⟨rfl, h3⟩ := hs _ _ _ h1
  exact ⟨a, rfl, rfl, fun w2 => by rw [he, Sem.run_bind, h3, Result.andThen_ok]; rfl⟩
theorem PureV.const {o : Oper} {ρ : Operand → Value} {v : Value} (he : execOp ρ o = pure (.value v)) : PureV P o ρ := by
  intro w n w' h
  rw [he] at h
  simp only [Sem.run_pure, Result.ok.injEq] at h
  obtain ⟨rfl, rfl⟩ := h
  exact ⟨v, rfl, rfl, fun w2 => by rw [he]; rfl⟩
theorem PureV.ofNext {o : Oper} {ρ : Operand → Value} (h : PureAt P (execOp ρ o)) (hv : ∀ w n w', (execOp ρ o).run P w = .ok n w' → ∃ v, n = .value v) : PureV P o ρ := by
  intro w n w' e
  obtain ⟨h1, h2⟩ := h _ _ _ e
  obtain ⟨v, rfl⟩ := hv _ _ _ e
  exact ⟨v, rfl, h1, h2⟩
theorem ReadAt.bind {α β : Type} {s : Sem α} {f : α → Sem β} (hs : ReadAt P s) (hf : ∀ a, ReadAt P (f a)) : ReadAt P (s >>= f) := by
  intro w x w' h
  rw [Sem.run_bind] at h
  obtain ⟨a, w1, h1, h2⟩ := andThen_ok h
  obtain rfl := hs _ _ _ h1
  exact hf _ _ _ _ h2
theorem PureAt.readAt {α : Type} {s : Sem α} (h : PureAt P s) : ReadAt P s := fun w x w' e => (h w x w' e).1
theorem ReadAt.load (a : Addr) (m : Mode) : ReadAt P (load a m) := by
  intro w x w' h
  rw [run_load] at h
  split at h
  · simp only [Result.ok.injEq] at h; exact h.2.symm
  · split at h
    · simp only [Result.ok.injEq] at h; exact h.2.symm
    · simp at h
theorem ReadAt.loadCellsFrom (a : Addr) : ∀ (n i : Nat) (acc : Array Value), ReadAt P (loadCellsFrom a i n acc) := by
  intro n
  induction n with
  | zero => intro i acc; exact (PureAt.pure _).readAt
  | succ n ih => intro i acc; exact ReadAt.bind (ReadAt.load _ _) fun _ => ih _ _
theorem ReadAt.loadAt (t : TypeId) (x : Value) : ReadAt P (Instr.loadAt t x) := by
  refine ReadAt.bind (PureAt.sureAddr x).readAt fun a => ?_
  refine ReadAt.bind (PureAt.isAgg t).readAt fun b => ?_
  split
  · exact ReadAt.bind (PureAt.sizeOf t).readAt fun _ => ReadAt.bind (ReadAt.loadCellsFrom _ _ _ _) fun _ => (PureAt.pure _).readAt
  · exact ReadAt.load _ _
theorem fieldAt_pure {s : TypeId} {f : Nat} (h : fieldSized P s f = true) (x : Value) : PureAt P (Instr.fieldAt s x f) := by
  unfold fieldSized at h
  split at h
  · rename_i fields hd
    split at h
    · rename_i fl hf
      split at h
      · rename_i i hi
        unfold Instr.fieldAt
        refine PureAt.of_underlying hd ?_
        simp only [hf]
        refine PureAt.bind (PureAt.sureAddr _) fun a => PureAt.bind ?_ fun _ => PureAt.pure _
        unfold fieldPlace
        have hs : ∀ w, (Go.sizeOf fl.type).run P w = .ok i.size w := fun w => by simp [Go.sizeOf, Go.typeInfo, hi]
        intro w y w' e
        rw [Sem.run_bind, hs, Result.andThen_ok, if_neg (by simpa using h)] at e
        simp only [Sem.run_pure, Result.ok.injEq] at e
        obtain ⟨rfl, rfl⟩ := e
        exact ⟨rfl, fun w2 => by rw [Sem.run_bind, hs, Result.andThen_ok, if_neg (by simpa using h)]; rfl⟩
      · cases h
    · cases h
  · cases h
/-- What 'kind' 1 asks of the operands. -/
def tameOp (q : Quiet) (o : Oper) (ρ : Operand → Value) : Bool :=
  match o.op with
  | .binOp _ _ x y _ => tame (ρ x) && tame (ρ y)
  | .convert _ _ x => tame (ρ x)
  | .call { callee := .value (.func f), args, .. } => q.ok f (args.map ρ)
  | _ => true
theorem len_pure {t : Option TypeId} (h : plainLen P t = true) (ats : Array TypeId) (ht : ats[0]? = t) (ty : TypeId) (args : Array Value) : PureAt P (Builtin.len_ ats ty args) := by
  subst ht
  unfold plainLen at h
  split at h
  · rename_i t ht
    unfold Builtin.len_
    rw [ht]
    cases ha : args[0]? with
    | none => exact PureAt.stuck _
    | some x =>
      dsimp only
      split at h
      case h_4 => cases h
      all_goals
        rename_i hd
        refine PureAt.of_underlying hd ?_
        first | exact PureAt.pure _ | exact PureAt.stuck _ | (split <;> first | exact PureAt.pure _ | exact PureAt.stuck _ | contradiction)
  · cases h
theorem cap_pure {t : Option TypeId} (h : plainLen P t = true) (ats : Array TypeId) (ht : ats[0]? = t) (ty : TypeId) (args : Array Value) : PureAt P (Builtin.cap_ ats ty args) := by
  subst ht
  unfold plainLen at h
  split at h
  · rename_i t ht
    unfold Builtin.cap_
    rw [ht]
    cases ha : args[0]? with
    | none => exact PureAt.stuck _
    | some x =>
      dsimp only
      split at h
      case h_4 => cases h
      all_goals
        rename_i hd
        refine PureAt.of_underlying hd ?_
        first | exact PureAt.pure _ | exact PureAt.stuck _ | (split <;> first | exact PureAt.pure _ | exact PureAt.stuck _ | contradiction)
  · cases h
theorem convert_pure {s d : TypeId} (h : intTo P s d = true) {x : Value} (hx : tame x = true) : PureAt P (convert s d x) := by
  unfold intTo at h
  split at h
  · rename_i k k' hs hd
    unfold Go.convert
    refine PureAt.of_underlying hs (PureAt.of_underlying hd ?_)
    cases x <;> simp only [tame, Bool.false_eq_true] at hx <;> dsimp only <;> first | exact PureAt.pure _ | exact PureAt.stuck _ | exact PureAt.unsupported _
  · cases h
theorem nilCmp_pure {op : BinOp} {t : TypeId} {y : Operand} (h : nilCmp P op t y = true) (x : Operand) (ρ : Operand → Value) (hρ : ∀ v, ρ (.const v) = v) :
    PureAt P (do eqGuard op t x y (ρ x) (ρ y); binOp op t (ρ x) (ρ y)) := by
  unfold nilCmp at h
  simp only [Bool.and_eq_true] at h
  obtain ⟨h1, h2⟩ := h
  split at h2
  · rename_i e hu
    rw [hρ]
    refine PureAt.bind (PureAt.eqGuard_nilp _ _ _ _ _) fun _ => ?_
    split at h1
    · exact PureAt.eql_nilp _ _ _ hu
    · exact PureAt.neq_nilp _ _ _ hu
    · cases h1
  · rename_i n c e hu
    rw [hρ]
    refine PureAt.bind (PureAt.eqGuard_nils _ _ _ _ _ _ _) fun _ => ?_
    split at h1
    · exact PureAt.eql_nils _ _ _ _ _ hu
    · exact PureAt.neq_nils _ _ _ _ _ hu
    · cases h1
  · cases h2
theorem pure_of_kind0 {q : Quiet} {o : Oper} (h : kind P q o = 0) (ρ : Operand → Value) (hρ : ∀ v, ρ (.const v) = v) : PureV P o ρ := by
  obtain ⟨dst, op, type, pos, after, guard⟩ := o
  cases op <;> simp only [kind] at h <;> try (exact absurd h (by decide))
  case lookup => split at h <;> cases h
  case move x => exact PureV.const (v := ρ x) rfl
  case assign x => exact PureV.const (v := ρ x) rfl
  case pick c a b =>
    refine PureV.of (s := do pure (if ← asBool (ρ c) then ρ a else ρ b)) ?_ (PureAt.bind (PureAt.asBool _) fun _ => PureAt.pure _)
    simp [execOp]
  case extract => exact PureV.of rfl (PureAt.extract _ _)
  case field => exact PureV.of rfl (PureAt.field _ _ _)
  case indexAddr => exact PureV.of rfl (PureAt.indexAt _ _ _)
  case index => exact PureV.of rfl (PureAt.index _ _ _)
  case slice => exact PureV.of rfl (PureAt.sliceAt _ _ _ _ _)
  case unOp => exact PureV.of rfl (PureAt.unary _ _)
  case fieldAddr s x f =>
    split at h
    · rename_i hf; exact PureV.of rfl (fieldAt_pure hf _)
    · cases h
  case binOp op t x y yt =>
    split at h
    · rename_i hn; exact PureV.of rfl (nilCmp_pure hn x ρ hρ)
    · cases h
  case convert => split at h <;> cases h
  case nilCheck x =>
    have never : ∀ {e : RuntimeError}, execOp ρ { dst, op := .nilCheck x, type, pos, after, guard } = runtimePanic e → PureV P { dst, op := .nilCheck x, type, pos, after, guard } ρ := fun he w n w' h => by
      rw [he] at h; exact absurd h (NeverAt.runtimePanic _ w n w')
    cases hx : ρ x with
    | pointer a =>
      cases a with
      | none => exact never (e := .nilDeref) (by simp only [execOp, hx])
      | some a => exact PureV.const (v := .pointer (some a)) (by simp only [execOp, hx])
    | nilIface => exact never (e := .nilDeref) (by simp only [execOp, hx])
    | nilFunc => exact never (e := .nilDeref) (by simp only [execOp, hx])
    | func fn first captured =>
      cases fn with
      | method name =>
        cases hf : (first[0]? : Option Value) with
        | none => exact PureV.const (v := .func (.method name) first captured) (by simp only [execOp, hx, hf])
        | some y =>
          cases y with
          | nilIface => exact never (e := .nilDeref) (by simp only [execOp, hx, hf])
          | iface t u =>
            refine PureV.ofNext ?_ ?_
            · simp only [execOp, hx, hf]
              refine PureAt.bind PureAt.program fun p => PureAt.bind (PureAt.nilAhead _ _ _ _) fun b => ?_
              split
              · exact PureAt.bind (PureAt.unsupported _) fun _ => PureAt.pure _
              · exact PureAt.pure _
            · intro w n w' h
              simp only [execOp, hx, hf] at h
              rw [Sem.run_bind, run_program, Result.andThen_ok, Sem.run_bind] at h
              obtain ⟨b, w1, e1, e2⟩ := andThen_ok h
              split at e2
              · rw [Sem.run_bind, run_unsupported] at e2; simp at e2
              · simp only [Sem.run_pure, Result.ok.injEq] at e2; exact ⟨_, e2.1.symm⟩
          | _ => exact PureV.const (v := .func (.method name) first captured) (by simp only [execOp, hx, hf])
      | _ => exact PureV.const (v := ρ x) (by simp only [execOp, hx])
    | _ => exact PureV.const (v := ρ x) (by simp only [execOp, hx])
  case call c =>
    obtain ⟨callee, args, argTypes⟩ := c
    cases callee with
    | builtin b =>
      cases b <;> simp only at h <;> try (exact absurd h (by decide))
      · split at h
        · rename_i hl; exact PureV.of rfl (cap_pure hl _ rfl _ _)
        · cases h
      · split at h
        · rename_i hl; exact PureV.of rfl (len_pure hl _ rfl _ _)
        · cases h
    | value f =>
      cases f <;> simp only at h <;> first | exact absurd h (by decide) | (split at h <;> cases h)
    | _ => simp only at h; exact absurd h (by decide)
theorem read_of_kind2 {q : Quiet} {o : Oper} (h : kind P q o = 2) (ρ : Operand → Value) : ReadV P o ρ := by
  obtain ⟨dst, op, type, pos, after, guard⟩ := o
  cases op <;> simp only [kind] at h <;> try (exact absurd h (by decide))
  case lookup t x ix ok =>
    split at h
    · rename_i hm
      intro w n w' e
      simp only [execOp, Sem.run_bind] at e
      obtain ⟨a, w1, h1, h2⟩ := andThen_ok e
      simp only [Sem.run_pure, Result.ok.injEq] at h2
      obtain ⟨rfl, rfl⟩ := h2
      exact ⟨a, rfl, ReadAt.lookup hm _ _ _ _ _ _ h1⟩
    · cases h
  case fieldAddr => split at h <;> cases h
  case binOp => split at h <;> cases h
  case convert => split at h <;> cases h
  case load t x =>
    intro w n w' e
    simp only [execOp, Sem.run_bind] at e
    obtain ⟨a, w1, h1, h2⟩ := andThen_ok e
    simp only [Sem.run_pure, Result.ok.injEq] at h2
    obtain ⟨rfl, rfl⟩ := h2
    exact ⟨a, rfl, ReadAt.loadAt _ _ _ _ _ h1⟩
  case call c =>
    obtain ⟨callee, args, argTypes⟩ := c
    cases callee with
    | builtin b =>
      cases b <;> simp only at h <;> first | exact absurd h (by decide) | (split at h <;> cases h)
    | value f =>
      cases f <;> simp only at h <;> first | exact absurd h (by decide) | (split at h <;> cases h)
    | _ => simp only at h; exact absurd h (by decide)
/-- What is asked of the quiet functions. -/
def QuietOk (P : Program) (q : Quiet) : Prop :=
  ∀ f args, q.ok f args = true → P.inits.idxOf? f = none ∧ (∀ w, (callFunc f args).run P w = .ok (.enter f args) w) ∧ ∃ v, ∀ w, Calls P f args w fun e w' => e = .returned v ∧ w = w'
theorem quiet_none : QuietOk P ⟨[], fun _ _ => false⟩ := fun _ _ h => by cases h

/-- What a run of an operation comes to, said of its value. -/
def upV (P : Program) (k : Option Deferred → Value → World → Prop) : Result Next → Prop
  | .ok (.value v) w => k none v w
  | .ok .skip w => k none undef w
  | .ok (.defer d) w => k (some d) undef w
  | .ok (.enter f args) w => Calls P f args w fun e w' => match e with | .returned v => k none v w' | _ => False
  | .ok (.row row args) w => Rows P row args w (k none)
  | _ => False
/-- At w the operation comes to v, and leaves the world as it is. -/
def ValAt (P : Program) (o : Oper) (ρ : Operand → Value) (w : World) (v : Value) : Prop :=
  ∀ k, upV P k ((execOp ρ o).run P w) ↔ k none v w
def PureK (P : Program) (o : Oper) (ρ : Operand → Value) : Prop := ∀ w k, upV P k ((execOp ρ o).run P w) → ∃ v, ∀ w2, ValAt P o ρ w2 v
def ReadK (P : Program) (o : Oper) (ρ : Operand → Value) : Prop := ∀ w k, upV P k ((execOp ρ o).run P w) → ∃ v, ValAt P o ρ w v
theorem PureK.read {o : Oper} {ρ : Operand → Value} (h : PureK P o ρ) : ReadK P o ρ := fun w k e => let ⟨v, hv⟩ := h w k e; ⟨v, hv w⟩
theorem PureV.toK {o : Oper} {ρ : Operand → Value} (h : PureV P o ρ) : PureK P o ρ := by
  intro w k e
  cases hr : (execOp ρ o).run P w with
  | ok n w' =>
    obtain ⟨v, rfl, rfl, hv⟩ := h _ _ _ hr
    exact ⟨v, fun w2 k => by rw [hv]; exact Iff.rfl⟩
  | halt x w' => rw [hr] at e; exact e.elim
theorem ReadV.toK {o : Oper} {ρ : Operand → Value} (h : ReadV P o ρ) : ReadK P o ρ := by
  intro w k e
  cases hr : (execOp ρ o).run P w with
  | ok n w' =>
    obtain ⟨v, rfl, rfl⟩ := h _ _ _ hr
    exact ⟨v, fun k => by rw [hr]; exact Iff.rfl⟩
  | halt x w' => rw [hr] at e; exact e.elim
/-- Two accounts of one call that returns agree. -/
theorem calls_agree {f : FuncId} {args : Array Value} {w : World} {v : Value} {k : Value → World → Prop} (hi : P.inits.idxOf? f = none)
    (h1 : Calls P f args w fun e w' => e = .returned v ∧ w = w') (h2 : Calls P f args w fun e w' => match e with | .returned v => k v w' | _ => False) : k v w := by
  obtain ⟨n1, v1, w1, e1, rfl, rfl⟩ := Calls.done (R := fun v' w' => v' = v ∧ w = w') (h1.mono fun e w' ⟨he, hw⟩ => by subst he; exact ⟨rfl, hw⟩) hi
  obtain ⟨n2, v2, w2, e2, hk⟩ := Calls.done (R := k) (h2.mono fun e w' he => by cases e <;> exact he) hi
  have det : ∀ (n m : Nat) (M : Machine) (o o' : Outcome) (u u' : World), runN P n M = .ended o u → runN P m M = .ended o' u' → o = o' ∧ u = u' := by
    intro n
    induction n with
    | zero => intro m M o o' u u' h; simp [runN] at h
    | succ n ih =>
      intro m M o o' u u' h h'
      cases m with
      | zero => simp [runN] at h'
      | succ m =>
        simp only [runN] at h h'
        cases hs : step P M with
        | next M' => rw [hs] at h h'; exact ih m M' _ _ _ _ h h'
        | ended q z =>
          rw [hs] at h h'
          simp only [Stepped.ended.injEq] at h h'
          exact ⟨h.1.symm.trans h'.1, h.2.symm.trans h'.2⟩
  obtain ⟨h3, h4⟩ := det _ _ _ _ _ _ _ e1 e2
  cases h3
  subst h4
  exact hk
theorem pure_of_kind1 {q : Quiet} (hq : QuietOk P q) {o : Oper} (h : kind P q o = 1) (ρ : Operand → Value) (hf : ∀ f, ρ (.func f) = .func (.func f) #[] #[]) (ht : tameOp q o ρ = true) : PureK P o ρ := by
  obtain ⟨dst, op, type, pos, after, guard⟩ := o
  cases op <;> simp only [kind] at h <;> try (exact absurd h (by decide))
  case lookup => split at h <;> cases h
  case fieldAddr => split at h <;> cases h
  case binOp op t x y yt =>
    simp only [tameOp, Bool.and_eq_true] at ht
    exact (PureV.of rfl (PureAt.bind (PureAt.eqGuard_tame _ _ _ _ ht.1 ht.2) fun _ => PureAt.binOp_tame _ _ ht.1 ht.2)).toK
  case convert s d x =>
    split at h
    · rename_i hi; exact (PureV.of rfl (convert_pure hi ht)).toK
    · cases h
  case call c =>
    obtain ⟨callee, args, argTypes⟩ := c
    cases callee with
    | builtin b =>
      cases b <;> simp only at h <;> first | exact absurd h (by decide) | (split at h <;> cases h)
    | value f =>
      cases f with
      | func f =>
        simp only [tameOp] at ht
        obtain ⟨hi, hcf, v, hv⟩ := hq _ _ ht
        intro w k e
        have hrun : ∀ w, (execOp ρ { dst, op := .call { callee := .value (.func f), args, argTypes }, type, pos, after, guard }).run P w = .ok (.enter f (args.map ρ)) w := fun w => by
          rw [← hcf w]
          simp [execOp, resolve, hf, Deferred.ofValue, invoke]
        refine ⟨v, fun w2 k => ?_⟩
        rw [hrun]
        constructor
        · intro h; exact calls_agree (k := k none) hi (hv w2) h
        · intro h; exact (hv w2).mono fun e w' ⟨he, hw⟩ => by subst he; subst hw; exact h
      | _ => simp only at h; exact absurd h (by decide)
    | _ => simp only at h; exact absurd h (by decide)
end
end Txt
end Go
namespace Go
namespace Txt
section
variable {P : Program} {ops : Array Oper}

/-- Only a normal end, and there Qn. -/
def NQ (Qn : Act → World → Prop) : Exit → Act → World → Prop
  | .normal, a, w => Qn a w
  | _, _, _ => False
theorem NQ.noOut {Qn : Act → World → Prop} : ¬ LetsOut (NQ Qn) := fun ⟨_, _, h⟩ => h

/-- The frame behind an operation: its value in its slot; a deferred call besides. -/
def fin (a : Act) (od : Option Deferred) (dst : Option Tmp) (v : Value) : Act :=
  match od with
  | none => a.put dst v
  | some d => ({ a with defers := d :: a.defers } : Act).put dst v
theorem upV.mono {k k' : Option Deferred → Value → World → Prop} (h : ∀ d v w, k d v w → k' d v w) {r : Result Next} (hr : upV P k r) : upV P k' r := by
  cases r with
  | ok n w =>
    cases n <;> simp only [upV] at hr ⊢
    case enter f args => exact hr.mono fun e w' he => by cases e <;> first | exact h _ _ _ he | exact he
    case row => exact hr.mono fun v w' he => h _ _ _ he
    all_goals exact h _ _ _ hr
  | halt x w => exact hr
theorem upV.some {k : Option Deferred → Value → World → Prop} {r : Result Next} (hr : upV P k r) : ∃ d v w, k d v w := by
  cases r with
  | ok n w =>
    cases n <;> simp only [upV] at hr
    case enter f args =>
      obtain ⟨e, w', fr, he, _⟩ := hr []
      cases e <;> first | exact ⟨_, _, _, he⟩ | exact he.elim
    case row =>
      obtain ⟨v, w', he, _⟩ := hr default []
      exact ⟨_, _, _, he⟩
    all_goals exact ⟨_, _, _, hr⟩
  | halt x w => exact hr.elim
theorem wp_iff {o : Oper} {a : Act} {w : World} {K : Act → World → Prop} {Qn : Act → World → Prop} :
    o.wp P a w K (NQ Qn) ↔ upV P (fun d v w' => K (fin a d o.dst v) w') ((execOp a.eval o).run P w) := by
  unfold Oper.wp
  generalize (execOp a.eval o).run P w = r
  cases r with
  | ok n w =>
    cases n <;> simp only [Oper.upon, upV, fin]
    case enter f args =>
      constructor
      · exact fun h => h.mono fun e w' he => by cases e <;> first | exact he | exact (NQ.noOut he).elim
      · exact fun h => h.mono fun e w' he => by cases e <;> first | exact he | exact he.elim
  | halt x w => cases x <;> simp only [Oper.upon, upV, NQ]
/-- One step of the text, with nothing but normal ends. -/
theorem step_iff {i : Nat} {o : Oper} (ho : ops[i]? = some o) {a : Act} {w : World} {K : Act → World → Prop} {Qn : Act → World → Prop} :
    wpOp P ops (NQ Qn) i K a w ↔ if Region.wanted o (yielded ops a.tmps) then upV P (fun d v w' => K (fin a d o.dst v) w') ((execOp a.eval o).run P w) else K (a.put o.dst undef) w := by
  unfold wpOp
  simp only [ho]
  by_cases hw : Region.wanted o (yielded ops a.tmps) = true
  · simp only [hw, if_true]
    rw [wp_iff]
    exact ⟨fun h => h.resolve_right fun h => NQ.noOut h.2, .inl⟩
  · simp only [hw, if_false, Bool.false_eq_true]
theorem fin_getD {a : Act} {d : Option Deferred} {dst : Option Tmp} {v : Value} {t : Tmp} (h : dst ≠ some t) : (fin a d dst v).tmps.getD t undef = a.tmps.getD t undef := by
  cases d <;> cases dst with
  | none => rfl
  | some s =>
    have hne : s ≠ t := fun e => h (by rw [e])
    simp [fin, Act.put, Array.getElem?_setIfInBounds_ne hne]
theorem put_eq_fin (a : Act) (dst : Option Tmp) (v : Value) : a.put dst v = fin a none dst v := rfl
/-- The text's end is reached; a slot that nobody writes on the way holds what it held. -/
theorem text_end {Qn : Act → World → Prop} : ∀ (l : List Nat) (a : Act) (w : World), wpOps P ops (NQ Qn) l a w →
    ∃ a' w', Qn a' w' ∧ ∀ t, (∀ i ∈ l, ∀ o, ops[i]? = some o → o.dst ≠ some t) → a'.tmps.getD t undef = a.tmps.getD t undef := by
  intro l
  induction l with
  | nil => intro a w h; exact ⟨a, w, h, fun _ _ => rfl⟩
  | cons i l ih =>
    intro a w h
    rw [wpOps_cons] at h
    cases ho : ops[i]? with
    | none =>
      simp only [wpOp, ho] at h
      obtain ⟨a', w', h1, h2⟩ := ih _ _ h
      exact ⟨a', w', h1, fun t ht => h2 t fun j hj => ht j (List.mem_cons_of_mem _ hj)⟩
    | some o =>
      rw [step_iff ho] at h
      have key : ∃ d v w1, wpOps P ops (NQ Qn) l (fin a d o.dst v) w1 := by
        split at h
        · exact h.some
        · exact ⟨none, undef, w, h⟩
      obtain ⟨d, v, w1, h⟩ := key
      obtain ⟨a', w', h1, h2⟩ := ih _ _ h
      refine ⟨a', w', h1, fun t ht => ?_⟩
      rw [h2 t fun j hj => ht j (List.mem_cons_of_mem _ hj), fin_getD (ht i List.mem_cons_self o ho)]
/-- All that is asked of the operands holds. -/
def tameAt (P : Program) (q : Quiet) (ops : Array Oper) (a : Act) : Bool :=
  ops.toList.all fun o => !decide (kind P q o = 1) || (tameOp q o a.eval || !Region.wanted o (yielded ops a.tmps))
/-- The check, for two operations i < j whose order is open. -/
def mayPass (P : Program) (q : Quiet) (ops : Array Oper) (x y : Oper) : Bool :=
  x.apart ops y && (decide (kind P q x ≤ 1) || decide (kind P q y ≤ 1) || (decide (kind P q x ≤ 2) && decide (kind P q y ≤ 2)))
def noSelect (o : Oper) : Bool := match o.op with | .select .. => false | _ => true
theorem noSelect_spec {o : Oper} (h : noSelect o = true) : ∀ cs b, o.op ≠ .select cs b := by
  intro cs b e
  simp [noSelect, e] at h
theorem fin_comm {a : Act} {d : Option Deferred} {x y : Option Tmp} {u v : Value} (h : ∀ t, x = some t → y ≠ some t) : fin (a.put x u) d y v = (fin a d y v).put x u := by
  cases d with
  | none => exact Act.put_comm a u v h
  | some d =>
    exact (congrArg (fun z : Act => z.put y v) (Act.put_defers a x u d)).trans (Act.put_comm _ u v h)
theorem eval_const (a : Act) : ∀ v, a.eval (.const v) = v := fun _ => rfl
theorem execOp_fin (o : Oper) (hs : ∀ cs b, o.op ≠ .select cs b) (a : Act) (d : Option Deferred) (dst : Option Tmp) (v : Value) (h : ∀ t, dst = some t → t ∉ o.looksAt ops) :
    execOp (fin a d dst v).eval o = execOp a.eval o := by
  cases d with
  | none => exact execOp_put o hs a dst v h
  | some d => exact (execOp_put o hs { a with defers := d :: a.defers } dst v h).trans (execOp_congr o hs fun x _ => by cases x <;> rfl)
theorem wanted_fin (o : Oper) (a : Act) (d : Option Deferred) (dst : Option Tmp) (v : Value) (h : ∀ t, dst = some t → t ∉ o.looksAt ops) :
    Region.wanted o (yielded ops (fin a d dst v).tmps) = Region.wanted o (yielded ops a.tmps) := by
  cases d with
  | none => exact wanted_put o a dst v h
  | some d => exact wanted_put o { a with defers := d :: a.defers } dst v h
/-- A step that gives a value and leaves the world. -/
theorem step_value {i : Nat} {o : Oper} (ho : ops[i]? = some o) {a : Act} {w : World} {K : Act → World → Prop} {Qn : Act → World → Prop} (hr : Region.wanted o (yielded ops a.tmps) = true → ReadK P o a.eval)
    (h : wpOp P ops (NQ Qn) i K a w) : (Region.wanted o (yielded ops a.tmps) = true ∧ ∃ v, ValAt P o a.eval w v ∧ K (a.put o.dst v) w) ∨
      (Region.wanted o (yielded ops a.tmps) = false ∧ K (a.put o.dst undef) w) := by
  rw [step_iff ho] at h
  split at h
  · rename_i hw
    obtain ⟨v, hv⟩ := hr hw _ _ h
    exact .inl ⟨hw, v, hv, (hv _).1 h⟩
  · rename_i hw
    exact .inr ⟨by simpa using hw, h⟩
theorem valAt_step {i : Nat} {o : Oper} (ho : ops[i]? = some o) {a : Act} {w : World} {K : Act → World → Prop} {Qn : Act → World → Prop} {v : Value}
    (hw : Region.wanted o (yielded ops a.tmps) = true) (hv : ValAt P o a.eval w v) (h : K (a.put o.dst v) w) : wpOp P ops (NQ Qn) i K a w := by
  rw [step_iff ho, if_pos hw]
  exact (hv _).2 h
theorem ValAt.congr {o : Oper} {ρ ρ' : Operand → Value} {w : World} {v : Value} (h : ValAt P o ρ w v) (e : execOp ρ' o = execOp ρ o) : ValAt P o ρ' w v := by
  intro k; rw [e]; exact h k
theorem PureK.congr {o : Oper} {ρ ρ' : Operand → Value} (h : PureK P o ρ) (e : execOp ρ' o = execOp ρ o) : PureK P o ρ' := by
  intro w k hk
  rw [e] at hk
  obtain ⟨v, hv⟩ := h w k hk
  exact ⟨v, fun w2 => (hv w2).congr e⟩
theorem ReadK.congr {o : Oper} {ρ ρ' : Operand → Value} (h : ReadK P o ρ) (e : execOp ρ' o = execOp ρ o) : ReadK P o ρ' := by
  intro w k hk
  rw [e] at hk
  obtain ⟨v, hv⟩ := h w k hk
  exact ⟨v, hv.congr e⟩
/-- i, then j, comes to what j, then i comes to. -/
theorem exchange {i j : Nat} {x y : Oper} (hi : ops[i]? = some x) (hj : ops[j]? = some y) (hap : x.apart ops y = true) (hsx : noSelect x = true) (hsy : noSelect y = true)
    {a : Act} {w : World} {K : Act → World → Prop} {Qn : Act → World → Prop}
    (hk : ((Region.wanted x (yielded ops a.tmps) = true → ReadK P x a.eval) ∧ (Region.wanted y (yielded ops a.tmps) = true → ReadK P y a.eval)) ∨
      (Region.wanted x (yielded ops a.tmps) = true → PureK P x a.eval) ∨ (Region.wanted y (yielded ops a.tmps) = true → PureK P y a.eval))
    (h : wpOp P ops (NQ Qn) i (wpOp P ops (NQ Qn) j K) a w) : wpOp P ops (NQ Qn) j (wpOp P ops (NQ Qn) i K) a w := by
  obtain ⟨h1, h2, h3⟩ := Oper.apart_spec hap
  have h2' : ∀ d, y.dst = some d → x.dst ≠ some d := fun d hy hx => h2 d hx hy
  have ex : ∀ d v, execOp (fin a d y.dst v).eval x = execOp a.eval x := fun d v => execOp_fin x (noSelect_spec hsx) a d _ v h3
  have ey : ∀ d v, execOp (fin a d x.dst v).eval y = execOp a.eval y := fun d v => execOp_fin y (noSelect_spec hsy) a d _ v h1
  have wx : ∀ d v, Region.wanted x (yielded ops (fin a d y.dst v).tmps) = Region.wanted x (yielded ops a.tmps) := fun d v => wanted_fin x a d _ v h3
  have wy : ∀ d v, Region.wanted y (yielded ops (fin a d x.dst v).tmps) = Region.wanted y (yielded ops a.tmps) := fun d v => wanted_fin y a d _ v h1
  rcases hk with ⟨rx, ry⟩ | px | py
  · -- both only read
    have both : ∀ (v : Value), wpOp P ops (NQ Qn) j K (a.put x.dst v) w → (∀ u, K ((a.put x.dst v).put y.dst u) w → wpOp P ops (NQ Qn) i K (a.put y.dst u) w) → wpOp P ops (NQ Qn) j (wpOp P ops (NQ Qn) i K) a w := fun v k1 back => by
      have ry' : Region.wanted y (yielded ops (a.put x.dst v).tmps) = true → ReadK P y (a.put x.dst v).eval := fun hw => by
        rw [put_eq_fin, wy] at hw
        exact (ry hw).congr (by rw [put_eq_fin, ey])
      rcases step_value hj ry' k1 with ⟨w2, u, e2, k2⟩ | ⟨w2, k2⟩
      · rw [put_eq_fin, wy] at w2
        exact valAt_step hj w2 (e2.congr (by rw [put_eq_fin, ey])) (back u k2)
      · rw [put_eq_fin, wy] at w2
        rw [step_iff hj, if_neg (by simp [w2])]
        exact back undef k2
    rcases step_value hi rx h with ⟨w1, v, e1, k1⟩ | ⟨w1, k1⟩
    · refine both v k1 fun u hk => ?_
      refine valAt_step hi (by rw [put_eq_fin, wx]; exact w1) (e1.congr (by rw [put_eq_fin, ex])) ?_
      rw [← Act.put_comm a v u h2]; exact hk
    · refine both undef k1 fun u hk => ?_
      rw [step_iff hi, put_eq_fin, wx, if_neg (by simp [w1])]
      show K ((a.put y.dst u).put x.dst undef) w
      rw [← Act.put_comm a undef u h2]; exact hk
  · -- x is pure
    have rest : ∀ (v : Value), wpOp P ops (NQ Qn) j K (a.put x.dst v) w → (∀ d u w', K ((fin a d y.dst u).put x.dst v) w' → wpOp P ops (NQ Qn) i K (fin a d y.dst u) w') → wpOp P ops (NQ Qn) j (wpOp P ops (NQ Qn) i K) a w := fun v k1 back => by
      rw [step_iff hj, put_eq_fin, wy] at k1
      rw [step_iff hj]
      split at k1
      · rename_i w2
        rw [if_pos w2]
        rw [ey] at k1
        refine k1.mono fun d u w' hk => back d u w' ?_
        rw [← fin_comm h2]; exact hk
      · rename_i w2
        rw [if_neg w2]
        refine back none undef w ?_
        show K ((a.put y.dst undef).put x.dst v) w
        rw [← Act.put_comm a v undef h2]; exact k1
    by_cases w1 : Region.wanted x (yielded ops a.tmps) = true
    · rw [step_iff hi, if_pos w1] at h
      obtain ⟨v, ev⟩ := px w1 _ _ h
      have k1 := (ev w _).1 h
      refine rest v k1 fun d u w' hk => ?_
      exact valAt_step hi (by rw [wx]; exact w1) ((ev w').congr (ex d u)) hk
    · rw [step_iff hi, if_neg w1] at h
      refine rest undef h fun d u w' hk => ?_
      rw [step_iff hi, wx, if_neg w1]; exact hk
  · -- y is pure
    rw [step_iff hi] at h
    have one : ∃ d v w', wpOp P ops (NQ Qn) j K (fin a d x.dst v) w' := by
      split at h
      · exact h.some
      · exact ⟨none, undef, w, h⟩
    have rest : ∀ u, (∀ d v w', wpOp P ops (NQ Qn) j K (fin a d x.dst v) w' → K ((fin a d x.dst v).put y.dst u) w') → wpOp P ops (NQ Qn) i K (a.put y.dst u) w := fun u after => by
      rw [step_iff hi, put_eq_fin, wx, ex]
      split at h
      · rename_i w1
        rw [if_pos w1]
        refine h.mono fun d v w' hk => ?_
        show K (fin (a.put y.dst u) d x.dst v) w'
        rw [fin_comm h2']; exact after _ _ _ hk
      · rename_i w1
        rw [if_neg w1]
        show K ((a.put y.dst u).put x.dst undef) w
        rw [← Act.put_comm a undef u h2]; exact after none undef w h
    by_cases w2 : Region.wanted y (yielded ops a.tmps) = true
    · obtain ⟨d, v, w', hone⟩ := one
      rw [step_iff hj, wy, if_pos w2, ey] at hone
      obtain ⟨u, eu⟩ := py w2 _ _ hone
      refine valAt_step hj w2 (eu w) (rest u fun d v w' hk => ?_)
      rw [step_iff hj, wy, if_pos w2, ey] at hk
      exact (eu w' _).1 hk
    · rw [step_iff hj, if_neg w2]
      refine rest undef fun d v w' hk => ?_
      rw [step_iff hj, wy, if_neg w2] at hk
      exact hk
end
end Txt
end Go
