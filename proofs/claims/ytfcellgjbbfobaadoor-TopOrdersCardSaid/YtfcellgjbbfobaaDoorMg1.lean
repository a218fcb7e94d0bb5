/- Texts laid together: RT. -/
import Derived.Orders
import Derived.Tactics
import Derived.KernelRfl
/- A region that draws its order comes to what its text order comes to, where a check on its operations' kinds says so. -/
namespace Go
namespace Txt

/-! ### runs that leave the world as it is and do not hang on it -/
def PureAt (P : Program) {α : Type} (s : Sem α) : Prop := ∀ w x w', s.run P w = .ok x w' → w' = w ∧ ∀ w2, s.run P w2 = .ok x w2
def ReadAt (P : Program) {α : Type} (s : Sem α) : Prop := ∀ w x w', s.run P w = .ok x w' → w' = w
def NeverAt (P : Program) {α : Type} (s : Sem α) : Prop := ∀ w x w', s.run P w ≠ .ok x w'

section
variable {P : Program} {α β : Type}
theorem andThen_ok {r : Result α} {f : α → World → Result β} {b : β} {w' : World} (h : r.andThen f = .ok b w') : ∃ a w1, r = .ok a w1 ∧ f a w1 = .ok b w' := by
  cases r with
  | ok a w1 => exact ⟨a, w1, rfl, h⟩
  | halt x w1 => simp at h
theorem PureAt.pure (a : α) : PureAt P (Pure.pure a : Sem α) := by
  intro w x w' h
  simp only [Sem.run_pure, Result.ok.injEq] at h
  obtain ⟨rfl, rfl⟩ := h
  exact ⟨rfl, fun _ => rfl⟩
theorem PureAt.bind {s : Sem α} {f : α → Sem β} (hs : PureAt P s) (hf : ∀ a, PureAt P (f a)) : PureAt P (s >>= f) := by
  intro w x w' h
  rw [Sem.run_bind] at h
  obtain ⟨a, w1, h1, h2⟩ := andThen_ok h
  obtain ⟨rfl, h3⟩ := hs _ _ _ h1
  obtain ⟨rfl, h4⟩ := hf _ _ _ _ h2
  exact ⟨rfl, fun w2 => by rw [Sem.run_bind, h3, Result.andThen_ok, h4]⟩
theorem NeverAt.pureAt {s : Sem α} (h : NeverAt P s) : PureAt P s := fun w x w' e => absurd e (h w x w')
theorem NeverAt.bindR {s : Sem α} {f : α → Sem β} (hf : ∀ a, NeverAt P (f a)) : NeverAt P (s >>= f) := by
  intro w x w' h
  rw [Sem.run_bind] at h
  obtain ⟨a, w1, h1, h2⟩ := andThen_ok h
  exact hf _ _ _ _ h2
theorem NeverAt.halt (x : Halt) : NeverAt P (Sem.halt x : Sem α) := fun w y w' h => by simp at h
theorem PureAt.stuck (s : String) : PureAt P (stuck s : Sem α) := (NeverAt.halt _).pureAt
theorem PureAt.unsupported (u : Unsupported) : PureAt P (unsupported u : Sem α) := (NeverAt.halt _).pureAt
theorem PureAt.program : PureAt P program := by
  intro w x w' h
  simp only [run_program, Result.ok.injEq] at h
  obtain ⟨rfl, rfl⟩ := h
  exact ⟨rfl, fun _ => rfl⟩
theorem NeverAt.runtimePanic (e : RuntimeError) : NeverAt P (runtimePanic e : Sem α) := by
  unfold Go.runtimePanic
  refine NeverAt.bindR fun p => ?_
  cases e with
  | typeAssertion => exact NeverAt.bindR fun _ => NeverAt.bindR fun _ => NeverAt.halt _
  | _ => first | exact NeverAt.halt _ | exact NeverAt.bindR fun _ => NeverAt.halt _ | exact NeverAt.bindR fun _ => NeverAt.bindR fun _ => NeverAt.halt _
theorem PureAt.runtimePanic (e : RuntimeError) : PureAt P (runtimePanic e : Sem α) := (NeverAt.runtimePanic e).pureAt
theorem PureAt.boundsPanic (k : IntKind) (x y : Int) (c : BoundsCode) : PureAt P (boundsPanic k x y c : Sem α) := by
  refine NeverAt.pureAt ?_
  unfold Go.boundsPanic
  dsimp only
  split <;> exact NeverAt.bindR fun _ => NeverAt.runtimePanic _
theorem PureAt.ite {c : Prop} [Decidable c] {s t : Sem α} (hs : PureAt P s) (ht : PureAt P t) : PureAt P (if c then s else t) := by
  split <;> assumption
theorem PureAt.typeInfo (t : TypeId) : PureAt P (typeInfo t) := by
  unfold Go.typeInfo
  refine PureAt.bind PureAt.program fun p => ?_
  split
  · exact PureAt.pure _
  · exact PureAt.stuck _
theorem PureAt.underlying (t : TypeId) : PureAt P (underlying t) := by
  unfold Go.underlying
  refine PureAt.bind PureAt.program fun p => ?_
  split
  · exact PureAt.pure _
  · exact PureAt.stuck _
theorem PureAt.sizeOf (t : TypeId) : PureAt P (sizeOf t) := PureAt.bind (PureAt.typeInfo t) fun _ => PureAt.pure _
theorem PureAt.isAgg (t : TypeId) : PureAt P (isAgg t) := by
  unfold Go.isAgg
  refine PureAt.bind (PureAt.underlying t) fun d => ?_
  split <;> exact PureAt.pure _
theorem PureAt.part (t : TypeId) (cs : Array Value) (off : Nat) : PureAt P (part t cs off) := by
  unfold Go.part
  refine PureAt.bind (PureAt.isAgg t) fun b => ?_
  refine PureAt.ite (PureAt.bind (PureAt.sizeOf t) fun _ => PureAt.pure _) ?_
  split
  · exact PureAt.pure _
  · exact PureAt.stuck _
theorem PureAt.asBool (v : Value) : PureAt P (asBool v) := by
  unfold Go.asBool
  split
  · exact PureAt.pure _
  · exact PureAt.stuck _
theorem PureAt.asAgg (v : Value) : PureAt P (asAgg v) := by
  unfold Go.asAgg
  split
  · exact PureAt.pure _
  · exact PureAt.stuck _
theorem PureAt.asIntOf (v : Value) : PureAt P (asIntOf v) := by
  unfold Go.asIntOf
  split
  · exact PureAt.pure _
  · exact PureAt.unsupported _
  · exact PureAt.stuck _
theorem PureAt.asAddr (v : Value) : PureAt P (asAddr v) := by
  unfold Go.asAddr
  split
  · exact PureAt.pure _
  · exact PureAt.runtimePanic _
  · exact PureAt.stuck _
theorem PureAt.sureAddr (v : Value) : PureAt P (Instr.sureAddr v) := by
  unfold Instr.sureAddr
  split
  · exact PureAt.pure _
  · exact PureAt.stuck _
theorem PureAt.sliceBound (x : Value) (y : Nat) (c : BoundsCode) : PureAt P (Instr.sliceBound x y c) := by
  unfold Instr.sliceBound
  refine PureAt.bind (PureAt.asIntOf x) fun ki => ?_
  exact PureAt.ite (PureAt.pure _) (PureAt.boundsPanic _ _ _ _)
theorem PureAt.sliceBounds (b : Bool) (len cap : Nat) (lo hi mx : Option Value) : PureAt P (Instr.sliceBounds b len cap lo hi mx) := by
  unfold Instr.sliceBounds
  cases mx <;> cases hi <;> cases lo <;> dsimp only <;>
    (repeat (first | exact PureAt.pure _ | exact PureAt.sliceBound _ _ _ | exact PureAt.stuck _ | refine PureAt.bind ?_ fun _ => ?_))
theorem PureAt.slice (t : TypeId) (x : Value) (lo hi mx : Option Value) : PureAt P (Instr.slice t x lo hi mx) := by
  unfold Instr.slice
  refine PureAt.bind (PureAt.underlying t) fun d => ?_
  split
  · split
    · exact PureAt.bind (PureAt.stuck _) fun _ => PureAt.bind (PureAt.sliceBounds _ _ _ _ _ _) fun _ => PureAt.pure _
    · exact PureAt.bind (PureAt.sliceBounds _ _ _ _ _ _) fun _ => PureAt.pure _
  · exact PureAt.bind (PureAt.sliceBounds _ _ _ _ _ _) fun _ => PureAt.bind (PureAt.sizeOf _) fun _ => PureAt.pure _
  · refine PureAt.bind (PureAt.asAddr _) fun a => PureAt.bind (PureAt.underlying _) fun d => ?_
    split
    · exact PureAt.bind (PureAt.sliceBounds _ _ _ _ _ _) fun _ => PureAt.bind (PureAt.sizeOf _) fun _ => PureAt.pure _
    · exact PureAt.stuck _
  · exact PureAt.stuck _
theorem PureAt.sliceAt (t : TypeId) (x : Value) (lo hi mx : Option Value) : PureAt P (Instr.sliceAt t x lo hi mx) := by
  unfold Instr.sliceAt
  refine PureAt.bind (PureAt.underlying t) fun d => ?_
  split
  · exact PureAt.bind (PureAt.sureAddr _) fun _ => PureAt.bind (PureAt.sliceBounds _ _ _ _ _ _) fun _ => PureAt.bind (PureAt.sizeOf _) fun _ => PureAt.pure _
  · exact PureAt.slice _ _ _ _ _
theorem PureAt.index (t : TypeId) (x ix : Value) : PureAt P (Instr.index t x ix) := by
  unfold Instr.index
  refine PureAt.bind (PureAt.asIntOf _) fun ki => PureAt.bind (PureAt.underlying t) fun d => ?_
  split
  · exact PureAt.ite (PureAt.bind (PureAt.sizeOf _) fun _ => PureAt.part _ _ _) (PureAt.boundsPanic _ _ _ _)
  · split
    · exact PureAt.pure _
    · exact PureAt.boundsPanic _ _ _ _
  · exact PureAt.stuck _
theorem PureAt.indexAt (t : TypeId) (x ix : Value) : PureAt P (Instr.indexAt t x ix) := by
  unfold Instr.indexAt
  refine PureAt.bind (PureAt.asIntOf _) fun ki => PureAt.bind (PureAt.underlying t) fun d => ?_
  dsimp only
  repeat' (first | exact PureAt.pure _ | exact PureAt.stuck _ | exact PureAt.unsupported _ | exact PureAt.underlying _ | exact PureAt.sizeOf _ | exact PureAt.typeInfo _ | exact PureAt.program | exact PureAt.boundsPanic _ _ _ _ | exact PureAt.runtimePanic _ | exact PureAt.asIntOf _ | exact PureAt.sureAddr _ | exact PureAt.part _ _ _ | refine PureAt.ite ?_ ?_ | refine PureAt.bind ?_ fun _ => ?_ | split | dsimp only)
theorem PureAt.field (t : TypeId) (x : Value) (f : Nat) : PureAt P (Instr.field t x f) := by
  unfold Instr.field
  refine PureAt.bind (PureAt.underlying t) fun d => ?_
  split
  · split
    · exact PureAt.bind (PureAt.asAgg _) fun _ => PureAt.part _ _ _
    · exact PureAt.stuck _
  · exact PureAt.stuck _
theorem PureAt.extract (t : Value) (i : Nat) : PureAt P (Instr.extract t i) := by
  unfold Instr.extract
  (repeat' (first | exact PureAt.pure _ | exact PureAt.stuck _ | exact PureAt.unsupported _ | exact PureAt.underlying _ | exact PureAt.sizeOf _ | exact PureAt.typeInfo _ | exact PureAt.program | exact PureAt.boundsPanic _ _ _ _ | exact PureAt.runtimePanic _ | exact PureAt.asIntOf _ | exact PureAt.sureAddr _ | exact PureAt.part _ _ _ | refine PureAt.ite ?_ ?_ | refine PureAt.bind ?_ fun _ => ?_ | split | dsimp only))
theorem PureAt.followBlind (l : List FieldStep) : ∀ (t : TypeId) (x : Option Value), PureAt P (Go.followBlind l t x) := by
  induction l with
  | nil => intro t x; exact PureAt.pure _
  | cons s l ih =>
    intro t x
    unfold Go.followBlind
    repeat' (first | exact PureAt.pure _ | exact ih _ _ | exact PureAt.stuck _ | exact PureAt.unsupported _ | exact PureAt.underlying _ | exact PureAt.sizeOf _ | exact PureAt.typeInfo _ | exact PureAt.program | exact PureAt.boundsPanic _ _ _ _ | exact PureAt.runtimePanic _ | exact PureAt.asIntOf _ | exact PureAt.sureAddr _ | exact PureAt.part _ _ _ | refine PureAt.ite ?_ ?_ | refine PureAt.bind ?_ fun _ => ?_ | split | dsimp only)
theorem PureAt.nilAhead : ∀ (n : Nat) (t : TypeId) (v : Value) (name : String), PureAt P (Go.nilAhead n t v name) := by
  intro n
  induction n with
  | zero => intro t v name; exact PureAt.pure _
  | succ n ih =>
    intro t v name
    unfold Go.nilAhead
    repeat' (first | exact PureAt.pure _ | exact ih _ _ _ | exact PureAt.followBlind _ _ _ | exact PureAt.stuck _ | exact PureAt.unsupported _ | exact PureAt.underlying _ | exact PureAt.sizeOf _ | exact PureAt.typeInfo _ | exact PureAt.program | exact PureAt.boundsPanic _ _ _ _ | exact PureAt.runtimePanic _ | exact PureAt.asIntOf _ | exact PureAt.sureAddr _ | exact PureAt.part _ _ _ | refine PureAt.ite ?_ ?_ | refine PureAt.bind ?_ fun _ => ?_ | split | dsimp only)
theorem PureAt.binOp_int (op : BinOp) (t : TypeId) (k k' : IntKind) (a b : Int) : PureAt P (binOp op t (.int k a) (.int k' b)) := by
  cases op <;> simp only [binOp, Op.shift, Op.intArith, Op.intDiv, Op.intBits, Op.intCmp] <;>
    (repeat' (first | exact PureAt.pure _ | exact PureAt.stuck _ | exact PureAt.unsupported _ | exact PureAt.underlying _ | exact PureAt.sizeOf _ | exact PureAt.typeInfo _ | exact PureAt.program | exact PureAt.boundsPanic _ _ _ _ | exact PureAt.runtimePanic _ | exact PureAt.asIntOf _ | exact PureAt.sureAddr _ | exact PureAt.part _ _ _ | refine PureAt.ite ?_ ?_ | refine PureAt.bind ?_ fun _ => ?_ | split | dsimp only))
theorem PureAt.binOp_string (op : BinOp) (t : TypeId) (a b : ByteArray) : PureAt P (binOp op t (.string a) (.string b)) := by
  cases op <;> simp only [binOp, Op.stringOp] <;>
    (repeat' (first | exact PureAt.pure _ | exact PureAt.stuck _ | exact PureAt.unsupported _ | exact PureAt.underlying _ | exact PureAt.sizeOf _ | exact PureAt.typeInfo _ | exact PureAt.program | exact PureAt.boundsPanic _ _ _ _ | exact PureAt.runtimePanic _ | exact PureAt.asIntOf _ | exact PureAt.sureAddr _ | exact PureAt.part _ _ _ | refine PureAt.ite ?_ ?_ | refine PureAt.bind ?_ fun _ => ?_ | split | dsimp only))
theorem PureAt.unary (op : UnOp) (x : Value) : PureAt P (Op.unary op x) := by
  cases op <;> cases x <;> simp only [Op.unary, Op.intArith, Op.intBits] <;>
    (repeat' (first | exact PureAt.pure _ | exact PureAt.stuck _ | exact PureAt.unsupported _ | exact PureAt.underlying _ | exact PureAt.sizeOf _ | exact PureAt.typeInfo _ | exact PureAt.program | exact PureAt.boundsPanic _ _ _ _ | exact PureAt.runtimePanic _ | exact PureAt.asIntOf _ | exact PureAt.sureAddr _ | exact PureAt.part _ _ _ | refine PureAt.ite ?_ ?_ | refine PureAt.bind ?_ fun _ => ?_ | split | dsimp only))
/-- Values of which '==' asks nothing of memory. -/
def tame : Value → Bool
  | .int .. | .bool _ | .string _ | .tuple _ => true
  | _ => false
theorem PureAt.equal_tame (t : TypeId) {x y : Value} (hx : tame x = true) (hy : tame y = true) : PureAt P (Op.equal t x y) := by
  show PureAt P (Op.equalIn (9999 + 1) t x y)
  unfold Op.equalIn
  refine PureAt.bind (PureAt.underlying t) fun d => ?_
  cases x <;> simp only [tame, Bool.false_eq_true] at hx <;> cases y <;> simp only [tame, Bool.false_eq_true] at hy <;> dsimp only <;>
    (split <;> first | exact PureAt.pure _ | exact PureAt.stuck _ | exact PureAt.ite (PureAt.pure _) (PureAt.stuck _) | contradiction)
theorem PureAt.binOp_tame (op : BinOp) (t : TypeId) {x y : Value} (hx : tame x = true) (hy : tame y = true) : PureAt P (binOp op t x y) := by
  have he := PureAt.equal_tame (P := P) t hx hy
  cases x <;> simp only [tame, Bool.false_eq_true] at hx <;> cases y <;> simp only [tame, Bool.false_eq_true] at hy
  case int.int => exact PureAt.binOp_int _ _ _ _ _ _
  case string.string => exact PureAt.binOp_string _ _ _ _
  all_goals
    cases op <;> simp only [binOp] <;> first | exact PureAt.stuck _ | exact PureAt.bind he fun _ => PureAt.pure _
theorem PureAt.eqGuard_tame (op : BinOp) (t : TypeId) (o o' : Operand) {x y : Value} (hx : tame x = true) (hy : tame y = true) : PureAt P (eqGuard op t o o' x y) := by
  unfold eqGuard
  cases x <;> simp only [tame, Bool.false_eq_true] at hx <;> cases y <;> simp only [tame, Bool.false_eq_true] at hy <;>
    (repeat' (first | exact PureAt.pure _ | exact PureAt.stuck _ | exact PureAt.unsupported _ | exact PureAt.underlying _ | exact PureAt.sizeOf _ | exact PureAt.typeInfo _ | exact PureAt.program | exact PureAt.boundsPanic _ _ _ _ | exact PureAt.runtimePanic _ | exact PureAt.asIntOf _ | exact PureAt.asBool _ | exact PureAt.sureAddr _ | exact PureAt.part _ _ _ | refine PureAt.ite ?_ ?_ | refine PureAt.bind ?_ fun _ => ?_ | split | dsimp only))
theorem PureAt.of_underlying {t : TypeId} {d : TypeDesc} (h : P.underlying t = some d) {f : TypeDesc → Sem α} (hf : PureAt P (f d)) : PureAt P (Go.underlying t >>= f) := by
  have hu : ∀ w, (Go.underlying t).run P w = .ok d w := fun w => run_underlying h w
  intro w x w' e
  rw [Sem.run_bind, hu, Result.andThen_ok] at e
  obtain ⟨h1, h2⟩ := hf _ _ _ e
  exact ⟨h1, fun w2 => by rw [Sem.run_bind, hu, Result.andThen_ok, h2]⟩
theorem PureAt.equal_nilp (t e : TypeId) (x : Value) (ht : P.underlying t = some (.pointer e)) : PureAt P (Op.equal t x (.pointer none)) := by
  show PureAt P (Op.equalIn (9999 + 1) t x (.pointer none))
  unfold Op.equalIn
  refine PureAt.of_underlying ht ?_
  dsimp only
  split <;> first | exact PureAt.pure _ | exact PureAt.stuck _ | simp_all
theorem PureAt.equal_nils (t e : TypeId) (x : Value) (n c : Nat) (ht : P.underlying t = some (.slice e)) : PureAt P (Op.equal t x (.slice none n c)) := by
  show PureAt P (Op.equalIn (9999 + 1) t x (.slice none n c))
  unfold Op.equalIn
  refine PureAt.of_underlying ht ?_
  dsimp only
  split <;> first | exact PureAt.pure _ | exact PureAt.stuck _ | simp_all
theorem PureAt.eqGuard_nilp (op : BinOp) (t : TypeId) (o o' : Operand) (x : Value) : PureAt P (eqGuard op t o o' x (.pointer none)) := by
  cases x <;> simp only [eqGuard] <;>
    (repeat' (first | exact PureAt.pure _ | exact PureAt.stuck _ | exact PureAt.unsupported _ | exact PureAt.underlying _ | exact PureAt.sizeOf _ | exact PureAt.typeInfo _ | exact PureAt.program | exact PureAt.boundsPanic _ _ _ _ | exact PureAt.runtimePanic _ | exact PureAt.asIntOf _ | exact PureAt.asBool _ | exact PureAt.sureAddr _ | exact PureAt.part _ _ _ | refine PureAt.ite ?_ ?_ | refine PureAt.bind ?_ fun _ => ?_ | split | dsimp only))
theorem PureAt.eqGuard_nils (op : BinOp) (t : TypeId) (o o' : Operand) (x : Value) (n c : Nat) : PureAt P (eqGuard op t o o' x (.slice none n c)) := by
  cases x <;> simp only [eqGuard] <;>
    (repeat' (first | exact PureAt.pure _ | exact PureAt.stuck _ | exact PureAt.unsupported _ | exact PureAt.underlying _ | exact PureAt.sizeOf _ | exact PureAt.typeInfo _ | exact PureAt.program | exact PureAt.boundsPanic _ _ _ _ | exact PureAt.runtimePanic _ | exact PureAt.asIntOf _ | exact PureAt.asBool _ | exact PureAt.sureAddr _ | exact PureAt.part _ _ _ | refine PureAt.ite ?_ ?_ | refine PureAt.bind ?_ fun _ => ?_ | split | dsimp only))
theorem PureAt.eql_nilp (t e : TypeId) (x : Value) (ht : P.underlying t = some (.pointer e)) : PureAt P (binOp .eql t x (.pointer none)) := by
  have he := PureAt.equal_nilp t e x ht
  cases x <;> simp only [binOp] <;> exact PureAt.bind he fun _ => PureAt.pure _
theorem PureAt.neq_nilp (t e : TypeId) (x : Value) (ht : P.underlying t = some (.pointer e)) : PureAt P (binOp .neq t x (.pointer none)) := by
  have he := PureAt.equal_nilp t e x ht
  cases x <;> simp only [binOp] <;> exact PureAt.bind he fun _ => PureAt.pure _
theorem PureAt.eql_nils (t e : TypeId) (x : Value) (n c : Nat) (ht : P.underlying t = some (.slice e)) : PureAt P (binOp .eql t x (.slice none n c)) := by
  have he := PureAt.equal_nils t e x n c ht
  cases x <;> simp only [binOp] <;> exact PureAt.bind he fun _ => PureAt.pure _
theorem PureAt.neq_nils (t e : TypeId) (x : Value) (n c : Nat) (ht : P.underlying t = some (.slice e)) : PureAt P (binOp .neq t x (.slice none n c)) := by
  have he := PureAt.equal_nils t e x n c ht
  cases x <;> simp only [binOp] <;> exact PureAt.bind he fun _ => PureAt.pure _
end
end Txt
end Go
