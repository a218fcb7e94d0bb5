import Derived.Test.YtmdfkbckpekchaaRT2
namespace Go
namespace Txt
section
variable {P : Program} {ops : Array Oper}

/-- Only a normal end, and there Qn. -/
def NQ (Qn : Act → World → Prop) : Exit → Act → World → Prop
  | .normal, a, w => Qn a w
  | _, _, _ => False
theorem NQ.noOut {Qn : Act → World → Prop} : ¬ LetsOut (NQ Qn) := fun ⟨_, _, h⟩ => h

/-- The frame behind an operation: its value in its slot; a deferred call besides. -/
def fin (a : Act) (od : Option Deferred) (dst : Option Tmp) (v : Value) : Act :=
  match od with
  | none => a.put dst v
  | some d => ({ a with defers := d :: a.defers } : Act).put dst v
/-- What a run of an operation comes to, said of its value. -/
def upV (P : Program) (k : Option Deferred → Value → World → Prop) : Result Next → Prop
  | .ok (.value v) w => k none v w
  | .ok .skip w => k none undef w
  | .ok (.defer d) w => k (some d) undef w
  | .ok (.enter f args) w => Calls P f args w fun e w' => match e with | .returned v => k none v w' | _ => False
  | .ok (.row row args) w => Rows P row args w (k none)
  | _ => False
theorem upV.mono {k k' : Option Deferred → Value → World → Prop} (h : ∀ d v w, k d v w → k' d v w) {r : Result Next} (hr : upV P k r) : upV P k' r := by
  cases r with
  | ok n w =>
    cases n <;> simp only [upV] at hr ⊢
    case enter f args => exact hr.mono fun e w' he => by cases e <;> first | exact h _ _ _ he | exact he
    case row => exact hr.mono fun v w' he => h _ _ _ he
    all_goals exact h _ _ _ hr
  | halt x w => exact hr
theorem upV.some {k : Option Deferred → Value → World → Prop} {r : Result Next} (hr : upV P k r) : ∃ d v w, k d v w := by
  cases r with
  | ok n w =>
    cases n <;> simp only [upV] at hr
    case enter f args =>
      obtain ⟨e, w', fr, he, _⟩ := hr []
      cases e <;> first | exact ⟨_, _, _, he⟩ | exact he.elim
    case row =>
      obtain ⟨v, w', he, _⟩ := hr default []
      exact ⟨_, _, _, he⟩
    all_goals exact ⟨_, _, _, hr⟩
  | halt x w => exact hr.elim
theorem wp_iff {o : Oper} {a : Act} {w : World} {K : Act → World → Prop} {Qn : Act → World → Prop} :
    o.wp P a w K (NQ Qn) ↔ upV P (fun d v w' => K (fin a d o.dst v) w') ((execOp a.eval o).run P w) := by
  unfold Oper.wp
  generalize (execOp a.eval o).run P w = r
  cases r with
  | ok n w =>
    cases n <;> simp only [Oper.upon, upV, fin]
    case enter f args =>
      constructor
      · exact fun h => h.mono fun e w' he => by cases e <;> first | exact he | exact (NQ.noOut he).elim
      · exact fun h => h.mono fun e w' he => by cases e <;> first | exact he | exact he.elim
  | halt x w => cases x <;> simp only [Oper.upon, upV, NQ]
/-- One step of the text, with nothing but normal ends. -/
theorem step_iff {i : Nat} {o : Oper} (ho : ops[i]? = some o) {a : Act} {w : World} {K : Act → World → Prop} {Qn : Act → World → Prop} :
    wpOp P ops (NQ Qn) i K a w ↔ if Region.wanted o (yielded ops a.tmps) then upV P (fun d v w' => K (fin a d o.dst v) w') ((execOp a.eval o).run P w) else K (a.put o.dst undef) w := by
  unfold wpOp
  simp only [ho]
  by_cases hw : Region.wanted o (yielded ops a.tmps) = true
  · simp only [hw, if_true]
    rw [wp_iff]
    exact ⟨fun h => h.resolve_right fun h => NQ.noOut h.2, .inl⟩
  · simp only [hw, if_false, Bool.false_eq_true]
theorem fin_getD {a : Act} {d : Option Deferred} {dst : Option Tmp} {v : Value} {t : Tmp} (h : dst ≠ some t) : (fin a d dst v).tmps.getD t undef = a.tmps.getD t undef := by
  cases d <;> cases dst with
  | none => rfl
  | some s =>
    have hne : s ≠ t := fun e => h (by rw [e])
    simp [fin, Act.put, Array.getElem?_setIfInBounds_ne hne]
theorem put_eq_fin (a : Act) (dst : Option Tmp) (v : Value) : a.put dst v = fin a none dst v := rfl
/-- The text's end is reached; a slot that nobody writes on the way holds what it held. -/
theorem text_end {Qn : Act → World → Prop} : ∀ (l : List Nat) (a : Act) (w : World), wpOps P ops (NQ Qn) l a w →
    ∃ a' w', Qn a' w' ∧ ∀ t, (∀ i ∈ l, ∀ o, ops[i]? = some o → o.dst ≠ some t) → a'.tmps.getD t undef = a.tmps.getD t undef := by
  intro l
  induction l with
  | nil => intro a w h; exact ⟨a, w, h, fun _ _ => rfl⟩
  | cons i l ih =>
    intro a w h
    rw [wpOps_cons] at h
    cases ho : ops[i]? with
    | none =>
      simp only [wpOp, ho] at h
      obtain ⟨a', w', h1, h2⟩ := ih _ _ h
      exact ⟨a', w', h1, fun t ht => h2 t fun j hj => ht j (List.mem_cons_of_mem _ hj)⟩
    | some o =>
      rw [step_iff ho] at h
      have key : ∃ d v w1, wpOps P ops (NQ Qn) l (fin a d o.dst v) w1 := by
        split at h
        · exact h.some
        · exact ⟨none, undef, w, h⟩
      obtain ⟨d, v, w1, h⟩ := key
      obtain ⟨a', w', h1, h2⟩ := ih _ _ h
      refine ⟨a', w', h1, fun t ht => ?_⟩
      rw [h2 t fun j hj => ht j (List.mem_cons_of_mem _ hj), fin_getD (ht i List.mem_cons_self o ho)]
/-- All operands of which tameness is asked are tame. -/
def tameAt (P : Program) (ops : Array Oper) (a : Act) : Bool := ops.toList.all fun o => (senses P o).all fun x => tame (a.eval x)
/-- The check, for two operations i < j whose order is open. -/
def mayPass (P : Program) (ops : Array Oper) (x y : Oper) : Bool :=
  x.apart ops y && (decide (kind P x ≤ 1) || decide (kind P y ≤ 1) || (decide (kind P x ≤ 2) && decide (kind P y ≤ 2)))
def noSelect (o : Oper) : Bool := match o.op with | .select .. => false | _ => true
theorem noSelect_spec {o : Oper} (h : noSelect o = true) : ∀ cs b, o.op ≠ .select cs b := by
  intro cs b e
  simp [noSelect, e] at h
theorem fin_comm {a : Act} {d : Option Deferred} {x y : Option Tmp} {u v : Value} (h : ∀ t, x = some t → y ≠ some t) : fin (a.put x u) d y v = (fin a d y v).put x u := by
  cases d with
  | none => exact Act.put_comm a u v h
  | some d =>
    exact (congrArg (fun z : Act => z.put y v) (Act.put_defers a x u d)).trans (Act.put_comm _ u v h)
theorem eval_const (a : Act) : ∀ v, a.eval (.const v) = v := fun _ => rfl
theorem execOp_fin (o : Oper) (hs : ∀ cs b, o.op ≠ .select cs b) (a : Act) (d : Option Deferred) (dst : Option Tmp) (v : Value) (h : ∀ t, dst = some t → t ∉ o.looksAt ops) :
    execOp (fin a d dst v).eval o = execOp a.eval o := by
  cases d with
  | none => exact execOp_put o hs a dst v h
  | some d => exact (execOp_put o hs { a with defers := d :: a.defers } dst v h).trans (execOp_congr o hs fun x _ => by cases x <;> rfl)
theorem wanted_fin (o : Oper) (a : Act) (d : Option Deferred) (dst : Option Tmp) (v : Value) (h : ∀ t, dst = some t → t ∉ o.looksAt ops) :
    Region.wanted o (yielded ops (fin a d dst v).tmps) = Region.wanted o (yielded ops a.tmps) := by
  cases d with
  | none => exact wanted_put o a dst v h
  | some d => exact wanted_put o { a with defers := d :: a.defers } dst v h
/-- A step that gives a value and leaves the world. -/
theorem step_value {i : Nat} {o : Oper} (ho : ops[i]? = some o) {a : Act} {w : World} {K : Act → World → Prop} {Qn : Act → World → Prop} (hr : ReadV P o a.eval)
    (h : wpOp P ops (NQ Qn) i K a w) : (Region.wanted o (yielded ops a.tmps) = true ∧ ∃ v, (execOp a.eval o).run P w = .ok (.value v) w ∧ K (a.put o.dst v) w) ∨
      (Region.wanted o (yielded ops a.tmps) = false ∧ K (a.put o.dst undef) w) := by
  rw [step_iff ho] at h
  split at h
  · rename_i hw
    refine .inl ⟨hw, ?_⟩
    cases hrun : (execOp a.eval o).run P w with
    | ok n w' =>
      obtain ⟨v, rfl, rfl⟩ := hr _ _ _ hrun
      rw [hrun] at h
      exact ⟨v, rfl, h⟩
    | halt x w' => rw [hrun] at h; exact h.elim
  · rename_i hw
    exact .inr ⟨by simpa using hw, h⟩
/-- i, then j, comes to what j, then i comes to. -/
theorem exchange {i j : Nat} {x y : Oper} (hi : ops[i]? = some x) (hj : ops[j]? = some y) (hap : x.apart ops y = true) (hsx : noSelect x = true) (hsy : noSelect y = true)
    {a : Act} {w : World} {K : Act → World → Prop} {Qn : Act → World → Prop}
    (hk : (ReadV P x a.eval ∧ ReadV P y a.eval) ∨ PureV P x a.eval ∨ PureV P y a.eval)
    (h : wpOp P ops (NQ Qn) i (wpOp P ops (NQ Qn) j K) a w) : wpOp P ops (NQ Qn) j (wpOp P ops (NQ Qn) i K) a w := by
  obtain ⟨h1, h2, h3⟩ := Oper.apart_spec hap
  have h2' : ∀ d, y.dst = some d → x.dst ≠ some d := fun d hy hx => h2 d hx hy
  have ex : ∀ d v, execOp (fin a d y.dst v).eval x = execOp a.eval x := fun d v => execOp_fin x (noSelect_spec hsx) a d _ v h3
  have ey : ∀ d v, execOp (fin a d x.dst v).eval y = execOp a.eval y := fun d v => execOp_fin y (noSelect_spec hsy) a d _ v h1
  have wx : ∀ d v, Region.wanted x (yielded ops (fin a d y.dst v).tmps) = Region.wanted x (yielded ops a.tmps) := fun d v => wanted_fin x a d _ v h3
  have wy : ∀ d v, Region.wanted y (yielded ops (fin a d x.dst v).tmps) = Region.wanted y (yielded ops a.tmps) := fun d v => wanted_fin y a d _ v h1
  -- a step of x that gives one value at every world of the way
  rcases hk with ⟨rx, ry⟩ | px | py
  · -- both only read
    rcases step_value hi rx h with ⟨w1, v, e1, k1⟩ | ⟨w1, k1⟩
    · have ry' : ReadV P y (a.put x.dst v).eval := by
        intro w n w' e
        rw [put_eq_fin, ey] at e
        exact ry _ _ _ e
      rcases step_value hj ry' k1 with ⟨w2, u, e2, k2⟩ | ⟨w2, k2⟩
      · rw [put_eq_fin, ey] at e2
        rw [put_eq_fin, wy] at w2
        rw [step_iff hj, if_pos w2, e2]
        show wpOp P ops (NQ Qn) i K (a.put y.dst u) w
        rw [step_iff hi, put_eq_fin, wx, if_pos w1, ex, e1]
        show K ((a.put y.dst u).put x.dst v) w
        rw [← Act.put_comm a v u h2]; exact k2
      · rw [put_eq_fin, wy] at w2
        rw [step_iff hj, if_neg (by simp [w2])]
        rw [step_iff hi, put_eq_fin, wx, if_pos w1, ex, e1]
        show K ((a.put y.dst undef).put x.dst v) w
        rw [← Act.put_comm a v undef h2]; exact k2
    · have ry' : ReadV P y (a.put x.dst undef).eval := by
        intro w n w' e
        rw [put_eq_fin, ey] at e
        exact ry _ _ _ e
      rcases step_value hj ry' k1 with ⟨w2, u, e2, k2⟩ | ⟨w2, k2⟩
      · rw [put_eq_fin, ey] at e2
        rw [put_eq_fin, wy] at w2
        rw [step_iff hj, if_pos w2, e2]
        show wpOp P ops (NQ Qn) i K (a.put y.dst u) w
        rw [step_iff hi, put_eq_fin, wx, if_neg (by simp [w1])]
        show K ((a.put y.dst u).put x.dst undef) w
        rw [← Act.put_comm a undef u h2]; exact k2
      · rw [put_eq_fin, wy] at w2
        rw [step_iff hj, if_neg (by simp [w2])]
        rw [step_iff hi, put_eq_fin, wx, if_neg (by simp [w1])]
        show K ((a.put y.dst undef).put x.dst undef) w
        rw [← Act.put_comm a undef undef h2]; exact k2
  · -- x is pure
    rcases step_value hi px.read h with ⟨w1, v, e1, k1⟩ | ⟨w1, k1⟩
    · obtain ⟨v', e0, _, ev⟩ := px _ _ _ e1
      obtain rfl : v = v' := by cases e0; rfl
      rw [step_iff hj, put_eq_fin, wy] at k1
      rw [step_iff hj]
      split at k1
      · rename_i w2
        rw [if_pos w2]
        rw [ey] at k1
        refine k1.mono fun d u w' hk => ?_
        rw [step_iff hi, wx, if_pos w1, ex, ev w']
        show K ((fin a d y.dst u).put x.dst v) w'
        rw [← fin_comm h2]; exact hk
      · rename_i w2
        rw [if_neg w2, step_iff hi, put_eq_fin, wx, if_pos w1, ex, ev w]
        show K ((a.put y.dst undef).put x.dst v) w
        rw [← Act.put_comm a v undef h2]; exact k1
    · rw [step_iff hj, put_eq_fin, wy] at k1
      rw [step_iff hj]
      split at k1
      · rename_i w2
        rw [if_pos w2]
        rw [ey] at k1
        refine k1.mono fun d u w' hk => ?_
        rw [step_iff hi, wx, if_neg (by simp [w1])]
        rw [← fin_comm h2]; exact hk
      · rename_i w2
        rw [if_neg w2, step_iff hi, put_eq_fin, wx, if_neg (by simp [w1])]
        show K ((a.put y.dst undef).put x.dst undef) w
        rw [← Act.put_comm a undef undef h2]; exact k1
  · -- y is pure
    have py' : ∀ d v, PureV P y (fin a d x.dst v).eval := fun d v w n w' e => by
      rw [ey] at e ⊢
      exact py _ _ _ e
    rw [step_iff hi] at h
    -- y's value, off one way through x
    by_cases w2 : Region.wanted y (yielded ops a.tmps) = true
    · have val : ∃ u, ∀ w, (execOp a.eval y).run P w = .ok (.value u) w := by
        have one : ∃ d v w', wpOp P ops (NQ Qn) j K (fin a d x.dst v) w' := by
          split at h
          · exact h.some
          · exact ⟨none, undef, w, h⟩
        obtain ⟨d, v, w', hone⟩ := one
        rcases step_value hj (py' d v).read hone with ⟨_, u, e, _⟩ | ⟨w3, _⟩
        · rw [ey] at e
          obtain ⟨u', e0, _, eu⟩ := py _ _ _ e
          exact ⟨u', eu⟩
        · rw [wy, w2] at w3; cases w3
      obtain ⟨u, eu⟩ := val
      have after : ∀ d v w', wpOp P ops (NQ Qn) j K (fin a d x.dst v) w' → K ((fin a d x.dst v).put y.dst u) w' := fun d v w' hk => by
        rw [step_iff hj, wy, if_pos w2, ey, eu w'] at hk
        exact hk
      rw [step_iff hj, if_pos w2, eu w]
      show wpOp P ops (NQ Qn) i K (a.put y.dst u) w
      rw [step_iff hi, put_eq_fin, wx, ex]
      split at h
      · rename_i w1
        rw [if_pos w1]
        refine h.mono fun d v w' hk => ?_
        show K (fin (a.put y.dst u) d x.dst v) w'
        rw [fin_comm h2']; exact after _ _ _ hk
      · rename_i w1
        rw [if_neg w1]
        show K ((a.put y.dst u).put x.dst undef) w
        rw [← Act.put_comm a undef u h2]; exact after none undef w h
    · have after : ∀ d v w', wpOp P ops (NQ Qn) j K (fin a d x.dst v) w' → K ((fin a d x.dst v).put y.dst undef) w' := fun d v w' hk => by
        rw [step_iff hj, wy, if_neg w2] at hk
        exact hk
      rw [step_iff hj, if_neg w2]
      rw [step_iff hi, put_eq_fin, wx, ex]
      split at h
      · rename_i w1
        rw [if_pos w1]
        refine h.mono fun d v w' hk => ?_
        show K (fin (a.put y.dst undef) d x.dst v) w'
        rw [fin_comm h2']; exact after _ _ _ hk
      · rename_i w1
        rw [if_neg w1]
        show K ((a.put y.dst undef).put x.dst undef) w
        rw [← Act.put_comm a undef undef h2]; exact after none undef w h
end
end Txt
end Go
