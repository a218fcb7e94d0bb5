import Derived.Test.YtkhchfjhmplaiaaRT2
namespace Go
namespace Txt
section
variable {P : Program} {ops : Array Oper}

/-- Only a normal end, and there Qn. -/
def NQ (Qn : Act → World → Prop) : Exit → Act → World → Prop
  | .normal, a, w => Qn a w
  | _, _, _ => False
theorem NQ.noOut {Qn : Act → World → Prop} : ¬ LetsOut (NQ Qn) := fun ⟨_, _, h⟩ => h

/-- The frame behind an operation: its value in its slot; a deferred call besides. -/
def fin (a : Act) (od : Option Deferred) (dst : Option Tmp) (v : Value) : Act :=
  match od with
  | none => a.put dst v
  | some d => ({ a with defers := d :: a.defers } : Act).put dst v
theorem upV.mono {k k' : Option Deferred → Value → World → Prop} (h : ∀ d v w, k d v w → k' d v w) {r : Result Next} (hr : upV P k r) : upV P k' r := by
  cases r with
  | ok n w =>
    cases n <;> simp only [upV] at hr ⊢
    case enter f args => exact hr.mono fun e w' he => by cases e <;> first | exact h _ _ _ he | exact he
    case row => exact hr.mono fun v w' he => h _ _ _ he
    all_goals exact h _ _ _ hr
  | halt x w => exact hr
theorem upV.some {k : Option Deferred → Value → World → Prop} {r : Result Next} (hr : upV P k r) : ∃ d v w, k d v w := by
  cases r with
  | ok n w =>
    cases n <;> simp only [upV] at hr
    case enter f args =>
      obtain ⟨e, w', fr, he, _⟩ := hr []
      cases e <;> first | exact ⟨_, _, _, he⟩ | exact he.elim
    case row =>
      obtain ⟨v, w', he, _⟩ := hr default []
      exact ⟨_, _, _, he⟩
    all_goals exact ⟨_, _, _, hr⟩
  | halt x w => exact hr.elim
theorem wp_iff {o : Oper} {a : Act} {w : World} {K : Act → World → Prop} {Qn : Act → World → Prop} :
    o.wp P a w K (NQ Qn) ↔ upV P (fun d v w' => K (fin a d o.dst v) w') ((execOp a.eval o).run P w) := by
  unfold Oper.wp
  generalize (execOp a.eval o).run P w = r
  cases r with
  | ok n w =>
    cases n <;> simp only [Oper.upon, upV, fin]
    case enter f args =>
      constructor
      · exact fun h => h.mono fun e w' he => by cases e <;> first | exact he | exact (NQ.noOut he).elim
      · exact fun h => h.mono fun e w' he => by cases e <;> first | exact he | exact he.elim
  | halt x w => cases x <;> simp only [Oper.upon, upV, NQ]
/-- One step of the text, with nothing but normal ends. -/
theorem step_iff {i : Nat} {o : Oper} (ho : ops[i]? = some o) {a : Act} {w : World} {K : Act → World → Prop} {Qn : Act → World → Prop} :
    wpOp P ops (NQ Qn) i K a w ↔ if Region.wanted o (yielded ops a.tmps) then upV P (fun d v w' => K (fin a d o.dst v) w') ((execOp a.eval o).run P w) else K (a.put o.dst undef) w := by
  unfold wpOp
  simp only [ho]
  by_cases hw : Region.wanted o (yielded ops a.tmps) = true
  · simp only [hw, if_true]
    rw [wp_iff]
    exact ⟨fun h => h.resolve_right fun h => NQ.noOut h.2, .inl⟩
  · simp only [hw, if_false, Bool.false_eq_true]
theorem fin_getD {a : Act} {d : Option Deferred} {dst : Option Tmp} {v : Value} {t : Tmp} (h : dst ≠ some t) : (fin a d dst v).tmps.getD t undef = a.tmps.getD t undef := by
  cases d <;> cases dst with
  | none => rfl
  | some s =>
    have hne : s ≠ t := fun e => h (by rw [e])
    simp [fin, Act.put, Array.getElem?_setIfInBounds_ne hne]
theorem put_eq_fin (a : Act) (dst : Option Tmp) (v : Value) : a.put dst v = fin a none dst v := rfl
/-- The text's end is reached; a slot that nobody writes on the way holds what it held. -/
theorem text_end {Qn : Act → World → Prop} : ∀ (l : List Nat) (a : Act) (w : World), wpOps P ops (NQ Qn) l a w →
    ∃ a' w', Qn a' w' ∧ ∀ t, (∀ i ∈ l, ∀ o, ops[i]? = some o → o.dst ≠ some t) → a'.tmps.getD t undef = a.tmps.getD t undef := by
  intro l
  induction l with
  | nil => intro a w h; exact ⟨a, w, h, fun _ _ => rfl⟩
  | cons i l ih =>
    intro a w h
    rw [wpOps_cons] at h
    cases ho : ops[i]? with
    | none =>
      simp only [wpOp, ho] at h
      obtain ⟨a', w', h1, h2⟩ := ih _ _ h
      exact ⟨a', w', h1, fun t ht => h2 t fun j hj => ht j (List.mem_cons_of_mem _ hj)⟩
    | some o =>
      rw [step_iff ho] at h
      have key : ∃ d v w1, wpOps P ops (NQ Qn) l (fin a d o.dst v) w1 := by
        split at h
        · exact h.some
        · exact ⟨none, undef, w, h⟩
      obtain ⟨d, v, w1, h⟩ := key
      obtain ⟨a', w', h1, h2⟩ := ih _ _ h
      refine ⟨a', w', h1, fun t ht => ?_⟩
      rw [h2 t fun j hj => ht j (List.mem_cons_of_mem _ hj), fin_getD (ht i List.mem_cons_self o ho)]
/-- All that is asked of the operands holds. -/
def tameAt (P : Program) (q : Quiet) (ops : Array Oper) (a : Act) : Bool :=
  ops.toList.all fun o => !decide (kind P q o = 1) || (tameOp q o a.eval || !Region.wanted o (yielded ops a.tmps))
/-- The check, for two operations i < j whose order is open. -/
def mayPass (P : Program) (q : Quiet) (ops : Array Oper) (x y : Oper) : Bool :=
  x.apart ops y && (decide (kind P q x ≤ 1) || decide (kind P q y ≤ 1) || (decide (kind P q x ≤ 2) && decide (kind P q y ≤ 2)))
def noSelect (o : Oper) : Bool := match o.op with | .select .. => false | _ => true
theorem noSelect_spec {o : Oper} (h : noSelect o = true) : ∀ cs b, o.op ≠ .select cs b := by
  intro cs b e
  simp [noSelect, e] at h
theorem fin_comm {a : Act} {d : Option Deferred} {x y : Option Tmp} {u v : Value} (h : ∀ t, x = some t → y ≠ some t) : fin (a.put x u) d y v = (fin a d y v).put x u := by
  cases d with
  | none => exact Act.put_comm a u v h
  | some d =>
    exact (congrArg (fun z : Act => z.put y v) (Act.put_defers a x u d)).trans (Act.put_comm _ u v h)
theorem eval_const (a : Act) : ∀ v, a.eval (.const v) = v := fun _ => rfl
theorem execOp_fin (o : Oper) (hs : ∀ cs b, o.op ≠ .select cs b) (a : Act) (d : Option Deferred) (dst : Option Tmp) (v : Value) (h : ∀ t, dst = some t → t ∉ o.looksAt ops) :
    execOp (fin a d dst v).eval o = execOp a.eval o := by
  cases d with
  | none => exact execOp_put o hs a dst v h
  | some d => exact (execOp_put o hs { a with defers := d :: a.defers } dst v h).trans (execOp_congr o hs fun x _ => by cases x <;> rfl)
theorem wanted_fin (o : Oper) (a : Act) (d : Option Deferred) (dst : Option Tmp) (v : Value) (h : ∀ t, dst = some t → t ∉ o.looksAt ops) :
    Region.wanted o (yielded ops (fin a d dst v).tmps) = Region.wanted o (yielded ops a.tmps) := by
  cases d with
  | none => exact wanted_put o a dst v h
  | some d => exact wanted_put o { a with defers := d :: a.defers } dst v h
/-- A step that gives a value and leaves the world. -/
theorem step_value {i : Nat} {o : Oper} (ho : ops[i]? = some o) {a : Act} {w : World} {K : Act → World → Prop} {Qn : Act → World → Prop} (hr : Region.wanted o (yielded ops a.tmps) = true → ReadK P o a.eval)
    (h : wpOp P ops (NQ Qn) i K a w) : (Region.wanted o (yielded ops a.tmps) = true ∧ ∃ v, ValAt P o a.eval w v ∧ K (a.put o.dst v) w) ∨
      (Region.wanted o (yielded ops a.tmps) = false ∧ K (a.put o.dst undef) w) := by
  rw [step_iff ho] at h
  split at h
  · rename_i hw
    obtain ⟨v, hv⟩ := hr hw _ _ h
    exact .inl ⟨hw, v, hv, (hv _).1 h⟩
  · rename_i hw
    exact .inr ⟨by simpa using hw, h⟩
theorem valAt_step {i : Nat} {o : Oper} (ho : ops[i]? = some o) {a : Act} {w : World} {K : Act → World → Prop} {Qn : Act → World → Prop} {v : Value}
    (hw : Region.wanted o (yielded ops a.tmps) = true) (hv : ValAt P o a.eval w v) (h : K (a.put o.dst v) w) : wpOp P ops (NQ Qn) i K a w := by
  rw [step_iff ho, if_pos hw]
  exact (hv _).2 h
theorem ValAt.congr {o : Oper} {ρ ρ' : Operand → Value} {w : World} {v : Value} (h : ValAt P o ρ w v) (e : execOp ρ' o = execOp ρ o) : ValAt P o ρ' w v := by
  intro k; rw [e]; exact h k
theorem PureK.congr {o : Oper} {ρ ρ' : Operand → Value} (h : PureK P o ρ) (e : execOp ρ' o = execOp ρ o) : PureK P o ρ' := by
  intro w k hk
  rw [e] at hk
  obtain ⟨v, hv⟩ := h w k hk
  exact ⟨v, fun w2 => (hv w2).congr e⟩
theorem ReadK.congr {o : Oper} {ρ ρ' : Operand → Value} (h : ReadK P o ρ) (e : execOp ρ' o = execOp ρ o) : ReadK P o ρ' := by
  intro w k hk
  rw [e] at hk
  obtain ⟨v, hv⟩ := h w k hk
  exact ⟨v, hv.congr e⟩
/-- i, then j, comes to what j, then i comes to. -/
theorem exchange {i j : Nat} {x y : Oper} (hi : ops[i]? = some x) (hj : ops[j]? = some y) (hap : x.apart ops y = true) (hsx : noSelect x = true) (hsy : noSelect y = true)
    {a : Act} {w : World} {K : Act → World → Prop} {Qn : Act → World → Prop}
    (hk : ((Region.wanted x (yielded ops a.tmps) = true → ReadK P x a.eval) ∧ (Region.wanted y (yielded ops a.tmps) = true → ReadK P y a.eval)) ∨
      (Region.wanted x (yielded ops a.tmps) = true → PureK P x a.eval) ∨ (Region.wanted y (yielded ops a.tmps) = true → PureK P y a.eval))
    (h : wpOp P ops (NQ Qn) i (wpOp P ops (NQ Qn) j K) a w) : wpOp P ops (NQ Qn) j (wpOp P ops (NQ Qn) i K) a w := by
  obtain ⟨h1, h2, h3⟩ := Oper.apart_spec hap
  have h2' : ∀ d, y.dst = some d → x.dst ≠ some d := fun d hy hx => h2 d hx hy
  have ex : ∀ d v, execOp (fin a d y.dst v).eval x = execOp a.eval x := fun d v => execOp_fin x (noSelect_spec hsx) a d _ v h3
  have ey : ∀ d v, execOp (fin a d x.dst v).eval y = execOp a.eval y := fun d v => execOp_fin y (noSelect_spec hsy) a d _ v h1
  have wx : ∀ d v, Region.wanted x (yielded ops (fin a d y.dst v).tmps) = Region.wanted x (yielded ops a.tmps) := fun d v => wanted_fin x a d _ v h3
  have wy : ∀ d v, Region.wanted y (yielded ops (fin a d x.dst v).tmps) = Region.wanted y (yielded ops a.tmps) := fun d v => wanted_fin y a d _ v h1
  rcases hk with ⟨rx, ry⟩ | px | py
  · -- both only read
    have both : ∀ (v : Value), wpOp P ops (NQ Qn) j K (a.put x.dst v) w → (∀ u, K ((a.put x.dst v).put y.dst u) w → wpOp P ops (NQ Qn) i K (a.put y.dst u) w) → wpOp P ops (NQ Qn) j (wpOp P ops (NQ Qn) i K) a w := fun v k1 back => by
      have ry' : Region.wanted y (yielded ops (a.put x.dst v).tmps) = true → ReadK P y (a.put x.dst v).eval := fun hw => by
        rw [put_eq_fin, wy] at hw
        exact (ry hw).congr (by rw [put_eq_fin, ey])
      rcases step_value hj ry' k1 with ⟨w2, u, e2, k2⟩ | ⟨w2, k2⟩
      · rw [put_eq_fin, wy] at w2
        exact valAt_step hj w2 (e2.congr (by rw [put_eq_fin, ey])) (back u k2)
      · rw [put_eq_fin, wy] at w2
        rw [step_iff hj, if_neg (by simp [w2])]
        exact back undef k2
    rcases step_value hi rx h with ⟨w1, v, e1, k1⟩ | ⟨w1, k1⟩
    · refine both v k1 fun u hk => ?_
      refine valAt_step hi (by rw [put_eq_fin, wx]; exact w1) (e1.congr (by rw [put_eq_fin, ex])) ?_
      rw [← Act.put_comm a v u h2]; exact hk
    · refine both undef k1 fun u hk => ?_
      rw [step_iff hi, put_eq_fin, wx, if_neg (by simp [w1])]
      show K ((a.put y.dst u).put x.dst undef) w
      rw [← Act.put_comm a undef u h2]; exact hk
  · -- x is pure
    have rest : ∀ (v : Value), wpOp P ops (NQ Qn) j K (a.put x.dst v) w → (∀ d u w', K ((fin a d y.dst u).put x.dst v) w' → wpOp P ops (NQ Qn) i K (fin a d y.dst u) w') → wpOp P ops (NQ Qn) j (wpOp P ops (NQ Qn) i K) a w := fun v k1 back => by
      rw [step_iff hj, put_eq_fin, wy] at k1
      rw [step_iff hj]
      split at k1
      · rename_i w2
        rw [if_pos w2]
        rw [ey] at k1
        refine k1.mono fun d u w' hk => back d u w' ?_
        rw [← fin_comm h2]; exact hk
      · rename_i w2
        rw [if_neg w2]
        refine back none undef w ?_
        show K ((a.put y.dst undef).put x.dst v) w
        rw [← Act.put_comm a v undef h2]; exact k1
    by_cases w1 : Region.wanted x (yielded ops a.tmps) = true
    · rw [step_iff hi, if_pos w1] at h
      obtain ⟨v, ev⟩ := px w1 _ _ h
      have k1 := (ev w _).1 h
      refine rest v k1 fun d u w' hk => ?_
      exact valAt_step hi (by rw [wx]; exact w1) ((ev w').congr (ex d u)) hk
    · rw [step_iff hi, if_neg w1] at h
      refine rest undef h fun d u w' hk => ?_
      rw [step_iff hi, wx, if_neg w1]; exact hk
  · -- y is pure
    rw [step_iff hi] at h
    have one : ∃ d v w', wpOp P ops (NQ Qn) j K (fin a d x.dst v) w' := by
      split at h
      · exact h.some
      · exact ⟨none, undef, w, h⟩
    have rest : ∀ u, (∀ d v w', wpOp P ops (NQ Qn) j K (fin a d x.dst v) w' → K ((fin a d x.dst v).put y.dst u) w') → wpOp P ops (NQ Qn) i K (a.put y.dst u) w := fun u after => by
      rw [step_iff hi, put_eq_fin, wx, ex]
      split at h
      · rename_i w1
        rw [if_pos w1]
        refine h.mono fun d v w' hk => ?_
        show K (fin (a.put y.dst u) d x.dst v) w'
        rw [fin_comm h2']; exact after _ _ _ hk
      · rename_i w1
        rw [if_neg w1]
        show K ((a.put y.dst u).put x.dst undef) w
        rw [← Act.put_comm a undef u h2]; exact after none undef w h
    by_cases w2 : Region.wanted y (yielded ops a.tmps) = true
    · obtain ⟨d, v, w', hone⟩ := one
      rw [step_iff hj, wy, if_pos w2, ey] at hone
      obtain ⟨u, eu⟩ := py w2 _ _ hone
      refine valAt_step hj w2 (eu w) (rest u fun d v w' hk => ?_)
      rw [step_iff hj, wy, if_pos w2, ey] at hk
      exact (eu w' _).1 hk
    · rw [step_iff hj, if_neg w2]
      refine rest undef fun d v w' hk => ?_
      rw [step_iff hj, wy, if_neg w2] at hk
      exact hk
end
end Txt
end Go
