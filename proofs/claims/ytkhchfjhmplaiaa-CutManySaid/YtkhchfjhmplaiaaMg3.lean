/- Texts laid together: M1 H1 R6 HP2 H2 HP3 H3a. -/
import Derived.Test.YtkhchfjhmplaiaaMg2
import Derived.Maps.OwnSet
import Derived.Maps.OwnOps
import Derived.Maps.Views
import Derived.Carry
import Derived.Outline
/- A map with integers for keys, seen as a function: what each key holds. -/
namespace Go
open Go.Maps (Keyed)
/-- An element is kept as it is. -/
def asIs (v : Value) : Option (DataW Value × List MemPlace) := some (.held v, [])
def MapF (w : World) (P : Program) (k : TypeId) (b n : Nat) (f : Int → Option Value) : Prop :=
  ∃ D : DataW Value, w.ownsMap P k asIs b n D ∧ Maps.IsMap D ∧ (∀ x z, D.atKey (.int .i64 x) (.held z) = .held ((f x).getD z)) ∧ ∀ x, Maps.has D (.int .i64 x) = (f x).isSome
section
variable {w w' : World} {P : Program} {k : TypeId} {b n : Nat} {f : Int → Option Value}
theorem MapF.made (w : World) (P : Program) (k : TypeId) : MapF (w.alloc (.map #[] 0)) P k w.heap.size 0 (fun _ => none) :=
  ⟨.map [], World.ownsMap_made w P k asIs, ⟨[], rfl⟩, fun _ _ => rfl, fun _ => rfl⟩
theorem MapF.lt (h : MapF w P k b n f) : b < w.heap.size := let ⟨_, h1, _⟩ := h; h1.lt
theorem MapF.block (h : MapF w P k b n f) (hb : w'.heap[b]? = w.heap[b]?) : MapF w' P k b n f := by
  obtain ⟨D, ⟨es, clock, h1, h2⟩, h3⟩ := h
  exact ⟨D, ⟨es, clock, hb.trans h1, h2⟩, h3⟩
theorem MapF.keep {S : List Nat} (h : MapF w P k b n f) (hk : Keep S w w') (hs : b ∉ S) : MapF w' P k b n f := h.block (hk.block b h.lt hs)
theorem MapF.drew (h : MapF w P k b n f) : MapF w.drew P k b n f := h
theorem MapF.mono (h : MapF w P k b n f) {n' : Nat} (hn : n ≤ n') : MapF w P k b n' f := let ⟨D, h1, h2⟩ := h; ⟨D, h1.mono hn, h2⟩
theorem MapF.notCells (h : MapF w P k b n f) {c : Nat} {cs : Array Value} {T : TypeId} {g : Nat × Nat} (hc : w.heap[c]? = some (.cells cs T g)) : b ≠ c := by
  rintro rfl
  obtain ⟨D, ⟨es, clock, h1, _⟩, _⟩ := h
  rw [hc] at h1
  cases h1
theorem keyI64 {P : Program} {k : TypeId} (hk : P.underlying k = some (.int .i64)) {x : Int} (hx : (Lit.int .i64 x).wf = true) : keyOf P k (.int .i64 x) = some (.int .i64 x) := by
  simp [keyOf, hk, mapKey, hx]
end
/-- 'm[k]' at the operation. -/
theorem wpList_lookup_f {P : Program} (w : World) {ops : Array Oper} {rest : List Oper} {o : Oper} {a : Act} {Q : Exit → Act → World → Prop}
    (hg : o.guard = none) (m x : Operand) (t : TypeId) (hop : o.op = Op.lookup t m x false)
    (k e : TypeId) (ht : P.underlying t = some (.map k e)) (hki : P.underlying k = some (.int .i64)) (z : Value) (hz : (zeroValue e).run P w = .ok z w) (b n : Nat) (f : Int → Option Value)
    (hm : a.eval m = .map (some b)) (hown : MapF w P k b n f) (key : Int) (hx : a.eval x = .int .i64 key) (hwf : (Lit.int .i64 key).wf = true)
    (hK : wpList P ops Q rest (a.put o.dst ((f key).getD z)) w) : wpList P ops Q (o :: rest) a w := by
  obtain ⟨D, h1, h2, h3, _⟩ := hown
  refine wpList_plain hg fun K' hK' => ?_
  obtain ⟨v, ps, hrun, hv⟩ := h1.lookup (Maps.int_keyed hki) ht hz (show asIs z = some (.held z, []) from rfl) (keyI64 hki hwf)
  have hve : v = (f key).getD z := by
    rw [h3] at hv
    unfold asIs at hv
    injection hv with hv
    injection hv with hv _
    injection hv
  subst hve
  unfold Oper.wp
  simp [execOp, hop, hm, hx, hrun, Result.andThen]
  exact hK' _ _ hK
/-- 'v, ok := m[k]' at the operation. -/
theorem wpList_lookup_f2 {P : Program} (w : World) {ops : Array Oper} {rest : List Oper} {o : Oper} {a : Act} {Q : Exit → Act → World → Prop}
    (hg : o.guard = none) (m x : Operand) (t : TypeId) (hop : o.op = Op.lookup t m x true)
    (k e : TypeId) (ht : P.underlying t = some (.map k e)) (hki : P.underlying k = some (.int .i64)) (z : Value) (hz : (zeroValue e).run P w = .ok z w) (b n : Nat) (f : Int → Option Value)
    (hm : a.eval m = .map (some b)) (hown : MapF w P k b n f) (key : Int) (hx : a.eval x = .int .i64 key) (hwf : (Lit.int .i64 key).wf = true)
    (hK : wpList P ops Q rest (a.put o.dst (.tuple #[(f key).getD z, .bool (f key).isSome])) w) : wpList P ops Q (o :: rest) a w := by
  obtain ⟨D, h1, h2, h3, h4⟩ := hown
  refine wpList_lookup_own_ok w hg m x t hop k e (Maps.int_keyed hki) ht asIs hz (.held z) [] rfl b n D hm h1 _ _ hx (keyI64 hki hwf) fun v ps hv => ?_
  rw [h3] at hv
  unfold asIs at hv
  injection hv with hv
  injection hv with hv _
  injection hv with hv
  subst hv
  rw [h4]
  exact hK
/-- 'm[k] = v' at the operation. -/
theorem wpList_update_f {P : Program} (w : World) {ops : Array Oper} {rest : List Oper} {o : Oper} {a : Act} {Q : Exit → Act → World → Prop}
    (hg : o.guard = none) (m x v : Operand) (t : TypeId) (hop : o.op = Op.mapUpdate t m x v)
    (k e : TypeId) (ht : P.underlying t = some (.map k e)) (hki : P.underlying k = some (.int .i64)) (b n : Nat) (f : Int → Option Value)
    (hm : a.eval m = .map (some b)) (hown : MapF w P k b n f) (hn : n < maxLen) (key : Int) (val : Value) (hx : a.eval x = .int .i64 key) (hv : a.eval v = val) (hwf : (Lit.int .i64 key).wf = true)
    (hK : ∀ w', MapF w' P k b (n + 1) (fun y => if y = key then some val else f y) → w.grownBy w' (some b) → wpList P ops Q rest (a.put o.dst undef) w') : wpList P ops Q (o :: rest) a w := by
  obtain ⟨D, h1, h2, h3, h4⟩ := hown
  have hkey := keyI64 hki hwf
  have hkl := (Maps.int_keyed hki).key hkey
  refine wpList_mapUpdate_own w hg m x v t hop k e (Maps.int_keyed hki) ht asIs b n D hm h1 hn _ val _ hx hv hkey (.held val) [] rfl fun w' hown' hgr => hK w' ⟨D.put (.int .i64 key) (.held val), hown', ?_, fun y z => ?_, fun y => ?_⟩ hgr
  · obtain ⟨es, rfl⟩ := h2
    exact ⟨_, rfl⟩
  · by_cases e1 : y = key
    · subst e1
      rw [Maps.atKey_put_same h2 hkl]; simp
    · rw [Maps.atKey_put_other (fun h => e1 (by injection h)), h3]; simp [e1]
  · by_cases e1 : y = key
    · subst e1
      rw [Maps.has_put_same h2 hkl]; simp
    · rw [Maps.has_put_other (fun h => e1 (by injection h)), h4]; simp [e1]
end Go
namespace Go.Proofs.Ytkhchfjhmplaiaa
open Go.RowKit
theorem zeroB (w : World) : (zeroValue 4).run Try.prog w = .ok (.bool false) w := by kernel_rfl
set_option maxRecDepth 100000 in
set_option maxHeartbeats 2000000 in
theorem check_ok {a : Option Addr} {n c : Nat} {h : List Ln} {w : World} (hv : LnsV w a n c h) (hk : HOk h) :
    Calls Try.prog 51 #[.slice a n c] w fun e w' => e = .returned (.int .i64 0) ∧ Keep [] w w' := by
  have hmm := @run_makeMap Try.prog
  have hn2 : n ≤ 200 := by have := hk.len; have := hv.len; omega
  have HV := Lib.hid hv
  have HK := Lib.hid hk
  have HL := Lib.hid hv.len
  clear hv hk
  go_enter Try.func51, Try.ntmps51
  go_wp2_with fail
  go_loopw [14] (fun i wr => ∃ k : Nat, k ≤ n ∧ i = .int .i64 k ∧ Keep [] w wr ∧ Hid (MapF wr Try.prog 3 w.heap.size k (markF h 2 k)) ∧ Hid (MapF wr Try.prog 3 (w.heap.size + 1) k (markF h 3 k))) (fun i _ => n - (intOf i).toNat)
  case atStart =>
    have e2 : markF h 2 0 = fun _ => none := funext fun x => by simp [markF, saidB]
    have e3 : markF h 3 0 = fun _ => none := funext fun x => by simp [markF, saidB]
    refine ⟨0, by omega, rfl, ((Keep.refl _ _).alloc _).alloc _, Lib.hid ?_, Lib.hid ?_⟩
    · rw [e2]; exact (MapF.made w Try.prog 3).keep ((Keep.refl [] _).alloc _) (by simp)
    · rw [e3]; have h9 := MapF.made (w.alloc (.map #[] 0)) Try.prog 3; rwa [show (w.alloc (.map #[] 0)).heap.size = w.heap.size + 1 by simp] at h9
  case round =>
    obtain ⟨k, hk, rfl, hkw, HS, HT⟩ := hrel
    by_cases hlt : k < n
    · have hlk : k < h.length := by rw [HL.out]; exact hlt
      have he := HK.out.ev k hlk
      obtain ⟨b, off, rfl, c0, c1, c2⟩ := (HV.out.keep hkw (by simp)).at_ hlt
      have hsend := Lib.hid (mark_send HK.out hlk)
      have htake := Lib.hid (mark_take HK.out hlk)
      have hsame2 := Lib.hid (markF_same (h := h) (g := 2) (k := k))
      have hsame3 := Lib.hid (markF_same (h := h) (g := 3) (k := k))
      have hput2 := Lib.hid (markF_put (h := h) (g := 2) (k := k))
      have hput3 := Lib.hid (markF_put (h := h) (g := 3) (k := k))
      have hwf := wf_msg he.2.2.2.2.1 he.2.2.2.2.2
      generalize lat h k = L at *
      obtain ⟨q, g, u⟩ := L
      dsimp only at *
      have HWF := Lib.hid hwf
      clear hwf
      obtain ⟨b1, b2, b3, b4⟩ : decide (g < 1) = false ∧ decide (3 < g) = false ∧ decide (q < 0) = false ∧ decide (8 ≤ q) = false := by simp; omega
      obtain ⟨b5, b6⟩ : decide (u < 0) = false ∧ decide (999 < u) = false := by simp; omega
      rcases (by omega : g = 1 ∨ g = 2 ∨ g = 3) with hg | hg | hg
      · subst hg
        have HS1 : Hid (MapF (wr.alloc (.cells #[.int .i64 q, .int .i64 1, .int .i64 u] 27)) Try.prog 3 w.heap.size (k + 1) (markF h 2 (k + 1))) := Lib.hid (by rw [hsame2.out (by decide)]; exact (HS.out.keep ((Keep.refl [] _).alloc _) (by simp)).mono (by omega))
        have HT1 : Hid (MapF (wr.alloc (.cells #[.int .i64 q, .int .i64 1, .int .i64 u] 27)) Try.prog 3 (w.heap.size + 1) (k + 1) (markF h 3 (k + 1))) := Lib.hid (by rw [hsame3.out (by decide)]; exact (HT.out.keep ((Keep.refl [] _).alloc _) (by simp)).mono (by omega))
        go_wp2_with (first | (with_reducible refine Txt.wp_region_text mixed quiet (by decide +kernel) ?_) | (with_reducible refine Txt.text_done (by kernel_rfl) ?_))
        go_roundw
        case measure => simp [intOf]; omega
        case rel => exact ⟨k + 1, by omega, by go_num, hkw.alloc _, HS1, HT1⟩
      · subst hg
        have hn0 := hsend.out rfl
        have HSa := Lib.hid (HS.out.keep ((Keep.refl [] _).alloc (.cells #[.int .i64 q, .int .i64 2, .int .i64 u] 27)) (by simp))
        have HTa := Lib.hid (HT.out.keep ((Keep.refl [] _).alloc (.cells #[.int .i64 q, .int .i64 2, .int .i64 u] 27)) (by simp))
        go_wp2_with (first | (with_reducible refine Txt.wp_region_text mixed quiet (by decide +kernel) ?_) | (with_reducible refine Txt.text_done (by kernel_rfl) ?_) | (at_lookup; refine wpList_lookup_f _ rfl _ _ 103 rfl 3 4 Try.underlying103 Try.underlying3 (.bool false) (zeroB _) w.heap.size k (markF h 2 k) rfl HSa.out u rfl HWF.out ?_) | (at_mapUpdate; refine wpList_update_f _ rfl _ _ _ 103 rfl 3 4 Try.underlying103 Try.underlying3 w.heap.size k (markF h 2 k) rfl HSa.out (by unfold maxLen; omega) u (.bool true) rfl rfl HWF.out ?_; intro w2 hm2 hgr2; have HM2 := Lib.hid hm2; have HGR := Lib.hid hgr2; clear hm2 hgr2))
        go_roundw
        case measure => simp [intOf]; omega
        case rel =>
          refine ⟨k + 1, by omega, by go_num, (hkw.alloc (.cells #[.int .i64 q, .int .i64 2, .int .i64 u] 27)).grown HGR.out (fun x hx => by cases hx; exact .inr (Nat.le_refl _)), Lib.hid ?_, Lib.hid ?_⟩
          · rw [hput2.out (by trivial)]; exact HM2.out
          · rw [hsame3.out (by decide)]
            exact (HTa.out.keep (Keep.ofGrown (S := [w.heap.size]) HGR.out (fun x hx => by cases hx; simp)) (by simp)).mono (by omega)
      · subst hg
        obtain ⟨hn0, hn1⟩ := htake.out rfl
        have HSa := Lib.hid (HS.out.keep ((Keep.refl [] _).alloc (.cells #[.int .i64 q, .int .i64 3, .int .i64 u] 27)) (by simp))
        have HTa := Lib.hid (HT.out.keep ((Keep.refl [] _).alloc (.cells #[.int .i64 q, .int .i64 3, .int .i64 u] 27)) (by simp))
        go_wp2_with (first | (with_reducible refine Txt.wp_region_text mixed quiet (by decide +kernel) ?_) | (with_reducible refine Txt.text_done (by kernel_rfl) ?_) | (at_lookup; refine wpList_lookup_f _ rfl _ _ 103 rfl 3 4 Try.underlying103 Try.underlying3 (.bool false) (zeroB _) (w.heap.size + 1) k (markF h 3 k) rfl HTa.out u rfl HWF.out ?_) | (at_lookup; refine wpList_lookup_f _ rfl _ _ 103 rfl 3 4 Try.underlying103 Try.underlying3 (.bool false) (zeroB _) w.heap.size k (markF h 2 k) rfl HSa.out u rfl HWF.out ?_) | (at_mapUpdate; refine wpList_update_f _ rfl _ _ _ 103 rfl 3 4 Try.underlying103 Try.underlying3 (w.heap.size + 1) k (markF h 3 k) rfl HTa.out (by unfold maxLen; omega) u (.bool true) rfl rfl HWF.out ?_; intro w2 hm2 hgr2; have HM2 := Lib.hid hm2; have HGR := Lib.hid hgr2; clear hm2 hgr2))
        go_roundw
        case measure => simp [intOf]; omega
        case rel =>
          refine ⟨k + 1, by omega, by go_num, (hkw.alloc (.cells #[.int .i64 q, .int .i64 3, .int .i64 u] 27)).grown HGR.out (fun x hx => by cases hx; exact .inr (Nat.le_succ _)), Lib.hid ?_, Lib.hid ?_⟩
          · rw [hsame2.out (by decide)]
            exact (HSa.out.keep (Keep.ofGrown (S := [(w.heap.size + 1)]) HGR.out (fun x hx => by cases hx; simp)) (by simp)).mono (by omega)
          · rw [hput3.out (by trivial)]; exact HM2.out
    · go_wp2_with fail
      go_ret
      exact ⟨rfl, hkw⟩
end Go.Proofs.Ytkhchfjhmplaiaa
namespace Go
/-- What the call's own appended row reads as. -/
theorem IntsV.ofOwn {w : World} {base e : Nat} {v : Value} {n : Nat} {zs : List Int} (h : w.ownsRow base e 1 v n (zs.map (Value.int .i64))) (hw : ∀ z ∈ zs, (Lit.int .i64 z).wf = true) :
    ∃ a c, v = .slice a n c ∧ IntsV w a n c zs ∧ ∀ x, a = some x → base ≤ x.block := by
  obtain ⟨hl, h⟩ := h
  have hn : zs.length = n := by simpa using hl
  rcases h with ⟨rfl, rfl⟩ | ⟨g, cap, cur, rfl, hb, hg, hnc, hcm, hcs, ht⟩
  · exact ⟨none, 0, rfl, ⟨hn, Nat.le_refl _, Nat.zero_le _, hw, fun h => absurd h (by decide)⟩, fun x hx => by cases hx⟩
  · refine ⟨_, _, rfl, ⟨hn, hnc, hcm, hw, fun h0 => ⟨g, 0, rfl, fun i hi => ?_⟩⟩, fun x hx => by cases hx; exact hb⟩
    rw [Nat.zero_add, cell_of_row w g i cur e (0, 0) hg]
    have : (cur.toList.take (n * 1))[i]? = (zs.map (Value.int .i64))[i]? := by rw [ht]
    rw [List.getElem?_take, if_pos (by omega)] at this
    simp only [Array.getElem?_toList] at this
    rw [this]
    simp [List.getD_eq_getElem?_getD, hn ▸ hi]
theorem wf_small {z : Int} (h0 : -1000000 ≤ z) (h1 : z ≤ 1000000) : (Lit.int .i64 z).wf = true := by
  have h2 : IntKind.i64.min = -9223372036854775808 := by decide
  have h3 : IntKind.i64.max = 9223372036854775807 := by decide
  simp [Lit.wf, h2, h3]
  omega
end Go
namespace Go
/-- A component, or 0. -/
def geTo (xs ys : List Int) (k : Nat) : Bool := (List.range k).all fun j => decide (xs.getD j 0 ≤ ys.getD j 0)
def ltTo (xs ys : List Int) (k : Nat) : Bool := (List.range k).any fun j => decide (xs.getD j 0 < ys.getD j 0)
def eqTo (xs ys : List Int) (k : Nat) : Bool := (List.range k).all fun j => decide (xs.getD j 0 = ys.getD j 0)
def lessL (xs ys : List Int) : Bool := geTo xs ys (max xs.length ys.length) && ltTo xs ys (max xs.length ys.length)
def alikeL (xs ys : List Int) : Bool := eqTo xs ys (max xs.length ys.length)
def joinL (xs ys : List Int) : List Int := (List.range (max xs.length ys.length)).map fun j => max (xs.getD j 0) (ys.getD j 0)
def lowL (xs : List Int) : List Int := xs.map fun x => max x 0
theorem geTo_succ (xs ys : List Int) (k : Nat) : geTo xs ys (k + 1) = (geTo xs ys k && decide (xs.getD k 0 ≤ ys.getD k 0)) := by simp [geTo, List.range_succ]
theorem ltTo_succ (xs ys : List Int) (k : Nat) : ltTo xs ys (k + 1) = (ltTo xs ys k || decide (xs.getD k 0 < ys.getD k 0)) := by simp [ltTo, List.range_succ]
theorem eqTo_succ (xs ys : List Int) (k : Nat) : eqTo xs ys (k + 1) = (eqTo xs ys k && decide (xs.getD k 0 = ys.getD k 0)) := by simp [eqTo, List.range_succ]
theorem geTo_no {xs ys : List Int} {k m : Nat} (h : k < m) (hn : ys.getD k 0 < xs.getD k 0) : geTo xs ys m = false := by
  rw [geTo, List.all_eq_false]
  exact ⟨k, List.mem_range.2 h, by simpa using hn⟩
theorem eqTo_no {xs ys : List Int} {k m : Nat} (h : k < m) (hn : xs.getD k 0 ≠ ys.getD k 0) : eqTo xs ys m = false := by
  rw [eqTo, List.all_eq_false]
  exact ⟨k, List.mem_range.2 h, by simpa using hn⟩
/-- What the call's own appended row reads as. -/
theorem IntsV.ofOwn0 {w : World} {base e : Nat} {v : Value} {n : Nat} {zs : List Int} (h : w.ownsRow base e 1 v n (zs.map (Value.int .i64))) (hw : ∀ z ∈ zs, (Lit.int .i64 z).wf = true) :
    ∃ a c, v = .slice a n c ∧ IntsV w a n c zs := by
  obtain ⟨hl, h⟩ := h
  have hn : zs.length = n := by simpa using hl
  rcases h with ⟨rfl, rfl⟩ | ⟨g, cap, cur, rfl, _, hg, hnc, hcm, hcs, ht⟩
  · exact ⟨none, 0, rfl, hn, Nat.le_refl _, Nat.zero_le _, hw, fun h => absurd h (by decide)⟩
  · refine ⟨_, _, rfl, hn, hnc, hcm, hw, fun h0 => ⟨g, 0, rfl, fun i hi => ?_⟩⟩
    rw [Nat.zero_add, cell_of_row w g i cur e (0, 0) hg]
    have : (cur.toList.take (n * 1))[i]? = (zs.map (Value.int .i64))[i]? := by rw [ht]
    rw [List.getElem?_take, if_pos (by omega)] at this
    simp only [Array.getElem?_toList] at this
    rw [this]
    simp [List.getD_eq_getElem?_getD, hn ▸ hi]
theorem IntsV.wfAt {w : World} {a : Option Addr} {n c : Nat} {zs : List Int} (h : IntsV w a n c zs) (k : Nat) : (Lit.int .i64 (zs.getD k 0)).wf = true := by
  rw [List.getD_eq_getElem?_getD]
  cases hk : zs[k]? with
  | none => decide
  | some z => exact h.wf z (List.mem_of_getElem? hk)
theorem IntsV.look {w : World} {a : Option Addr} {n c : Nat} {zs : List Int} (h : IntsV w a n c zs) (k : Nat) :
    (k < n ∧ ∃ b off, a = some ⟨b, off, none⟩ ∧ w.cell? ⟨b, off + k, none⟩ = some (.int .i64 (zs.getD k 0))) ∨ (n ≤ k ∧ zs.getD k 0 = 0) := by
  by_cases hk : k < n
  · obtain ⟨b, off, rfl, hc⟩ := h.cells (by omega)
    exact .inl ⟨hk, b, off, rfl, hc k hk⟩
  · exact .inr ⟨by omega, by have := h.len; simp [List.getD_eq_getElem?_getD, List.getElem?_eq_none (show zs.length ≤ k by omega)]⟩
theorem wf_max {x y : Int} (h : (Lit.int .i64 x).wf = true) (h' : (Lit.int .i64 y).wf = true) : (Lit.int .i64 (max x y)).wf = true := by
  rcases Int.le_total x y with h1 | h1
  · rw [Int.max_eq_right h1]; exact h'
  · rw [Int.max_eq_left h1]; exact h
end Go
namespace Go
theorem joinTo_succ (xs ys : List Int) (k : Nat) : ((List.range (k + 1)).map fun j => max (xs.getD j 0) (ys.getD j 0)) = ((List.range k).map fun j => max (xs.getD j 0) (ys.getD j 0)) ++ [max (xs.getD k 0) (ys.getD k 0)] := by simp [List.range_succ]
end Go
namespace Go
theorem eqTo_iff {xs ys : List Int} (h : xs.length = ys.length) : eqTo xs ys xs.length = true ↔ xs = ys := by
  constructor
  · intro he
    refine List.ext_getElem h fun i h1 h2 => ?_
    have := List.all_eq_true.1 he i (List.mem_range.2 h1)
    simpa [List.getD_eq_getElem?_getD, h1, h2] using this
  · rintro rfl
    exact List.all_eq_true.2 fun i _ => by simp
theorem lowTo_succ (zs : List Int) (k : Nat) (h : k < zs.length) : lowL (zs.take (k + 1)) = lowL (zs.take k) ++ [max (zs.getD k 0) 0] := by
  rw [List.take_succ_eq_append_getElem h, lowL, lowL, List.map_append]
  congr 1
  simp [List.getD_eq_getElem?_getD, h]
end Go
namespace Go.Proofs.Ytkhchfjhmplaiaa
open Go.RowKit
set_option maxHeartbeats 400000 in
theorem part_any {a : Option Addr} {n c : Nat} {zs : List Int} {w : World} (hv : IntsV w a n c zs) (k : Nat) :
    Calls Try.prog 62 #[.slice a n c, .int .i64 k] w fun e w' => e = .returned (.int .i64 (zs.getD k 0)) ∧ w = w' := by
  have hl := hv.len
  by_cases hk : k < n
  · obtain ⟨b, off, rfl, hc⟩ := hv.cells (by omega)
    have hck := hc k hk
    clear hc hv hl
    generalize zs.getD k 0 = z at *
    go_enter Try.func62, Try.ntmps62
    go_wp2_with fail
    go_ret
    exact ⟨rfl, rfl⟩
  · have hz : zs.getD k 0 = 0 := by simp [List.getD_eq_getElem?_getD, List.getElem?_eq_none (show zs.length ≤ k by omega)]
    rw [hz]
    clear hz hv hl
    go_enter Try.func62, Try.ntmps62
    go_wp2_with fail
    go_ret
    exact ⟨rfl, rfl⟩
set_option maxHeartbeats 1000000 in
theorem less_any {a1 a2 : Option Addr} {n1 c1 n2 c2 : Nat} {xs ys : List Int} {w : World} (hx : IntsV w a1 n1 c1 xs) (hy : IntsV w a2 n2 c2 ys) :
    Calls Try.prog 27 #[.slice a1 n1 c1, .slice a2 n2 c2] w fun e w' => e = .returned (.bool (lessL xs ys)) ∧ w = w' := by
  have hM : max xs.length ys.length = max n1 n2 := by rw [hx.len, hy.len]
  have hM2 : max n1 n2 ≤ maxLen := by have := hx.room; have := hx.most; have := hy.room; have := hy.most; omega
  unfold maxLen at hM2
  have HX := Lib.hid hx
  have HY := Lib.hid hy
  have HM := Lib.hid hM
  clear hx hy hM
  go_enter Try.func27, Try.ntmps27
  go_wp2_with fail
  all_goals
    go_loop [5, 14] (fun ls i => ∃ k : Nat, k ≤ max n1 n2 ∧ i = .int .i64 k ∧ ls = .bool (ltTo xs ys k) ∧ Hid (geTo xs ys k = true)) (fun _ i => max n1 n2 - (intOf i).toNat)
    case atStart => exact ⟨0, by omega, rfl, rfl, rfl⟩
    case round =>
      obtain ⟨k, hk, rfl, rfl, hge⟩ := hrel
      by_cases hlt : k < max n1 n2
      · have e1 := Lib.hid (ltTo_succ xs ys k)
        have e2 := Lib.hid (geTo_succ xs ys k)
        have e3 := Lib.hid (@geTo_no xs ys k (max n1 n2) hlt)
        generalize hb : ltTo xs ys k = b at *
        have HB := Lib.hid hb
        clear hb
        have hpx := Lib.hid (part_any HX.out k)
        have hpy := Lib.hid (part_any HY.out k)
        generalize xs.getD k 0 = x at *
        generalize ys.getD k 0 = y at *
        go_wp2_with (first | (go_at_call 62; (with_reducible refine (hpx.out).mono ?_); rintro e w' ⟨rfl, rfl⟩) | (go_at_call 62; (with_reducible refine (hpy.out).mono ?_); rintro e w' ⟨rfl, rfl⟩))
        · go_ret
          exact ⟨ret_bool (by rw [lessL, HM.out, e3.out (by assumption)]; rfl), rfl⟩
        all_goals
          go_round
          case rel => exact ⟨k + 1, by omega, by go_num, by rw [e1.out]; simp_all, by show geTo xs ys (k + 1) = true; rw [e2.out, hge.out]; simp_all⟩
          case measure => simp [intOf]; omega
      · go_wp2_with fail
        go_ret
        exact ⟨ret_bool (by rw [lessL, HM.out, show max n1 n2 = k by omega, hge.out]; rfl), rfl⟩
set_option maxHeartbeats 1000000 in
theorem equal_any {a1 a2 : Option Addr} {n1 c1 n2 c2 : Nat} {xs ys : List Int} {w : World} (hx : IntsV w a1 n1 c1 xs) (hy : IntsV w a2 n2 c2 ys) :
    Calls Try.prog 34 #[.slice a1 n1 c1, .slice a2 n2 c2] w fun e w' => e = .returned (.bool (decide (xs = ys))) ∧ Keep [] w w' := by
  have hl1 := hx.len
  have hl2 := hy.len
  have hb1 := hx.room
  have hb2 := hx.most
  unfold maxLen at hb2
  have HX := Lib.hid hx
  have HY := Lib.hid hy
  have HL1 := Lib.hid hl1
  have HL2 := Lib.hid hl2
  clear hx hy hl1 hl2
  by_cases hn : n1 = n2
  · subst hn
    go_enter Try.func34, Try.ntmps34
    go_wp2_with fail
    go_loopw [13] (fun i wr => ∃ k : Nat, k ≤ n1 ∧ i = .int .i64 k ∧ Keep [] w wr ∧ Hid (eqTo xs ys k = true)) (fun i _ => n1 - (intOf i).toNat)
    case atStart => exact ⟨0, by omega, rfl, Keep.refl _ _, rfl⟩
    case round =>
      obtain ⟨k, hk, rfl, hkw, hge⟩ := hrel
      by_cases hlt : k < n1
      · have e2 := Lib.hid (eqTo_succ xs ys k)
        have e3 := Lib.hid (@eqTo_no xs ys k n1 hlt)
        obtain ⟨b1, o1, rfl, hc1⟩ := HX.out.cells (by omega)
        obtain ⟨b2, o2, rfl, hc2⟩ := HY.out.cells (by omega)
        have hd1 := hkw.cell (hc1 k hlt) (by simp)
        have hd2 := hkw.cell (hc2 k hlt) (by simp)
        clear hc1 hc2 HX HY
        generalize xs.getD k 0 = x at *
        generalize ys.getD k 0 = y at *
        go_wp2_with (first | (with_reducible refine Txt.wp_region_text mixed quiet (by decide +kernel) ?_) | (with_reducible refine Txt.text_done (by kernel_rfl) ?_))
        all_goals first | (go_ret; exact ⟨ret_bool (by
            have hne : ¬ xs = ys := fun he => by
              have h1 := (eqTo_iff (HL1.out.trans HL2.out.symm)).2 he
              rw [HL1.out, e3.out (by simp_all)] at h1
              cases h1
            simp [hne]), hkw.drew⟩) | go_roundw
        all_goals first | (case rel => exact ⟨k + 1, by omega, by go_num, hkw.drew, by show eqTo xs ys (k + 1) = true; rw [e2.out, hge.out]; simp_all⟩) | (case measure => simp [intOf]; omega) | skip
      · have hkn := Lib.hid (show n1 = k by omega)
        go_wp2_with fail
        go_ret
        exact ⟨ret_bool (by
          have he := (eqTo_iff (HL1.out.trans HL2.out.symm)).1 (by rw [HL1.out, hkn.out]; exact hge.out)
          simp [he]), hkw⟩
  · have hne : ((n1 : Int) != (n2 : Int)) = true := by rw [bne_iff_ne]; omega
    go_enter Try.func34, Try.ntmps34
    go_wp2_with fail
    go_ret
    exact ⟨ret_bool (by
      have : ¬ xs = ys := fun he => hn (by rw [← HL1.out, ← HL2.out, he])
      simp [this]), Keep.refl _ _⟩
def joinTo (xs ys : List Int) (k : Nat) : List Int := (List.range k).map fun j => max (xs.getD j 0) (ys.getD j 0)
set_option maxRecDepth 100000 in
set_option maxHeartbeats 1000000 in
theorem join_any {a1 a2 : Option Addr} {n1 c1 n2 c2 : Nat} {xs ys : List Int} {w : World} (hx : IntsV w a1 n1 c1 xs) (hy : IntsV w a2 n2 c2 ys) (hr1 : n1 * 8 ≤ 140737488351232) (hr2 : n2 * 8 ≤ 140737488351232) :
    Calls Try.prog 61 #[.slice a1 n1 c1, .slice a2 n2 c2] w fun e w' => ∃ v, e = .returned v ∧ Keep [] w w' ∧ w'.ownsRow w.heap.size 3 1 v (max n1 n2) ((joinL xs ys).map (Value.int .i64)) := by
  have hM : max xs.length ys.length = max n1 n2 := by rw [hx.len, hy.len]
  have HX := Lib.hid hx
  have HY := Lib.hid hy
  have HM := Lib.hid hM
  clear hx hy hM
  obtain ⟨i0, hi, hz0, hz1, hz2⟩ := info_parts info3
  go_enter Try.func61, Try.ntmps61
  go_wp2_with fail
  all_goals
    go_loopw [5, 12] (fun out i wr => ∃ k : Nat, k ≤ max n1 n2 ∧ i = .int .i64 k ∧ Keep [] w wr ∧ wr.ownsRow w.heap.size 3 1 out k ((joinTo xs ys k).map (Value.int .i64))) (fun _ i _ => max n1 n2 - (intOf i).toNat)
    case atStart => exact ⟨0, by omega, rfl, Keep.refl _ _, World.ownsRow_nil _ _ _ _⟩
    case round =>
      obtain ⟨k, hk, rfl, hkw, hown⟩ := hrel
      by_cases hlt : k < max n1 n2
      · have e1 := Lib.hid (show joinTo xs ys (k + 1) = joinTo xs ys k ++ [max (xs.getD k 0) (ys.getD k 0)] from joinTo_succ xs ys k)
        have hpx := Lib.hid (part_any (HX.out.keep hkw (by simp)) k)
        have hpy := Lib.hid (part_any (HY.out.keep hkw (by simp)) k)
        have HOWN := Lib.hid hown
        clear hown
        generalize joinTo xs ys k = js at *
        generalize xs.getD k 0 = x at *
        generalize ys.getD k 0 = y at *
        by_cases hxy : x < y
        · have hmx : max x y = y := by omega
          have HMX := Lib.hid hmx
          clear hmx
          have hsz := hkw.size
          go_wp2_with (first | (go_at_call 62; (with_reducible refine (hpx.out).mono ?_); rintro e w' ⟨rfl, rfl⟩) | (go_at_call 62; (with_reducible refine (hpy.out).mono ?_); rintro e w' ⟨rfl, rfl⟩) | (at_builtin; refine wpList_append_own _ rfl _ _ 22 rfl w.heap.size 3 i0 (.int .i64 0) 1 8 Try.underlying22 hi hz0 hz1 hz2 rfl (by decide) _ _ _ rfl (HOWN.out.alloc _) ⟨wr.heap.size, 0, none⟩ 1 1 [.int .i64 y] rfl rfl (cell_one_new _ _ _) (by intro u hu; simp at hu; subst hu; rfl) (by unfold maxLen; omega) (by omega) (by simp; omega) ?_; intro v' w1 hown1 hgr1 _))
          go_roundw
          case rel => exact ⟨k + 1, by omega, by go_num, (hkw.alloc _).grown hgr1 (fun b hb => .inr (HOWN.out.lt b hb).1), by rw [e1.out, HMX.out, List.map_append]; exact hown1⟩
          case measure => simp [intOf]; omega
        · have hmx : max x y = x := by omega
          have HMX := Lib.hid hmx
          clear hmx
          have hsz := hkw.size
          go_wp2_with (first | (go_at_call 62; (with_reducible refine (hpx.out).mono ?_); rintro e w' ⟨rfl, rfl⟩) | (go_at_call 62; (with_reducible refine (hpy.out).mono ?_); rintro e w' ⟨rfl, rfl⟩) | (at_builtin; refine wpList_append_own _ rfl _ _ 22 rfl w.heap.size 3 i0 (.int .i64 0) 1 8 Try.underlying22 hi hz0 hz1 hz2 rfl (by decide) _ _ _ rfl (HOWN.out.alloc _) ⟨wr.heap.size, 0, none⟩ 1 1 [.int .i64 x] rfl rfl (cell_one_new _ _ _) (by intro u hu; simp at hu; subst hu; rfl) (by unfold maxLen; omega) (by omega) (by simp; omega) ?_; intro v' w1 hown1 hgr1 _))
          go_roundw
          case rel => exact ⟨k + 1, by omega, by go_num, (hkw.alloc _).grown hgr1 (fun b hb => .inr (HOWN.out.lt b hb).1), by rw [e1.out, HMX.out, List.map_append]; exact hown1⟩
          case measure => simp [intOf]; omega
      · have hkM : k = max n1 n2 := by omega
        have HK := Lib.hid hkM
        clear hkM
        go_wp2_with fail
        go_ret
        have hz : joinTo xs ys k = joinL xs ys := by rw [HK.out, ← HM.out]; rfl
        exact ⟨_, rfl, hkw, by rw [← hz, ← HK.out]; exact hown⟩
end Go.Proofs.Ytkhchfjhmplaiaa
namespace Go
open Go.RowKit
def lastIx (h : List Ln) (p : Int) : Nat → Option Nat
  | 0 => none
  | k + 1 => if (lat h k).q = p then some k else lastIx h p k
def sendIx (h : List Ln) (u : Int) : Nat → Option Nat
  | 0 => none
  | k + 1 => if (lat h k).g = 2 ∧ (lat h k).u = u then some k else sendIx h u k
def zeros8 : List Int := List.replicate 8 0
def bump (c : List Int) (p : Nat) : List Int := c.set p (c.getD p 0 + 1)
def cstep (h : List Ln) (k : Nat) (cs : List (List Int)) : List Int :=
  bump (if (lat h k).g = 3 then joinL ((lastIx h (lat h k).q k).elim zeros8 fun i => cs.getD i []) ((sendIx h (lat h k).u k).elim [] fun i => cs.getD i []) else (lastIx h (lat h k).q k).elim zeros8 fun i => cs.getD i []) (lat h k).q.toNat
def clks (h : List Ln) : Nat → List (List Int)
  | 0 => []
  | k + 1 => clks h k ++ [cstep h k (clks h k)]
def clk (h : List Ln) (i : Nat) : List Int := cstep h i (clks h i)
theorem clks_len (h : List Ln) (k : Nat) : (clks h k).length = k := by
  induction k with
  | zero => rfl
  | succ k ih => simp [clks, ih]
theorem clks_getD (h : List Ln) (k i : Nat) (hi : i < k) : (clks h k).getD i [] = clk h i := by
  induction k with
  | zero => omega
  | succ k ih =>
    rw [clks]
    by_cases e : i = k
    · subst e
      simp [List.getD_eq_getElem?_getD, clks_len, clk]
    · have := ih (by omega)
      rw [List.getD_eq_getElem?_getD] at this ⊢
      rw [List.getElem?_append_left (by rw [clks_len]; omega)]
      exact this
theorem lastIx_lt {h : List Ln} {p : Int} {k i : Nat} (hi : lastIx h p k = some i) : i < k ∧ (lat h i).q = p ∧ ∀ j, i < j → j < k → (lat h j).q ≠ p := by
  induction k with
  | zero => cases hi
  | succ k ih =>
    rw [lastIx] at hi
    split at hi
    · rename_i hq
      obtain rfl := Option.some.inj hi
      exact ⟨by omega, hq, fun j h1 h2 => by omega⟩
    · rename_i hq
      obtain ⟨h1, h2, h3⟩ := ih hi
      refine ⟨by omega, h2, fun j h4 h5 => ?_⟩
      by_cases e : j = k
      · rw [e]; exact hq
      · exact h3 j h4 (by omega)
theorem lastIx_none {h : List Ln} {p : Int} {k : Nat} (hi : lastIx h p k = none) : ∀ j, j < k → (lat h j).q ≠ p := by
  induction k with
  | zero => intro j hj; omega
  | succ k ih =>
    rw [lastIx] at hi
    split at hi
    · cases hi
    · rename_i hq
      intro j hj
      by_cases e : j = k
      · rw [e]; exact hq
      · exact ih hi j (by omega)
theorem sendIx_lt {h : List Ln} {u : Int} {k i : Nat} (hi : sendIx h u k = some i) : i < k ∧ (lat h i).g = 2 ∧ (lat h i).u = u := by
  induction k with
  | zero => cases hi
  | succ k ih =>
    rw [sendIx] at hi
    split at hi
    · rename_i hq
      obtain rfl := Option.some.inj hi
      exact ⟨by omega, hq⟩
    · obtain ⟨h1, h2⟩ := ih hi
      exact ⟨by omega, h2⟩
theorem sendIx_none {h : List Ln} {u : Int} {k : Nat} (hi : sendIx h u k = none) : ∀ j, j < k → ¬ ((lat h j).g = 2 ∧ (lat h j).u = u) := by
  induction k with
  | zero => intro j hj; omega
  | succ k ih =>
    rw [sendIx] at hi
    split at hi
    · cases hi
    · rename_i hq
      intro j hj
      by_cases e : j = k
      · rw [e]; exact hq
      · exact ih hi j (by omega)
theorem sendIx_take {h : List Ln} (hk : HOk h) {k : Nat} (hlt : k < h.length) (hg : (lat h k).g = 3) : ∃ j, sendIx h (lat h k).u k = some j := by
  cases hs : sendIx h (lat h k).u k with
  | some j => exact ⟨j, rfl⟩
  | none =>
    obtain ⟨j, h1, h2, h3⟩ := hk.sent k hlt hg
    exact absurd ⟨h2, h3⟩ (sendIx_none hs j h1)
/-- A clock: eight small numbers. -/
structure Clk (B : Int) (c : List Int) : Prop where
  len : c.length = 8
  bd : ∀ x ∈ c, 0 ≤ x ∧ x ≤ B
theorem Clk.more {B B' : Int} {c : List Int} (h : Clk B c) (hB : B ≤ B') : Clk B' c := ⟨h.len, fun x hx => by have := h.bd x hx; omega⟩
theorem Clk.at_ {B : Int} {c : List Int} (h : Clk B c) (h0 : 0 ≤ B) (i : Nat) : 0 ≤ c.getD i 0 ∧ c.getD i 0 ≤ B := by
  rw [List.getD_eq_getElem?_getD]
  cases hi : c[i]? with
  | none => exact ⟨Int.le_refl _, h0⟩
  | some x => exact h.bd x (List.mem_of_getElem? hi)
theorem zeros8_clk : Clk 0 zeros8 := ⟨rfl, fun x hx => by simp [zeros8] at hx; omega⟩
theorem bump_clk {B : Int} {c : List Int} (h : Clk B c) (h0 : 0 ≤ B) (p : Nat) : Clk (B + 1) (bump c p) := by
  refine ⟨by simp [bump, h.len], fun x hx => ?_⟩
  rcases List.mem_or_eq_of_mem_set hx with h1 | h1
  · have := h.bd x h1; omega
  · have := h.at_ h0 p; omega
theorem joinL_getD (a b : List Int) (i : Nat) (hi : i < max a.length b.length) : (joinL a b).getD i 0 = max (a.getD i 0) (b.getD i 0) := by
  simp [joinL, List.getD_eq_getElem?_getD, hi]
theorem join_clk {B : Int} {a b : List Int} (ha : Clk B a) (hb : Clk B b) (h0 : 0 ≤ B) : Clk B (joinL a b) := by
  refine ⟨by simp [joinL, ha.len, hb.len], fun x hx => ?_⟩
  unfold joinL at hx
  obtain ⟨i, _, rfl⟩ := List.mem_map.1 hx
  have := ha.at_ h0 i
  have := hb.at_ h0 i
  omega
theorem join_nil {B : Int} {a : List Int} (ha : Clk B a) (h0 : 0 ≤ B) : joinL a [] = a := by
  refine List.ext_getElem (by simp [joinL]) fun i h1 h2 => ?_
  have := ha.at_ h0 i
  simp [joinL, List.getD_eq_getElem?_getD, h2] at this ⊢
  omega
theorem clk_clk {h : List Ln} (hk : HOk h) : ∀ (k i : Nat), i < k → i < h.length → Clk (i + 1) (clk h i) := by
  intro k
  induction k with
  | zero => intro i hi; omega
  | succ k ih =>
    intro i hi hl
    have hlast : ∀ p, Clk (i : Int) ((lastIx h p i).elim zeros8 fun j => (clks h i).getD j []) := fun p => by
      cases hj : lastIx h p i with
      | none => exact zeros8_clk.more (by omega)
      | some j =>
        have := lastIx_lt hj
        show Clk (i : Int) ((clks h i).getD j [])
        rw [clks_getD h i j this.1]
        exact (ih j (by omega) (by omega)).more (by omega)
    unfold clk cstep
    refine bump_clk ?_ (by omega) _
    split
    · rename_i hg
      obtain ⟨j, hj⟩ := sendIx_take hk hl hg
      have := sendIx_lt hj
      refine join_clk (hlast _) ?_ (by omega)
      rw [hj]
      show Clk (i : Int) ((clks h i).getD j [])
      rw [clks_getD h i j this.1]
      exact (ih j (by omega) (by omega)).more (by omega)
    · exact hlast _
theorem clk_ok {h : List Ln} (hk : HOk h) (i : Nat) (hl : i < h.length) : Clk (i + 1) (clk h i) := clk_clk hk (i + 1) i (by omega) hl
/-- One clock, by those ahead. -/
theorem clk_eq (h : List Ln) (k : Nat) : clk h k = bump (if (lat h k).g = 3 then joinL ((lastIx h (lat h k).q k).elim zeros8 (clk h)) ((sendIx h (lat h k).u k).elim [] (clk h)) else (lastIx h (lat h k).q k).elim zeros8 (clk h)) (lat h k).q.toNat := by
  have e1 : ((lastIx h (lat h k).q k).elim zeros8 fun i => (clks h k).getD i []) = (lastIx h (lat h k).q k).elim zeros8 (clk h) := by
    cases hj : lastIx h (lat h k).q k with
    | none => rfl
    | some j => exact clks_getD h k j (lastIx_lt hj).1
  have e2 : ((sendIx h (lat h k).u k).elim [] fun i => (clks h k).getD i []) = (sendIx h (lat h k).u k).elim [] (clk h) := by
    cases hj : sendIx h (lat h k).u k with
    | none => rfl
    | some j => exact clks_getD h k j (sendIx_lt hj).1
  unfold clk cstep
  rw [e1, e2]
  rfl
end Go
namespace Go.Proofs.Ytkhchfjhmplaiaa
open Go.RowKit
theorem info22 : (Try.prog.info? 22).map (fun i => (i.zero, i.size, i.bytes)) = some (some (.slice none 0 0), 1, 24) := by kernel_rfl
theorem zeroS (w : World) : (zeroValue 22).run Try.prog w = .ok (.slice none 0 0) w := by kernel_rfl
theorem mk37 (w : World) : (Instr.makeSlice 37 (.int .i64 8) (.int .i64 8)).run Try.prog w = .ok (.slice (some ⟨w.heap.size, 0, none⟩) 8 8) (w.alloc (.cells #[.slice none 0 0, .slice none 0 0, .slice none 0 0, .slice none 0 0, .slice none 0 0, .slice none 0 0, .slice none 0 0, .slice none 0 0] 22)) := by kernel_rfl
theorem mk22 (w : World) : (Instr.makeSlice 22 (.int .i64 8) (.int .i64 8)).run Try.prog w = .ok (.slice (some ⟨w.heap.size, 0, none⟩) 8 8) (w.alloc (.cells #[.int .i64 0, .int .i64 0, .int .i64 0, .int .i64 0, .int .i64 0, .int .i64 0, .int .i64 0, .int .i64 0] 3)) := by kernel_rfl
/-- The clocks of k events in memory: where the last one of each place lies, and the one of each message. -/
structure Kept (w : World) (B Lb Sb k : Nat) (h : List Ln) (V Z : Nat → Value) : Prop where
  clk : ∀ i, i < k → w.ownsRow B 3 1 (V i) 8 ((Go.clk h i).map (Value.int .i64))
  zero : ∀ p, p < 8 → w.ownsRow B 3 1 (Z p) 8 (zeros8.map (Value.int .i64))
  last : w.heap[Lb]? = some (.cells ((List.range 8).map fun (p : Nat) => (lastIx h (p : Int) k).elim (Z p) V).toArray 22 (0, 0))
  sent : MapF w Try.prog 3 Sb k (fun x => (sendIx h x k).map V)
theorem own_form {w : World} {B e n : Nat} {v : Value} {zs : List Int} (h : w.ownsRow B e 1 v n (zs.map (Value.int .i64))) (hn : 0 < n) : ∃ g cap, v = .slice (some ⟨g, 0, none⟩) n cap ∧ B ≤ g ∧ g < w.heap.size ∧ n ≤ cap ∧ cap ≤ maxLen ∧ (∀ i, i < n → w.cell? ⟨g, i, none⟩ = some (.int .i64 (zs.getD i 0))) ∧ ∀ i, w.frozen? ⟨g, i, none⟩ = false := by
  obtain ⟨hl, h⟩ := h
  have hlen : zs.length = n := by simpa using hl
  rcases h with ⟨_, h0⟩ | ⟨g, cap, cur, rfl, hb, hg, hnc, hcm, hcs, ht⟩
  · omega
  · refine ⟨g, cap, rfl, hb, (Array.getElem?_eq_some_iff.1 hg).1, hnc, hcm, fun i hi => ?_, thaw hg⟩
    rw [cell_of_row w g i cur e (0, 0) hg]
    have : (cur.toList.take (n * 1))[i]? = (zs.map (Value.int .i64))[i]? := by rw [ht]
    rw [List.getElem?_take, if_pos (by omega)] at this
    simp only [Array.getElem?_toList] at this
    rw [this]
    simp [List.getD_eq_getElem?_getD, hlen ▸ hi]
/-- One cell of a row of one's own is written. -/
theorem own_put {w : World} {B e n : Nat} {g cap : Nat} {zs : List Int} (h : w.ownsRow B e 1 (.slice (some ⟨g, 0, none⟩) n cap) n (zs.map (Value.int .i64))) {i : Nat} (x : Int) :
    (w.setCell ⟨g, i, none⟩ (.int .i64 x)).ownsRow B e 1 (.slice (some ⟨g, 0, none⟩) n cap) n ((zs.set i x).map (Value.int .i64)) := by
  obtain ⟨hl, h⟩ := h
  refine ⟨by simpa using hl, ?_⟩
  rcases h with ⟨h0, _⟩ | ⟨g', cap', cur, hv, hb, hg, hnc, hcm, hcs, ht⟩
  · cases h0
  · cases hv
    refine .inr ⟨g, cap, cur.setIfInBounds i (.int .i64 x), rfl, hb, by rw [blk_setCell, if_pos rfl, hg]; rfl, hnc, hcm, by simpa using hcs, ?_⟩
    rw [List.map_set, ← ht]
    simp only [Array.toList_setIfInBounds, Nat.mul_one]
    rw [List.take_set]
theorem Kept.keep {S : List Nat} {w w' : World} {B Lb Sb k : Nat} {h : List Ln} {V Z : Nat → Value} (q : Kept w B Lb Sb k h V Z) (hk : Keep S w w') (h1 : ∀ b ∈ S, b ≠ Lb ∧ b ≠ Sb) (h2 : ∀ b ∈ S, ∀ i, i < k → (V i).ownBlock ≠ some b) (h3 : ∀ b ∈ S, ∀ p, p < 8 → (Z p).ownBlock ≠ some b) : Kept w' B Lb Sb k h V Z :=
  ⟨fun i hi => own_keep (q.clk i hi) hk (fun b hb hm => h2 b hm i hi hb), fun p hp => own_keep (q.zero p hp) hk (fun b hb hm => h3 b hm p hp hb), hk.at q.last (fun hm => (h1 _ hm).1 rfl), q.sent.keep hk (fun hm => (h1 _ hm).2 rfl)⟩
theorem Kept.keep0 {w w' : World} {B Lb Sb k : Nat} {h : List Ln} {V Z : Nat → Value} (q : Kept w B Lb Sb k h V Z) (hk : Keep [] w w') : Kept w' B Lb Sb k h V Z := q.keep hk (by simp) (by simp) (by simp)
theorem cell_one_at {X : World} {s : Nat} (hs : X.heap.size = s) (x : Value) (t : TypeId) : ∀ j u, [x][j]? = some u → (X.alloc (.cells #[x] t)).cell? ((⟨s, 0, none⟩ : Addr).add j) = some u := by
  subst hs
  exact cell_one_new _ _ _
theorem Kept.append {w w' : World} {B B' Lb Sb k n : Nat} {h : List Ln} {V Z : Nat → Value} {v : Value} {xs : List Value} (q : Kept w B Lb Sb k h V Z) (ho : w.ownsRow B' 22 1 v n xs) (hB : Lb < B') (hg : w.grownBy w' v.ownBlock) : Kept w' B Lb Sb k h V Z := by
  refine ⟨fun i hi => (q.clk i hi).kept hg (own_sep (q.clk i hi) ho (by decide)), fun p hp => (q.zero p hp).kept hg (own_sep (q.zero p hp) ho (by decide)), ?_, q.sent.block (hg.block Sb q.sent.lt (fun e => ?_))⟩
  · rw [hg.block Lb (lt_of_blk q.last) (fun e => by have := (ho.lt Lb e.symm).1; omega)]
    exact q.last
  · rcases ho.2 with ⟨rfl, _⟩ | ⟨g, cap, cur, rfl, _, hgg, _⟩
    · cases e
    · have e1 : Sb = g := by simpa [Value.ownBlock] using e
      exact q.sent.notCells hgg e1
theorem lastIx_elim {h : List Ln} {k : Nat} {V : Nat → Value} {cv z : Value} {pl : Int} (x : Int) (hq : (lat h k).q = pl) : (lastIx h x (k + 1)).elim z (fun i => if i = k then cv else V i) = if pl = x then cv else (lastIx h x k).elim z V := by
  rw [lastIx, hq]
  by_cases e : pl = x
  · rw [if_pos e, if_pos e]; simp
  · rw [if_neg e, if_neg e]
    cases hl : lastIx h x k with
    | none => rfl
    | some i => have := (lastIx_lt hl).1; simp; omega
theorem sendIx_map_same {h : List Ln} {k : Nat} {V : Nat → Value} {cv : Value} (hg : (lat h k).g ≠ 2) : (fun x => (sendIx h x (k + 1)).map fun i => if i = k then cv else V i) = fun x => (sendIx h x k).map V := by
  funext x
  rw [sendIx, if_neg (fun h => hg h.1)]
  cases hl : sendIx h x k with
  | none => rfl
  | some i => have := (sendIx_lt hl).1; simp; omega
theorem sendIx_map_put {h : List Ln} {k : Nat} {V : Nat → Value} {cv : Value} (hg : (lat h k).g = 2) : (fun x => (sendIx h x (k + 1)).map fun i => if i = k then cv else V i) = fun x => if x = (lat h k).u then some cv else (sendIx h x k).map V := by
  funext x
  rw [sendIx]
  by_cases e : x = (lat h k).u
  · rw [if_pos ⟨hg, e.symm⟩, if_pos e]; simp
  · rw [if_neg (fun h => e h.2.symm), if_neg e]
    cases hl : sendIx h x k with
    | none => rfl
    | some i => have := (sendIx_lt hl).1; simp; omega
theorem Kept.step {w : World} {B Lb Sb k pl : Nat} {h : List Ln} {V Z : Nat → Value} {cv : Value} (hclk : ∀ i, i < k → w.ownsRow B 3 1 (V i) 8 ((Go.clk h i).map (Value.int .i64))) (hzero : ∀ p, p < 8 → w.ownsRow B 3 1 (Z p) 8 (zeros8.map (Value.int .i64)))
    (hlast : w.heap[Lb]? = some (.cells ((List.range 8).map fun (p : Nat) => (lastIx h (p : Int) k).elim (Z p) V).toArray 22 (0, 0))) (hsent : MapF w Try.prog 3 Sb (k + 1) (fun x => (sendIx h x (k + 1)).map fun i => if i = k then cv else V i))
    (hc : w.ownsRow B 3 1 cv 8 ((Go.clk h k).map (Value.int .i64))) (hq : (lat h k).q = pl) : Kept (w.setCell ⟨Lb, pl, none⟩ cv) B Lb Sb (k + 1) h (fun i => if i = k then cv else V i) Z := by
  have hks : Keep [Lb] w (w.setCell ⟨Lb, pl, none⟩ cv) := (Keep.refl _ _).setCell (.inl (by simp)) _
  have hown : ∀ {v : Value} {zs : List Value}, w.ownsRow B 3 1 v 8 zs → (w.setCell ⟨Lb, pl, none⟩ cv).ownsRow B 3 1 v 8 zs := fun ho => own_keep ho hks (fun g hg hm => own_ne ho hlast (by decide) g hg (by simpa using hm))
  refine ⟨fun i hi => ?_, fun p hp => hown (hzero p hp), ?_, hsent.keep hks (by simpa using hsent.notCells hlast)⟩
  · show World.ownsRow _ _ _ _ (if i = k then cv else V i) _ _
    by_cases e : i = k
    · rw [if_pos e, e]; exact hown hc
    · rw [if_neg e]; exact hown (hclk i (by omega))
  · rw [blk_setCell, if_pos rfl, hlast]
    simp only [Option.map_some, Obj.put_cells, List.setIfInBounds_toArray]
    congr 3
    refine List.ext_getElem (by simp) fun p h1 h2 => ?_
    simp only [List.getElem_set, List.getElem_map, List.getElem_range]
    rw [lastIx_elim (pl := pl) (p : Int) hq]
    by_cases e : pl = p
    · subst e; simp
    · have : ¬ (pl : Int) = p := by omega
      rw [if_neg e, if_neg this]
end Go.Proofs.Ytkhchfjhmplaiaa
