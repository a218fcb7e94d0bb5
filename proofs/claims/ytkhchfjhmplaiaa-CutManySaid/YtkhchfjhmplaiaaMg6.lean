/- Texts laid together: H9 HP9 H10 H11 HP10 H12. -/
import Derived.Test.YtkhchfjhmplaiaaMg5
import Derived.BigRegion
namespace Go.Proofs.Ytkhchfjhmplaiaa
open Go.RowKit
theorem sumTo_bd {c : List Int} {B : Int} (h : Clk B c) (h0 : 0 ≤ B) (h1 : B ≤ 1000) : ∀ k : Nat, 0 ≤ sumTo c k ∧ sumTo c k ≤ 1000 * k := by
  intro k
  induction k with
  | zero => exact ⟨Int.le_refl _, Int.le_refl _⟩
  | succ k ih => have := h.at_ h0 k; rw [sumTo]; omega
theorem aheadAll_bd (h : List Ln) : ∀ m : Nat, m ≤ 60 → 0 ≤ aheadAll h m ∧ aheadAll h m ≤ 60 * m := by
  intro m
  induction m with
  | zero => intro _; exact ⟨Int.le_refl _, Int.le_refl _⟩
  | succ m ih => intro hm; have := ih (by omega); have := aheadN_nn h m m; rw [aheadAll]; omega
theorem clocks0 {a : Option Addr} {c : Nat} {h : List Ln} {w : World} (hv : LnsV w a 0 c h) (hk : HOk h) :
    Calls Try.prog 25 #[.slice a 0 c] w fun e w' => ∃ av cv, e = .returned (.tuple #[.slice av 0 cv, .int .i64 0]) ∧ Keep [] w w' := by
  refine (clocks_ok hv hk).mono ?_
  rintro e w' ⟨v, V, rfl, hk1, ho, _⟩
  obtain ⟨av, cv, rfl⟩ := own_slice ho
  exact ⟨av, cv, rfl, hk1⟩
set_option maxHeartbeats 1000000 in
theorem apart0 {a : Option Addr} {c : Nat} {h : List Ln} {w : World} (hv : LnsV w a 0 c h) (hk : HOk h) :
    Calls Try.prog 24 #[.slice a 0 c] w fun e w' => e = .returned (.tuple #[.int .i64 0, .int .i64 0]) ∧ Keep [] w w' := by
  have hc := Lib.hid (clocks0 hv hk)
  clear hv hk
  go_enter Try.func24, Try.ntmps24
  go_wp2_with (first | (go_at_call 25; refine hc.out.mono ?_; rintro e w1 ⟨av, cv, rfl, hk1⟩))
  go_loopw [6, 19] (fun v i wr => v = .int .i64 0 ∧ i = .int .i64 0 ∧ wr = w1) (fun _ _ _ => 0)
  case atStart => exact ⟨rfl, rfl, rfl⟩
  case round =>
    obtain ⟨rfl, rfl, rfl⟩ := hrel
    go_wp2_with fail
    go_ret2
    exact ⟨rfl, hk1⟩
set_option maxRecDepth 100000 in
set_option maxHeartbeats 4000000 in
theorem clockApart_walk (a : Option Addr) (len cap : Nat) (zs : List Int) (w : World) (hv : IntsV w a len cap zs) :
    Calls Try.prog 6 #[.slice a len cap] w fun e w' => e = .returned (.bool true) ∧ Keep [] w w' := by
  obtain ⟨N, hN⟩ : ∃ N, (hist zs).length = N := ⟨_, rfl⟩
  have hok : HOk (hist zs) := (hist_inv zs).ok
  have hN60 := hist_len zs
  rw [hN] at hN60
  have hNle : N ≤ 60 := by omega
  have HV := Lib.hid hv
  have HOK := Lib.hid hok
  clear hv hN60
  by_cases h0 : N = 0
  · have HN := Lib.hid (hN.trans h0)
    clear hN h0 hNle hok
    go_enter Try.func6, Try.ntmps6
    go_wp2_with (first | (go_at_call 22; refine (begun_any _).mono ?_; rintro e w1 ⟨rfl, hk1⟩) | (go_at_call 20; refine (history_at (HV.out.keep hk1 (by simp)) HN).mono ?_; rintro e w2 ⟨a2, c2, rfl, hk2, hv2⟩; have HV2 := Lib.hid hv2; clear hv2) | (go_at_call 24; refine (apart0 HV2.out HOK.out).mono ?_; rintro e w3 ⟨rfl, hk3⟩; have HV3 := Lib.hid (HV2.out.keep hk3 (by simp))) | (go_at_call 25; refine (clocks0 HV3.out HOK.out).mono ?_; rintro e w4 ⟨av, cv, rfl, hk4⟩))
    go_loopw [8, 43] (fun v i wr => v = .int .i64 0 ∧ i = .int .i64 0 ∧ wr = w4) (fun _ _ _ => 0)
    case atStart => exact ⟨rfl, rfl, rfl⟩
    case round =>
      obtain ⟨rfl, rfl, rfl⟩ := hrel
      go_wp2_with fail
      all_goals
        go_ret
        exact ⟨by first | rfl | exact ret_bool (by decide), ((hk1.trans hk2).trans hk3).trans hk4⟩
  · have hNh := hN
    have HN := Lib.hid hN
    have hS := apart_law hok N (by omega)
    have hSb := apartAll_bd (hist zs) N
    have hTb := aheadAll_bd (hist zs) N hNle
    obtain ⟨S, hS1⟩ : ∃ S, apartAll (hist zs) N = S := ⟨_, rfl⟩
    have hap : ∀ (a : Option Addr) (c : Nat) (w : World), LnsV w a N c (hist zs) → Calls Try.prog 24 #[.slice a N c] w fun e w' => e = .returned (.tuple #[.int .i64 S, .int .i64 0]) ∧ Keep [] w w' := fun a c w hv => by rw [← hS1]; exact apart_any hv HOK.out (by omega)
    rw [hS1] at hS hSb
    have HAP := Lib.hid hap
    have HS := Lib.hid hS
    clear hN hNh hok hap hS hS1
    go_enter Try.func6, Try.ntmps6
    go_wp2_with (first | (go_at_call 22; refine (begun_any _).mono ?_; rintro e w1 ⟨rfl, hk1⟩) | (go_at_call 20; refine (history_at (HV.out.keep hk1 (by simp)) HN).mono ?_; rintro e w2 ⟨a2, c2, rfl, hk2, hv2⟩; have HV2 := Lib.hid hv2; clear hv2) | (go_at_call 24; refine (HAP.out _ _ _ HV2.out).mono ?_; rintro e w3 ⟨rfl, hk3⟩; have HV3 := Lib.hid (HV2.out.keep hk3 (by simp))) | (go_at_call 25; refine (clocks_at HV3.out HOK.out (by omega)).mono ?_; rintro e w4 ⟨g, cg, rfl, hk4, hg, hgl, hnc, hcm, hcs⟩; have HQ : Hid (ClksV w4 g N (hist zs)) := Lib.hid hcs; unfold maxLen at hcm; clear hcs))
    go_loopw [8, 43] (fun v i wr => ∃ I : Nat, I ≤ N ∧ v = .int .i64 (aheadAll (hist zs) I) ∧ i = .int .i64 I ∧ wr = w4) (fun _ i _ => N - (intOf i).toNat)
    case atStart => exact ⟨0, by omega, rfl, rfl, rfl⟩
    case round =>
      obtain ⟨I, hI, rfl, rfl, rfl⟩ := hrel
      by_cases hlt : I < N
      · have hdec : decide ((I : Int) < N) = true := by simpa using hlt
        obtain ⟨gi, ci, hci, hii⟩ := HQ.out I hlt
        have hc2 := clk_ok HOK.out I (by rw [HN.out]; exact hlt)
        have HB := Lib.hid (sumTo_bd hc2 (by omega) (by omega))
        have hsum := sumTo_clk HOK.out (show I < (hist zs).length by rw [HN.out]; exact hlt)
        have han := aheadN_nn (hist zs) I I
        have hTI := aheadAll_bd (hist zs) I (by omega)
        have HBD := Lib.hid (fun k => hc2.at_ (show (0 : Int) ≤ (I : Int) + 1 by omega) k)
        obtain ⟨_, _, he, hcell⟩ := hii.cells (by omega)
        cases he
        have HC := Lib.hid hcell
        have HT := Lib.hid (show aheadAll (hist zs) (I + 1) = aheadAll (hist zs) I + aheadN (hist zs) I I from rfl)
        obtain ⟨T, hT⟩ : ∃ T, aheadAll (hist zs) I = T := ⟨_, rfl⟩
        obtain ⟨F, hF⟩ : ∃ F, aheadN (hist zs) I I = F := ⟨_, rfl⟩
        rw [hT, hF] at HT
        rw [hT] at hTI
        rw [hF] at hsum han
        rw [hT]
        have HSUM := Lib.hid hsum
        clear hii hcell hc2 hsum hT hF
        go_wp2_with fail
        go_loop [11, 50] (fun v i => ∃ K : Nat, K ≤ 8 ∧ v = .int .i64 (sumTo (clk (hist zs) I) K) ∧ i = .int .i64 K) (fun _ i => 8 - (intOf i).toNat)
        case atStart => exact ⟨0, by omega, rfl, rfl⟩
        case round =>
          obtain ⟨K, hK, rfl, rfl⟩ := hrel
          by_cases hlk : K < 8
          · have hck : wr.cell? ⟨gi, K, none⟩ = some (.int .i64 ((clk (hist zs) I).getD K 0)) := by have h9 := HC.out K hlk; rw [show 0 + K = K by omega] at h9; exact h9
            have hbs := HB.out K
            have hbx := HBD.out K
            have HST := Lib.hid (show sumTo (clk (hist zs) I) (K + 1) = sumTo (clk (hist zs) I) K + (clk (hist zs) I).getD K 0 from rfl)
            obtain ⟨x, hx⟩ : ∃ x, (clk (hist zs) I).getD K 0 = x := ⟨_, rfl⟩
            obtain ⟨U, hU⟩ : ∃ U, sumTo (clk (hist zs) I) K = U := ⟨_, rfl⟩
            rw [hx, hU] at HST
            rw [hx] at hck hbx
            rw [hU] at hbs
            rw [hU]
            clear hx hU
            go_wp2_with fail
            go_round
            case measure => simp [intOf]; omega
            case rel => exact ⟨K + 1, by omega, by rw [HST.out], by go_num⟩
          · have hK8 : K = 8 := by omega
            subst hK8
            rw [HSUM.out]
            go_wp2_with fail
            all_goals first | (exfalso; omega) | skip
            all_goals go_roundw
            case measure => simp [intOf]; omega
            case rel => exact ⟨I + 1, by omega, by rw [HT.out], by go_num, by trivial⟩
      · have HIN : I = N := by omega
        subst HIN
        go_wp2_with fail
        go_ret
        refine ⟨ret_bool ?_, ((hk1.trans hk2).trans hk3).trans hk4⟩
        have hs := HS.out
        obtain ⟨T, hT⟩ : ∃ T, aheadAll (hist zs) I = T := ⟨_, rfl⟩
        rw [hT] at hs hTb ⊢
        have e1 : wrap64 (2 * (S + T)) = 2 * (S + T) := by unfold wrap64; omega
        have e2 : (2 * (S + T)).tdiv 2 = S + T := by rw [Int.tdiv_eq_ediv_of_nonneg (by omega)]; omega
        have e3 : wrap64 (S + T) = S + T := by unfold wrap64; omega
        rw [← hs, e1, e2, e3]
        simp
end Go.Proofs.Ytkhchfjhmplaiaa
namespace Go
open Go.RowKit
/-- Lamport's number of event k, from those ahead. -/
def nstep (h : List Ln) (k : Nat) (ns : List Int) : Int :=
  (if (lat h k).g = 3 then max ((lastIx h (lat h k).q k).elim 0 fun i => ns.getD i 0) ((sendIx h (lat h k).u k).elim 0 fun i => ns.getD i 0) else (lastIx h (lat h k).q k).elim 0 fun i => ns.getD i 0) + 1
def nums (h : List Ln) : Nat → List Int
  | 0 => []
  | k + 1 => nums h k ++ [nstep h k (nums h k)]
def num (h : List Ln) (i : Nat) : Int := nstep h i (nums h i)
theorem nums_len (h : List Ln) (k : Nat) : (nums h k).length = k := by
  induction k with
  | zero => rfl
  | succ k ih => simp [nums, ih]
theorem nums_getD (h : List Ln) (k i : Nat) (hi : i < k) : (nums h k).getD i 0 = num h i := by
  induction k with
  | zero => omega
  | succ k ih =>
    rw [nums]
    by_cases e : i = k
    · subst e
      simp [List.getD_eq_getElem?_getD, nums_len, num]
    · have := ih (by omega)
      rw [List.getD_eq_getElem?_getD] at this ⊢
      rw [List.getElem?_append_left (by rw [nums_len]; omega)]
      exact this
theorem num_eq (h : List Ln) (k : Nat) : num h k = (if (lat h k).g = 3 then max ((lastIx h (lat h k).q k).elim 0 (num h)) ((sendIx h (lat h k).u k).elim 0 (num h)) else (lastIx h (lat h k).q k).elim 0 (num h)) + 1 := by
  have e1 : ((lastIx h (lat h k).q k).elim 0 fun i => (nums h k).getD i 0) = (lastIx h (lat h k).q k).elim 0 (num h) := by
    cases hj : lastIx h (lat h k).q k with
    | none => rfl
    | some j => exact nums_getD h k j (lastIx_lt hj).1
  have e2 : ((sendIx h (lat h k).u k).elim 0 fun i => (nums h k).getD i 0) = (sendIx h (lat h k).u k).elim 0 (num h) := by
    cases hj : sendIx h (lat h k).u k with
    | none => rfl
    | some j => exact nums_getD h k j (sendIx_lt hj).1
  show nstep h k (nums h k) = _
  unfold nstep
  rw [e1, e2]
theorem num_bd (h : List Ln) : ∀ (n k : Nat), k < n → 1 ≤ num h k ∧ num h k ≤ k + 1 := by
  intro n
  induction n with
  | zero => intro k h; omega
  | succ n ih =>
    intro k hn
    have h1 : 0 ≤ (lastIx h (lat h k).q k).elim 0 (num h) ∧ (lastIx h (lat h k).q k).elim 0 (num h) ≤ k := by
      cases hj : lastIx h (lat h k).q k with
      | none => exact ⟨Int.le_refl _, by show (0 : Int) ≤ k; omega⟩
      | some j => have := ih j (by have := (lastIx_lt hj).1; omega); have := (lastIx_lt hj).1; show 0 ≤ num h j ∧ num h j ≤ k; omega
    have h2 : 0 ≤ (sendIx h (lat h k).u k).elim 0 (num h) ∧ (sendIx h (lat h k).u k).elim 0 (num h) ≤ k := by
      cases hj : sendIx h (lat h k).u k with
      | none => exact ⟨Int.le_refl _, by show (0 : Int) ≤ k; omega⟩
      | some j => have := ih j (by have := (sendIx_lt hj).1; omega); have := (sendIx_lt hj).1; show 0 ≤ num h j ∧ num h j ≤ k; omega
    rw [num_eq]
    split <;> omega
theorem last_num (h : List Ln) (k : Nat) : (lastIx h (lat h k).q k).elim 0 (num h) < num h k := by
  rw [num_eq h k]; split <;> omega
theorem same_num {h : List Ln} : ∀ (n k : Nat), k < n → ∀ i, i < k → (lat h i).q = (lat h k).q → num h i < num h k := by
  intro n
  induction n with
  | zero => intro k h; omega
  | succ n ih =>
    intro k hn i hi hq
    obtain ⟨j, hj, hij⟩ := lastIx_ge (h := h) hi hq
    have hjl := lastIx_lt hj
    have h1 := last_num h k
    rw [hj] at h1
    have h2 : num h j < num h k := h1
    by_cases e : i = j
    · rw [e]; exact h2
    · have := ih j (by omega) i (by omega) (by rw [hq, hjl.2.1]); omega
theorem edge_num {h : List Ln} (hk : HOk h) {x y : Nat} (hxy : x < y) (hl : y < h.length) (he : edgeB h x y = true) : num h x < num h y := by
  unfold edgeB at he
  simp only [Bool.or_eq_true, Bool.and_eq_true, decide_eq_true_eq] at he
  rcases he with he | ⟨h1, h2, h3⟩
  · exact same_num (y + 1) y (by omega) x hxy he
  · rw [num_eq h y, if_pos h2, sendIx_eq hk hxy hl h1 h3]
    show num h x < max _ (num h x) + 1
    omega
theorem past_num {h : List Ln} (hk : HOk h) {i k : Nat} (r : Past h i k) (hl : k < h.length) : i = k ∨ num h i < num h k := by
  induction r with
  | here => exact .inl rfl
  | step _ h1 h2 ih =>
    have h3 := edge_num hk h1 hl h2
    rcases ih (by omega) with e | e
    · rw [e]; exact .inr h3
    · exact .inr (by omega)
/-- The law of numbers. -/
theorem clockNumbers_law {h : List Ln} (hk : HOk h) {i k : Nat} (hki : k < i) (hi : i < h.length) : (lessL (clk h k) (clk h i) = true → num h k < num h i) ∧ lessL (clk h i) (clk h k) = false := by
  constructor
  · intro hb
    rcases past_num hk (le_reach hk (by omega) hi (lessL_iff.1 hb).1) hi with e | e
    · omega
    · exact e
  · cases hb : lessL (clk h i) (clk h k) with
    | false => rfl
    | true => have := lessL_lt hk hi (by omega) hb; omega
end Go
namespace Go
open Go.RowKit
theorem wpList_lookup_v {P : Program} (w : World) {ops : Array Oper} {rest : List Oper} {o : Oper} {a : Act} {Q : Exit → Act → World → Prop}
    (hg : o.guard = none) (m x : Operand) (t : TypeId) (hop : o.op = Op.lookup t m x false)
    (k e : TypeId) (ht : P.underlying t = some (.map k e)) (hki : P.underlying k = some (.int .i64)) (z : Value) (hz : (zeroValue e).run P w = .ok z w) (b n : Nat) (f : Int → Option Value)
    (hm : a.eval m = .map (some b)) (hown : MapF w P k b n f) (key : Int) (hx : a.eval x = .int .i64 key) (hwf : (Lit.int .i64 key).wf = true) (v : Value) (hv : Hid ((f key).getD z = v))
    (hK : wpList P ops Q rest (a.put o.dst v) w) : wpList P ops Q (o :: rest) a w :=
  wpList_lookup_f w hg m x t hop k e ht hki z hz b n f hm hown key hx hwf (by rw [hv.out]; exact hK)
/-- The numbers by place, and by message. -/
def FPn (h : List Ln) (k : Nat) (x : Int) : Option Value := (lastIx h x k).map fun i => .int .i64 (num h i)
def FSn (h : List Ln) (k : Nat) (x : Int) : Option Value := (sendIx h x k).map fun i => .int .i64 (num h i)
theorem MapF.grown {w w' : World} {P : Program} {kt : TypeId} {b n : Nat} {f : Int → Option Value} {row : Option Nat} (h : MapF w P kt b n f) (hg : w.grownBy w' row) (hn : some b ≠ row) : MapF w' P kt b n f := h.block (hg.block b h.lt hn)
theorem FPn_next {h : List Ln} {k : Nat} {q : Int} (hq : (lat h k).q = q) : FPn h (k + 1) = fun y => if y = q then some (.int .i64 (num h k)) else FPn h k y := by
  funext y
  unfold FPn
  rw [lastIx, hq]
  by_cases e : y = q
  · rw [if_pos e, if_pos e.symm]; rfl
  · rw [if_neg e, if_neg (fun h => e h.symm)]
theorem FSn_next {h : List Ln} {k : Nat} {u : Int} (hg : (lat h k).g = 2) (hu : (lat h k).u = u) : FSn h (k + 1) = fun y => if y = u then some (.int .i64 (num h k)) else FSn h k y := by
  funext y
  unfold FSn
  rw [sendIx, hu]
  by_cases e : y = u
  · rw [if_pos e, if_pos ⟨hg, e.symm⟩]; rfl
  · rw [if_neg e, if_neg (fun h => e h.2.symm)]
theorem FSn_same {h : List Ln} {k : Nat} (hg : (lat h k).g ≠ 2) : FSn h (k + 1) = FSn h k := by
  funext y
  unfold FSn
  rw [sendIx, if_neg (fun h => hg h.1)]
theorem FPn_get (h : List Ln) (k : Nat) (x : Int) : (FPn h k x).getD (.int .i64 0) = .int .i64 ((lastIx h x k).elim 0 (num h)) := by
  unfold FPn; cases lastIx h x k <;> rfl
theorem FSn_get (h : List Ln) (k : Nat) (x : Int) : (FSn h k x).getD (.int .i64 0) = .int .i64 ((sendIx h x k).elim 0 (num h)) := by
  unfold FSn; cases sendIx h x k <;> rfl
theorem last_bd (h : List Ln) (k : Nat) (x : Int) : 0 ≤ (lastIx h x k).elim 0 (num h) ∧ (lastIx h x k).elim 0 (num h) ≤ k := by
  cases hj : lastIx h x k with
  | none => exact ⟨Int.le_refl _, by show (0 : Int) ≤ k; omega⟩
  | some j => have := num_bd h (j + 1) j (by omega); have := (lastIx_lt hj).1; show 0 ≤ num h j ∧ num h j ≤ k; omega
theorem send_bd (h : List Ln) (k : Nat) (x : Int) : 0 ≤ (sendIx h x k).elim 0 (num h) ∧ (sendIx h x k).elim 0 (num h) ≤ k := by
  cases hj : sendIx h x k with
  | none => exact ⟨Int.le_refl _, by show (0 : Int) ≤ k; omega⟩
  | some j => have := num_bd h (j + 1) j (by omega); have := (sendIx_lt hj).1; show 0 ≤ num h j ∧ num h j ≤ k; omega
end Go
namespace Go.Proofs.Ytkhchfjhmplaiaa
open Go.RowKit
theorem zeroI (w : World) : (zeroValue 3).run Try.prog w = .ok (.int .i64 0) w := by kernel_rfl
theorem num_row (h : List Ln) {k : Nat} {x : Int} (hx : num h k = x) : ((List.range (k + 1)).map fun i => Value.int .i64 (num h i)) = ((List.range k).map fun i => Value.int .i64 (num h i)) ++ [.int .i64 x] := by
  rw [List.range_succ, List.map_append, ← hx]; rfl
set_option maxRecDepth 100000 in
set_option maxHeartbeats 4000000 in
theorem numbers_ok {a : Option Addr} {n c : Nat} {h : List Ln} {w : World} (hv : LnsV w a n c h) (hk : HOk h) :
    Calls Try.prog 26 #[.slice a n c] w fun e w' => ∃ v, e = .returned (.tuple #[v, .int .i64 0]) ∧ Keep [] w w' ∧ w'.ownsRow w.heap.size 3 1 v n ((List.range n).map fun i => .int .i64 (num h i)) := by
  have hmm := @run_makeMap Try.prog
  have hn2 : n ≤ 200 := by have := hk.len; have := hv.len; omega
  have HV := Lib.hid hv
  have HK := Lib.hid hk
  have HL := Lib.hid hv.len
  obtain ⟨i3, hi3, hy0, hy1, hy2⟩ := info_parts info3
  clear hv hk
  go_enter Try.func26, Try.ntmps26
  go_wp2_with (first | (go_at_call 51; refine (check_ok HV.out HK.out).mono ?_; rintro e w1 ⟨rfl, hk1⟩) | (with_reducible refine Txt.wp_region_text mixed quiet (by decide +kernel) ?_) | (with_reducible refine Txt.text_done (by kernel_rfl) ?_))
  have hsz1 := hk1.size
  have hM2 := MapF.made (w1.alloc (.map #[] 0)) Try.prog 3
  rw [show (w1.alloc (.map #[] 0)).heap.size = w1.heap.size + 1 by simp] at hM2
  have HM10 : Hid (MapF ((w1.alloc (.map #[] 0)).alloc (.map #[] 0)) Try.prog 3 w1.heap.size 0 (FPn h 0)) := Lib.hid ((MapF.made w1 Try.prog 3).keep ((Keep.refl [] _).alloc _) (by simp))
  have HM20 : Hid (MapF ((w1.alloc (.map #[] 0)).alloc (.map #[] 0)) Try.prog 3 (w1.heap.size + 1) 0 (FSn h 0)) := Lib.hid hM2
  clear hM2 hmm
  go_loopw [7, 20] (fun v i wr => ∃ k : Nat, k ≤ n ∧ i = .int .i64 k ∧ Keep [] w wr ∧ w1.heap.size + 2 ≤ wr.heap.size ∧ Hid (MapF wr Try.prog 3 w1.heap.size k (FPn h k)) ∧ Hid (MapF wr Try.prog 3 (w1.heap.size + 1) k (FSn h k)) ∧ Hid (wr.ownsRow (w1.heap.size + 2) 3 1 v k ((List.range k).map fun i => .int .i64 (num h i)))) (fun _ i _ => n - (intOf i).toNat)
  case atStart => exact ⟨0, by omega, rfl, (hk1.alloc _).alloc _, by simp, HM10, HM20, World.ownsRow_nil _ _ _ _⟩
  case round =>
    obtain ⟨k, hk, rfl, hkw2, hsw, HM1, HM2, HO⟩ := hrel
    clear HM10 HM20
    by_cases hlk : k < n
    · have hlh : k < h.length := by rw [HL.out]; exact hlk
      have he := HK.out.ev k hlh
      obtain ⟨b, off, rfl, c0, c1, c2⟩ := (HV.out.keep hkw2 (by simp)).at_ hlk
      have hsz2 := hkw2.size
      have hnum := num_eq h k
      have hLb := last_bd h k (lat h k).q
      have hSb := send_bd h k (lat h k).u
      have hF := FPn_get h k (lat h k).q
      have hS := FSn_get h k (lat h k).u
      have HNX := Lib.hid (fun (y : Int) (hy : (lat h k).q = y) => FPn_next hy)
      have HSX := Lib.hid (fun (y : Int) (hg : (lat h k).g = 2) (hy : (lat h k).u = y) => FSn_next hg hy)
      have HSS := Lib.hid (fun (hg : (lat h k).g ≠ 2) => FSn_same hg)
      obtain ⟨⟨q, g, u⟩, hL⟩ : ∃ L, lat h k = L := ⟨_, rfl⟩
      rw [hL] at he c0 c1 c2 hnum hLb hSb hF hS HNX HSX HSS
      dsimp only at he c0 c1 c2 hnum hLb hSb hF hS HNX HSX HSS
      have HWQ := Lib.hid (wf_msg he.1 (by omega))
      have HWF := Lib.hid (wf_msg he.2.2.2.2.1 he.2.2.2.2.2)
      clear hL
      obtain ⟨L, hL⟩ : ∃ L, (lastIx h q k).elim 0 (num h) = L := ⟨_, rfl⟩
      obtain ⟨S, hS1⟩ : ∃ S, (sendIx h u k).elim 0 (num h) = S := ⟨_, rfl⟩
      rw [hL] at hnum hLb hF
      rw [hS1] at hnum hSb hS
      have HF := Lib.hid hF
      have HS := Lib.hid hS
      clear hL hS1 hF hS
      have hkA : Keep [] wr (wr.alloc (.cells #[.int .i64 q, .int .i64 g, .int .i64 u] 27)) := (Keep.refl [] _).alloc _
      have HA1 := Lib.hid (HM1.out.keep hkA (by simp))
      have HA2 := Lib.hid (HM2.out.keep hkA (by simp))
      have HOA := Lib.hid (own_keep HO.out hkA (by simp))
      have hEv : (wr.alloc (.cells #[.int .i64 q, .int .i64 g, .int .i64 u] 27)).heap[wr.heap.size]? = some (.cells #[.int .i64 q, .int .i64 g, .int .i64 u] 27 (0, 0)) := blk_new _ _
      have HEV := Lib.hid hEv
      have HVL : Hid (∀ b, u7.ownBlock = some b → w1.heap.size + 2 ≤ b) := Lib.hid (fun b hb => (HO.out.lt b hb).1)
      have hkwA : Keep [] w (wr.alloc (.cells #[.int .i64 q, .int .i64 g, .int .i64 u] 27)) := hkw2.trans hkA
      clear hEv
      by_cases hg3 : g = 3
      · subst hg3
        rw [if_pos rfl] at hnum
        have hXb : 0 ≤ max L S ∧ max L S ≤ k := by omega
        have HN := Lib.hid hnum
        clear hnum
        go_wp2_with (first | (with_reducible refine Txt.wp_region_text mixed quiet (by decide +kernel) ?_) | (with_reducible refine Txt.text_done (by kernel_rfl) ?_) | (at_lookup; refine wpList_lookup_v _ rfl _ _ 84 rfl 3 3 Try.underlying84 Try.underlying3 (.int .i64 0) (zeroI _) w1.heap.size k (FPn h k) rfl HA1.out q rfl HWQ.out _ HF ?_) | (at_lookup; refine wpList_lookup_v _ rfl _ _ 84 rfl 3 3 Try.underlying84 Try.underlying3 (.int .i64 0) (zeroI _) (w1.heap.size + 1) k (FSn h k) rfl HA2.out u rfl HWF.out _ HS ?_) | (at_mapUpdate; refine wpList_update_f _ rfl _ _ _ 84 rfl 3 3 Try.underlying84 Try.underlying3 w1.heap.size k (FPn h k) rfl HA1.out (by unfold maxLen; omega) q (.int .i64 (max L S + 1)) rfl rfl HWQ.out ?_; intro w5 hm5 hgr5; have HM_w5 := Lib.hid hm5; have hk5 : Keep [w1.heap.size] (wr.alloc (.cells #[.int .i64 q, .int .i64 3, .int .i64 u] 27)) w5 := Keep.ofGrown hgr5 (fun x hx => by cases hx; simp); have hsz5 : wr.heap.size < w5.heap.size := (by have h9 := hk5.size; simp at h9; omega); have HO5 := Lib.hid (own_keep HOA.out hk5 (fun g hg hm => by have := HVL.out g hg; simp at hm; omega)); have HS5 := Lib.hid ((HA2.out.keep hk5 (by simp)).mono (show k ≤ k + 1 by omega)); have HK5 := Lib.hid (Keep.call hkwA hk5 (fun z hz => .inr (by simp at hz; omega))); obtain ⟨n0, n1, n2, _⟩ := row3 (hk5.at HEV.out (by simp; omega)); clear hm5 hgr5) | (at_builtin; refine wpList_append_own _ rfl _ _ 22 rfl (w1.heap.size + 2) 3 i3 (.int .i64 0) 1 8 Try.underlying22 hi3 hy0 hy1 hy2 rfl (by decide) _ _ _ rfl (HO5.out.alloc _) ⟨w5.heap.size, 0, none⟩ 1 1 [.int .i64 (max L S + 1)] rfl rfl (cell_one_at rfl _ _) (by intro u hu; simp at hu; subst hu; rfl) (by unfold maxLen; omega) (by omega) (by simp; omega) ?_; intro v6 w6 hown6 hgr6 _; have HO6 := Lib.hid hown6; have HGR6 := Lib.hid hgr6; clear hown6 hgr6))
        go_roundw
        case measure => simp [intOf]; omega
        case rel =>
          have hkf : Keep [] w w6 := (HK5.out.alloc _).grown HGR6.out (fun g hg => .inr (by have := HVL.out g hg; omega))
          have hs6 : w5.heap.size ≤ w6.heap.size := by have h9 := HGR6.out.size; simp at h9; omega
          have hm1 : MapF w6 Try.prog 3 w1.heap.size (k + 1) (FPn h (k + 1)) := by
            rw [HNX.out q rfl, HN.out]
            exact (HM_w5.out.keep ((Keep.refl [] _).alloc _) (by simp)).grown HGR6.out (fun e => by have := HVL.out _ e.symm; omega)
          have hm2 : MapF w6 Try.prog 3 (w1.heap.size + 1) (k + 1) (FSn h (k + 1)) := by
            rw [HSS.out (by decide)]
            exact (HS5.out.keep ((Keep.refl [] _).alloc _) (by simp)).grown HGR6.out (fun e => by have := HVL.out _ e.symm; omega)
          exact ⟨k + 1, by omega, by go_num, hkf, by omega, Lib.hid hm1, Lib.hid hm2, Lib.hid (by rw [num_row h HN.out]; exact HO6.out)⟩
      · have hgb : (g == 3) = false := by simpa using hg3
        rw [if_neg hg3] at hnum
        by_cases hg2 : g = 2
        · subst hg2
          have HN := Lib.hid hnum
          clear hnum
          go_wp2_with (first | (with_reducible refine Txt.wp_region_text mixed quiet (by decide +kernel) ?_) | (with_reducible refine Txt.text_done (by kernel_rfl) ?_) | (at_lookup; refine wpList_lookup_v _ rfl _ _ 84 rfl 3 3 Try.underlying84 Try.underlying3 (.int .i64 0) (zeroI _) w1.heap.size k (FPn h k) rfl HA1.out q rfl HWQ.out _ HF ?_) | (at_mapUpdate; refine wpList_update_f _ rfl _ _ _ 84 rfl 3 3 Try.underlying84 Try.underlying3 (w1.heap.size + 1) k (FSn h k) rfl HA2.out (by unfold maxLen; omega) u (.int .i64 (L + 1)) rfl rfl HWF.out ?_; intro w4 hm5 hgr5; have HM_w4 := Lib.hid hm5; have hk5 : Keep [(w1.heap.size + 1)] (wr.alloc (.cells #[.int .i64 q, .int .i64 2, .int .i64 u] 27)) w4 := Keep.ofGrown hgr5 (fun x hx => by cases hx; simp); have HS5' := Lib.hid hm5; have HA1' := Lib.hid (HA1.out.keep hk5 (by simp)); have HOA' := Lib.hid (own_keep HOA.out hk5 (fun g hg hm => by have := HVL.out g hg; simp at hm; omega)); have hkwA' := Keep.call hkwA hk5 (fun z hz => .inr (by simp at hz; omega)); have hsz4 : wr.heap.size < w4.heap.size := (by have h9 := hk5.size; simp at h9; omega); have hev4 := hk5.at HEV.out (by simp; omega); have HEV' := Lib.hid hev4; obtain ⟨n0, n1, n2, _⟩ := row3 hev4; clear hk5 hev4; clear hm5 hgr5) | (at_mapUpdate; refine wpList_update_f _ rfl _ _ _ 84 rfl 3 3 Try.underlying84 Try.underlying3 w1.heap.size k (FPn h k) rfl HA1'.out (by unfold maxLen; omega) q (.int .i64 (L + 1)) rfl rfl HWQ.out ?_; intro w5 hm5 hgr5; have HM_w5 := Lib.hid hm5; have hk5 : Keep [w1.heap.size] w4 w5 := Keep.ofGrown hgr5 (fun x hx => by cases hx; simp); have hsz5 : wr.heap.size < w5.heap.size := (by have h9 := hk5.size; omega); have HO5 := Lib.hid (own_keep HOA'.out hk5 (fun g hg hm => by have := HVL.out g hg; simp at hm; omega)); have HS5 := Lib.hid (HS5'.out.keep hk5 (by simp)); have HK5 := Lib.hid (Keep.call hkwA' hk5 (fun z hz => .inr (by simp at hz; omega))); obtain ⟨m0, m1, m2, _⟩ := row3 (hk5.at HEV'.out (by simp; omega)); clear hm5 hgr5) | (at_builtin; refine wpList_append_own _ rfl _ _ 22 rfl (w1.heap.size + 2) 3 i3 (.int .i64 0) 1 8 Try.underlying22 hi3 hy0 hy1 hy2 rfl (by decide) _ _ _ rfl (HO5.out.alloc _) ⟨w5.heap.size, 0, none⟩ 1 1 [.int .i64 (L + 1)] rfl rfl (cell_one_at rfl _ _) (by intro u hu; simp at hu; subst hu; rfl) (by unfold maxLen; omega) (by omega) (by simp; omega) ?_; intro v6 w6 hown6 hgr6 _; have HO6 := Lib.hid hown6; have HGR6 := Lib.hid hgr6; clear hown6 hgr6))
          go_roundw
          case measure => simp [intOf]; omega
          case rel =>
            have hkf : Keep [] w w6 := (HK5.out.alloc _).grown HGR6.out (fun g hg => .inr (by have := HVL.out g hg; omega))
            have hs6 : w5.heap.size ≤ w6.heap.size := by have h9 := HGR6.out.size; simp at h9; omega
            have hm1 : MapF w6 Try.prog 3 w1.heap.size (k + 1) (FPn h (k + 1)) := by
              rw [HNX.out q rfl, HN.out]
              exact (HM_w5.out.keep ((Keep.refl [] _).alloc _) (by simp)).grown HGR6.out (fun e => by have := HVL.out _ e.symm; omega)
            have hm2 : MapF w6 Try.prog 3 (w1.heap.size + 1) (k + 1) (FSn h (k + 1)) := by
              rw [HSX.out u rfl rfl, HN.out]
              exact (HS5.out.keep ((Keep.refl [] _).alloc _) (by simp)).grown HGR6.out (fun e => by have := HVL.out _ e.symm; omega)
            exact ⟨k + 1, by omega, by go_num, hkf, by omega, Lib.hid hm1, Lib.hid hm2, Lib.hid (by rw [num_row h HN.out]; exact HO6.out)⟩
        · have hgc : (g == 2) = false := by simpa using hg2
          have HN := Lib.hid hnum
          clear hnum
          go_wp2_with (first | (with_reducible refine Txt.wp_region_text mixed quiet (by decide +kernel) ?_) | (with_reducible refine Txt.text_done (by kernel_rfl) ?_) | (at_lookup; refine wpList_lookup_v _ rfl _ _ 84 rfl 3 3 Try.underlying84 Try.underlying3 (.int .i64 0) (zeroI _) w1.heap.size k (FPn h k) rfl HA1.out q rfl HWQ.out _ HF ?_) | (at_mapUpdate; refine wpList_update_f _ rfl _ _ _ 84 rfl 3 3 Try.underlying84 Try.underlying3 w1.heap.size k (FPn h k) rfl HA1.out (by unfold maxLen; omega) q (.int .i64 (L + 1)) rfl rfl HWQ.out ?_; intro w5 hm5 hgr5; have HM_w5 := Lib.hid hm5; have hk5 : Keep [w1.heap.size] (wr.alloc (.cells #[.int .i64 q, .int .i64 g, .int .i64 u] 27)) w5 := Keep.ofGrown hgr5 (fun x hx => by cases hx; simp); have hsz5 : wr.heap.size < w5.heap.size := (by have h9 := hk5.size; simp at h9; omega); have HO5 := Lib.hid (own_keep HOA.out hk5 (fun g hg hm => by have := HVL.out g hg; simp at hm; omega)); have HS5 := Lib.hid ((HA2.out.keep hk5 (by simp)).mono (show k ≤ k + 1 by omega)); have HK5 := Lib.hid (Keep.call hkwA hk5 (fun z hz => .inr (by simp at hz; omega))); obtain ⟨n0, n1, n2, _⟩ := row3 (hk5.at HEV.out (by simp; omega)); clear hm5 hgr5) | (at_builtin; refine wpList_append_own _ rfl _ _ 22 rfl (w1.heap.size + 2) 3 i3 (.int .i64 0) 1 8 Try.underlying22 hi3 hy0 hy1 hy2 rfl (by decide) _ _ _ rfl (HO5.out.alloc _) ⟨w5.heap.size, 0, none⟩ 1 1 [.int .i64 (L + 1)] rfl rfl (cell_one_at rfl _ _) (by intro u hu; simp at hu; subst hu; rfl) (by unfold maxLen; omega) (by omega) (by simp; omega) ?_; intro v6 w6 hown6 hgr6 _; have HO6 := Lib.hid hown6; have HGR6 := Lib.hid hgr6; clear hown6 hgr6))
          go_roundw
          case measure => simp [intOf]; omega
          case rel =>
            have hkf : Keep [] w w6 := (HK5.out.alloc _).grown HGR6.out (fun g hg => .inr (by have := HVL.out g hg; omega))
            have hs6 : w5.heap.size ≤ w6.heap.size := by have h9 := HGR6.out.size; simp at h9; omega
            have hm1 : MapF w6 Try.prog 3 w1.heap.size (k + 1) (FPn h (k + 1)) := by
              rw [HNX.out q rfl, HN.out]
              exact (HM_w5.out.keep ((Keep.refl [] _).alloc _) (by simp)).grown HGR6.out (fun e => by have := HVL.out _ e.symm; omega)
            have hm2 : MapF w6 Try.prog 3 (w1.heap.size + 1) (k + 1) (FSn h (k + 1)) := by
              rw [HSS.out hg2]
              exact (HS5.out.keep ((Keep.refl [] _).alloc _) (by simp)).grown HGR6.out (fun e => by have := HVL.out _ e.symm; omega)
            exact ⟨k + 1, by omega, by go_num, hkf, by omega, Lib.hid hm1, Lib.hid hm2, Lib.hid (by rw [num_row h HN.out]; exact HO6.out)⟩
    · have hkn := Lib.hid (show k = n by omega)
      go_wp2_with fail
      go_ret2
      exact ⟨_, rfl, hkw2, by rw [← hkn.out]; exact HO.out.mono (by omega)⟩
end Go.Proofs.Ytkhchfjhmplaiaa
namespace Go.Proofs.Ytkhchfjhmplaiaa
open Go.RowKit
theorem numbers_at {a : Option Addr} {n c : Nat} {h : List Ln} {w : World} (hv : LnsV w a n c h) (hk : HOk h) (hn : 0 < n) :
    Calls Try.prog 26 #[.slice a n c] w fun e w' => ∃ g cap, e = .returned (.tuple #[.slice (some ⟨g, 0, none⟩) n cap, .int .i64 0]) ∧ Keep [] w w' ∧ cap ≤ maxLen ∧ IntsV w' (some ⟨g, 0, none⟩) n cap ((List.range n).map (num h)) := by
  have hl := hv.len
  have hl2 := hk.len
  refine (numbers_ok hv hk).mono ?_
  rintro e w' ⟨v, rfl, hk1, ho⟩
  rw [show ((List.range n).map fun i => Value.int .i64 (num h i)) = ((List.range n).map (num h)).map (Value.int .i64) by simp] at ho
  have hb : ∀ z ∈ (List.range n).map (num h), (Lit.int .i64 z).wf = true := fun z hz => by
    obtain ⟨i, hi, rfl⟩ := List.mem_map.1 hz
    have := num_bd h (i + 1) i (by omega)
    have := List.mem_range.1 hi
    exact wf_small (by omega) (by omega)
  obtain ⟨g, cap, rfl, _, _, _, hcm, _, _⟩ := own_form ho hn
  obtain ⟨a3, c3, hve, hint, _⟩ := IntsV.ofOwn ho hb
  cases hve
  exact ⟨g, cap, rfl, hk1, hcm, hint⟩
theorem numbers0 {a : Option Addr} {c : Nat} {h : List Ln} {w : World} (hv : LnsV w a 0 c h) (hk : HOk h) :
    Calls Try.prog 26 #[.slice a 0 c] w fun e w' => ∃ av cv, e = .returned (.tuple #[.slice av 0 cv, .int .i64 0]) ∧ Keep [] w w' := by
  refine (numbers_ok hv hk).mono ?_
  rintro e w' ⟨v, rfl, hk1, ho⟩
  obtain ⟨av, cv, rfl⟩ := own_slice ho
  exact ⟨av, cv, rfl, hk1⟩
theorem nums_at {h : List Ln} {n i : Nat} (hi : i < n) : ((List.range n).map (num h)).getD i 0 = num h i := by
  simp [List.getD_eq_getElem?_getD, hi]
set_option maxRecDepth 100000 in
set_option maxHeartbeats 4000000 in
theorem clockNumbers_walk (a : Option Addr) (len cap : Nat) (zs : List Int) (w : World) (hv : IntsV w a len cap zs) :
    Calls Try.prog 7 #[.slice a len cap] w fun e w' => e = .returned (.bool true) ∧ Keep [] w w' := by
  obtain ⟨N, hN⟩ : ∃ N, (hist zs).length = N := ⟨_, rfl⟩
  have hok : HOk (hist zs) := (hist_inv zs).ok
  have hN60 := hist_len zs
  rw [hN] at hN60
  have hNle : N ≤ 60 := by omega
  have HV := Lib.hid hv
  have HOK := Lib.hid hok
  clear hv hN60
  by_cases h0 : N = 0
  · have HN := Lib.hid (hN.trans h0)
    clear hN h0 hNle hok
    go_enter Try.func7, Try.ntmps7
    go_wp2_with (first | (go_at_call 22; refine (begun_any _).mono ?_; rintro e w1 ⟨rfl, hk1⟩) | (go_at_call 20; refine (history_at (HV.out.keep hk1 (by simp)) HN).mono ?_; rintro e w2 ⟨a2, c2, rfl, hk2, hv2⟩; have HV2 := Lib.hid hv2; clear hv2) | (go_at_call 26; refine (numbers0 HV2.out HOK.out).mono ?_; rintro e w3 ⟨an, cn, rfl, hk3⟩; have HV3 := Lib.hid (HV2.out.keep hk3 (by simp))) | (go_at_call 25; refine (clocks0 HV3.out HOK.out).mono ?_; rintro e w4 ⟨av, cv, rfl, hk4⟩))
    go_loopw [46] (fun i wr => i = .int .i64 0 ∧ wr = w4) (fun _ _ => 0)
    case atStart => exact ⟨rfl, rfl⟩
    case round =>
      obtain ⟨rfl, rfl⟩ := hrel
      go_wp2_with fail
      all_goals
        go_ret
        exact ⟨by first | rfl | exact ret_bool (by decide), ((hk1.trans hk2).trans hk3).trans hk4⟩
  · have HN := Lib.hid hN
    have HLAW := Lib.hid (fun (i k : Nat) (hki : k < i) (hi : i < N) => clockNumbers_law hok hki (by rw [hN]; exact hi))
    clear hN hok
    go_enter Try.func7, Try.ntmps7
    go_wp2_with (first | (go_at_call 22; refine (begun_any _).mono ?_; rintro e w1 ⟨rfl, hk1⟩) | (go_at_call 20; refine (history_at (HV.out.keep hk1 (by simp)) HN).mono ?_; rintro e w2 ⟨a2, c2, rfl, hk2, hv2⟩; have HV2 := Lib.hid hv2; clear hv2) | (go_at_call 26; refine (numbers_at HV2.out HOK.out (by omega)).mono ?_; rintro e w3 ⟨gn, cn, rfl, hk3, hcn, hni⟩; have HV3 := Lib.hid (HV2.out.keep hk3 (by simp)); have HNI := Lib.hid hni; unfold maxLen at hcn; clear hni) | (go_at_call 25; refine (clocks_at HV3.out HOK.out (by omega)).mono ?_; rintro e w4 ⟨g, cg, rfl, hk4, hg, hgl, hnc, hcm, hcs⟩; have HQ0 : Hid (ClksV w4 g N (hist zs)) := Lib.hid hcs; unfold maxLen at hcm; clear hcs))
    have HNJ := Lib.hid (HNI.out.keep hk4 (by simp))
    clear HNI
    have hkT : Keep [] w w4 := ((hk1.trans hk2).trans hk3).trans hk4
    go_loopw [46] (fun i wr => ∃ I : Nat, I ≤ N ∧ i = .int .i64 I ∧ Keep [] w wr ∧ Hid (ClksV wr g N (hist zs)) ∧ Hid (IntsV wr (some ⟨gn, 0, none⟩) N cn ((List.range N).map (num (hist zs))))) (fun i _ => N - (intOf i).toNat)
    case atStart => exact ⟨0, by omega, rfl, hkT, HQ0, HNJ⟩
    case round =>
      obtain ⟨I, hI, rfl, hkw, HQ, HR⟩ := hrel
      clear HQ0 HNJ hkT hk1 hk2 hk3 hk4
      by_cases hlt : I < N
      · have hdec : decide ((I : Int) < N) = true := by simpa using hlt
        go_wp2_with fail
        go_loopw [50] (fun i wr => ∃ K : Nat, K ≤ I ∧ i = .int .i64 K ∧ Keep [] w wr ∧ Hid (ClksV wr g N (hist zs)) ∧ Hid (IntsV wr (some ⟨gn, 0, none⟩) N cn ((List.range N).map (num (hist zs))))) (fun i _ => I - (intOf i).toNat)
        case atStart => exact ⟨0, by omega, rfl, hkw, HQ, HR⟩
        case round =>
          obtain ⟨K, hK, rfl, hkx, HX, HY⟩ := hrel
          by_cases hlk : K < I
          · obtain ⟨gi, ci, hci, hii⟩ := HX.out I hlt
            obtain ⟨gk, ck, hck, hik⟩ := HX.out K (by omega)
            obtain ⟨_, _, he, hcell⟩ := HY.out.cells (by omega)
            cases he
            have hni := hcell I hlt
            have hnk := hcell K (by omega)
            rw [nums_at hlt, show 0 + I = I by omega] at hni
            rw [nums_at (show K < N by omega), show 0 + K = K by omega] at hnk
            have HII := Lib.hid hii
            have HIK := Lib.hid hik
            have hlaw := HLAW.out I K hlk hlt
            obtain ⟨b, hb⟩ : ∃ b, lessL (clk (hist zs) K) (clk (hist zs) I) = b := ⟨_, rfl⟩
            obtain ⟨x, hx⟩ : ∃ x, num (hist zs) I = x := ⟨_, rfl⟩
            obtain ⟨y, hy⟩ : ∃ y, num (hist zs) K = y := ⟨_, rfl⟩
            rw [hx] at hni
            rw [hy] at hnk
            rw [hb, hx, hy] at hlaw
            have HB := Lib.hid hb
            have HNO := Lib.hid hlaw.2
            have hlw := hlaw.1
            clear hii hik hb hcell hx hy hlaw
            have f1 : (I : Int) < (N : Int) := by omega
            have f2 : (K : Int) < (N : Int) := by omega
            cases b
            · clear hlw
              go_wp2_with fail
              go_quiet (first | (go_at_call 27; exact less_q HII.out HIK.out HNO) | (go_at_call 27; exact less_q HIK.out HII.out HB))
              go_wp2_with fail
              go_roundw
              case measure => simp [intOf]; omega
              case rel => exact ⟨K + 1, by omega, by go_num, keep_drewN hkx _, Lib.hid (HX.out.keep (keep_drewN (Keep.refl [] _) _)), Lib.hid (HY.out.keep (keep_drewN (Keep.refl [] _) _) (by simp))⟩
            · have hxy : y < x := hlw rfl
              clear hlw
              go_wp2_with fail
              go_quiet (first | (go_at_call 27; exact less_q HII.out HIK.out HNO) | (go_at_call 27; exact less_q HIK.out HII.out HB))
              go_wp2_with fail
              go_roundw
              case measure => simp [intOf]; omega
              case rel => exact ⟨K + 1, by omega, by go_num, keep_drewN hkx _, Lib.hid (HX.out.keep (keep_drewN (Keep.refl [] _) _)), Lib.hid (HY.out.keep (keep_drewN (Keep.refl [] _) _) (by simp))⟩
          · have HKI := Lib.hid (show K = I by omega)
            go_wp2_with fail
            go_roundw
            case measure => simp [intOf]; omega
            case rel => exact ⟨I + 1, by omega, by go_num, hkx, HX, HY⟩
      · go_wp2_with fail
        go_ret
        exact ⟨rfl, hkw⟩
end Go.Proofs.Ytkhchfjhmplaiaa
namespace Go
open Go.RowKit
/-- Two neighbours change places. -/
def swapL (h : List Ln) (i : Nat) : List Ln := (h.set i (lat h (i + 1))).set (i + 1) (lat h i)
def sw (i k : Nat) : Nat := if k = i then i + 1 else if k = i + 1 then i else k
theorem swapL_len (h : List Ln) (i : Nat) : (swapL h i).length = h.length := by simp [swapL]
theorem lat_swap {h : List Ln} {i : Nat} (hi : i + 1 < h.length) (k : Nat) : lat (swapL h i) k = lat h (sw i k) := by
  unfold swapL sw
  rw [lat_set _ _ _ _ (by simpa using hi)]
  by_cases e : i + 1 = k
  · rw [if_pos e, if_neg (by omega), if_pos (by omega)]
  · rw [if_neg e, lat_set _ _ _ _ (by omega)]
    by_cases e2 : i = k
    · rw [if_pos e2, if_pos (by omega)]
    · rw [if_neg e2, if_neg (by omega), if_neg (by omega)]
theorem sw_sw (i k : Nat) : sw i (sw i k) = k := by
  unfold sw
  by_cases e : k = i
  · rw [if_pos e, if_neg (by omega), if_pos rfl, e]
  · rw [if_neg e]
    by_cases e2 : k = i + 1
    · rw [if_pos e2, if_pos rfl, e2]
    · rw [if_neg e2, if_neg e, if_neg e2]
theorem sw_lt {i k n : Nat} (hi : i + 1 < n) (hk : k < n) : sw i k < n := by unfold sw; split <;> (try split) <;> omega
/-- The two are not bound to each other. -/
structure Free (h : List Ln) (i : Nat) : Prop where
  at_ : i + 1 < h.length
  place : (lat h i).q ≠ (lat h (i + 1)).q
  word : ¬ ((lat h i).g = 2 ∧ (lat h (i + 1)).g = 3 ∧ (lat h i).u = (lat h (i + 1)).u)
theorem swap_ok {h : List Ln} (hk : HOk h) {i : Nat} (hf : Free h i) : HOk (swapL h i) := by
  have hi := hf.at_
  have hl : ∀ k, lat (swapL h i) k = lat h (sw i k) := lat_swap hi
  have hlen := swapL_len h i
  have uniq : ∀ g : Int, (∀ x y, x < y → y < h.length → (lat h x).g = g → (lat h y).g = g → (lat h x).u ≠ (lat h y).u) → ∀ x y, x < y → y < (swapL h i).length → (lat (swapL h i) x).g = g → (lat (swapL h i) y).g = g → (lat (swapL h i) x).u ≠ (lat (swapL h i) y).u := fun g hu x y hxy hy h1 h2 => by
    rw [hl] at h1 h2 ⊢
    rw [hl]
    rw [hlen] at hy
    have hx' := sw_lt hi (show x < h.length by omega)
    have hy' := sw_lt hi hy
    have hne : sw i x ≠ sw i y := fun e => by have := congrArg (sw i) e; rw [sw_sw, sw_sw] at this; omega
    by_cases e : sw i x < sw i y
    · exact hu _ _ e hy' h1 h2
    · exact fun e2 => hu _ _ (by omega) hx' h2 h1 e2.symm
  refine ⟨by rw [hlen]; exact hk.len, fun k hlt => ?_, uniq 2 hk.sends, uniq 3 hk.takes, fun k hlt hg => ?_⟩
  · rw [hl]; rw [hlen] at hlt; exact hk.ev _ (sw_lt hi hlt)
  · rw [hl] at hg
    rw [hlen] at hlt
    obtain ⟨j, hj, h1, h2⟩ := hk.sent _ (sw_lt hi hlt) hg
    refine ⟨sw i j, ?_, by rw [hl, sw_sw]; exact h1, by rw [hl, hl, sw_sw]; exact h2⟩
    by_cases e : j = i ∧ sw i k = i + 1
    · obtain ⟨e1, e2⟩ := e
      rw [e2] at hg h2
      rw [e1] at h1 h2
      exact absurd ⟨h1, hg, h2⟩ hf.word
    · have hd : ∀ x, (x = i ∧ sw i x = i + 1) ∨ (x = i + 1 ∧ sw i x = i) ∨ (x ≠ i ∧ x ≠ i + 1 ∧ sw i x = x) := fun x => by
        unfold sw
        by_cases c1 : x = i
        · rw [if_pos c1]; exact .inl ⟨c1, rfl⟩
        · by_cases c2 : x = i + 1
          · rw [if_neg c1, if_pos c2]; exact .inr (.inl ⟨c2, rfl⟩)
          · rw [if_neg c1, if_neg c2]; exact .inr (.inr ⟨c1, c2, rfl⟩)
      have d1 := hd j
      have d2 := hd k
      omega
theorem lastIx_swap {h : List Ln} {i : Nat} (hf : Free h i) (p : Int) : ∀ k, (k ≤ i → lastIx (swapL h i) p k = lastIx h p k) ∧ (i + 2 ≤ k → lastIx (swapL h i) p k = (lastIx h p k).map (sw i)) := by
  have hl : ∀ k, lat (swapL h i) k = lat h (sw i k) := lat_swap hf.at_
  have hlow : ∀ k, k ≤ i → lastIx (swapL h i) p k = lastIx h p k := fun k => by
    induction k with
    | zero => intro _; rfl
    | succ k ih =>
      intro hk
      rw [lastIx, lastIx, hl, show sw i k = k by unfold sw; rw [if_neg (by omega), if_neg (by omega)], ih (by omega)]
  intro k
  refine ⟨hlow k, ?_⟩
  induction k with
  | zero => intro h; omega
  | succ k ih =>
    intro hk
    by_cases e : k = i + 1
    · subst e
      have hp := hf.place
      rw [lastIx, lastIx, hlow i (Nat.le_refl _), lastIx, lastIx, hl, hl, show sw i (i + 1) = i by unfold sw; rw [if_neg (by omega), if_pos rfl], show sw i i = i + 1 by unfold sw; rw [if_pos rfl]]
      by_cases e1 : (lat h i).q = p
      · have e2 : ¬ (lat h (i + 1)).q = p := fun e2 => hp (e1.trans e2.symm)
        rw [if_pos e1, if_neg e2, if_pos e1]; simp [sw]
      · rw [if_neg e1, if_neg e1]
        by_cases e2 : (lat h (i + 1)).q = p
        · rw [if_pos e2, if_pos e2]; simp [sw]
        · rw [if_neg e2, if_neg e2]
          cases hx : lastIx h p i with
          | none => rfl
          | some j =>
            have := (lastIx_lt hx).1
            simp only [Option.map_some, sw]
            rw [if_neg (by omega), if_neg (by omega)]
    · rw [lastIx, lastIx, hl, show sw i k = k by unfold sw; rw [if_neg (by omega), if_neg (by omega)], ih (by omega)]
      split
      · simp only [Option.map_some, sw]; rw [if_neg (by omega), if_neg (by omega)]
      · rfl
theorem sendIx_swap {h : List Ln} (hk : HOk h) {i : Nat} (hf : Free h i) (u : Int) : ∀ k, (k ≤ i → sendIx (swapL h i) u k = sendIx h u k) ∧ (i + 2 ≤ k → sendIx (swapL h i) u k = (sendIx h u k).map (sw i)) := by
  have hl : ∀ k, lat (swapL h i) k = lat h (sw i k) := lat_swap hf.at_
  have hlow : ∀ k, k ≤ i → sendIx (swapL h i) u k = sendIx h u k := fun k => by
    induction k with
    | zero => intro _; rfl
    | succ k ih =>
      intro hk
      rw [sendIx, sendIx, hl, show sw i k = k by unfold sw; rw [if_neg (by omega), if_neg (by omega)], ih (by omega)]
  intro k
  refine ⟨hlow k, ?_⟩
  induction k with
  | zero => intro h; omega
  | succ k ih =>
    intro hk2
    by_cases e : k = i + 1
    · subst e
      rw [sendIx, sendIx, hlow i (Nat.le_refl _), sendIx, sendIx, hl, hl, show sw i (i + 1) = i by unfold sw; rw [if_neg (by omega), if_pos rfl], show sw i i = i + 1 by unfold sw; rw [if_pos rfl]]
      by_cases e1 : (lat h i).g = 2 ∧ (lat h i).u = u
      · have e2 : ¬ ((lat h (i + 1)).g = 2 ∧ (lat h (i + 1)).u = u) := fun e2 => hk.sends i (i + 1) (by omega) hf.at_ e1.1 e2.1 (e1.2.trans e2.2.symm)
        rw [if_pos e1, if_neg e2, if_pos e1]; simp [sw]
      · rw [if_neg e1, if_neg e1]
        by_cases e2 : (lat h (i + 1)).g = 2 ∧ (lat h (i + 1)).u = u
        · rw [if_pos e2, if_pos e2]; simp [sw]
        · rw [if_neg e2, if_neg e2]
          cases hx : sendIx h u i with
          | none => rfl
          | some j =>
            have := (sendIx_lt hx).1
            simp only [Option.map_some, sw]
            rw [if_neg (by omega), if_neg (by omega)]
    · rw [sendIx, sendIx, hl, show sw i k = k by unfold sw; rw [if_neg (by omega), if_neg (by omega)], ih (by omega)]
      split
      · simp only [Option.map_some, sw]; rw [if_neg (by omega), if_neg (by omega)]
      · rfl
/-- The clocks stay. -/
theorem swap_clk {h : List Ln} (hk : HOk h) {i : Nat} (hf : Free h i) : ∀ (n k : Nat), k < n → k < h.length → clk (swapL h i) (sw i k) = clk h k := by
  have hl : ∀ k, lat (swapL h i) k = lat h (sw i k) := lat_swap hf.at_
  have hi := hf.at_
  intro n
  induction n with
  | zero => intro k h; omega
  | succ n ih =>
    intro k hn hlt
    have hsame : ∀ j, j < i → sw i j = j := fun j hj => by unfold sw; rw [if_neg (by omega), if_neg (by omega)]
    have hlastlow : ∀ (p : Int) (z : List Int) (m : Nat), m ≤ i → m ≤ n → (lastIx h p m).elim z (clk (swapL h i)) = (lastIx h p m).elim z (clk h) := fun p z m hm hmn => by
      cases hx : lastIx h p m with
      | none => rfl
      | some j =>
        have hj := (lastIx_lt hx).1
        have := ih j (by omega) (by omega)
        rw [hsame j (by omega)] at this
        exact this
    have hsendlow : ∀ (u : Int) (z : List Int) (m : Nat), m ≤ i → m ≤ n → (sendIx h u m).elim z (clk (swapL h i)) = (sendIx h u m).elim z (clk h) := fun u z m hm hmn => by
      cases hx : sendIx h u m with
      | none => rfl
      | some j =>
        have hj := (sendIx_lt hx).1
        have := ih j (by omega) (by omega)
        rw [hsame j (by omega)] at this
        exact this
    rw [clk_eq (swapL h i), clk_eq h k, hl, sw_sw]
    have h1 : (lastIx (swapL h i) (lat h k).q (sw i k)).elim zeros8 (clk (swapL h i)) = (lastIx h (lat h k).q k).elim zeros8 (clk h) := by
      by_cases c1 : k < i
      · rw [hsame k c1, (lastIx_swap hf _ k).1 (by omega), hlastlow _ _ k (by omega) (by omega)]
      · by_cases c2 : k = i
        · subst c2
          rw [show sw k k = k + 1 by unfold sw; rw [if_pos rfl], lastIx, hl, show sw k k = k + 1 by unfold sw; rw [if_pos rfl], if_neg (fun e => hf.place e.symm), (lastIx_swap hf _ k).1 (by omega), hlastlow _ _ k (by omega) (by omega)]
        · by_cases c3 : k = i + 1
          · subst c3
            rw [show sw i (i + 1) = i by unfold sw; rw [if_neg (by omega), if_pos rfl], lastIx, if_neg hf.place, (lastIx_swap hf _ i).1 (by omega), hlastlow _ _ i (by omega) (by omega)]
          · rw [show sw i k = k by unfold sw; rw [if_neg c2, if_neg c3], (lastIx_swap hf _ k).2 (by omega)]
            cases hx : lastIx h (lat h k).q k with
            | none => rfl
            | some j => have hj := (lastIx_lt hx).1; exact ih j (by omega) (by omega)
    have h2 : (lat h k).g = 3 → (sendIx (swapL h i) (lat h k).u (sw i k)).elim [] (clk (swapL h i)) = (sendIx h (lat h k).u k).elim [] (clk h) := fun hg => by
      by_cases c1 : k < i
      · rw [hsame k c1, (sendIx_swap hk hf _ k).1 (by omega), hsendlow _ _ k (by omega) (by omega)]
      · by_cases c2 : k = i
        · subst c2
          obtain ⟨j, hj⟩ := sendIx_take hk hlt hg
          have hjl := sendIx_lt hj
          have hno : ¬ ((lat h (k + 1)).g = 2 ∧ (lat h (k + 1)).u = (lat h k).u) := fun e => hk.sends j (k + 1) (by omega) hi hjl.2.1 e.1 (hjl.2.2.trans e.2.symm)
          rw [show sw k k = k + 1 by unfold sw; rw [if_pos rfl], sendIx, hl, show sw k k = k + 1 by unfold sw; rw [if_pos rfl], if_neg hno, (sendIx_swap hk hf _ k).1 (by omega), hsendlow _ _ k (by omega) (by omega)]
        · by_cases c3 : k = i + 1
          · subst c3
            have hno : ¬ ((lat h i).g = 2 ∧ (lat h i).u = (lat h (i + 1)).u) := fun e => hf.word ⟨e.1, hg, e.2⟩
            rw [show sw i (i + 1) = i by unfold sw; rw [if_neg (by omega), if_pos rfl], sendIx, if_neg hno, (sendIx_swap hk hf _ i).1 (by omega), hsendlow _ _ i (by omega) (by omega)]
          · rw [show sw i k = k by unfold sw; rw [if_neg c2, if_neg c3], (sendIx_swap hk hf _ k).2 (by omega)]
            cases hx : sendIx h (lat h k).u k with
            | none => rfl
            | some j => have hj := (sendIx_lt hx).1; exact ih j (by omega) (by omega)
    rw [h1]
    by_cases hg : (lat h k).g = 3
    · rw [if_pos hg, if_pos hg, h2 hg]
    · rw [if_neg hg, if_neg hg]
theorem swap_clk' {h : List Ln} (hk : HOk h) {i : Nat} (hf : Free h i) {k : Nat} (hl : k < h.length) : clk (swapL h i) k = clk h (sw i k) := by
  have := swap_clk hk hf (sw i k + 1) (sw i k) (by omega) (sw_lt hf.at_ hl)
  rw [sw_sw] at this
  exact this
/-- Of two neighbours, none ahead of the other: they are not bound. -/
theorem free_of {h : List Ln} (hk : HOk h) {i : Nat} (hi : i + 1 < h.length) (hn : lessL (clk h i) (clk h (i + 1)) = false) : Free h i := by
  refine ⟨hi, fun e => ?_, fun e => ?_⟩
  · have := same_less hk (show i < i + 1 by omega) hi e
    rw [hn] at this; cases this
  · have h1 : edgeB h i (i + 1) = true := by unfold edgeB; rw [e.1, e.2.1, e.2.2]; simp
    have h2 := reach_le hk (.step .here (show i < i + 1 by omega) h1) (by omega)
    have := le_less hk (show i < i + 1 by omega) hi h2
    rw [hn] at this; cases this
end Go
namespace Go.Proofs
open Go.Shelf
def Try.laysSlE041_f39_ren : Go.Shelf.Ren := ⟨fun | 41 => 39 | n => n, fun | 22 => 28 | 23 => 27 | 4 => 4 | n => n, fun | n => n⟩
theorem Try.laysSlE041_f39 : Go.Proofs.SlLaysE0.n41 Try.prog Try.laysSlE041_f39_ren := {
  mixed := by kernel_rfl
  f41 := ⟨Try.f39.name, by decide, Try.func39.trans (congrArg some (by kernel_rfl))⟩
  t4 := Try.underlying4
  a4 := Try.isAgg4
  z4 := Try.sizeOf4
  v4 := Try.zeroValue4
  t22 := Try.underlying28
  a22 := Try.isAgg28
  z22 := Try.sizeOf28
  v22 := Try.zeroValue28 }
end Go.Proofs
namespace Go.Proofs.Ytkhchfjhmplaiaa
open Go.RowKit
theorem lns_own_cells {w : World} {a : Option Addr} {n c : Nat} {h : List Ln} (hv : LnsV w a n c h) (hn : 0 < n) : ∃ b off, a = some ⟨b, off, none⟩ ∧ ∀ j u, (lanesC h)[j]? = some u → w.cell? ⟨b, off + j, none⟩ = some u := by
  obtain ⟨b, off, rfl, hc⟩ := hv.cells hn
  refine ⟨b, off, rfl, fun j u hu => ?_⟩
  have h1 := lanesC_len h
  have h2 := hv.len
  have h3 := (List.getElem?_eq_some_iff.1 hu).1
  rw [hc j (by omega)]; exact hu
/-- A history is cloned. -/
theorem clone_any {a : Option Addr} {n c : Nat} {h : List Ln} {w : World} (hv : LnsV w a n c h) (hn : 0 < n) (hn2 : n ≤ 200) :
    Calls Try.prog 39 #[.slice a n c] w fun e w' => ∃ g cap, e = .returned (.slice (some ⟨g, 0, none⟩) n cap) ∧ Keep [] w w' ∧ w'.ownsRow w.heap.size 27 3 (.slice (some ⟨g, 0, none⟩) n cap) n (lanesC h) := by
  obtain ⟨b, off, rfl, hc⟩ := lns_own_cells hv hn
  obtain ⟨i0, hi0, hz0, hz1, hz2⟩ := info_parts info27
  have hl := lanesC_len h
  have hl2 := hv.len
  have h9 : Calls Try.prog 39 #[.slice (some ⟨b, off, none⟩) n c] w fun e w' => ∃ v', e = .returned v' ∧ w'.ownsRow w.heap.size 27 3 v' n (lanesC h) ∧ v' ≠ .slice none 0 0 ∧ Below w.heap.size w w' :=
    Go.Proofs.AnyE.slices_Clone Try.laysSlE041_f39 i0 _ 3 24 hi0 hz0 hz1 hz2 rfl (by decide) (fun w => by kernel_rfl) b off n c (lanesC h) w (by rw [hl, hl2]; omega) (by unfold maxLen; omega) (by omega) hc (fun u hu => by
      obtain ⟨L, hL, hu⟩ := List.mem_flatMap.1 hu
      simp [Ln.cells] at hu
      rcases hu with hu | hu | hu <;> (subst hu; rfl))
  refine h9.mono ?_
  rintro e w' ⟨v, rfl, ho, _, hb⟩
  have ho2 := ho
  rcases ho.2 with ⟨_, h0⟩ | ⟨g, cap, cur, rfl, _⟩
  · omega
  · exact ⟨g, cap, rfl, ⟨hb.os, hb.tape, hb.output, hb.size, fun i hi _ => hb.block i hi⟩, ho2⟩
theorem own_put_cell {w : World} {B e m n : Nat} {g cap : Nat} {xs : List Value} (h : w.ownsRow B e m (.slice (some ⟨g, 0, none⟩) n cap) n xs) (j : Nat) (x : Value) :
    (w.setCell ⟨g, j, none⟩ x).ownsRow B e m (.slice (some ⟨g, 0, none⟩) n cap) n (xs.set j x) := by
  obtain ⟨hl, h⟩ := h
  refine ⟨by simpa using hl, ?_⟩
  rcases h with ⟨h0, _⟩ | ⟨g', cap', cur, hv, hb, hg, hnc, hcm, hcs, ht⟩
  · cases h0
  · cases hv
    refine .inr ⟨g, cap, cur.setIfInBounds j x, rfl, hb, by rw [blk_setCell, if_pos rfl, hg]; rfl, hnc, hcm, by simpa using hcs, ?_⟩
    rw [← ht]
    simp only [Array.toList_setIfInBounds]
    rw [List.take_set]
theorem own_put3 {w : World} {B e n : Nat} {g cap : Nat} {ls : List Ln} (h : w.ownsRow B e 3 (.slice (some ⟨g, 0, none⟩) n cap) n (lanesC ls)) {i : Nat} (hi : i < ls.length) (x y z : Int) :
    (((w.setCell ⟨g, i * 3, none⟩ (.int .i64 x)).setCell ⟨g, i * 3 + 1, none⟩ (.int .i64 y)).setCell ⟨g, i * 3 + 2, none⟩ (.int .i64 z)).ownsRow B e 3 (.slice (some ⟨g, 0, none⟩) n cap) n (lanesC (ls.set i ⟨x, y, z⟩)) := by
  have h1 := own_put_cell (own_put_cell (own_put_cell h (i * 3) (.int .i64 x)) (i * 3 + 1) (.int .i64 y)) (i * 3 + 2) (.int .i64 z)
  have e0 := lanes_put ls i 0 (.int .i64 x) ⟨x, (lat ls i).g, (lat ls i).u⟩ hi (by omega) rfl
  have e1 := lanes_put (ls.set i ⟨x, (lat ls i).g, (lat ls i).u⟩) i 1 (.int .i64 y) ⟨x, y, (lat ls i).u⟩ (by simpa using hi) (by omega) (by rw [lat_set _ _ _ _ hi, if_pos rfl]; rfl)
  have e2 := lanes_put (ls.set i ⟨x, y, (lat ls i).u⟩) i 2 (.int .i64 z) ⟨x, y, z⟩ (by simpa using hi) (by omega) (by rw [lat_set _ _ _ _ hi, if_pos rfl]; rfl)
  rw [List.set_set] at e1 e2
  rw [Nat.add_zero] at e0
  rw [e0, e1, e2] at h1
  exact h1
/-- Two slices of rows are compared. -/
def RowsC (w : World) (g n : Nat) (R : Nat → List Int) : Prop := ∀ i, i < n → ∃ a m c, w.cell? ⟨g, i, none⟩ = some (.slice a m c) ∧ IntsV w a m c (R i)
theorem RowsC.keep {w w' : World} {g n : Nat} {R : Nat → List Int} (h : RowsC w g n R) (hk : Keep [] w w') : RowsC w' g n R := fun i hi =>
  let ⟨a, m, c, h1, h2⟩ := h i hi
  ⟨a, m, c, hk.cell h1 (by simp), h2.keep hk (by simp)⟩
theorem eqc_any {a1 a2 : Option Addr} {n1 c1 n2 c2 : Nat} {xs : List Int} {w : World} (hx : IntsV w a1 n1 c1 xs) (hy : IntsV w a2 n2 c2 xs) :
    Calls Try.prog 42 #[.slice a1 n1 c1, .slice a2 n2 c2] w fun e w' => e = .returned (.bool true) ∧ Keep [] w w' := by
  have h := equal_any hx hy
  rw [decide_eq_true rfl] at h
  have H := Lib.hid h
  clear h hx hy
  go_enter Try.func42, Try.ntmps42
  go_wp2_with (first | (go_at_call 34; refine H.out.mono ?_; rintro e w1 ⟨rfl, hk1⟩))
  go_ret
  exact ⟨rfl, hk1⟩
theorem eqf_any {g1 c1 g2 c2 n : Nat} {R : Nat → List Int} {w : World} (hx : RowsC w g1 n R) (hy : RowsC w g2 n R) (h1 : n ≤ c1) (_ : n ≤ c2) (hm1 : c1 ≤ maxLen) (_ : c2 ≤ maxLen) :
    Calls Try.prog 41 #[.slice (some ⟨g1, 0, none⟩) n c1, .slice (some ⟨g2, 0, none⟩) n c2, .func (.func 42) #[] #[]] w fun e w' => e = .returned (.bool true) ∧ Keep [] w w' := by
  have HX0 := Lib.hid hx
  have HY0 := Lib.hid hy
  unfold maxLen at hm1
  clear hx hy
  go_enter Try.func41, Try.ntmps41
  go_wp2_with fail
  go_loopw [17] (fun i wr => ∃ k : Nat, k ≤ n ∧ i = .int .i64 k ∧ Keep [] w wr ∧ Hid (RowsC wr g1 n R) ∧ Hid (RowsC wr g2 n R)) (fun i _ => n - (intOf i).toNat)
  case atStart => exact ⟨0, by omega, rfl, Keep.refl _ _, HX0, HY0⟩
  case round =>
    obtain ⟨k, hk, rfl, hkw, HX, HY⟩ := hrel
    by_cases hlt : k < n
    · obtain ⟨a3, m3, c3, hc3, hi3⟩ := HX.out k hlt
      obtain ⟨a4, m4, c4, hc4, hi4⟩ := HY.out k hlt
      have HI3 := Lib.hid hi3
      have HI4 := Lib.hid hi4
      clear hi3 hi4
      go_wp2_with (first | (go_at_call 42; refine (eqc_any HI3.out HI4.out).mono ?_; rintro e w1 ⟨rfl, hk1⟩))
      go_roundw
      case measure => simp [intOf]; omega
      case rel => exact ⟨k + 1, by omega, by go_num, hkw.trans hk1, Lib.hid (HX.out.keep hk1), Lib.hid (HY.out.keep hk1)⟩
    · go_wp2_with fail
      go_ret
      exact ⟨rfl, hkw⟩
end Go.Proofs.Ytkhchfjhmplaiaa
