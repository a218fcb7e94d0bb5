import Derived.Test.YtkhchfjhmplaiaaH9
import Derived.Test.YtkhchfjhmplaiaaHP9
namespace Go
open Go.RowKit
theorem wpList_lookup_v {P : Program} (w : World) {ops : Array Oper} {rest : List Oper} {o : Oper} {a : Act} {Q : Exit → Act → World → Prop}
    (hg : o.guard = none) (m x : Operand) (t : TypeId) (hop : o.op = Op.lookup t m x false)
    (k e : TypeId) (ht : P.underlying t = some (.map k e)) (hki : P.underlying k = some (.int .i64)) (z : Value) (hz : (zeroValue e).run P w = .ok z w) (b n : Nat) (f : Int → Option Value)
    (hm : a.eval m = .map (some b)) (hown : MapF w P k b n f) (key : Int) (hx : a.eval x = .int .i64 key) (hwf : (Lit.int .i64 key).wf = true) (v : Value) (hv : Hid ((f key).getD z = v))
    (hK : wpList P ops Q rest (a.put o.dst v) w) : wpList P ops Q (o :: rest) a w :=
  wpList_lookup_f w hg m x t hop k e ht hki z hz b n f hm hown key hx hwf (by rw [hv.out]; exact hK)
/-- The numbers by place, and by message. -/
def FPn (h : List Ln) (k : Nat) (x : Int) : Option Value := (lastIx h x k).map fun i => .int .i64 (num h i)
def FSn (h : List Ln) (k : Nat) (x : Int) : Option Value := (sendIx h x k).map fun i => .int .i64 (num h i)
theorem MapF.grown {w w' : World} {P : Program} {kt : TypeId} {b n : Nat} {f : Int → Option Value} {row : Option Nat} (h : MapF w P kt b n f) (hg : w.grownBy w' row) (hn : some b ≠ row) : MapF w' P kt b n f := h.block (hg.block b h.lt hn)
theorem FPn_next {h : List Ln} {k : Nat} {q : Int} (hq : (lat h k).q = q) : FPn h (k + 1) = fun y => if y = q then some (.int .i64 (num h k)) else FPn h k y := by
  funext y
  unfold FPn
  rw [lastIx, hq]
  by_cases e : y = q
  · rw [if_pos e, if_pos e.symm]; rfl
  · rw [if_neg e, if_neg (fun h => e h.symm)]
theorem FSn_next {h : List Ln} {k : Nat} {u : Int} (hg : (lat h k).g = 2) (hu : (lat h k).u = u) : FSn h (k + 1) = fun y => if y = u then some (.int .i64 (num h k)) else FSn h k y := by
  funext y
  unfold FSn
  rw [sendIx, hu]
  by_cases e : y = u
  · rw [if_pos e, if_pos ⟨hg, e.symm⟩]; rfl
  · rw [if_neg e, if_neg (fun h => e h.2.symm)]
theorem FSn_same {h : List Ln} {k : Nat} (hg : (lat h k).g ≠ 2) : FSn h (k + 1) = FSn h k := by
  funext y
  unfold FSn
  rw [sendIx, if_neg (fun h => hg h.1)]
theorem FPn_get (h : List Ln) (k : Nat) (x : Int) : (FPn h k x).getD (.int .i64 0) = .int .i64 ((lastIx h x k).elim 0 (num h)) := by
  unfold FPn; cases lastIx h x k <;> rfl
theorem FSn_get (h : List Ln) (k : Nat) (x : Int) : (FSn h k x).getD (.int .i64 0) = .int .i64 ((sendIx h x k).elim 0 (num h)) := by
  unfold FSn; cases sendIx h x k <;> rfl
theorem last_bd (h : List Ln) (k : Nat) (x : Int) : 0 ≤ (lastIx h x k).elim 0 (num h) ∧ (lastIx h x k).elim 0 (num h) ≤ k := by
  cases hj : lastIx h x k with
  | none => exact ⟨Int.le_refl _, by show (0 : Int) ≤ k; omega⟩
  | some j => have := num_bd h (j + 1) j (by omega); have := (lastIx_lt hj).1; show 0 ≤ num h j ∧ num h j ≤ k; omega
theorem send_bd (h : List Ln) (k : Nat) (x : Int) : 0 ≤ (sendIx h x k).elim 0 (num h) ∧ (sendIx h x k).elim 0 (num h) ≤ k := by
  cases hj : sendIx h x k with
  | none => exact ⟨Int.le_refl _, by show (0 : Int) ≤ k; omega⟩
  | some j => have := num_bd h (j + 1) j (by omega); have := (sendIx_lt hj).1; show 0 ≤ num h j ∧ num h j ≤ k; omega
end Go
namespace Go.Proofs.Ytkhchfjhmplaiaa
open Go.RowKit
theorem zeroI (w : World) : (zeroValue 3).run Try.prog w = .ok (.int .i64 0) w := by kernel_rfl
theorem num_row (h : List Ln) {k : Nat} {x : Int} (hx : num h k = x) : ((List.range (k + 1)).map fun i => Value.int .i64 (num h i)) = ((List.range k).map fun i => Value.int .i64 (num h i)) ++ [.int .i64 x] := by
  rw [List.range_succ, List.map_append, ← hx]; rfl
set_option maxRecDepth 100000 in
set_option maxHeartbeats 4000000 in
theorem numbers_ok {a : Option Addr} {n c : Nat} {h : List Ln} {w : World} (hv : LnsV w a n c h) (hk : HOk h) :
    Calls Try.prog 26 #[.slice a n c] w fun e w' => ∃ v, e = .returned (.tuple #[v, .int .i64 0]) ∧ Keep [] w w' ∧ w'.ownsRow w.heap.size 3 1 v n ((List.range n).map fun i => .int .i64 (num h i)) := by
  have hmm := @run_makeMap Try.prog
  have hn2 : n ≤ 200 := by have := hk.len; have := hv.len; omega
  have HV := Lib.hid hv
  have HK := Lib.hid hk
  have HL := Lib.hid hv.len
  obtain ⟨i3, hi3, hy0, hy1, hy2⟩ := info_parts info3
  clear hv hk
  go_enter Try.func26, Try.ntmps26
  go_wp2_with (first | (go_at_call 51; refine (check_ok HV.out HK.out).mono ?_; rintro e w1 ⟨rfl, hk1⟩) | (with_reducible refine Txt.wp_region_text mixed quiet (by decide +kernel) ?_) | (with_reducible refine Txt.text_done (by kernel_rfl) ?_))
  have hsz1 := hk1.size
  have hM2 := MapF.made (w1.alloc (.map #[] 0)) Try.prog 3
  rw [show (w1.alloc (.map #[] 0)).heap.size = w1.heap.size + 1 by simp] at hM2
  have HM10 : Hid (MapF ((w1.alloc (.map #[] 0)).alloc (.map #[] 0)) Try.prog 3 w1.heap.size 0 (FPn h 0)) := Lib.hid ((MapF.made w1 Try.prog 3).keep ((Keep.refl [] _).alloc _) (by simp))
  have HM20 : Hid (MapF ((w1.alloc (.map #[] 0)).alloc (.map #[] 0)) Try.prog 3 (w1.heap.size + 1) 0 (FSn h 0)) := Lib.hid hM2
  clear hM2 hmm
  go_loopw [7, 20] (fun v i wr => ∃ k : Nat, k ≤ n ∧ i = .int .i64 k ∧ Keep [] w wr ∧ w1.heap.size + 2 ≤ wr.heap.size ∧ Hid (MapF wr Try.prog 3 w1.heap.size k (FPn h k)) ∧ Hid (MapF wr Try.prog 3 (w1.heap.size + 1) k (FSn h k)) ∧ Hid (wr.ownsRow (w1.heap.size + 2) 3 1 v k ((List.range k).map fun i => .int .i64 (num h i)))) (fun _ i _ => n - (intOf i).toNat)
  case atStart => exact ⟨0, by omega, rfl, (hk1.alloc _).alloc _, by simp, HM10, HM20, World.ownsRow_nil _ _ _ _⟩
  case round =>
    obtain ⟨k, hk, rfl, hkw2, hsw, HM1, HM2, HO⟩ := hrel
    clear HM10 HM20
    by_cases hlk : k < n
    · have hlh : k < h.length := by rw [HL.out]; exact hlk
      have he := HK.out.ev k hlh
      obtain ⟨b, off, rfl, c0, c1, c2⟩ := (HV.out.keep hkw2 (by simp)).at_ hlk
      have hsz2 := hkw2.size
      have hnum := num_eq h k
      have hLb := last_bd h k (lat h k).q
      have hSb := send_bd h k (lat h k).u
      have hF := FPn_get h k (lat h k).q
      have hS := FSn_get h k (lat h k).u
      have HNX := Lib.hid (fun (y : Int) (hy : (lat h k).q = y) => FPn_next hy)
      have HSX := Lib.hid (fun (y : Int) (hg : (lat h k).g = 2) (hy : (lat h k).u = y) => FSn_next hg hy)
      have HSS := Lib.hid (fun (hg : (lat h k).g ≠ 2) => FSn_same hg)
      obtain ⟨⟨q, g, u⟩, hL⟩ : ∃ L, lat h k = L := ⟨_, rfl⟩
      rw [hL] at he c0 c1 c2 hnum hLb hSb hF hS HNX HSX HSS
      dsimp only at he c0 c1 c2 hnum hLb hSb hF hS HNX HSX HSS
      have HWQ := Lib.hid (wf_msg he.1 (by omega))
      have HWF := Lib.hid (wf_msg he.2.2.2.2.1 he.2.2.2.2.2)
      clear hL
      obtain ⟨L, hL⟩ : ∃ L, (lastIx h q k).elim 0 (num h) = L := ⟨_, rfl⟩
      obtain ⟨S, hS1⟩ : ∃ S, (sendIx h u k).elim 0 (num h) = S := ⟨_, rfl⟩
      rw [hL] at hnum hLb hF
      rw [hS1] at hnum hSb hS
      have HF := Lib.hid hF
      have HS := Lib.hid hS
      clear hL hS1 hF hS
      have hkA : Keep [] wr (wr.alloc (.cells #[.int .i64 q, .int .i64 g, .int .i64 u] 27)) := (Keep.refl [] _).alloc _
      have HA1 := Lib.hid (HM1.out.keep hkA (by simp))
      have HA2 := Lib.hid (HM2.out.keep hkA (by simp))
      have HOA := Lib.hid (own_keep HO.out hkA (by simp))
      have hEv : (wr.alloc (.cells #[.int .i64 q, .int .i64 g, .int .i64 u] 27)).heap[wr.heap.size]? = some (.cells #[.int .i64 q, .int .i64 g, .int .i64 u] 27 (0, 0)) := blk_new _ _
      have HEV := Lib.hid hEv
      have HVL : Hid (∀ b, u7.ownBlock = some b → w1.heap.size + 2 ≤ b) := Lib.hid (fun b hb => (HO.out.lt b hb).1)
      have hkwA : Keep [] w (wr.alloc (.cells #[.int .i64 q, .int .i64 g, .int .i64 u] 27)) := hkw2.trans hkA
      clear hEv
      by_cases hg3 : g = 3
      · subst hg3
        rw [if_pos rfl] at hnum
        have hXb : 0 ≤ max L S ∧ max L S ≤ k := by omega
        have HN := Lib.hid hnum
        clear hnum
        go_wp2_with (first | (with_reducible refine Txt.wp_region_text mixed quiet (by decide +kernel) ?_) | (with_reducible refine Txt.text_done (by kernel_rfl) ?_) | (at_lookup; refine wpList_lookup_v _ rfl _ _ 84 rfl 3 3 Try.underlying84 Try.underlying3 (.int .i64 0) (zeroI _) w1.heap.size k (FPn h k) rfl HA1.out q rfl HWQ.out _ HF ?_) | (at_lookup; refine wpList_lookup_v _ rfl _ _ 84 rfl 3 3 Try.underlying84 Try.underlying3 (.int .i64 0) (zeroI _) (w1.heap.size + 1) k (FSn h k) rfl HA2.out u rfl HWF.out _ HS ?_) | (at_mapUpdate; refine wpList_update_f _ rfl _ _ _ 84 rfl 3 3 Try.underlying84 Try.underlying3 w1.heap.size k (FPn h k) rfl HA1.out (by unfold maxLen; omega) q (.int .i64 (max L S + 1)) rfl rfl HWQ.out ?_; intro w5 hm5 hgr5; have HM_w5 := Lib.hid hm5; have hk5 : Keep [w1.heap.size] (wr.alloc (.cells #[.int .i64 q, .int .i64 3, .int .i64 u] 27)) w5 := Keep.ofGrown hgr5 (fun x hx => by cases hx; simp); have hsz5 : wr.heap.size < w5.heap.size := (by have h9 := hk5.size; simp at h9; omega); have HO5 := Lib.hid (own_keep HOA.out hk5 (fun g hg hm => by have := HVL.out g hg; simp at hm; omega)); have HS5 := Lib.hid ((HA2.out.keep hk5 (by simp)).mono (show k ≤ k + 1 by omega)); have HK5 := Lib.hid (Keep.call hkwA hk5 (fun z hz => .inr (by simp at hz; omega))); obtain ⟨n0, n1, n2, _⟩ := row3 (hk5.at HEV.out (by simp; omega)); clear hm5 hgr5) | (at_builtin; refine wpList_append_own _ rfl _ _ 22 rfl (w1.heap.size + 2) 3 i3 (.int .i64 0) 1 8 Try.underlying22 hi3 hy0 hy1 hy2 rfl (by decide) _ _ _ rfl (HO5.out.alloc _) ⟨w5.heap.size, 0, none⟩ 1 1 [.int .i64 (max L S + 1)] rfl rfl (cell_one_at rfl _ _) (by intro u hu; simp at hu; subst hu; rfl) (by unfold maxLen; omega) (by omega) (by simp; omega) ?_; intro v6 w6 hown6 hgr6 _; have HO6 := Lib.hid hown6; have HGR6 := Lib.hid hgr6; clear hown6 hgr6))
        go_roundw
        case measure => simp [intOf]; omega
        case rel =>
          have hkf : Keep [] w w6 := (HK5.out.alloc _).grown HGR6.out (fun g hg => .inr (by have := HVL.out g hg; omega))
          have hs6 : w5.heap.size ≤ w6.heap.size := by have h9 := HGR6.out.size; simp at h9; omega
          have hm1 : MapF w6 Try.prog 3 w1.heap.size (k + 1) (FPn h (k + 1)) := by
            rw [HNX.out q rfl, HN.out]
            exact (HM_w5.out.keep ((Keep.refl [] _).alloc _) (by simp)).grown HGR6.out (fun e => by have := HVL.out _ e.symm; omega)
          have hm2 : MapF w6 Try.prog 3 (w1.heap.size + 1) (k + 1) (FSn h (k + 1)) := by
            rw [HSS.out (by decide)]
            exact (HS5.out.keep ((Keep.refl [] _).alloc _) (by simp)).grown HGR6.out (fun e => by have := HVL.out _ e.symm; omega)
          exact ⟨k + 1, by omega, by go_num, hkf, by omega, Lib.hid hm1, Lib.hid hm2, Lib.hid (by rw [num_row h HN.out]; exact HO6.out)⟩
      · have hgb : (g == 3) = false := by simpa using hg3
        rw [if_neg hg3] at hnum
        by_cases hg2 : g = 2
        · subst hg2
          have HN := Lib.hid hnum
          clear hnum
          go_wp2_with (first | (with_reducible refine Txt.wp_region_text mixed quiet (by decide +kernel) ?_) | (with_reducible refine Txt.text_done (by kernel_rfl) ?_) | (at_lookup; refine wpList_lookup_v _ rfl _ _ 84 rfl 3 3 Try.underlying84 Try.underlying3 (.int .i64 0) (zeroI _) w1.heap.size k (FPn h k) rfl HA1.out q rfl HWQ.out _ HF ?_) | (at_mapUpdate; refine wpList_update_f _ rfl _ _ _ 84 rfl 3 3 Try.underlying84 Try.underlying3 (w1.heap.size + 1) k (FSn h k) rfl HA2.out (by unfold maxLen; omega) u (.int .i64 (L + 1)) rfl rfl HWF.out ?_; intro w4 hm5 hgr5; have HM_w4 := Lib.hid hm5; have hk5 : Keep [(w1.heap.size + 1)] (wr.alloc (.cells #[.int .i64 q, .int .i64 2, .int .i64 u] 27)) w4 := Keep.ofGrown hgr5 (fun x hx => by cases hx; simp); have HS5' := Lib.hid hm5; have HA1' := Lib.hid (HA1.out.keep hk5 (by simp)); have HOA' := Lib.hid (own_keep HOA.out hk5 (fun g hg hm => by have := HVL.out g hg; simp at hm; omega)); have hkwA' := Keep.call hkwA hk5 (fun z hz => .inr (by simp at hz; omega)); have hsz4 : wr.heap.size < w4.heap.size := (by have h9 := hk5.size; simp at h9; omega); have hev4 := hk5.at HEV.out (by simp; omega); have HEV' := Lib.hid hev4; obtain ⟨n0, n1, n2, _⟩ := row3 hev4; clear hk5 hev4; clear hm5 hgr5) | (at_mapUpdate; refine wpList_update_f _ rfl _ _ _ 84 rfl 3 3 Try.underlying84 Try.underlying3 w1.heap.size k (FPn h k) rfl HA1'.out (by unfold maxLen; omega) q (.int .i64 (L + 1)) rfl rfl HWQ.out ?_; intro w5 hm5 hgr5; have HM_w5 := Lib.hid hm5; have hk5 : Keep [w1.heap.size] w4 w5 := Keep.ofGrown hgr5 (fun x hx => by cases hx; simp); have hsz5 : wr.heap.size < w5.heap.size := (by have h9 := hk5.size; omega); have HO5 := Lib.hid (own_keep HOA'.out hk5 (fun g hg hm => by have := HVL.out g hg; simp at hm; omega)); have HS5 := Lib.hid (HS5'.out.keep hk5 (by simp)); have HK5 := Lib.hid (Keep.call hkwA' hk5 (fun z hz => .inr (by simp at hz; omega))); obtain ⟨m0, m1, m2, _⟩ := row3 (hk5.at HEV'.out (by simp; omega)); clear hm5 hgr5) | (at_builtin; refine wpList_append_own _ rfl _ _ 22 rfl (w1.heap.size + 2) 3 i3 (.int .i64 0) 1 8 Try.underlying22 hi3 hy0 hy1 hy2 rfl (by decide) _ _ _ rfl (HO5.out.alloc _) ⟨w5.heap.size, 0, none⟩ 1 1 [.int .i64 (L + 1)] rfl rfl (cell_one_at rfl _ _) (by intro u hu; simp at hu; subst hu; rfl) (by unfold maxLen; omega) (by omega) (by simp; omega) ?_; intro v6 w6 hown6 hgr6 _; have HO6 := Lib.hid hown6; have HGR6 := Lib.hid hgr6; clear hown6 hgr6))
          go_roundw
          case measure => simp [intOf]; omega
          case rel =>
            have hkf : Keep [] w w6 := (HK5.out.alloc _).grown HGR6.out (fun g hg => .inr (by have := HVL.out g hg; omega))
            have hs6 : w5.heap.size ≤ w6.heap.size := by have h9 := HGR6.out.size; simp at h9; omega
            have hm1 : MapF w6 Try.prog 3 w1.heap.size (k + 1) (FPn h (k + 1)) := by
              rw [HNX.out q rfl, HN.out]
              exact (HM_w5.out.keep ((Keep.refl [] _).alloc _) (by simp)).grown HGR6.out (fun e => by have := HVL.out _ e.symm; omega)
            have hm2 : MapF w6 Try.prog 3 (w1.heap.size + 1) (k + 1) (FSn h (k + 1)) := by
              rw [HSX.out u rfl rfl, HN.out]
              exact (HS5.out.keep ((Keep.refl [] _).alloc _) (by simp)).grown HGR6.out (fun e => by have := HVL.out _ e.symm; omega)
            exact ⟨k + 1, by omega, by go_num, hkf, by omega, Lib.hid hm1, Lib.hid hm2, Lib.hid (by rw [num_row h HN.out]; exact HO6.out)⟩
        · have hgc : (g == 2) = false := by simpa using hg2
          have HN := Lib.hid hnum
          clear hnum
          go_wp2_with (first | (with_reducible refine Txt.wp_region_text mixed quiet (by decide +kernel) ?_) | (with_reducible refine Txt.text_done (by kernel_rfl) ?_) | (at_lookup; refine wpList_lookup_v _ rfl _ _ 84 rfl 3 3 Try.underlying84 Try.underlying3 (.int .i64 0) (zeroI _) w1.heap.size k (FPn h k) rfl HA1.out q rfl HWQ.out _ HF ?_) | (at_mapUpdate; refine wpList_update_f _ rfl _ _ _ 84 rfl 3 3 Try.underlying84 Try.underlying3 w1.heap.size k (FPn h k) rfl HA1.out (by unfold maxLen; omega) q (.int .i64 (L + 1)) rfl rfl HWQ.out ?_; intro w5 hm5 hgr5; have HM_w5 := Lib.hid hm5; have hk5 : Keep [w1.heap.size] (wr.alloc (.cells #[.int .i64 q, .int .i64 g, .int .i64 u] 27)) w5 := Keep.ofGrown hgr5 (fun x hx => by cases hx; simp); have hsz5 : wr.heap.size < w5.heap.size := (by have h9 := hk5.size; simp at h9; omega); have HO5 := Lib.hid (own_keep HOA.out hk5 (fun g hg hm => by have := HVL.out g hg; simp at hm; omega)); have HS5 := Lib.hid ((HA2.out.keep hk5 (by simp)).mono (show k ≤ k + 1 by omega)); have HK5 := Lib.hid (Keep.call hkwA hk5 (fun z hz => .inr (by simp at hz; omega))); obtain ⟨n0, n1, n2, _⟩ := row3 (hk5.at HEV.out (by simp; omega)); clear hm5 hgr5) | (at_builtin; refine wpList_append_own _ rfl _ _ 22 rfl (w1.heap.size + 2) 3 i3 (.int .i64 0) 1 8 Try.underlying22 hi3 hy0 hy1 hy2 rfl (by decide) _ _ _ rfl (HO5.out.alloc _) ⟨w5.heap.size, 0, none⟩ 1 1 [.int .i64 (L + 1)] rfl rfl (cell_one_at rfl _ _) (by intro u hu; simp at hu; subst hu; rfl) (by unfold maxLen; omega) (by omega) (by simp; omega) ?_; intro v6 w6 hown6 hgr6 _; have HO6 := Lib.hid hown6; have HGR6 := Lib.hid hgr6; clear hown6 hgr6))
          go_roundw
          case measure => simp [intOf]; omega
          case rel =>
            have hkf : Keep [] w w6 := (HK5.out.alloc _).grown HGR6.out (fun g hg => .inr (by have := HVL.out g hg; omega))
            have hs6 : w5.heap.size ≤ w6.heap.size := by have h9 := HGR6.out.size; simp at h9; omega
            have hm1 : MapF w6 Try.prog 3 w1.heap.size (k + 1) (FPn h (k + 1)) := by
              rw [HNX.out q rfl, HN.out]
              exact (HM_w5.out.keep ((Keep.refl [] _).alloc _) (by simp)).grown HGR6.out (fun e => by have := HVL.out _ e.symm; omega)
            have hm2 : MapF w6 Try.prog 3 (w1.heap.size + 1) (k + 1) (FSn h (k + 1)) := by
              rw [HSS.out hg2]
              exact (HS5.out.keep ((Keep.refl [] _).alloc _) (by simp)).grown HGR6.out (fun e => by have := HVL.out _ e.symm; omega)
            exact ⟨k + 1, by omega, by go_num, hkf, by omega, Lib.hid hm1, Lib.hid hm2, Lib.hid (by rw [num_row h HN.out]; exact HO6.out)⟩
    · have hkn := Lib.hid (show k = n by omega)
      go_wp2_with fail
      go_ret2
      exact ⟨_, rfl, hkw2, by rw [← hkn.out]; exact HO.out.mono (by omega)⟩
end Go.Proofs.Ytkhchfjhmplaiaa
