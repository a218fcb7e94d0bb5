/- Texts laid together: H10 CW1 H11 H12 H14 H15. -/
import Derived.Test.YtkhchfjhmplaiaaMg6
import Derived.BigRegion
import Derived.Shelf.Bytes.SlEqualAll
namespace Go
open Go.RowKit
theorem wpList_lookup_v {P : Program} (w : World) {ops : Array Oper} {rest : List Oper} {o : Oper} {a : Act} {Q : Exit → Act → World → Prop}
    (hg : o.guard = none) (m x : Operand) (t : TypeId) (hop : o.op = Op.lookup t m x false)
    (k e : TypeId) (ht : P.underlying t = some (.map k e)) (hki : P.underlying k = some (.int .i64)) (z : Value) (hz : (zeroValue e).run P w = .ok z w) (b n : Nat) (f : Int → Option Value)
    (hm : a.eval m = .map (some b)) (hown : MapF w P k b n f) (key : Int) (hx : a.eval x = .int .i64 key) (hwf : (Lit.int .i64 key).wf = true) (v : Value) (hv : Hid ((f key).getD z = v))
    (hK : wpList P ops Q rest (a.put o.dst v) w) : wpList P ops Q (o :: rest) a w :=
  wpList_lookup_f w hg m x t hop k e ht hki z hz b n f hm hown key hx hwf (by rw [hv.out]; exact hK)
/-- The numbers by place, and by message. -/
def FPn (h : List Ln) (k : Nat) (x : Int) : Option Value := (lastIx h x k).map fun i => .int .i64 (num h i)
def FSn (h : List Ln) (k : Nat) (x : Int) : Option Value := (sendIx h x k).map fun i => .int .i64 (num h i)
theorem MapF.grown {w w' : World} {P : Program} {kt : TypeId} {b n : Nat} {f : Int → Option Value} {row : Option Nat} (h : MapF w P kt b n f) (hg : w.grownBy w' row) (hn : some b ≠ row) : MapF w' P kt b n f := h.block (hg.block b h.lt hn)
theorem FPn_next {h : List Ln} {k : Nat} {q : Int} (hq : (lat h k).q = q) : FPn h (k + 1) = fun y => if y = q then some (.int .i64 (num h k)) else FPn h k y := by
  funext y
  unfold FPn
  rw [lastIx, hq]
  by_cases e : y = q
  · rw [if_pos e, if_pos e.symm]; rfl
  · rw [if_neg e, if_neg (fun h => e h.symm)]
theorem FSn_next {h : List Ln} {k : Nat} {u : Int} (hg : (lat h k).g = 2) (hu : (lat h k).u = u) : FSn h (k + 1) = fun y => if y = u then some (.int .i64 (num h k)) else FSn h k y := by
  funext y
  unfold FSn
  rw [sendIx, hu]
  by_cases e : y = u
  · rw [if_pos e, if_pos ⟨hg, e.symm⟩]; rfl
  · rw [if_neg e, if_neg (fun h => e h.2.symm)]
theorem FSn_same {h : List Ln} {k : Nat} (hg : (lat h k).g ≠ 2) : FSn h (k + 1) = FSn h k := by
  funext y
  unfold FSn
  rw [sendIx, if_neg (fun h => hg h.1)]
theorem FPn_get (h : List Ln) (k : Nat) (x : Int) : (FPn h k x).getD (.int .i64 0) = .int .i64 ((lastIx h x k).elim 0 (num h)) := by
  unfold FPn; cases lastIx h x k <;> rfl
theorem FSn_get (h : List Ln) (k : Nat) (x : Int) : (FSn h k x).getD (.int .i64 0) = .int .i64 ((sendIx h x k).elim 0 (num h)) := by
  unfold FSn; cases sendIx h x k <;> rfl
theorem last_bd (h : List Ln) (k : Nat) (x : Int) : 0 ≤ (lastIx h x k).elim 0 (num h) ∧ (lastIx h x k).elim 0 (num h) ≤ k := by
  cases hj : lastIx h x k with
  | none => exact ⟨Int.le_refl _, by show (0 : Int) ≤ k; omega⟩
  | some j => have := num_bd h (j + 1) j (by omega); have := (lastIx_lt hj).1; show 0 ≤ num h j ∧ num h j ≤ k; omega
theorem send_bd (h : List Ln) (k : Nat) (x : Int) : 0 ≤ (sendIx h x k).elim 0 (num h) ∧ (sendIx h x k).elim 0 (num h) ≤ k := by
  cases hj : sendIx h x k with
  | none => exact ⟨Int.le_refl _, by show (0 : Int) ≤ k; omega⟩
  | some j => have := num_bd h (j + 1) j (by omega); have := (sendIx_lt hj).1; show 0 ≤ num h j ∧ num h j ≤ k; omega
end Go
namespace Go.Proofs.Ytkhchfjhmplaiaa
open Go.RowKit
theorem zeroI (w : World) : (zeroValue 3).run Try.prog w = .ok (.int .i64 0) w := by kernel_rfl
theorem num_row (h : List Ln) {k : Nat} {x : Int} (hx : num h k = x) : ((List.range (k + 1)).map fun i => Value.int .i64 (num h i)) = ((List.range k).map fun i => Value.int .i64 (num h i)) ++ [.int .i64 x] := by
  rw [List.range_succ, List.map_append, ← hx]; rfl
set_option maxRecDepth 100000 in
set_option maxHeartbeats 4000000 in
theorem numbers_ok {a : Option Addr} {n c : Nat} {h : List Ln} {w : World} (hv : LnsV w a n c h) (hk : HOk h) :
    Calls Try.prog 26 #[.slice a n c] w fun e w' => ∃ v, e = .returned (.tuple #[v, .int .i64 0]) ∧ Keep [] w w' ∧ w'.ownsRow w.heap.size 3 1 v n ((List.range n).map fun i => .int .i64 (num h i)) := by
  have hmm := @run_makeMap Try.prog
  have hn2 : n ≤ 200 := by have := hk.len; have := hv.len; omega
  have HV := Lib.hid hv
  have HK := Lib.hid hk
  have HL := Lib.hid hv.len
  obtain ⟨i3, hi3, hy0, hy1, hy2⟩ := info_parts info3
  clear hv hk
  go_enter Try.func26, Try.ntmps26
  go_wp2_with (first | (go_at_call 51; refine (check_ok HV.out HK.out).mono ?_; rintro e w1 ⟨rfl, hk1⟩) | (with_reducible refine Txt.wp_region_text mixed quiet (by decide +kernel) ?_) | (with_reducible refine Txt.text_done (by kernel_rfl) ?_))
  have hsz1 := hk1.size
  have hM2 := MapF.made (w1.alloc (.map #[] 0)) Try.prog 3
  rw [show (w1.alloc (.map #[] 0)).heap.size = w1.heap.size + 1 by simp] at hM2
  have HM10 : Hid (MapF ((w1.alloc (.map #[] 0)).alloc (.map #[] 0)) Try.prog 3 w1.heap.size 0 (FPn h 0)) := Lib.hid ((MapF.made w1 Try.prog 3).keep ((Keep.refl [] _).alloc _) (by simp))
  have HM20 : Hid (MapF ((w1.alloc (.map #[] 0)).alloc (.map #[] 0)) Try.prog 3 (w1.heap.size + 1) 0 (FSn h 0)) := Lib.hid hM2
  clear hM2 hmm
  go_loopw [7, 20] (fun v i wr => ∃ k : Nat, k ≤ n ∧ i = .int .i64 k ∧ Keep [] w wr ∧ w1.heap.size + 2 ≤ wr.heap.size ∧ Hid (MapF wr Try.prog 3 w1.heap.size k (FPn h k)) ∧ Hid (MapF wr Try.prog 3 (w1.heap.size + 1) k (FSn h k)) ∧ Hid (wr.ownsRow (w1.heap.size + 2) 3 1 v k ((List.range k).map fun i => .int .i64 (num h i)))) (fun _ i _ => n - (intOf i).toNat)
  case atStart => exact ⟨0, by omega, rfl, (hk1.alloc _).alloc _, by simp, HM10, HM20, World.ownsRow_nil _ _ _ _⟩
  case round =>
    obtain ⟨k, hk, rfl, hkw2, hsw, HM1, HM2, HO⟩ := hrel
    clear HM10 HM20
    by_cases hlk : k < n
    · have hlh : k < h.length := by rw [HL.out]; exact hlk
      have he := HK.out.ev k hlh
      obtain ⟨b, off, rfl, c0, c1, c2⟩ := (HV.out.keep hkw2 (by simp)).at_ hlk
      have hsz2 := hkw2.size
      have hnum := num_eq h k
      have hLb := last_bd h k (lat h k).q
      have hSb := send_bd h k (lat h k).u
      have hF := FPn_get h k (lat h k).q
      have hS := FSn_get h k (lat h k).u
      have HNX := Lib.hid (fun (y : Int) (hy : (lat h k).q = y) => FPn_next hy)
      have HSX := Lib.hid (fun (y : Int) (hg : (lat h k).g = 2) (hy : (lat h k).u = y) => FSn_next hg hy)
      have HSS := Lib.hid (fun (hg : (lat h k).g ≠ 2) => FSn_same hg)
      obtain ⟨⟨q, g, u⟩, hL⟩ : ∃ L, lat h k = L := ⟨_, rfl⟩
      rw [hL] at he c0 c1 c2 hnum hLb hSb hF hS HNX HSX HSS
      dsimp only at he c0 c1 c2 hnum hLb hSb hF hS HNX HSX HSS
      have HWQ := Lib.hid (wf_msg he.1 (by omega))
      have HWF := Lib.hid (wf_msg he.2.2.2.2.1 he.2.2.2.2.2)
      clear hL
      obtain ⟨L, hL⟩ : ∃ L, (lastIx h q k).elim 0 (num h) = L := ⟨_, rfl⟩
      obtain ⟨S, hS1⟩ : ∃ S, (sendIx h u k).elim 0 (num h) = S := ⟨_, rfl⟩
      rw [hL] at hnum hLb hF
      rw [hS1] at hnum hSb hS
      have HF := Lib.hid hF
      have HS := Lib.hid hS
      clear hL hS1 hF hS
      have hkA : Keep [] wr (wr.alloc (.cells #[.int .i64 q, .int .i64 g, .int .i64 u] 27)) := (Keep.refl [] _).alloc _
      have HA1 := Lib.hid (HM1.out.keep hkA (by simp))
      have HA2 := Lib.hid (HM2.out.keep hkA (by simp))
      have HOA := Lib.hid (own_keep HO.out hkA (by simp))
      have hEv : (wr.alloc (.cells #[.int .i64 q, .int .i64 g, .int .i64 u] 27)).heap[wr.heap.size]? = some (.cells #[.int .i64 q, .int .i64 g, .int .i64 u] 27 (0, 0)) := blk_new _ _
      have HEV := Lib.hid hEv
      have HVL : Hid (∀ b, u7.ownBlock = some b → w1.heap.size + 2 ≤ b) := Lib.hid (fun b hb => (HO.out.lt b hb).1)
      have hkwA : Keep [] w (wr.alloc (.cells #[.int .i64 q, .int .i64 g, .int .i64 u] 27)) := hkw2.trans hkA
      clear hEv
      by_cases hg3 : g = 3
      · subst hg3
        rw [if_pos rfl] at hnum
        have hXb : 0 ≤ max L S ∧ max L S ≤ k := by omega
        have HN := Lib.hid hnum
        clear hnum
        go_wp2_with (first | (with_reducible refine Txt.wp_region_text mixed quiet (by decide +kernel) ?_) | (with_reducible refine Txt.text_done (by kernel_rfl) ?_) | (at_lookup; refine wpList_lookup_v _ rfl _ _ 84 rfl 3 3 Try.underlying84 Try.underlying3 (.int .i64 0) (zeroI _) w1.heap.size k (FPn h k) rfl HA1.out q rfl HWQ.out _ HF ?_) | (at_lookup; refine wpList_lookup_v _ rfl _ _ 84 rfl 3 3 Try.underlying84 Try.underlying3 (.int .i64 0) (zeroI _) (w1.heap.size + 1) k (FSn h k) rfl HA2.out u rfl HWF.out _ HS ?_) | (at_mapUpdate; refine wpList_update_f _ rfl _ _ _ 84 rfl 3 3 Try.underlying84 Try.underlying3 w1.heap.size k (FPn h k) rfl HA1.out (by unfold maxLen; omega) q (.int .i64 (max L S + 1)) rfl rfl HWQ.out ?_; intro w5 hm5 hgr5; have HM_w5 := Lib.hid hm5; have hk5 : Keep [w1.heap.size] (wr.alloc (.cells #[.int .i64 q, .int .i64 3, .int .i64 u] 27)) w5 := Keep.ofGrown hgr5 (fun x hx => by cases hx; simp); have hsz5 : wr.heap.size < w5.heap.size := (by have h9 := hk5.size; simp at h9; omega); have HO5 := Lib.hid (own_keep HOA.out hk5 (fun g hg hm => by have := HVL.out g hg; simp at hm; omega)); have HS5 := Lib.hid ((HA2.out.keep hk5 (by simp)).mono (show k ≤ k + 1 by omega)); have HK5 := Lib.hid (Keep.call hkwA hk5 (fun z hz => .inr (by simp at hz; omega))); obtain ⟨n0, n1, n2, _⟩ := row3 (hk5.at HEV.out (by simp; omega)); clear hm5 hgr5) | (at_builtin; refine wpList_append_own _ rfl _ _ 22 rfl (w1.heap.size + 2) 3 i3 (.int .i64 0) 1 8 Try.underlying22 hi3 hy0 hy1 hy2 rfl (by decide) _ _ _ rfl (HO5.out.alloc _) ⟨w5.heap.size, 0, none⟩ 1 1 [.int .i64 (max L S + 1)] rfl rfl (cell_one_at rfl _ _) (by intro u hu; simp at hu; subst hu; rfl) (by unfold maxLen; omega) (by omega) (by simp; omega) ?_; intro v6 w6 hown6 hgr6 _; have HO6 := Lib.hid hown6; have HGR6 := Lib.hid hgr6; clear hown6 hgr6))
        go_roundw
        case measure => simp [intOf]; omega
        case rel =>
          have hkf : Keep [] w w6 := (HK5.out.alloc _).grown HGR6.out (fun g hg => .inr (by have := HVL.out g hg; omega))
          have hs6 : w5.heap.size ≤ w6.heap.size := by have h9 := HGR6.out.size; simp at h9; omega
          have hm1 : MapF w6 Try.prog 3 w1.heap.size (k + 1) (FPn h (k + 1)) := by
            rw [HNX.out q rfl, HN.out]
            exact (HM_w5.out.keep ((Keep.refl [] _).alloc _) (by simp)).grown HGR6.out (fun e => by have := HVL.out _ e.symm; omega)
          have hm2 : MapF w6 Try.prog 3 (w1.heap.size + 1) (k + 1) (FSn h (k + 1)) := by
            rw [HSS.out (by decide)]
            exact (HS5.out.keep ((Keep.refl [] _).alloc _) (by simp)).grown HGR6.out (fun e => by have := HVL.out _ e.symm; omega)
          exact ⟨k + 1, by omega, by go_num, hkf, by omega, Lib.hid hm1, Lib.hid hm2, Lib.hid (by rw [num_row h HN.out]; exact HO6.out)⟩
      · have hgb : (g == 3) = false := by simpa using hg3
        rw [if_neg hg3] at hnum
        by_cases hg2 : g = 2
        · subst hg2
          have HN := Lib.hid hnum
          clear hnum
          go_wp2_with (first | (with_reducible refine Txt.wp_region_text mixed quiet (by decide +kernel) ?_) | (with_reducible refine Txt.text_done (by kernel_rfl) ?_) | (at_lookup; refine wpList_lookup_v _ rfl _ _ 84 rfl 3 3 Try.underlying84 Try.underlying3 (.int .i64 0) (zeroI _) w1.heap.size k (FPn h k) rfl HA1.out q rfl HWQ.out _ HF ?_) | (at_mapUpdate; refine wpList_update_f _ rfl _ _ _ 84 rfl 3 3 Try.underlying84 Try.underlying3 (w1.heap.size + 1) k (FSn h k) rfl HA2.out (by unfold maxLen; omega) u (.int .i64 (L + 1)) rfl rfl HWF.out ?_; intro w4 hm5 hgr5; have HM_w4 := Lib.hid hm5; have hk5 : Keep [(w1.heap.size + 1)] (wr.alloc (.cells #[.int .i64 q, .int .i64 2, .int .i64 u] 27)) w4 := Keep.ofGrown hgr5 (fun x hx => by cases hx; simp); have HS5' := Lib.hid hm5; have HA1' := Lib.hid (HA1.out.keep hk5 (by simp)); have HOA' := Lib.hid (own_keep HOA.out hk5 (fun g hg hm => by have := HVL.out g hg; simp at hm; omega)); have hkwA' := Keep.call hkwA hk5 (fun z hz => .inr (by simp at hz; omega)); have hsz4 : wr.heap.size < w4.heap.size := (by have h9 := hk5.size; simp at h9; omega); have hev4 := hk5.at HEV.out (by simp; omega); have HEV' := Lib.hid hev4; obtain ⟨n0, n1, n2, _⟩ := row3 hev4; clear hk5 hev4; clear hm5 hgr5) | (at_mapUpdate; refine wpList_update_f _ rfl _ _ _ 84 rfl 3 3 Try.underlying84 Try.underlying3 w1.heap.size k (FPn h k) rfl HA1'.out (by unfold maxLen; omega) q (.int .i64 (L + 1)) rfl rfl HWQ.out ?_; intro w5 hm5 hgr5; have HM_w5 := Lib.hid hm5; have hk5 : Keep [w1.heap.size] w4 w5 := Keep.ofGrown hgr5 (fun x hx => by cases hx; simp); have hsz5 : wr.heap.size < w5.heap.size := (by have h9 := hk5.size; omega); have HO5 := Lib.hid (own_keep HOA'.out hk5 (fun g hg hm => by have := HVL.out g hg; simp at hm; omega)); have HS5 := Lib.hid (HS5'.out.keep hk5 (by simp)); have HK5 := Lib.hid (Keep.call hkwA' hk5 (fun z hz => .inr (by simp at hz; omega))); obtain ⟨m0, m1, m2, _⟩ := row3 (hk5.at HEV'.out (by simp; omega)); clear hm5 hgr5) | (at_builtin; refine wpList_append_own _ rfl _ _ 22 rfl (w1.heap.size + 2) 3 i3 (.int .i64 0) 1 8 Try.underlying22 hi3 hy0 hy1 hy2 rfl (by decide) _ _ _ rfl (HO5.out.alloc _) ⟨w5.heap.size, 0, none⟩ 1 1 [.int .i64 (L + 1)] rfl rfl (cell_one_at rfl _ _) (by intro u hu; simp at hu; subst hu; rfl) (by unfold maxLen; omega) (by omega) (by simp; omega) ?_; intro v6 w6 hown6 hgr6 _; have HO6 := Lib.hid hown6; have HGR6 := Lib.hid hgr6; clear hown6 hgr6))
          go_roundw
          case measure => simp [intOf]; omega
          case rel =>
            have hkf : Keep [] w w6 := (HK5.out.alloc _).grown HGR6.out (fun g hg => .inr (by have := HVL.out g hg; omega))
            have hs6 : w5.heap.size ≤ w6.heap.size := by have h9 := HGR6.out.size; simp at h9; omega
            have hm1 : MapF w6 Try.prog 3 w1.heap.size (k + 1) (FPn h (k + 1)) := by
              rw [HNX.out q rfl, HN.out]
              exact (HM_w5.out.keep ((Keep.refl [] _).alloc _) (by simp)).grown HGR6.out (fun e => by have := HVL.out _ e.symm; omega)
            have hm2 : MapF w6 Try.prog 3 (w1.heap.size + 1) (k + 1) (FSn h (k + 1)) := by
              rw [HSX.out u rfl rfl, HN.out]
              exact (HS5.out.keep ((Keep.refl [] _).alloc _) (by simp)).grown HGR6.out (fun e => by have := HVL.out _ e.symm; omega)
            exact ⟨k + 1, by omega, by go_num, hkf, by omega, Lib.hid hm1, Lib.hid hm2, Lib.hid (by rw [num_row h HN.out]; exact HO6.out)⟩
        · have hgc : (g == 2) = false := by simpa using hg2
          have HN := Lib.hid hnum
          clear hnum
          go_wp2_with (first | (with_reducible refine Txt.wp_region_text mixed quiet (by decide +kernel) ?_) | (with_reducible refine Txt.text_done (by kernel_rfl) ?_) | (at_lookup; refine wpList_lookup_v _ rfl _ _ 84 rfl 3 3 Try.underlying84 Try.underlying3 (.int .i64 0) (zeroI _) w1.heap.size k (FPn h k) rfl HA1.out q rfl HWQ.out _ HF ?_) | (at_mapUpdate; refine wpList_update_f _ rfl _ _ _ 84 rfl 3 3 Try.underlying84 Try.underlying3 w1.heap.size k (FPn h k) rfl HA1.out (by unfold maxLen; omega) q (.int .i64 (L + 1)) rfl rfl HWQ.out ?_; intro w5 hm5 hgr5; have HM_w5 := Lib.hid hm5; have hk5 : Keep [w1.heap.size] (wr.alloc (.cells #[.int .i64 q, .int .i64 g, .int .i64 u] 27)) w5 := Keep.ofGrown hgr5 (fun x hx => by cases hx; simp); have hsz5 : wr.heap.size < w5.heap.size := (by have h9 := hk5.size; simp at h9; omega); have HO5 := Lib.hid (own_keep HOA.out hk5 (fun g hg hm => by have := HVL.out g hg; simp at hm; omega)); have HS5 := Lib.hid ((HA2.out.keep hk5 (by simp)).mono (show k ≤ k + 1 by omega)); have HK5 := Lib.hid (Keep.call hkwA hk5 (fun z hz => .inr (by simp at hz; omega))); obtain ⟨n0, n1, n2, _⟩ := row3 (hk5.at HEV.out (by simp; omega)); clear hm5 hgr5) | (at_builtin; refine wpList_append_own _ rfl _ _ 22 rfl (w1.heap.size + 2) 3 i3 (.int .i64 0) 1 8 Try.underlying22 hi3 hy0 hy1 hy2 rfl (by decide) _ _ _ rfl (HO5.out.alloc _) ⟨w5.heap.size, 0, none⟩ 1 1 [.int .i64 (L + 1)] rfl rfl (cell_one_at rfl _ _) (by intro u hu; simp at hu; subst hu; rfl) (by unfold maxLen; omega) (by omega) (by simp; omega) ?_; intro v6 w6 hown6 hgr6 _; have HO6 := Lib.hid hown6; have HGR6 := Lib.hid hgr6; clear hown6 hgr6))
          go_roundw
          case measure => simp [intOf]; omega
          case rel =>
            have hkf : Keep [] w w6 := (HK5.out.alloc _).grown HGR6.out (fun g hg => .inr (by have := HVL.out g hg; omega))
            have hs6 : w5.heap.size ≤ w6.heap.size := by have h9 := HGR6.out.size; simp at h9; omega
            have hm1 : MapF w6 Try.prog 3 w1.heap.size (k + 1) (FPn h (k + 1)) := by
              rw [HNX.out q rfl, HN.out]
              exact (HM_w5.out.keep ((Keep.refl [] _).alloc _) (by simp)).grown HGR6.out (fun e => by have := HVL.out _ e.symm; omega)
            have hm2 : MapF w6 Try.prog 3 (w1.heap.size + 1) (k + 1) (FSn h (k + 1)) := by
              rw [HSS.out hg2]
              exact (HS5.out.keep ((Keep.refl [] _).alloc _) (by simp)).grown HGR6.out (fun e => by have := HVL.out _ e.symm; omega)
            exact ⟨k + 1, by omega, by go_num, hkf, by omega, Lib.hid hm1, Lib.hid hm2, Lib.hid (by rw [num_row h HN.out]; exact HO6.out)⟩
    · have hkn := Lib.hid (show k = n by omega)
      go_wp2_with fail
      go_ret2
      exact ⟨_, rfl, hkw2, by rw [← hkn.out]; exact HO.out.mono (by omega)⟩
end Go.Proofs.Ytkhchfjhmplaiaa
/- CutWay: slices.DeleteFunc and slices.Sort of a row of the call's own. -/
namespace Go
open Go.RowKit Go.Sort
theorem neTypeW {w : World} {a b : Nat} {c1 c2 : Array Value} {t1 t2 : TypeId} {f1 f2 : Nat × Nat} (h1 : w.heap[a]? = some (.cells c1 t1 f1)) (h2 : w.heap[b]? = some (.cells c2 t2 f2)) (h : t1 ≠ t2) : a ≠ b := by
  rintro rfl
  rw [h1] at h2
  injection h2 with h2
  injection h2 with _ h2 _
  exact h h2
theorem ownLtW {w : World} {B e m n : Nat} {v : Value} {xs : List Value} (h : w.ownsRow B e m v n xs) : ∀ g, v.ownBlock = some g → B ≤ g ∧ g < w.heap.size ∧ ∃ cs, w.heap[g]? = some (.cells cs e (0, 0)) := by
  intro g hg
  rcases h.2 with ⟨rfl, _⟩ | ⟨g', cap, cur, rfl, hb, hgg, _⟩
  · simp [Value.ownBlock] at hg
  · simp [Value.ownBlock] at hg
    subst hg
    exact ⟨hb, (Array.getElem?_eq_some_iff.1 hgg).1, cur, hgg⟩
theorem ownSliceW {w : World} {B e m n : Nat} {v : Value} {xs : List Value} (ho : w.ownsRow B e m v n xs) : ∃ a c, v = .slice a n c ∧ n ≤ c ∧ c ≤ maxLen ∧ (∀ x, a = some x → v.ownBlock = some x.block ∧ x = ⟨x.block, 0, none⟩) := by
  rcases ho.2 with ⟨rfl, h0⟩ | ⟨g, cap, cur, rfl, hb, hg, hnc, hcm, hcs, ht⟩
  · subst h0
    exact ⟨none, 0, rfl, Nat.le_refl _, Nat.zero_le _, fun x hx => by cases hx⟩
  · exact ⟨_, _, rfl, hnc, hcm, fun x hx => by cases hx; exact ⟨rfl, rfl⟩⟩
theorem cut_own {w : World} {B g n m cap : Nat} {xs ys : List Value} (h : w.ownsRow B 3 1 (.slice (some ⟨g, 0, none⟩) n cap) n (xs ++ ys)) (hm : xs.length = m) : w.ownsRow B 3 1 (.slice (some ⟨g, 0, none⟩) m cap) m xs := by
  have hl := h.1
  rw [List.length_append, Nat.mul_one] at hl
  refine ⟨by omega, .inr ?_⟩
  rcases h.2 with ⟨h3, _⟩ | ⟨g', cap', cur', h3, h4, h5, h6, h7, h8, h9⟩
  · cases h3
  · cases h3
    refine ⟨g, cap, cur', rfl, h4, h5, by omega, h7, h8, ?_⟩
    rw [Nat.mul_one] at h9 ⊢
    have h10 := congrArg (List.take m) h9
    rw [List.take_take, Nat.min_eq_left (by omega), List.take_append_of_le_length (by omega)] at h10
    rw [h10]
    exact List.take_of_length_le (by omega)
def sortI (l : List Int) : List Int := l.mergeSort (fun x y => decide (x ≤ y))
theorem sortI_perm (l : List Int) : (sortI l).Perm l := List.mergeSort_perm l _
theorem sortI_len (l : List Int) : (sortI l).length = l.length := (sortI_perm l).length_eq
theorem sortI_sorted (l : List Int) : (sortI l).Pairwise (· ≤ ·) := by
  have h := List.pairwise_mergeSort (le := fun x y : Int => decide (x ≤ y)) (fun a b c h1 h2 => by simp at *; omega) (fun a b => by simp; omega) l
  exact h.imp (fun h => by simpa using h)
theorem sorted_ext {l1 l2 : List Int} (h1 : l1.Nodup) (h2 : l2.Nodup) (h3 : l1.Pairwise (· ≤ ·)) (h4 : l2.Pairwise (· ≤ ·)) (h : ∀ x, x ∈ l1 ↔ x ∈ l2) : l1 = l2 :=
  List.Perm.eq_of_pairwise (fun _ _ _ _ h5 h6 => Int.le_antisymm h5 h6) h3 h4 ((List.perm_ext_iff_of_nodup h1 h2).2 h)
end Go
namespace Go.Proofs.Ytkhchfjhmplaiaa
open Go.RowKit Go.Sort Go.Shelf Go.Lib
theorem way55 {B : Nat} {W : World} {u x : Int} (hc : W.cell? ⟨B, 2, none⟩ = some (.int .i64 u)) :
    FnGives Try.prog 55 #[.pointer (some ⟨B, 0, none⟩)] #[.int .i64 x] (.bool (x == u)) W := by
  show Calls Try.prog 55 #[.int .i64 x, .pointer (some ⟨B, 0, none⟩)] W _
  go_enter Try.func55, Try.ntmps55
  go_wp2_with (first | (with_reducible refine Txt.wp_region_text mixed quiet (by decide +kernel) ?_) | (with_reducible refine Txt.text_done (by kernel_rfl) ?_))
  go_ret
  exact ⟨rfl, 0, rfl⟩
theorem delete54_own {w : World} {B K n : Nat} {v : Value} {zs : List Int} {x0 x1 : Value} {u : Int} (hb : w.heap[K]? = some (.cells #[x0, x1, .int .i64 u] 27 (0, 0))) (ho : w.ownsRow B 3 1 v n (zs.map (Value.int .i64))) (h0 : 0 < n) (hn : n ≤ 1000000) :
    Calls Try.prog 54 #[v, .func (.func 55) #[] #[.pointer (some ⟨K, 0, none⟩)]] w fun e w' => ∃ v', e = .returned v' ∧ w'.ownsRow B 3 1 v' (zs.filter (fun x => !(x == u))).length ((zs.filter (fun x => !(x == u))).map (Value.int .i64)) ∧ Keep v.ownBlock.toList w w' := by
  have hl : zs.length = n := by simpa using ho.1
  have hcell : w.cell? ⟨K, 2, none⟩ = some (.int .i64 u) := cellAt hb 2
  have hB : K < w.heap.size := lt_of_blk hb
  rcases ho.2 with ⟨rfl, h1⟩ | ⟨g, cap, cur, rfl, hbg, hg, hnc, hcm, hcs, ht⟩
  · omega
  · subst hl
    have hne : K ≠ g := neTypeW hb hg (by decide)
    have hpa : PredAt Try.prog 55 #[.pointer (some ⟨K, 0, none⟩)] (Value.int .i64) (fun x => x == u) w := fun W x hbl => way55 ((hbl.cell (p := ⟨K, 2, none⟩) hB).trans hcell)
    have hpo : PredOver Try.prog 55 #[.pointer (some ⟨K, 0, none⟩)] (Value.int .i64) (fun x => x == u) g 0 zs.toArray.size w := fun n os dk x _ => way55 (by
      unfold sortWorld
      rw [cell?_grow _ _ _ (by show K < (putRow _ _ _ _ _).heap.size; rw [size_putRow]; exact hB), cell?_putRow_other _ _ g 0 _ _ (Or.inl hne)]
      exact hcell)
    have eg : ∀ args w, (callFunc 55 args).run Try.prog w = .ok (.enter 55 args) w := enters_of Try.func55 (by kernel_rfl) rfl
    have hcon := AnyE.slices_DeleteFunc Try.delF (Value.int .i64) (fun _ => rfl) (fun x => x == u) 55 #[.pointer (some ⟨K, 0, none⟩)] eg 0 Try.zeroValue3 g 0 cap zs.toArray w hpa hpo (holds_of_blockI hg (by simpa using ht)) (by simp; omega) (by simpa using hnc)
    have hcon2 : Calls Try.prog 54 #[.slice (some ⟨g, 0, none⟩) zs.length cap, .func (.func 55) #[] #[.pointer (some ⟨K, 0, none⟩)]] w _ := hcon
    refine hcon2.mono ?_
    rintro e w' ⟨rfl, q, rfl⟩
    have hfl : (zs.filter (fun x => !(x == u))).length ≤ zs.length := List.length_filter_le _ _
    have hlen : (zs.filter (fun x => !(x == u)) ++ List.replicate (zs.toArray.size - (zs.filter (fun x => !(x == u))).length) 0).length = zs.length := by rw [List.length_append, List.length_replicate, List.size_toArray]; omega
    have he : ∀ w2 : World, grow w2 #[] = w2 := fun w2 => by unfold grow; rw [Array.append_empty]
    have h1 := ownsRow_sortedI (n := q) (os := #[]) hlen hbg hg hnc hcm hcs
    have h2 := grownBy_sortedI (w := w) (g := g) (n := q) (os := #[]) (zs.filter (fun x => !(x == u)) ++ List.replicate (zs.toArray.size - (zs.filter (fun x => !(x == u))).length) 0).toArray
    rw [he] at h1 h2
    rw [List.map_append] at h1
    exact ⟨_, rfl, cut_own h1 (by simp), Keep.ofGrown h2 (by simp [Value.ownBlock])⟩
theorem sort56_own {w : World} {B n : Nat} {v : Value} {xs : List Int} (ho : w.ownsRow B 3 1 v n (xs.map (Value.int .i64))) (hn : n ≤ 1000000) :
    Calls Try.prog 56 #[v] w fun e w' => e = .returned (.tuple #[]) ∧ w'.ownsRow B 3 1 v n ((sortI xs).map (Value.int .i64)) ∧ Keep v.ownBlock.toList w w' := by
  have hl : xs.length = n := by simpa using ho.1
  rcases ho.2 with ⟨rfl, h0⟩ | ⟨g, cap, cur, rfl, hb, hg, hnc, hcm, hcs, ht⟩
  · subst h0
    have hx : xs = [] := List.eq_nil_of_length_eq_zero hl
    subst hx
    refine (Go.Proofs.Try.slices_Sort_int_none none 0 w).mono ?_
    rintro e w' ⟨rfl, rfl⟩
    exact ⟨rfl, by rw [show sortI [] = [] from List.eq_nil_of_length_eq_zero (sortI_len [])]; exact ho, Keep.refl _ _⟩
  · subst hl
    refine (Go.Proofs.Try.slices_Sort_int g 0 cap xs w (holds_of_blockI hg (by simpa using ht)) (Array.getElem?_eq_some_iff.1 hg).1 (by omega)).mono ?_
    rintro e w' ⟨rfl, n, os, rfl⟩
    exact ⟨rfl, ownsRow_sortedI (sortI_len xs) hb hg hnc hcm hcs, Keep.ofGrown (grownBy_sortedI _) (by simp [Value.ownBlock])⟩
end Go.Proofs.Ytkhchfjhmplaiaa
namespace Go.Proofs.Ytkhchfjhmplaiaa
open Go.RowKit
theorem numbers_at {a : Option Addr} {n c : Nat} {h : List Ln} {w : World} (hv : LnsV w a n c h) (hk : HOk h) (hn : 0 < n) :
    Calls Try.prog 26 #[.slice a n c] w fun e w' => ∃ g cap, e = .returned (.tuple #[.slice (some ⟨g, 0, none⟩) n cap, .int .i64 0]) ∧ Keep [] w w' ∧ cap ≤ maxLen ∧ IntsV w' (some ⟨g, 0, none⟩) n cap ((List.range n).map (num h)) := by
  have hl := hv.len
  have hl2 := hk.len
  refine (numbers_ok hv hk).mono ?_
  rintro e w' ⟨v, rfl, hk1, ho⟩
  rw [show ((List.range n).map fun i => Value.int .i64 (num h i)) = ((List.range n).map (num h)).map (Value.int .i64) by simp] at ho
  have hb : ∀ z ∈ (List.range n).map (num h), (Lit.int .i64 z).wf = true := fun z hz => by
    obtain ⟨i, hi, rfl⟩ := List.mem_map.1 hz
    have := num_bd h (i + 1) i (by omega)
    have := List.mem_range.1 hi
    exact wf_small (by omega) (by omega)
  obtain ⟨g, cap, rfl, _, _, _, hcm, _, _⟩ := own_form ho hn
  obtain ⟨a3, c3, hve, hint, _⟩ := IntsV.ofOwn ho hb
  cases hve
  exact ⟨g, cap, rfl, hk1, hcm, hint⟩
theorem numbers0 {a : Option Addr} {c : Nat} {h : List Ln} {w : World} (hv : LnsV w a 0 c h) (hk : HOk h) :
    Calls Try.prog 26 #[.slice a 0 c] w fun e w' => ∃ av cv, e = .returned (.tuple #[.slice av 0 cv, .int .i64 0]) ∧ Keep [] w w' := by
  refine (numbers_ok hv hk).mono ?_
  rintro e w' ⟨v, rfl, hk1, ho⟩
  obtain ⟨av, cv, rfl⟩ := own_slice ho
  exact ⟨av, cv, rfl, hk1⟩
theorem nums_at {h : List Ln} {n i : Nat} (hi : i < n) : ((List.range n).map (num h)).getD i 0 = num h i := by
  simp [List.getD_eq_getElem?_getD, hi]
set_option maxRecDepth 100000 in
set_option maxHeartbeats 4000000 in
theorem clockNumbers_walk (a : Option Addr) (len cap : Nat) (zs : List Int) (w : World) (hv : IntsV w a len cap zs) :
    Calls Try.prog 7 #[.slice a len cap] w fun e w' => e = .returned (.bool true) ∧ Keep [] w w' := by
  obtain ⟨N, hN⟩ : ∃ N, (hist zs).length = N := ⟨_, rfl⟩
  have hok : HOk (hist zs) := (hist_inv zs).ok
  have hN60 := hist_len zs
  rw [hN] at hN60
  have hNle : N ≤ 60 := by omega
  have HV := Lib.hid hv
  have HOK := Lib.hid hok
  clear hv hN60
  by_cases h0 : N = 0
  · have HN := Lib.hid (hN.trans h0)
    clear hN h0 hNle hok
    go_enter Try.func7, Try.ntmps7
    go_wp2_with (first | (go_at_call 22; refine (begun_any _).mono ?_; rintro e w1 ⟨rfl, hk1⟩) | (go_at_call 20; refine (history_at (HV.out.keep hk1 (by simp)) HN).mono ?_; rintro e w2 ⟨a2, c2, rfl, hk2, hv2⟩; have HV2 := Lib.hid hv2; clear hv2) | (go_at_call 26; refine (numbers0 HV2.out HOK.out).mono ?_; rintro e w3 ⟨an, cn, rfl, hk3⟩; have HV3 := Lib.hid (HV2.out.keep hk3 (by simp))) | (go_at_call 25; refine (clocks0 HV3.out HOK.out).mono ?_; rintro e w4 ⟨av, cv, rfl, hk4⟩))
    go_loopw [46] (fun i wr => i = .int .i64 0 ∧ wr = w4) (fun _ _ => 0)
    case atStart => exact ⟨rfl, rfl⟩
    case round =>
      obtain ⟨rfl, rfl⟩ := hrel
      go_wp2_with fail
      all_goals
        go_ret
        exact ⟨by first | rfl | exact ret_bool (by decide), ((hk1.trans hk2).trans hk3).trans hk4⟩
  · have HN := Lib.hid hN
    have HLAW := Lib.hid (fun (i k : Nat) (hki : k < i) (hi : i < N) => clockNumbers_law hok hki (by rw [hN]; exact hi))
    clear hN hok
    go_enter Try.func7, Try.ntmps7
    go_wp2_with (first | (go_at_call 22; refine (begun_any _).mono ?_; rintro e w1 ⟨rfl, hk1⟩) | (go_at_call 20; refine (history_at (HV.out.keep hk1 (by simp)) HN).mono ?_; rintro e w2 ⟨a2, c2, rfl, hk2, hv2⟩; have HV2 := Lib.hid hv2; clear hv2) | (go_at_call 26; refine (numbers_at HV2.out HOK.out (by omega)).mono ?_; rintro e w3 ⟨gn, cn, rfl, hk3, hcn, hni⟩; have HV3 := Lib.hid (HV2.out.keep hk3 (by simp)); have HNI := Lib.hid hni; unfold maxLen at hcn; clear hni) | (go_at_call 25; refine (clocks_at HV3.out HOK.out (by omega)).mono ?_; rintro e w4 ⟨g, cg, rfl, hk4, hg, hgl, hnc, hcm, hcs⟩; have HQ0 : Hid (ClksV w4 g N (hist zs)) := Lib.hid hcs; unfold maxLen at hcm; clear hcs))
    have HNJ := Lib.hid (HNI.out.keep hk4 (by simp))
    clear HNI
    have hkT : Keep [] w w4 := ((hk1.trans hk2).trans hk3).trans hk4
    go_loopw [46] (fun i wr => ∃ I : Nat, I ≤ N ∧ i = .int .i64 I ∧ Keep [] w wr ∧ Hid (ClksV wr g N (hist zs)) ∧ Hid (IntsV wr (some ⟨gn, 0, none⟩) N cn ((List.range N).map (num (hist zs))))) (fun i _ => N - (intOf i).toNat)
    case atStart => exact ⟨0, by omega, rfl, hkT, HQ0, HNJ⟩
    case round =>
      obtain ⟨I, hI, rfl, hkw, HQ, HR⟩ := hrel
      clear HQ0 HNJ hkT hk1 hk2 hk3 hk4
      by_cases hlt : I < N
      · have hdec : decide ((I : Int) < N) = true := by simpa using hlt
        go_wp2_with fail
        go_loopw [50] (fun i wr => ∃ K : Nat, K ≤ I ∧ i = .int .i64 K ∧ Keep [] w wr ∧ Hid (ClksV wr g N (hist zs)) ∧ Hid (IntsV wr (some ⟨gn, 0, none⟩) N cn ((List.range N).map (num (hist zs))))) (fun i _ => I - (intOf i).toNat)
        case atStart => exact ⟨0, by omega, rfl, hkw, HQ, HR⟩
        case round =>
          obtain ⟨K, hK, rfl, hkx, HX, HY⟩ := hrel
          by_cases hlk : K < I
          · obtain ⟨gi, ci, hci, hii⟩ := HX.out I hlt
            obtain ⟨gk, ck, hck, hik⟩ := HX.out K (by omega)
            obtain ⟨_, _, he, hcell⟩ := HY.out.cells (by omega)
            cases he
            have hni := hcell I hlt
            have hnk := hcell K (by omega)
            rw [nums_at hlt, show 0 + I = I by omega] at hni
            rw [nums_at (show K < N by omega), show 0 + K = K by omega] at hnk
            have HII := Lib.hid hii
            have HIK := Lib.hid hik
            have hlaw := HLAW.out I K hlk hlt
            obtain ⟨b, hb⟩ : ∃ b, lessL (clk (hist zs) K) (clk (hist zs) I) = b := ⟨_, rfl⟩
            obtain ⟨x, hx⟩ : ∃ x, num (hist zs) I = x := ⟨_, rfl⟩
            obtain ⟨y, hy⟩ : ∃ y, num (hist zs) K = y := ⟨_, rfl⟩
            rw [hx] at hni
            rw [hy] at hnk
            rw [hb, hx, hy] at hlaw
            have HB := Lib.hid hb
            have HNO := Lib.hid hlaw.2
            have hlw := hlaw.1
            clear hii hik hb hcell hx hy hlaw
            have f1 : (I : Int) < (N : Int) := by omega
            have f2 : (K : Int) < (N : Int) := by omega
            cases b
            · clear hlw
              go_wp2_with fail
              go_quiet (first | (go_at_call 27; exact less_q HII.out HIK.out HNO) | (go_at_call 27; exact less_q HIK.out HII.out HB))
              go_wp2_with fail
              go_roundw
              case measure => simp [intOf]; omega
              case rel => exact ⟨K + 1, by omega, by go_num, keep_drewN hkx _, Lib.hid (HX.out.keep (keep_drewN (Keep.refl [] _) _)), Lib.hid (HY.out.keep (keep_drewN (Keep.refl [] _) _) (by simp))⟩
            · have hxy : y < x := hlw rfl
              clear hlw
              go_wp2_with fail
              go_quiet (first | (go_at_call 27; exact less_q HII.out HIK.out HNO) | (go_at_call 27; exact less_q HIK.out HII.out HB))
              go_wp2_with fail
              go_roundw
              case measure => simp [intOf]; omega
              case rel => exact ⟨K + 1, by omega, by go_num, keep_drewN hkx _, Lib.hid (HX.out.keep (keep_drewN (Keep.refl [] _) _)), Lib.hid (HY.out.keep (keep_drewN (Keep.refl [] _) _) (by simp))⟩
          · have HKI := Lib.hid (show K = I by omega)
            go_wp2_with fail
            go_roundw
            case measure => simp [intOf]; omega
            case rel => exact ⟨I + 1, by omega, by go_num, hkx, HX, HY⟩
      · go_wp2_with fail
        go_ret
        exact ⟨rfl, hkw⟩
end Go.Proofs.Ytkhchfjhmplaiaa
namespace Go.Proofs
open Go.Shelf
def Try.laysSlE041_f39_ren : Go.Shelf.Ren := ⟨fun | 41 => 39 | n => n, fun | 22 => 28 | 23 => 27 | 4 => 4 | n => n, fun | n => n⟩
theorem Try.laysSlE041_f39 : Go.Proofs.SlLaysE0.n41 Try.prog Try.laysSlE041_f39_ren := {
  mixed := by kernel_rfl
  f41 := ⟨Try.f39.name, by decide, Try.func39.trans (congrArg some (by kernel_rfl))⟩
  t4 := Try.underlying4
  a4 := Try.isAgg4
  z4 := Try.sizeOf4
  v4 := Try.zeroValue4
  t22 := Try.underlying28
  a22 := Try.isAgg28
  z22 := Try.sizeOf28
  v22 := Try.zeroValue28 }
end Go.Proofs
namespace Go.Proofs.Ytkhchfjhmplaiaa
open Go.RowKit
theorem lns_own_cells {w : World} {a : Option Addr} {n c : Nat} {h : List Ln} (hv : LnsV w a n c h) (hn : 0 < n) : ∃ b off, a = some ⟨b, off, none⟩ ∧ ∀ j u, (lanesC h)[j]? = some u → w.cell? ⟨b, off + j, none⟩ = some u := by
  obtain ⟨b, off, rfl, hc⟩ := hv.cells hn
  refine ⟨b, off, rfl, fun j u hu => ?_⟩
  have h1 := lanesC_len h
  have h2 := hv.len
  have h3 := (List.getElem?_eq_some_iff.1 hu).1
  rw [hc j (by omega)]; exact hu
/-- A history is cloned. -/
theorem clone_any {a : Option Addr} {n c : Nat} {h : List Ln} {w : World} (hv : LnsV w a n c h) (hn : 0 < n) (hn2 : n ≤ 200) :
    Calls Try.prog 39 #[.slice a n c] w fun e w' => ∃ g cap, e = .returned (.slice (some ⟨g, 0, none⟩) n cap) ∧ Keep [] w w' ∧ w'.ownsRow w.heap.size 27 3 (.slice (some ⟨g, 0, none⟩) n cap) n (lanesC h) := by
  obtain ⟨b, off, rfl, hc⟩ := lns_own_cells hv hn
  obtain ⟨i0, hi0, hz0, hz1, hz2⟩ := info_parts info27
  have hl := lanesC_len h
  have hl2 := hv.len
  have h9 : Calls Try.prog 39 #[.slice (some ⟨b, off, none⟩) n c] w fun e w' => ∃ v', e = .returned v' ∧ w'.ownsRow w.heap.size 27 3 v' n (lanesC h) ∧ v' ≠ .slice none 0 0 ∧ Below w.heap.size w w' :=
    Go.Proofs.AnyE.slices_Clone Try.laysSlE041_f39 i0 _ 3 24 hi0 hz0 hz1 hz2 rfl (by decide) (fun w => by kernel_rfl) b off n c (lanesC h) w (by rw [hl, hl2]; omega) (by unfold maxLen; omega) (by omega) hc (fun u hu => by
      obtain ⟨L, hL, hu⟩ := List.mem_flatMap.1 hu
      simp [Ln.cells] at hu
      rcases hu with hu | hu | hu <;> (subst hu; rfl))
  refine h9.mono ?_
  rintro e w' ⟨v, rfl, ho, _, hb⟩
  have ho2 := ho
  rcases ho.2 with ⟨_, h0⟩ | ⟨g, cap, cur, rfl, _⟩
  · omega
  · exact ⟨g, cap, rfl, ⟨hb.os, hb.tape, hb.output, hb.size, fun i hi _ => hb.block i hi⟩, ho2⟩
theorem own_put_cell {w : World} {B e m n : Nat} {g cap : Nat} {xs : List Value} (h : w.ownsRow B e m (.slice (some ⟨g, 0, none⟩) n cap) n xs) (j : Nat) (x : Value) :
    (w.setCell ⟨g, j, none⟩ x).ownsRow B e m (.slice (some ⟨g, 0, none⟩) n cap) n (xs.set j x) := by
  obtain ⟨hl, h⟩ := h
  refine ⟨by simpa using hl, ?_⟩
  rcases h with ⟨h0, _⟩ | ⟨g', cap', cur, hv, hb, hg, hnc, hcm, hcs, ht⟩
  · cases h0
  · cases hv
    refine .inr ⟨g, cap, cur.setIfInBounds j x, rfl, hb, by rw [blk_setCell, if_pos rfl, hg]; rfl, hnc, hcm, by simpa using hcs, ?_⟩
    rw [← ht]
    simp only [Array.toList_setIfInBounds]
    rw [List.take_set]
theorem own_put3 {w : World} {B e n : Nat} {g cap : Nat} {ls : List Ln} (h : w.ownsRow B e 3 (.slice (some ⟨g, 0, none⟩) n cap) n (lanesC ls)) {i : Nat} (hi : i < ls.length) (x y z : Int) :
    (((w.setCell ⟨g, i * 3, none⟩ (.int .i64 x)).setCell ⟨g, i * 3 + 1, none⟩ (.int .i64 y)).setCell ⟨g, i * 3 + 2, none⟩ (.int .i64 z)).ownsRow B e 3 (.slice (some ⟨g, 0, none⟩) n cap) n (lanesC (ls.set i ⟨x, y, z⟩)) := by
  have h1 := own_put_cell (own_put_cell (own_put_cell h (i * 3) (.int .i64 x)) (i * 3 + 1) (.int .i64 y)) (i * 3 + 2) (.int .i64 z)
  have e0 := lanes_put ls i 0 (.int .i64 x) ⟨x, (lat ls i).g, (lat ls i).u⟩ hi (by omega) rfl
  have e1 := lanes_put (ls.set i ⟨x, (lat ls i).g, (lat ls i).u⟩) i 1 (.int .i64 y) ⟨x, y, (lat ls i).u⟩ (by simpa using hi) (by omega) (by rw [lat_set _ _ _ _ hi, if_pos rfl]; rfl)
  have e2 := lanes_put (ls.set i ⟨x, y, (lat ls i).u⟩) i 2 (.int .i64 z) ⟨x, y, z⟩ (by simpa using hi) (by omega) (by rw [lat_set _ _ _ _ hi, if_pos rfl]; rfl)
  rw [List.set_set] at e1 e2
  rw [Nat.add_zero] at e0
  rw [e0, e1, e2] at h1
  exact h1
/-- Two slices of rows are compared. -/
def RowsC (w : World) (g n : Nat) (R : Nat → List Int) : Prop := ∀ i, i < n → ∃ a m c, w.cell? ⟨g, i, none⟩ = some (.slice a m c) ∧ IntsV w a m c (R i)
theorem RowsC.keep {w w' : World} {g n : Nat} {R : Nat → List Int} (h : RowsC w g n R) (hk : Keep [] w w') : RowsC w' g n R := fun i hi =>
  let ⟨a, m, c, h1, h2⟩ := h i hi
  ⟨a, m, c, hk.cell h1 (by simp), h2.keep hk (by simp)⟩
theorem eqc_any {a1 a2 : Option Addr} {n1 c1 n2 c2 : Nat} {xs : List Int} {w : World} (hx : IntsV w a1 n1 c1 xs) (hy : IntsV w a2 n2 c2 xs) :
    Calls Try.prog 42 #[.slice a1 n1 c1, .slice a2 n2 c2] w fun e w' => e = .returned (.bool true) ∧ Keep [] w w' := by
  have h := equal_any hx hy
  rw [decide_eq_true rfl] at h
  have H := Lib.hid h
  clear h hx hy
  go_enter Try.func42, Try.ntmps42
  go_wp2_with (first | (go_at_call 34; refine H.out.mono ?_; rintro e w1 ⟨rfl, hk1⟩))
  go_ret
  exact ⟨rfl, hk1⟩
theorem eqf_any {g1 c1 g2 c2 n : Nat} {R : Nat → List Int} {w : World} (hx : RowsC w g1 n R) (hy : RowsC w g2 n R) (h1 : n ≤ c1) (_ : n ≤ c2) (hm1 : c1 ≤ maxLen) (_ : c2 ≤ maxLen) :
    Calls Try.prog 41 #[.slice (some ⟨g1, 0, none⟩) n c1, .slice (some ⟨g2, 0, none⟩) n c2, .func (.func 42) #[] #[]] w fun e w' => e = .returned (.bool true) ∧ Keep [] w w' := by
  have HX0 := Lib.hid hx
  have HY0 := Lib.hid hy
  unfold maxLen at hm1
  clear hx hy
  go_enter Try.func41, Try.ntmps41
  go_wp2_with fail
  go_loopw [17] (fun i wr => ∃ k : Nat, k ≤ n ∧ i = .int .i64 k ∧ Keep [] w wr ∧ Hid (RowsC wr g1 n R) ∧ Hid (RowsC wr g2 n R)) (fun i _ => n - (intOf i).toNat)
  case atStart => exact ⟨0, by omega, rfl, Keep.refl _ _, HX0, HY0⟩
  case round =>
    obtain ⟨k, hk, rfl, hkw, HX, HY⟩ := hrel
    by_cases hlt : k < n
    · obtain ⟨a3, m3, c3, hc3, hi3⟩ := HX.out k hlt
      obtain ⟨a4, m4, c4, hc4, hi4⟩ := HY.out k hlt
      have HI3 := Lib.hid hi3
      have HI4 := Lib.hid hi4
      clear hi3 hi4
      go_wp2_with (first | (go_at_call 42; refine (eqc_any HI3.out HI4.out).mono ?_; rintro e w1 ⟨rfl, hk1⟩))
      go_roundw
      case measure => simp [intOf]; omega
      case rel => exact ⟨k + 1, by omega, by go_num, hkw.trans hk1, Lib.hid (HX.out.keep hk1), Lib.hid (HY.out.keep hk1)⟩
    · go_wp2_with fail
      go_ret
      exact ⟨rfl, hkw⟩
end Go.Proofs.Ytkhchfjhmplaiaa
namespace Go
open Go.RowKit
/-- A natural number in groups of 7 bits. -/
def encN (u : Nat) : List Int := if u < 128 then [(u : Int)] else ((u % 128 + 128 : Nat) : Int) :: encN (u / 128)
termination_by u
decreasing_by omega
def bytesC (xs : List Int) : List Value := xs.map (Value.int .u8)
end Go
namespace Go.Proofs.Ytkhchfjhmplaiaa
open Go.RowKit
theorem info5 : (Try.prog.info? 5).map (fun i => (i.zero, i.size, i.bytes)) = some (some (.int .u8 0), 1, 1) := by kernel_rfl
/-- What is not of bytes stays. -/
def Else (w w' : World) : Prop := ∀ (b : Nat) (cs : Array Value) (T : TypeId) (f : Nat × Nat), w.heap[b]? = some (Obj.cells cs T f) → T ≠ 5 → w'.heap[b]? = some (Obj.cells cs T f)
theorem Else.refl (w : World) : Else w w := fun _ _ _ _ h _ => h
theorem Else.trans {w w' w'' : World} (h : Else w w') (k : Else w' w'') : Else w w'' := fun b cs T f hb hT => k b cs T f (h b cs T f hb hT) hT
theorem Else.keep {w w' : World} (h : Keep [] w w') : Else w w' := fun _ _ _ _ hb _ => h.at hb (by simp)
theorem Else.grown {B n : Nat} {w w' : World} {v : Value} {xs : List Value} (ho : w.ownsRow B 5 1 v n xs) (hg : w.grownBy w' v.ownBlock) : Else w w' := fun b cs T f hb hT => by
  rw [hg.block b (lt_of_blk hb) (fun e => own_ne ho hb (fun e => hT e.symm) b e.symm rfl)]
  exact hb
theorem or128 (k : Nat) : bits BinOp.or IntKind.u8 ((k : Int) % 256) 128 = ((k % 128 + 128 : Nat) : Int) := by
  have h : ∀ x : Nat, x < 256 → bits BinOp.or IntKind.u8 (x : Int) 128 = ((x % 128 + 128 : Nat) : Int) := by decide +kernel
  have h1 := h (k % 256) (by omega)
  rw [show ((k % 256 : Nat) : Int) = (k : Int) % 256 by omega, show k % 256 % 128 = k % 128 by omega] at h1
  exact h1
set_option maxRecDepth 100000 in
theorem unsigned_any {n u : Nat} {v : Value} {xs : List Int} {w0 w : World} (hk0 : Keep [] w0 w) (ho : w.ownsRow w0.heap.size 5 1 v n (bytesC xs)) (hu : u < 16384) (hn : n ≤ 5000) :
    Calls Try.prog 82 #[v, .int .u64 u] w fun e w' => ∃ v' n', e = .returned v' ∧ Keep [] w0 w' ∧ w'.ownsRow w0.heap.size 5 1 v' n' (bytesC (xs ++ encN u)) ∧ Else w w' := by
  have HO0 := Lib.hid ho
  have hB := hk0.size
  obtain ⟨i5, hi5, hy0, hy1, hy2⟩ := info_parts info5
  clear ho
  go_enter Try.func82, Try.ntmps82
  go_wp2_with fail
  go_loopw [0, 1] (fun v' u' wr => ∃ (m k : Nat) (ys : List Int), u' = .int .u64 k ∧ Keep [] w0 wr ∧ Hid (Else w wr) ∧ Hid (wr.ownsRow w0.heap.size 5 1 v' m (bytesC ys)) ∧ Hid (ys ++ encN k = xs ++ encN u) ∧ k < 16384 ∧ m ≤ n + 1 ∧ (m = n ∨ k < 128)) (fun _ u' _ => (intOf u').toNat)
  case atStart => exact ⟨n, u, xs, rfl, hk0, Lib.hid (Else.refl _), HO0, Lib.hid rfl, hu, by omega, .inl rfl⟩
  case round =>
    obtain ⟨m, k, ys, rfl, hkw, HE, HO, HX, hk, hm, hmk⟩ := hrel
    have hsz := hkw.size
    clear HO0
    by_cases hlt : k < 128
    · go_wp2_with (first | (with_reducible refine Txt.wp_region_text mixed quiet (by decide +kernel) ?_) | (with_reducible refine Txt.text_done (by kernel_rfl) ?_) | (at_builtin; refine wpList_append_own _ rfl _ _ 60 rfl w0.heap.size 5 i5 (.int .u8 0) 1 1 Try.underlying60 hi5 hy0 hy1 hy2 rfl (by decide) _ _ _ rfl (HO.out.alloc _) ⟨wr.heap.size, 0, none⟩ 1 1 [.int .u8 (k : Int)] rfl rfl (cell_one_at rfl _ _) (by intro u hu; simp at hu; subst hu; rfl) (by unfold maxLen; omega) (by omega) (by simp; omega) ?_; intro v6 w6 hown6 hgr6 _; have HO6 := Lib.hid hown6; have HGR6 := Lib.hid hgr6; clear hown6 hgr6))
      go_ret
      have hgr : (wr.alloc (.cells #[.int .u8 k] 5)).grownBy w6 u0.ownBlock := HGR6.out
      refine ⟨v6, m + 1, rfl, (hkw.alloc _).grown hgr (fun g hg => .inr ((HO.out.lt g hg).1)), ?_, (HE.out.trans (Else.keep ((Keep.refl [] _).alloc _))).trans (Else.grown (HO.out.alloc _) hgr)⟩
      rw [← HX.out, encN, if_pos hlt]
      have h9 := HO6.out
      simpa [bytesC] using h9
    · obtain ⟨x, hx⟩ : ∃ x, bits BinOp.or IntKind.u8 ((k : Int) % 256) 128 = x := ⟨_, rfl⟩
      have HB := Lib.hid ((or128 k).symm.trans hx)
      go_wp2_with (first | (with_reducible refine Txt.wp_region_text mixed quiet (by decide +kernel) ?_) | (with_reducible refine Txt.text_done (by kernel_rfl) ?_) | (at_builtin; refine wpList_append_own _ rfl _ _ 60 rfl w0.heap.size 5 i5 (.int .u8 0) 1 1 Try.underlying60 hi5 hy0 hy1 hy2 rfl (by decide) _ _ _ rfl (HO.out.alloc _) ⟨wr.heap.size, 0, none⟩ 1 1 [.int .u8 x] rfl rfl (cell_one_at rfl _ _) (by intro u hu; simp at hu; subst hu; rfl) (by unfold maxLen; omega) (by omega) (by simp; omega) ?_; intro v6 w6 hown6 hgr6 _; have HO6 := Lib.hid hown6; have HGR6 := Lib.hid hgr6; clear hown6 hgr6))
      go_roundw
      case measure => simp [intOf]; omega
      case rel =>
        have hgr : (wr.alloc (.cells #[.int .u8 x] 5)).grownBy w6 u0.ownBlock := HGR6.out
        refine ⟨m + 1, k / 128, ys ++ [x], by rw [Int.natCast_ediv]; rfl, (hkw.alloc _).grown hgr (fun g hg => .inr ((HO.out.lt g hg).1)), Lib.hid ((HE.out.trans (Else.keep ((Keep.refl [] _).alloc _))).trans (Else.grown (HO.out.alloc _) hgr)), Lib.hid (by simpa [bytesC] using HO6.out), Lib.hid ?_, by omega, by omega, .inr (by omega)⟩
        rw [← HX.out, encN.eq_1 k, if_neg hlt, ← HB.out]
        simp
theorem encN_len (u : Nat) (hu : u < 16384) : (encN u).length ≤ 2 := by
  rw [encN]
  split
  · simp
  · rw [encN, if_pos (by omega)]; simp
set_option maxRecDepth 100000 in
theorem nat_any {n : Nat} {u : Int} {v : Value} {xs : List Int} {w0 w : World} (hk0 : Keep [] w0 w) (ho : w.ownsRow w0.heap.size 5 1 v n (bytesC xs)) (hu0 : 0 ≤ u) (hu : u < 16384) (hn : n ≤ 5000) :
    Calls Try.prog 74 #[v, .int .i64 u] w fun e w' => ∃ v' n', e = .returned v' ∧ Keep [] w0 w' ∧ w'.ownsRow w0.heap.size 5 1 v' n' (bytesC (xs ++ encN u.toNat)) ∧ Else w w' := by
  have h := unsigned_any hk0 ho (u := u.toNat) (by omega) hn
  have hcast : ((u.toNat : Nat) : Int) = u := by omega
  rw [hcast] at h
  have H := Lib.hid h
  clear h ho hcast
  go_enter Try.func74, Try.ntmps74
  go_wp2_with (first | (go_at_call 82; refine H.out.mono ?_; rintro e w1 ⟨v1, n1, rfl, hk1, ho1, he1⟩; have HO1 := Lib.hid ho1; have HE1 := Lib.hid he1; clear ho1 he1))
  go_ret
  exact ⟨v1, n1, rfl, hk1, HO1.out, HE1.out⟩
end Go.Proofs.Ytkhchfjhmplaiaa
namespace Go
/-- An event in bytes; a history. -/
def evB (L : Ln) : List Int := encN (3 * L.q + L.g - 1).toNat ++ (if L.g = 1 then [] else encN L.u.toNat)
def packTo (h : List Ln) : Nat → List Int
  | 0 => encN h.length
  | k + 1 => packTo h k ++ evB (lat h k)
def packB (h : List Ln) : List Int := packTo h h.length
end Go
namespace Go.Proofs.Ytkhchfjhmplaiaa
open Go.RowKit
theorem packTo_len {h : List Ln} (hk : HOk h) : ∀ k, k ≤ h.length → (packTo h k).length ≤ 2 + 4 * k := by
  intro k
  induction k with
  | zero => intro _; have := hk.len; exact encN_len _ (by omega)
  | succ k ih =>
    intro hl
    have he := hk.ev k (by omega)
    have h1 := encN_len (3 * (lat h k).q + (lat h k).g - 1).toNat (by omega)
    have h2 := encN_len (lat h k).u.toNat (by omega)
    have h3 := ih (by omega)
    rw [packTo, evB]
    generalize lat h k = L at *
    have e1 : (packTo h k).length + (encN (3 * L.q + L.g - 1).toNat).length + (encN L.u.toNat).length ≤ 2 + 4 * (k + 1) := by omega
    split
    · rw [List.append_nil, List.length_append]; omega
    · rw [List.length_append, List.length_append]; omega
set_option maxRecDepth 100000 in
theorem pack_any {a : Option Addr} {n c : Nat} {h : List Ln} {w : World} (hv : LnsV w a n c h) (hk : HOk h) :
    Calls Try.prog 48 #[.slice a n c] w fun e w' => ∃ v, e = .returned (.tuple #[v, .int .i64 0]) ∧ Keep [] w w' ∧ w'.ownsRow w.heap.size 5 1 v (packB h).length (bytesC (packB h)) := by
  have hn2 : n ≤ 200 := by have := hk.len; have := hv.len; omega
  have HV := Lib.hid hv
  have HK := Lib.hid hk
  have HL := Lib.hid hv.len
  clear hv hk
  go_enter Try.func48, Try.ntmps48
  go_wp2_with (first | (go_at_call 51; refine (check_ok HV.out HK.out).mono ?_; rintro e w1 ⟨rfl, hk1⟩) | (go_at_call 74; refine (nat_any hk1 (xs := []) (World.ownsRow_nil _ _ _ _) (by omega) (by omega) (by omega)).mono ?_; rintro e w2 ⟨v2, n2, rfl, hk2, ho2, he2⟩; have HO2 := Lib.hid ho2; have hl2 := ho2.1; clear ho2 he2))
  go_loopw [5, 18] (fun v i wr => ∃ (k m : Nat), k ≤ n ∧ i = .int .i64 k ∧ Keep [] w wr ∧ Hid (wr.ownsRow w.heap.size 5 1 v m (bytesC (packTo h k)))) (fun _ i _ => n - (intOf i).toNat)
  case atStart => exact ⟨0, n2, by omega, rfl, hk2, Lib.hid (by rw [packTo, HL.out]; simpa using HO2.out)⟩
  case round =>
    obtain ⟨k, m, hk, rfl, hkw, HO⟩ := hrel
    have hm : m ≤ 2 + 4 * k := by have h1 := HO.out.1; have h2 := packTo_len HK.out k (by rw [HL.out]; exact hk); simp [bytesC] at h1; omega
    clear HO2
    by_cases hlk : k < n
    · have hlh : k < h.length := by rw [HL.out]; exact hlk
      have he := HK.out.ev k hlh
      obtain ⟨b, off, rfl, c0, c1, c2⟩ := (HV.out.keep hkw (by simp)).at_ hlk
      have hpk : packTo h (k + 1) = packTo h k ++ evB (lat h k) := rfl
      obtain ⟨⟨q, g, u⟩, hL⟩ : ∃ L, lat h k = L := ⟨_, rfl⟩
      rw [hL] at he c0 c1 c2 hpk
      dsimp only at he c0 c1 c2
      have HP := Lib.hid hpk
      clear hL hpk
      have hkA : Keep [] wr (wr.alloc (.cells #[.int .i64 q, .int .i64 g, .int .i64 u] 27)) := (Keep.refl [] _).alloc _
      have HOA := Lib.hid (own_keep HO.out hkA (by simp))
      have hkwA := hkw.trans hkA
      have HEV := Lib.hid (blk_new wr (.cells #[.int .i64 q, .int .i64 g, .int .i64 u] 27))
      have hq1 : 0 ≤ 3 * q + g - 1 := by omega
      have hq2 : 3 * q + g - 1 < 16384 := by omega
      have HN3 : Hid (∀ n3 : Nat, (bytesC (packTo h k ++ encN (3 * q + g - 1).toNat)).length = n3 * 1 → n3 ≤ 1000) := Lib.hid (fun n3 h3 => by
        have he1 := encN_len (3 * q + g - 1).toNat (by omega)
        have h1 := HO.out.1
        rw [bytesC, List.length_map] at h1 h3
        rw [List.length_append] at h3
        omega)
      by_cases hg : g = 1
      · subst hg
        have e31 : 3 * q + 1 - 1 = 3 * q := by omega
        have hev1 : evB ⟨q, 1, u⟩ = encN (3 * q).toNat := by unfold evB; rw [if_pos rfl, List.append_nil, e31]
        rw [e31] at HN3
        rw [hev1] at HP
        clear e31 hev1
        go_wp2_with (first | (go_at_call 74; (with_reducible refine (nat_any hkwA HOA.out (by omega) (by omega) (by omega)).mono ?_); rintro e w3 ⟨v3, n3, rfl, hk3, ho3, he3⟩; have HO3 := Lib.hid ho3; have hl3 := HN3.out _ ho3.1; have hev := he3 _ _ _ _ HEV.out (by decide); obtain ⟨n0, n1, n2, _⟩ := row3 hev; clear ho3 he3 hev))
        go_roundw
        case measure => simp [intOf]; omega
        case rel => exact ⟨k + 1, n3, by omega, by go_num, hk3, Lib.hid (by rw [HP.out]; exact HO3.out)⟩
      · have hgb : (g == 1) = false := by simpa using hg
        go_wp2_with (first | (go_at_call 74; (with_reducible refine (nat_any hkwA HOA.out (by omega) (by omega) (by omega)).mono ?_); rintro e w3 ⟨v3, n3, rfl, hk3, ho3, he3⟩; have HO3 := Lib.hid ho3; have hl3 := HN3.out _ ho3.1; have hev := he3 _ _ _ _ HEV.out (by decide); obtain ⟨n0, n1, n2, _⟩ := row3 hev; clear ho3 he3 hev) | (go_at_call 74; (with_reducible refine (nat_any hk3 HO3.out (by omega) (by omega) (by omega)).mono ?_); rintro e w4 ⟨v4, n4, rfl, hk4, ho4, he4⟩; have HO4 := Lib.hid ho4; clear ho4 he4))
        go_roundw
        case measure => simp [intOf]; omega
        case rel => exact ⟨k + 1, n4, by omega, by go_num, hk4, Lib.hid (by rw [HP.out]; simpa [evB, hg] using HO4.out)⟩
    · have hkn := Lib.hid (show k = n by omega)
      go_wp2_with fail
      go_ret2
      have h9 := HO.out
      rw [hkn.out, ← HL.out] at h9
      have h10 : m = (packB h).length := by have := h9.1; simpa [bytesC, packB] using this.symm
      exact ⟨_, rfl, hkw, by rw [← h10]; exact h9⟩
end Go.Proofs.Ytkhchfjhmplaiaa
namespace Go.Proofs
open Go.Shelf
def Try.laysEq50_ren : Go.Shelf.Ren := ⟨fun | 115 => 50 | n => n, fun | 37 => 60 | 5 => 5 | 4 => 4 | 9 => 9 | n => n, fun | n => n⟩
theorem Try.laysEq50 : Go.Proofs.Lays.nb115 Try.prog Try.laysEq50_ren := {
  mixed := by kernel_rfl
  f115 := Try.func50.trans (congrArg some (by kernel_rfl))
  t4 := Try.underlying4
  a4 := Try.isAgg4
  z4 := Try.sizeOf4
  v4 := Try.zeroValue4
  t9 := Try.underlying9
  a9 := Try.isAgg9
  z9 := Try.sizeOf9
  v9 := Try.zeroValue9
  t37 := Try.underlying60
  a37 := Try.isAgg60
  z37 := Try.sizeOf60
  v37 := Try.zeroValue60
  t5 := Try.underlying5
  a5 := Try.isAgg5
  z5 := Try.sizeOf5
  v5 := Try.zeroValue5 }
end Go.Proofs
namespace Go.Proofs.Ytkhchfjhmplaiaa
open Go.RowKit
/-- bytes.Equal of equal bytes. -/
theorem eqb_same {p1 p2 : Option Addr} {n c d : Nat} {xs : List Int} {w : World} (hx : xs.length = n) (h1 : Lib.BytesIn w p1 n xs) (h2 : Lib.BytesIn w p2 n xs) :
    Calls Try.prog 50 #[.slice p1 n c, .slice p2 n d] w fun e w' => e = .returned (.bool true) ∧ w' = w := by
  have h : Calls Try.prog 50 #[.slice p1 n c, .slice p2 n d] w fun e w' => e = .returned (.bool (Lib.bytesOf xs == Lib.bytesOf xs)) ∧ w' = w :=
    Any.bytes_Equal_all Try.laysEq50 p1 p2 n c n d xs xs w hx hx h1 h2
  rw [beq_self_eq_true] at h
  exact h
/-- A row of bytes of one's own, as an argument. -/
theorem own_bytes {w : World} {B n : Nat} {v : Value} {xs : List Int} (ho : w.ownsRow B 5 1 v n (bytesC xs)) : ∃ a c, v = .slice a n c ∧ Lib.BytesIn w a n xs ∧ xs.length = n ∧ n ≤ c ∧ c ≤ maxLen := by
  obtain ⟨hl, h⟩ := ho
  have hlen : xs.length = n := by simpa [bytesC] using hl
  rcases h with ⟨rfl, h0⟩ | ⟨g, cap, cur, rfl, hb, hg, hnc, hcm, hcs, ht⟩
  · subst h0
    exact ⟨none, 0, rfl, Lib.BytesIn.nil _ _ _, hlen, Nat.le_refl _, Nat.zero_le _⟩
  · refine ⟨_, _, rfl, fun _ => ⟨g, 0, rfl, fun i hi => ?_⟩, hlen, hnc, hcm⟩
    rw [Nat.zero_add, cell_of_row w g i cur 5 (0, 0) hg]
    have : (cur.toList.take (n * 1))[i]? = (bytesC xs)[i]? := by rw [ht]
    rw [List.getElem?_take, if_pos (by omega)] at this
    simp only [Array.getElem?_toList] at this
    rw [this]
    simp [bytesC, List.getD_eq_getElem?_getD, hlen ▸ hi]
theorem bytes_keep {w w' : World} {a : Option Addr} {n : Nat} {xs : List Int} (h : Lib.BytesIn w a n xs) (hk : Keep [] w w') : Lib.BytesIn w' a n xs := fun hn =>
  let ⟨b, o, h1, h2⟩ := h hn
  ⟨b, o, h1, fun i hi => hk.cell (h2 i hi) (by simp)⟩
theorem bytes_new (w : World) (xs : List Int) : Lib.BytesIn (w.alloc (.cells (bytesC xs).toArray 5)) (some ⟨w.heap.size, 0, none⟩) xs.length xs := fun _ => ⟨_, 0, rfl, fun i hi => by
  rw [Nat.zero_add, cell_of_row _ _ _ _ _ _ (blk_new w _)]
  simp [bytesC, List.getD_eq_getElem?_getD, hi]⟩
def one1 : List Ln := [⟨2, 1, 0⟩]
theorem one1_ok : HOk one1 := by
  refine ⟨by decide, fun i hi => ?_, fun i j h1 h2 => ?_, fun i j h1 h2 => ?_, fun i hi hg => ?_⟩
  · have : i = 0 := by simp [one1] at hi; exact hi
    subst this; decide
  · simp [one1] at h2; omega
  · simp [one1] at h2; omega
  · have : i = 0 := by simp [one1] at hi; exact hi
    subst this; exact absurd hg (by decide)
theorem one1_pack : packB one1 = [1, 6] := by
  simp [packB, packTo, evB, one1, encN]
set_option maxRecDepth 100000 in
theorem tbegun_any (w : World) : Calls Try.prog 35 #[] w fun e w' => e = .returned (.bool true) ∧ Keep [] w w' := by
  have hp := fun (v : LnsV (w.alloc (.cells #[.int .i64 2, .int .i64 1, .int .i64 0] 27)) (some ⟨w.heap.size, 0, none⟩) 1 1 one1) => pack_any v one1_ok
  rw [one1_pack] at hp
  have HV : LnsV (w.alloc (.cells #[.int .i64 2, .int .i64 1, .int .i64 0] 27)) (some ⟨w.heap.size, 0, none⟩) 1 1 one1 := by
    refine ⟨rfl, Nat.le_refl _, by unfold maxLen; omega, fun _ => ⟨w.heap.size, 0, rfl, fun j hj => ?_⟩⟩
    rw [Nat.zero_add, cell_of_row _ _ _ _ _ _ (blk_new w _)]
    simp [lanesC, one1, Ln.cells]
  have hkw : Keep [] w (w.alloc (.cells #[.int .i64 2, .int .i64 1, .int .i64 0] 27)) := (Keep.refl _ _).alloc _
  have HP := Lib.hid (hp HV)
  clear hp HV
  go_enter Try.func35, Try.ntmps35
  go_wp2_with (first | (go_at_call 48; refine HP.out.mono ?_; rintro e w1 ⟨v1, rfl, hk1, ho1⟩; obtain ⟨a1, c1, rfl, hb1, _⟩ := own_bytes ho1; have HB1 := Lib.hid (bytes_keep hb1 ((Keep.refl [] w1).alloc (.cells #[.int .u8 1, .int .u8 6] 5))); clear hb1 ho1) | (go_at_call 50; refine (eqb_same (xs := [1, 6]) rfl HB1.out (bytes_new w1 [1, 6])).mono ?_; rintro e w2 ⟨rfl, rfl⟩))
  go_ret
  exact ⟨rfl, hkw.trans (hk1.alloc _)⟩
end Go.Proofs.Ytkhchfjhmplaiaa
