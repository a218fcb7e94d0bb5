/- Texts laid together: DE10 DE11. -/
import Derived.Test.YtfcellgjbbfobaaDoorMg17
/- Explore: slices.Index and slices.Contains of states. -/
namespace Go.Proofs.YtfcellgjbbfobaaDoor
open Go.RowKit Go.Ex Go.Bf
theorem guard62 : Tryd.prog.eqGuardType Tryd.prog.depth 41 = false := by kernel_rfl
theorem exec_eqS {o : Oper} {ρ : Operand → Value} {x y : List Int} {X Y : Operand} {ty : TypeId} (w : World) (ho : o.op = .binOp .eql 41 X Y ty) (hX : ρ X = .agg (x.map (Value.int .i64)).toArray) (hY : ρ Y = .agg (y.map (Value.int .i64)).toArray) (hx : KS.ok x) (hy : KS.ok y) :
    (execOp ρ o).run Tryd.prog w = .ok (.value (.bool (decide (x = y)))) w := by
  obtain ⟨r, hr, hiff⟩ := run_equal_deep (P := Tryd.prog) w (m := 3) (by omega) (k := 41) (by kernel_rfl) (by rw [Tryd.underlying41]) (KS.key x hx) (KS.key y hy)
  have hrd : r = decide (x = y) := by
    rw [Bool.eq_iff_iff, hiff, decide_eq_true_eq]
    exact ⟨fun h => KS.inj x y hx hy h, fun h => by rw [h]⟩
  have hr2 : (Op.equalIn 10000 41 (.agg (x.map (Value.int .i64)).toArray) (.agg (y.map (Value.int .i64)).toArray)).run Tryd.prog w = .ok r w := hr
  unfold execOp
  simp only [ho, hX, hY, eqGuard]
  simp
  rw [run_eql_struct, hr2, hrd]
  rfl
theorem flat_cell {w : World} {g : Nat} {E : List (List Int)} (h12 : ∀ x ∈ E, x.length = 12) (hc : ∀ j u, (E.flatMap encS)[j]? = some u → w.cell? ⟨g, j, none⟩ = some u) {k : Nat} {x : List Int} (hx : E[k]? = some x) : ∀ j u, (encS x)[j]? = some u → w.cell? ⟨g, k * 12 + j, none⟩ = some u := by
  intro j u hu
  refine hc _ _ ?_
  have hl : ∀ {E : List (List Int)}, (∀ x ∈ E, x.length = 12) → ∀ {k : Nat} {x : List Int}, E[k]? = some x → ∀ {j : Nat} {u : Value}, (encS x)[j]? = some u → (E.flatMap encS)[k * 12 + j]? = some u := by
    intro E
    induction E with
    | nil => intro _ k x h; simp at h
    | cons y E ih =>
      intro h12 k x hx j u hu
      rw [List.flatMap_cons]
      have hy : (encS y).length = 12 := by unfold encS; rw [List.length_map]; exact h12 y (by simp)
      cases k with
      | zero =>
        simp at hx
        subst hx
        rw [Nat.zero_mul, Nat.zero_add, List.getElem?_append_left (List.getElem?_eq_some_iff.1 hu).1]
        exact hu
      | succ k =>
        rw [List.getElem?_append_right (by omega), show (k + 1) * 12 + j - (encS y).length = k * 12 + j by omega]
        exact ih (fun z hz => h12 z (by simp [hz])) (by simpa using hx) hu
  exact hl h12 hx hu
set_option maxRecDepth 100000 in
set_option maxHeartbeats 4000000 in
theorem index43_any {w : World} {g n c : Nat} {E : List (List Int)} {x : List Int} (hl : E.length = n) (hE : ∀ y ∈ E, KS.ok y) (hx : KS.ok x) (hc : ∀ j u, (E.flatMap encS)[j]? = some u → w.cell? ⟨g, j, none⟩ = some u) (hn : n ≤ 1000000000) (hnc : n ≤ c) (hcm : c ≤ 9223372036854775807) :
    Calls Tryd.prog 31 #[.slice (some ⟨g, 0, none⟩) n c, .agg (x.map (Value.int .i64)).toArray] w fun e w' => ∃ r : Int, e = .returned (.int .i64 r) ∧ (0 ≤ r ↔ x ∈ E) ∧ Keep [] w w' := by
  have HL := Lib.hid hl
  have HE := Lib.hid hE
  have HX := Lib.hid hx
  have HC := Lib.hid hc
  have hxl := hx.1
  have hkA : Keep [] w (w.alloc (.cells (x.map (Value.int .i64)).toArray 41)) := (Keep.refl [] w).alloc _
  have HKA := Lib.hid hkA
  have HA : Hid (ArrAt 41 (w.alloc (.cells (x.map (Value.int .i64)).toArray 41)) w.heap.size x) := Lib.hid (ArrAt.new 41 w x)
  clear hl hE hx hc
  obtain ⟨b3, hb3⟩ : ∃ b3, w.heap.size = b3 := ⟨_, rfl⟩
  obtain ⟨W0, hW0⟩ : ∃ W0, w.alloc (.cells (x.map (Value.int .i64)).toArray 41) = W0 := ⟨_, rfl⟩
  rw [hW0] at HKA HA
  rw [hb3] at HA
  clear hkA
  go_enter Tryd.func31, Tryd.ntmps31
  go_wp2_with fail
  clear hW0 hb3
  go_loopw [8] (fun j wr => ∃ k : Nat, k ≤ n ∧ j = .int .i64 k ∧ Hid (Keep [] W0 wr) ∧ Hid (∀ y ∈ E.take k, y ≠ x)) (fun j _ => n - (intOf j).toNat)
  case atStart => exact ⟨0, by omega, rfl, Lib.hid (Keep.refl _ _), Lib.hid (by simp)⟩
  case round =>
    obtain ⟨k, hk, rfl, HK, HNO⟩ := hrel
    by_cases hlt : k < n
    · obtain ⟨y, hy⟩ : ∃ y, E[k]? = some y := ⟨_, List.getElem?_eq_getElem (by rw [HL.out]; exact hlt)⟩
      have hyE : y ∈ E := List.mem_of_getElem? hy
      have hoky := HE.out y hyE
      have hdec : decide ((k : Int) < (n : Int)) = true := by simp; omega
      go_upto_region 4 with fail
      obtain ⟨wd, hwd⟩ : ∃ wd : World, { wr with drawn := wr.drawn + 1 } = wd := ⟨_, rfl⟩
      have hkd : Keep [] wr wd := by rw [← hwd]; exact (Keep.refl [] wr).drew
      have HKD := Lib.hid hkd
      have HAX : Hid (∀ j u, (x.map (Value.int .i64))[j]? = some u → wd.cell? ⟨b3, 0 + j, none⟩ = some u) := Lib.hid (fun j u hu => by
        have h1 := (HA.out.keep (HK.out.trans hkd) (by simp))
        have hj := (List.getElem?_eq_some_iff.1 hu).1
        rw [Nat.zero_add, h1.cell (by simpa using hj)]
        rw [List.getElem?_map] at hu
        rw [List.getD_eq_getElem?_getD]
        cases hz : x[j]? with
        | none => rw [hz] at hu; cases hu
        | some z => rw [hz] at hu; simpa using hu)
      have HAY : Hid (∀ j u, (y.map (Value.int .i64))[j]? = some u → wd.cell? ⟨g, k * 12 + j, none⟩ = some u) := Lib.hid (fun j u hu => ((HKA.out.trans HK.out).trans hkd).cell (flat_cell (fun z hz => (HE.out z hz).1) HC.out hy j u hu) (by simp))
      refine wp_region_still_lit mixed (by kernel_rfl) ?_
      rw [hwd]
      refine still_val rfl (exec_load_at 41 _ rfl b3 0 rfl (x.map (Value.int .i64)) _ HAX.out Tryd.underlying41 rfl (by rw [info62]; simp [hxl])) ?_
      simp only [Act.put, List.setIfInBounds_toArray, List.set_cons_succ, List.set_cons_zero]
      still_step
      still_step
      still_step
      refine still_val rfl (exec_load_at 41 _ rfl g (k * 12) rfl (y.map (Value.int .i64)) _ HAY.out Tryd.underlying41 rfl (by rw [info62]; simp [hoky.1])) ?_
      simp only [Act.put, List.setIfInBounds_toArray, List.set_cons_succ, List.set_cons_zero]
      refine still_val rfl (exec_eqS wd rfl rfl rfl HX.out hoky) ?_
      simp only [Act.put, List.setIfInBounds_toArray, List.set_cons_succ, List.set_cons_zero]
      refine wpStill_nil ?_
      have HY := Lib.hid hy
      have HKR := Lib.hid (HK.out.trans hkd)
      by_cases hxy : x = y
      · have hdx : decide (x = y) = true := decide_eq_true hxy
        rw [hdx]
        have HRE : Hid (x ∈ E) := Lib.hid (hxy ▸ hyE)
        clear hxy hdx hy hoky hyE hwd
        go_wp2_with fail
        go_ret
        exact ⟨(k : Int), rfl, ⟨fun _ => HRE.out, fun _ => Int.natCast_nonneg k⟩, HKA.out.trans HKR.out⟩
      · have hdx : decide (x = y) = false := decide_eq_false hxy
        rw [hdx]
        have HNN : Hid (∀ z ∈ E.take (k + 1), z ≠ x) := Lib.hid (fun z hz => by
          rw [List.take_add_one, HY.out] at hz
          rcases List.mem_append.1 hz with h | h
          · exact HNO.out z h
          · have : z = y := by simpa using h
            rw [this]
            exact fun e => hxy e.symm)
        clear hxy hdx hy hoky hyE hwd
        go_wp2_with fail
        exact ⟨⟨k + 1, hlt, by go_num, HKR, HNN⟩, by simp [intOf]; omega⟩
    · have hkn : k = n := by omega
      have hdec : decide ((k : Int) < (n : Int)) = false := by simp; omega
      have HNE : Hid (x ∉ E) := Lib.hid (fun hm => HNO.out x (by rw [List.take_of_length_le (by rw [HL.out]; omega)]; exact hm) rfl)
      go_wp2_with fail
      go_ret
      exact ⟨-1, rfl, ⟨fun h => absurd h (by decide), fun h => absurd h HNE.out⟩, HKA.out.trans HK.out⟩
set_option maxRecDepth 100000 in
set_option maxHeartbeats 4000000 in
theorem contains29_any {w : World} {g n c : Nat} {E : List (List Int)} {x : List Int} {A : Bool} (hl : E.length = n) (hE : ∀ y ∈ E, KS.ok y) (hx : KS.ok x) (hc : ∀ j u, (E.flatMap encS)[j]? = some u → w.cell? ⟨g, j, none⟩ = some u) (hn : n ≤ 1000000000) (hnc : n ≤ c) (hcm : c ≤ 9223372036854775807) (hA : decide (x ∈ E) = A) :
    Calls Tryd.prog 13 #[.slice (some ⟨g, 0, none⟩) n c, .agg (x.map (Value.int .i64)).toArray] w fun e w' => e = .returned (.bool A) ∧ Keep [] w w' := by
  have HKA := Lib.hid ((Keep.refl [] w).alloc (.cells (x.map (Value.int .i64)).toArray 41))
  have hxl := hx.1
  have HI := Lib.hid (index43_any (w := w.alloc (.cells (x.map (Value.int .i64)).toArray 41)) hl hE hx (fun j u hu => HKA.out.cell (hc j u hu) (by simp)) hn hnc hcm)
  have HAX : Hid ((w.alloc (.cells (x.map (Value.int .i64)).toArray 41)).heap[w.heap.size]? = some (.cells (x.map (Value.int .i64)).toArray 41 (0, 0))) := Lib.hid (blk_new w _)
  have HI12 : Hid ((Tryd.prog.info? 41).map (·.size) = some (x.map (Value.int .i64)).toArray.size) := Lib.hid (by rw [info62]; simp [hxl])
  have HA := Lib.hid hA
  clear hl hE hx hc hA
  go_enter Tryd.func13, Tryd.ntmps13
  go_wp2_with (first | (with_reducible refine wpList_load_row rfl 41 _ rfl w.heap.size rfl 41 _ (0, 0) _ HAX.out Tryd.underlying41 rfl HI12.out ?_) | (go_at_call 31; refine HI.out.mono ?_; rintro e1 w1 ⟨r, rfl, hr, hk1⟩; have HR := Lib.hid hr; have HK1 := Lib.hid hk1; obtain ⟨B, hB⟩ : ∃ B, decide (r ≥ 0) = B := ⟨_, rfl⟩; clear hr hk1))
  go_ret
  refine ⟨?_, HKA.out.trans HK1.out⟩
  have hBA : B = A := by
    rw [← hB, ← HA.out]
    exact decide_eq_decide.2 HR.out
  rw [hBA]; rfl
end Go.Proofs.YtfcellgjbbfobaaDoor
/- Explore: exploreBegun. -/
namespace Go
open Go.RowKit
/-- A block that holds rows as a literal. -/
theorem lnsBlock {w : World} {b : Nat} {l : List Ln} {T : TypeId} (h : w.heap[b]? = some (.cells (lanesC l).toArray T (0, 0))) (hm : l.length ≤ 1000) : LnsV w (some ⟨b, 0, none⟩) l.length l.length l :=
  ⟨rfl, Nat.le_refl _, by unfold maxLen; omega, fun _ => ⟨b, 0, rfl, fun j hj => by
    rw [Nat.zero_add, cellAt h j]
    simp⟩⟩
end Go
namespace Go.Proofs.YtfcellgjbbfobaaDoor
open Go.RowKit Go.Ex Go.Bf
theorem own_at {w : World} {B e m n : Nat} {v : Value} {xs : List Value} (h : w.ownsRow B e m v n xs) (hn : 0 < n) : ∃ g c, v = .slice (some ⟨g, 0, none⟩) n c ∧ n ≤ c ∧ c ≤ 9223372036854775807 ∧ B ≤ g ∧ g < w.heap.size ∧ ∀ j u, xs[j]? = some u → w.cell? ⟨g, j, none⟩ = some u := by
  rcases h.2 with ⟨_, h0⟩ | ⟨g, cap, cur, rfl, hb, hg, hnc, hcm, hcs, ht⟩
  · omega
  · refine ⟨g, cap, rfl, hnc, hcm, hb, lt_of_blk hg, fun j u hu => ?_⟩
    rw [cell_of_row w g j cur e (0, 0) hg]
    have hj : j < n * m := by rw [← h.1]; exact (List.getElem?_eq_some_iff.1 hu).1
    rw [← ht, List.getElem?_take_of_lt hj, Array.getElem?_toList] at hu
    exact hu
theorem keyType53 : Tryd.prog.keyType 39 = true := by kernel_rfl
theorem key53 {x0 x1 x2 x3 : Int} (hw : ∀ z ∈ [x0, x1, x2, x3], (Lit.int .i64 z).wf = true) :
    keyOf Tryd.prog 39 (aggI [x0, x1, x2, x3]) = some (.string (keyBytes [.int .i64 x0, .int .i64 x1, .int .i64 x2, .int .i64 x3])) := by
  obtain ⟨m, hm⟩ := size62t
  simp only [List.mem_cons, forall_eq_or_imp, List.not_mem_nil, false_imp_iff, implies_true, and_true] at hw
  obtain ⟨w0, w1, w2, w3⟩ := hw
  unfold keyOf aggI
  simp only [Tryd.underlying39]
  rw [if_pos (by simp [keyType53, Value.formed, Tryd.underlying39, cells53]), hm]
  simp only [Value.cells]
  have h := lits53 (m := m + 1) w0 w1 w2 w3
  simp only [List.map_cons, List.map_nil]
  rw [show m + 2 + 1 = m + 1 + 2 from rfl, h]
  rfl
theorem law53 : Go.WideMaps.KeyLaw Tryd.prog 39 := deep_law (m := 2) (by omega) (by kernel_rfl) (by kernel_rfl) (by rw [Tryd.underlying39])
theorem same53 {x0 x1 x2 x3 : Int} (hw : ∀ z ∈ [x0, x1, x2, x3], (Lit.int .i64 z).wf = true) (w : World) : (Op.equalIn 10000 39 (.agg #[.int .i64 x0, .int .i64 x1, .int .i64 x2, .int .i64 x3]) (.agg #[.int .i64 x0, .int .i64 x1, .int .i64 x2, .int .i64 x3])).run Tryd.prog w = .ok true w := by
  obtain ⟨r, hr, hiff⟩ := run_equal_deep (P := Tryd.prog) w (m := 2) (by omega) (k := 39) (by kernel_rfl) (by rw [Tryd.underlying39]) (key53 hw) (key53 hw)
  have hrt : r = true := hiff.2 rfl
  rw [hrt] at hr
  exact hr
set_option maxRecDepth 100000 in
set_option maxHeartbeats 4000000 in
theorem begun25_any (w : World) : Calls Tryd.prog 6 #[] w fun e w' => e = .returned (.bool true) ∧ Keep [] w w' := by
  have hkA : Keep [] w (((w.alloc (.cells #[.int .i64 3, .int .i64 0, .int .i64 2] 29)).alloc (.cells #[.int .i64 4, .int .i64 0, .int .i64 2] 29)).alloc (.cells #[.slice (some ⟨w.heap.size, 0, none⟩) 1 1, .slice (some ⟨w.heap.size + 1, 0, none⟩) 1 1] 26)) := (((Keep.refl [] w).alloc _).alloc _).alloc _
  have HKA := Lib.hid hkA
  have b0 := blk_new w (.cells #[.int .i64 3, .int .i64 0, .int .i64 2] 29)
  have b1 := blk_new (w.alloc (.cells #[.int .i64 3, .int .i64 0, .int .i64 2] 29)) (.cells #[.int .i64 4, .int .i64 0, .int .i64 2] 29)
  have b2 := blk_new ((w.alloc (.cells #[.int .i64 3, .int .i64 0, .int .i64 2] 29)).alloc (.cells #[.int .i64 4, .int .i64 0, .int .i64 2] 29)) (.cells #[.slice (some ⟨w.heap.size, 0, none⟩) 1 1, .slice (some ⟨w.heap.size + 1, 0, none⟩) 1 1] 26)
  rw [show (w.alloc (.cells #[.int .i64 3, .int .i64 0, .int .i64 2] 29)).heap.size = w.heap.size + 1 by simp] at b1
  rw [show ((w.alloc (.cells #[.int .i64 3, .int .i64 0, .int .i64 2] 29)).alloc (.cells #[.int .i64 4, .int .i64 0, .int .i64 2] 29)).heap.size = w.heap.size + 1 + 1 by simp] at b2
  have c0 := (((Keep.refl [] (w.alloc (.cells #[.int .i64 3, .int .i64 0, .int .i64 2] 29))).alloc (.cells #[.int .i64 4, .int .i64 0, .int .i64 2] 29)).alloc (.cells #[.slice (some ⟨w.heap.size, 0, none⟩) 1 1, .slice (some ⟨w.heap.size + 1, 0, none⟩) 1 1] 26)).at b0 (by simp)
  have c1 := ((Keep.refl [] ((w.alloc (.cells #[.int .i64 3, .int .i64 0, .int .i64 2] 29)).alloc (.cells #[.int .i64 4, .int .i64 0, .int .i64 2] 29))).alloc (.cells #[.slice (some ⟨w.heap.size, 0, none⟩) 1 1, .slice (some ⟨w.heap.size + 1, 0, none⟩) 1 1] 26)).at b1 (by simp)
  have hrows : RowsL (((w.alloc (.cells #[.int .i64 3, .int .i64 0, .int .i64 2] 29)).alloc (.cells #[.int .i64 4, .int .i64 0, .int .i64 2] 29)).alloc (.cells #[.slice (some ⟨w.heap.size, 0, none⟩) 1 1, .slice (some ⟨w.heap.size + 1, 0, none⟩) 1 1] 26)) (some ⟨w.heap.size + 1 + 1, 0, none⟩) 2 2 beg2 := by
    refine ⟨rfl, Nat.le_refl _, by omega, fun r l hl => ?_⟩
    match r, hl with
    | 0, hl =>
      have hl : l = [⟨3, 0, 2⟩] := by simp [beg2] at hl; exact hl.symm
      subst hl
      exact ⟨_, 0, some ⟨w.heap.size, 0, none⟩, 1, rfl, by rw [cellAt b2]; rfl, lnsBlock (l := [⟨3, 0, 2⟩]) c0 (by simp)⟩
    | 1, hl =>
      have hl : l = [⟨4, 0, 2⟩] := by simp [beg2] at hl; exact hl.symm
      subst hl
      exact ⟨_, 0, some ⟨w.heap.size + 1, 0, none⟩, 1, rfl, by rw [cellAt b2]; rfl, lnsBlock (l := [⟨4, 0, 2⟩]) c1 (by simp)⟩
    | r + 2, hl => simp [beg2] at hl
  have HRO := Lib.hid hrows
  have hsame := fun w => same53 (x0 := 1) (x1 := 1) (x2 := 0) (x3 := 0) (by intro z hz; exact wf_small (by simp at hz; omega) (by simp at hz; omega)) w
  clear hkA b0 b1 b2 c0 c1 hrows
  go_enter Tryd.func6, Tryd.ntmps6
  go_wp2_with (first | (go_at_call 8; (with_reducible refine (ends27_any HRO.out beg2_ok).mono ?_); rintro e1 w1 ⟨v, E, rfl, hE, hEl, hk1, ho1⟩; obtain rfl := beg2_law hE; obtain ⟨g, c, rfl, hgc, hgm, hgb, hgl, hg⟩ := own_at ho1 (by decide); have d8 := hg 8 _ rfl; have d9 := hg 9 _ rfl; have d10 := hg 10 _ rfl; have d11 := hg 11 _ rfl; have HK1 := Lib.hid (HKA.out.trans hk1); clear hg hE hEl hk1 ho1))
  go_ret
  exact ⟨rfl, HK1.out⟩
end Go.Proofs.YtfcellgjbbfobaaDoor
