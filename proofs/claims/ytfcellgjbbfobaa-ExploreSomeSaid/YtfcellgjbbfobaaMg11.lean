/- Texts laid together: E9 R19 E10 E11 EP7 R10 R11. -/
import Derived.Test.YtfcellgjbbfobaaMg10
import Derived.StillTactics
import Derived.Deep.AppendLies
import Derived.Laws.AppendOwnNone
/- Explore: Run. -/
namespace Go
theorem results_cell3 {P : Program} {fn : Func} {s r q : Tmp} {t : TypeId} (h : fn.results = #[.cell s t, .tmp r, .tmp q]) {tmps : Array Value} {w : World} {a : Addr} (ha : tmps.getD s undef = .pointer (some a)) {v : Value} (hl : (loadVar t a).run P w = .ok v w) : (results fn tmps).run P w = .ok (.tuple #[v, tmps.getD r undef, tmps.getD q undef]) w := by
  have ha' : tmps[s]?.getD undef = .pointer (some a) := by simpa using ha
  simp [results, h, ha', hl, asAddr]
end Go
namespace Go.Proofs.Ytfcellgjbbfobaa
open Go.RowKit Go.Ex Go.Bf
set_option maxRecDepth 100000 in
set_option maxHeartbeats 4000000 in
theorem run28_any {w : World} {a ao : Option Addr} {n c m co : Nat} {ps : List (List Ln)} {os : List Nat} (hv : RowsL w a n c ps) (hp : PsOk ps) (ho : IntsV w ao m co (os.map fun (k : Nat) => (k : Int))) (hos : ∀ j ∈ os, j < n) :
    Calls Try.prog 28 #[.slice a n c, .slice ao m co] w fun e w' => e = .returned (.tuple #[aggI (runP ps os s0).1, .int .i64 (runP ps os s0).2, .int .i64 0]) ∧ Keep [] w w' := by
  have HV := Lib.hid hv
  have HP := Lib.hid hp
  have HN := Lib.hid hv.len
  have HO := Lib.hid ho
  have HOS := Lib.hid hos
  have hl : os.length = m := by have := ho.len; simpa using this
  have HLE := Lib.hid hl
  have hroom := ho.room
  have hmost := ho.most
  have hn4 : n ≤ 4 := by rw [← hv.len]; exact hp.few
  have h9 : maxLen = 9223372036854775807 := rfl
  rw [h9] at hmost
  have hkA : Keep [] w (w.alloc (.cells #[.int .i64 0, .int .i64 0, .int .i64 0, .int .i64 0, .int .i64 0, .int .i64 0, .int .i64 0, .int .i64 0, .int .i64 0, .int .i64 0, .int .i64 0, .int .i64 0] 62)) := (Keep.refl [] w).alloc _
  have HKA := Lib.hid hkA
  have HR0 : Hid (ArrAt 62 (w.alloc (.cells #[.int .i64 0, .int .i64 0, .int .i64 0, .int .i64 0, .int .i64 0, .int .i64 0, .int .i64 0, .int .i64 0, .int .i64 0, .int .i64 0, .int .i64 0, .int .i64 0] 62)) w.heap.size s0) := Lib.hid (ArrAt.new 62 w s0)
  clear hv hp ho hos hl h9 hkA
  unfold aggI
  go_enter Try.func28, Try.ntmps28
  go_upto_region 6 with (first | (go_at_call 39; (with_reducible refine (check39_ok (HV.out.keep HKA.out) HP.out).mono ?_); rintro e w1 ⟨rfl, hk1⟩; have HK1 := Lib.hid (HKA.out.trans hk1); have HR1 := Lib.hid (HR0.out.keep hk1 (by simp)); clear hk1))
  have HR8 : Hid (ArrAt 62 (w1.alloc (.cells #[.int .i64 0, .int .i64 0, .int .i64 0, .int .i64 0, .int .i64 0, .int .i64 0, .int .i64 0, .int .i64 0, .int .i64 0, .int .i64 0, .int .i64 0, .int .i64 0] 62)) w1.heap.size s0) := Lib.hid (ArrAt.new 62 w1 s0)
  have HR4 := Lib.hid (HR1.out.keep ((Keep.refl [] w1).alloc (.cells #[.int .i64 0, .int .i64 0, .int .i64 0, .int .i64 0, .int .i64 0, .int .i64 0, .int .i64 0, .int .i64 0, .int .i64 0, .int .i64 0, .int .i64 0, .int .i64 0] 62)) (by simp))
  have HK8 := Lib.hid (HK1.out.alloc (.cells #[.int .i64 0, .int .i64 0, .int .i64 0, .int .i64 0, .int .i64 0, .int .i64 0, .int .i64 0, .int .i64 0, .int .i64 0, .int .i64 0, .int .i64 0, .int .i64 0] 62))
  have hbb : w.heap.size < w1.heap.size := HR1.out.lt
  have HWB : Hid (w.heap.size ≤ w1.heap.size) := Lib.hid (Nat.le_of_lt hbb)
  obtain ⟨b4, hb4⟩ : ∃ b, w.heap.size = b := ⟨_, rfl⟩
  obtain ⟨b8, hb8⟩ : ∃ b, w1.heap.size = b := ⟨_, rfl⟩
  have HB4 : Hid (w.heap.size ≤ b4) := Lib.hid (by omega)
  have HB8 : Hid (w.heap.size ≤ b8) := Lib.hid (by omega)
  obtain ⟨W8, hW8⟩ : ∃ W8, w1.alloc (.cells #[.int .i64 0, .int .i64 0, .int .i64 0, .int .i64 0, .int .i64 0, .int .i64 0, .int .i64 0, .int .i64 0, .int .i64 0, .int .i64 0, .int .i64 0, .int .i64 0] 62) = W8 := ⟨_, rfl⟩
  rw [hW8] at HR8 HR4 HK8 ⊢
  rw [hb8] at HR8
  rw [hb4] at HR4
  rw [hb4, hb8] at hbb
  rw [hb4, hb8] at ⊢
  have hne48 : ¬ b4 = b8 := by omega
  clear HR1 HK1 HR0 HKA hW8 HWB hb4 hb8
  go_loopw [21] (fun j wr => ∃ (i : Nat) (s : List Int), i ≤ m ∧ j = .int .i64 i ∧ Hid (ArrAt 62 wr b8 s) ∧ Hid (ArrAt 62 wr b4 s0) ∧ Hid (Keep [] w wr) ∧ Hid (SOk ps s) ∧ Hid (runP ps os s0 = ((runP ps (os.drop i) s).1, (runP ps (os.drop i) s).2 + i))) (fun j _ => m - (intOf j).toNat)
  case atStart => exact ⟨0, s0, by omega, rfl, HR8, HR4, HK8, Lib.hid (SOk.start ps), Lib.hid (by simp)⟩
  case round =>
    obtain ⟨i, s, hi, rfl, HS8, HS4, HK, HSO, HRP⟩ := hrel
    have hsl := HSO.out.len
    have HI12 : Hid ((Try.prog.info? 62).map (·.size) = some (s.map (Value.int .i64)).toArray.size) := Lib.hid (by rw [info62]; simp [hsl])
    have HZ12 : Hid ((s0.map (Value.int .i64)).toArray.size = (s.map (Value.int .i64)).toArray.size) := Lib.hid (by simp [hsl, s0])
    have HZL : Hid ((#[.int .i64 0, .int .i64 0, .int .i64 0, .int .i64 0, .int .i64 0, .int .i64 0, .int .i64 0, .int .i64 0, .int .i64 0, .int .i64 0, .int .i64 0, .int .i64 0] : Array Value).size = (s.map (Value.int .i64)).toArray.size) := Lib.hid (by simp [hsl])
    have HON := Lib.hid (ints_one s)
    have HL8 := Lib.hid (show wr.heap[b8]? = some (.cells (s.map (Value.int .i64)).toArray 62 (0, 0)) from HS8.out)
    have HL4 := Lib.hid (show wr.heap[b4]? = some (.cells (s0.map (Value.int .i64)).toArray 62 (0, 0)) from HS4.out)
    by_cases hlt : i < m
    · obtain ⟨k, hk⟩ : ∃ k, os[i]? = some k := ⟨_, List.getElem?_eq_getElem (by rw [HLE.out]; exact hlt)⟩
      have hkn : k < n := HOS.out k (List.mem_of_getElem? hk)
      obtain ⟨bo, oo, hab, hc⟩ := (HO.out.keep HK.out (by simp)).cells (by omega)
      have hck := hc i hlt
      have hke : (os.map fun (k : Nat) => (k : Int)).getD i 0 = (k : Int) := by rw [List.getD_eq_getElem?_getD, List.getElem?_map, hk]; rfl
      rw [hke] at hck
      have hdr : os.drop i = k :: os.drop (i + 1) := by
        obtain ⟨h1, h2⟩ := List.getElem?_eq_some_iff.1 hk
        rw [List.drop_eq_getElem_cons h1, h2]
      have hrp := HRP.out
      rw [hdr] at hrp
      have hdec : decide ((i : Int) < (m : Int)) = true := by simp; omega
      have hd0 : decide ((k : Int) < 0) = false := by simp
      have hd1 : decide ((k : Int) ≥ (n : Int)) = false := by simp; omega
      have hN40 := next40_any (HV.out.keep HK.out) HP.out HSO.out hkn
      subst hab
      clear hc hke hdr hk
      cases hnx : nx ps k s with
      | none =>
        have HE : Hid (runP ps os s0 = (s, i)) := Lib.hid (by
          rw [hrp]
          have h0 : runP ps (k :: os.drop (i + 1)) s = (s, 0) := by unfold runP; rw [hnx]
          rw [h0]; simp)
        have HG : Hid (Calls Try.prog 40 #[.slice a n c, .agg (s.map (Value.int .i64)).toArray, .int .i64 k] wr fun e w' => Keep [] wr w' ∧ e = .returned (.tuple #[.agg (s.map (Value.int .i64)).toArray, .bool false])) := Lib.hid (hN40.mono (by
          rintro e w' ⟨h1, ⟨_, rfl⟩ | ⟨C', h2, rfl⟩⟩
          · exact ⟨h1, rfl⟩
          · rw [hnx] at h2; cases h2))
        clear hN40 hnx hrp
        go_wp2_with (first | (with_reducible refine wpList_load_row rfl 62 _ rfl b8 rfl 62 _ (0, 0) _ HL8.out Try.underlying62 rfl HI12.out ?_) | (go_at_call 40; refine HG.out.mono ?_; rintro e3 w3 ⟨hk3, rfl⟩; have HK3 := Lib.hid hk3; have HM8 := Lib.hid (show (w3.alloc (.cells (s.map (Value.int .i64)).toArray 62)).heap[b8]? = some (.cells (s.map (Value.int .i64)).toArray 62 (0, 0)) from (hk3.alloc _).at HL8.out (by simp)); have HM4 := Lib.hid (show (w3.alloc (.cells (s.map (Value.int .i64)).toArray 62)).heap[b4]? = some (.cells (s0.map (Value.int .i64)).toArray 62 (0, 0)) from (hk3.alloc _).at HL4.out (by simp)); clear hk3) | (with_reducible refine wpList_store_new rfl 62 _ _ rfl 62 #[.int .i64 0, .int .i64 0, .int .i64 0, .int .i64 0, .int .i64 0, .int .i64 0, .int .i64 0, .int .i64 0, .int .i64 0, .int .i64 0, .int .i64 0, .int .i64 0] (s.map (Value.int .i64)).toArray rfl rfl HI12.out HZL.out HON.out ?_) | (with_reducible refine wpList_load_row rfl 62 _ rfl b8 rfl 62 _ (0, 0) _ HM8.out Try.underlying62 rfl HI12.out ?_) | (with_reducible refine wpList_store_row rfl 62 _ _ rfl b4 _ rfl rfl 62 _ HM4.out HI12.out HZ12.out HON.out ?_))
        refine bodyPost_ret (results_cell3 Try.results28 rfl (run_loadVar_row _ b4 62 62 (s.map (Value.int .i64)).toArray (0, 0) _ (setRow_heap _ _ _ _ 62 _ HM4.out) Try.underlying62 rfl HI12.out)) rfl ⟨by rw [HE.out]; rfl, (HK.out.trans (HK3.out.alloc _)).call (keep_setRow _ _ _) (fun b hb => by rw [List.mem_singleton] at hb; subst hb; exact .inr HB4.out)⟩
      | some t =>
        have hst := (HSO.out.next HP.out hnx).1
        have HST := Lib.hid hst
        have htl := hst.len
        have HE : Hid (runP ps os s0 = ((runP ps (os.drop (i + 1)) t).1, (runP ps (os.drop (i + 1)) t).2 + (i + 1))) := Lib.hid (by
          rw [hrp]
          have h0 : runP ps (k :: os.drop (i + 1)) s = ((runP ps (os.drop (i + 1)) t).1, (runP ps (os.drop (i + 1)) t).2 + 1) := by
            show (match nx ps k s with | none => (s, 0) | some t => ((runP ps (os.drop (i + 1)) t).1, (runP ps (os.drop (i + 1)) t).2 + 1)) = _
            rw [hnx]
          rw [h0]
          simp only [Prod.mk.injEq, true_and]
          omega)
        have HG : Hid (Calls Try.prog 40 #[.slice a n c, .agg (s.map (Value.int .i64)).toArray, .int .i64 k] wr fun e w' => Keep [] wr w' ∧ e = .returned (.tuple #[.agg (t.map (Value.int .i64)).toArray, .bool true])) := Lib.hid (hN40.mono (by
          rintro e w' ⟨h1, ⟨h2, _⟩ | ⟨C', h2, rfl⟩⟩
          · rw [hnx] at h2; cases h2
          · rw [hnx] at h2; injection h2 with h2; subst h2; exact ⟨h1, rfl⟩))
        have HTI : Hid ((Try.prog.info? 62).map (·.size) = some (t.map (Value.int .i64)).toArray.size) := Lib.hid (by rw [info62]; simp [htl])
        have HTZ : Hid ((#[.int .i64 0, .int .i64 0, .int .i64 0, .int .i64 0, .int .i64 0, .int .i64 0, .int .i64 0, .int .i64 0, .int .i64 0, .int .i64 0, .int .i64 0, .int .i64 0] : Array Value).size = (t.map (Value.int .i64)).toArray.size) := Lib.hid (by simp [htl])
        have HTS : Hid ((s.map (Value.int .i64)).toArray.size = (t.map (Value.int .i64)).toArray.size) := Lib.hid (by simp [htl, hsl])
        have HTO := Lib.hid (ints_one t)
        clear hN40 hnx hrp hst htl
        go_wp2_with (first | (with_reducible refine wpList_load_row rfl 62 _ rfl b8 rfl 62 _ (0, 0) _ HL8.out Try.underlying62 rfl HI12.out ?_) | (go_at_call 40; refine HG.out.mono ?_; rintro e3 w3 ⟨hk3, rfl⟩; have HK3 := Lib.hid hk3; have HM8 := Lib.hid (show (w3.alloc (.cells (t.map (Value.int .i64)).toArray 62)).heap[b8]? = some (.cells (s.map (Value.int .i64)).toArray 62 (0, 0)) from (hk3.alloc _).at HL8.out (by simp)); have HM4 := Lib.hid (show (w3.alloc (.cells (t.map (Value.int .i64)).toArray 62)).heap[b4]? = some (.cells (s0.map (Value.int .i64)).toArray 62 (0, 0)) from (hk3.alloc _).at HL4.out (by simp)); clear hk3) | (with_reducible refine wpList_store_new rfl 62 _ _ rfl 62 #[.int .i64 0, .int .i64 0, .int .i64 0, .int .i64 0, .int .i64 0, .int .i64 0, .int .i64 0, .int .i64 0, .int .i64 0, .int .i64 0, .int .i64 0, .int .i64 0] (t.map (Value.int .i64)).toArray rfl rfl HTI.out HTZ.out HTO.out ?_) | (with_reducible refine wpList_load_new rfl 62 _ rfl 62 (t.map (Value.int .i64)).toArray rfl _ Try.underlying62 rfl HTI.out ?_) | (with_reducible refine wpList_store_row rfl 62 _ _ rfl b8 _ rfl rfl 62 _ HM8.out HTI.out HTS.out HTO.out ?_))
        have hA8 : ArrAt 62 ((w3.alloc (.cells (t.map (Value.int .i64)).toArray 62)).setRow b8 (t.map (Value.int .i64)).toArray) b8 t := setRow_heap _ _ _ _ 62 _ HM8.out
        have hA4 : ArrAt 62 ((w3.alloc (.cells (t.map (Value.int .i64)).toArray 62)).setRow b8 (t.map (Value.int .i64)).toArray) b4 s0 := (keep_setRow (w3.alloc (.cells (t.map (Value.int .i64)).toArray 62)) b8 (t.map (Value.int .i64)).toArray).at HM4.out (by simpa using hne48)
        have hK9 : Keep [] w ((w3.alloc (.cells (t.map (Value.int .i64)).toArray 62)).setRow b8 (t.map (Value.int .i64)).toArray) := (HK.out.trans (HK3.out.alloc _)).call (keep_setRow _ _ _) (fun b hb => by rw [List.mem_singleton] at hb; subst hb; exact .inr HB8.out)
        exact ⟨⟨i + 1, t, hlt, by go_num, Lib.hid hA8, Lib.hid hA4, Lib.hid hK9, HST, HE⟩, by simp [intOf]; omega⟩
    · have him : i = m := by omega
      have hdec : decide ((i : Int) < (m : Int)) = false := by simp; omega
      have HE : Hid (runP ps os s0 = (s, i)) := Lib.hid (by
        rw [HRP.out, List.drop_eq_nil_of_le (by rw [HLE.out]; omega)]
        simp [runP])
      subst him
      go_wp2_with (first | (with_reducible refine wpList_load_row rfl 62 _ rfl b8 rfl 62 _ (0, 0) _ HL8.out Try.underlying62 rfl HI12.out ?_) | (with_reducible refine wpList_store_row rfl 62 _ _ rfl b4 _ rfl rfl 62 _ HL4.out HI12.out HZ12.out HON.out ?_))
      refine bodyPost_ret (results_cell3 Try.results28 rfl (run_loadVar_row _ b4 62 62 (s.map (Value.int .i64)).toArray (0, 0) _ (setRow_heap _ _ _ _ 62 _ HL4.out) Try.underlying62 rfl HI12.out)) rfl ⟨by rw [HE.out]; rfl, HK.out.call (keep_setRow _ _ _) (fun b hb => by rw [List.mem_singleton] at hb; subst hb; exact .inr HB4.out)⟩
end Go.Proofs.Ytfcellgjbbfobaa
/- Steps that leave the world, at a region that draws its order and only reads. -/
namespace Go
section
variable {P : Program}
theorem still_val {ops : Array Oper} {w : World} {Q : Act → Prop} {a : Act} {o : Oper} {rest : List Oper} {v : Value} (hw : Region.wanted o (yielded ops a.tmps) = true) (hr : (execOp a.eval o).run P w = .ok (.value v) w) (h : wpStill P ops w Q rest (a.put o.dst v)) : wpStill P ops w Q (o :: rest) a := by
  unfold wpStill
  rw [if_pos hw]
  unfold Oper.still
  rw [hr]
  exact ⟨rfl, h⟩
theorem exec_load_at {o : Oper} {ρ : Operand → Value} {w : World} (ty : TypeId) (x : Operand) (ho : o.op = .load ty x) (b off : Nat) (hx : ρ x = .pointer (some ⟨b, off, none⟩)) (vs : List Value) (d : TypeDesc) (hg : ∀ j v, vs[j]? = some v → w.cell? ⟨b, off + j, none⟩ = some v)
    (hu : P.underlying ty = some d) (hd : (match d with | .struct _ | .array _ _ => true | _ => false) = true) (hi : (P.info? ty).map (·.size) = some vs.length) : (execOp ρ o).run P w = .ok (.value (.agg vs.toArray)) w := by
  unfold execOp
  simp only [ho, hx, Instr.loadAt, Instr.sureAddr, Sem.run_bind, Sem.run_pure, Result.andThen_ok, run_loadVar_at w ⟨b, off, none⟩ ty vs d (fun j v hv => by rw [Addr.add_mid]; exact hg j v hv) hu hd hi]
theorem exec_load_row {o : Oper} {ρ : Operand → Value} {w : World} (ty : TypeId) (x : Operand) (ho : o.op = .load ty x) (g : Nat) (hx : ρ x = .pointer (some ⟨g, 0, none⟩)) (T : TypeId) (cs : Array Value) (fr : Nat × Nat) (d : TypeDesc) (hg : w.heap[g]? = some (.cells cs T fr))
    (hu : P.underlying ty = some d) (hd : (match d with | .struct _ | .array _ _ => true | _ => false) = true) (hi : (P.info? ty).map (·.size) = some cs.size) : (execOp ρ o).run P w = .ok (.value (.agg cs)) w := by
  unfold execOp
  simp only [ho, hx, Instr.loadAt, Instr.sureAddr, Sem.run_bind, Sem.run_pure, Result.andThen_ok, run_loadVar_row w g T ty cs fr d hg hu hd hi]
theorem step_store_row {ops : Array Oper} {o : Oper} {a : Act} {w : World} {K : Act → World → Prop} {Q : Exit → Act → World → Prop} {F : Prop} (hgd : o.guard = none) (ty : TypeId) (x y : Operand) (ho : o.op = .store ty x y)
    (g : Nat) (cells : Array Value) (hx : a.eval x = .pointer (some ⟨g, 0, none⟩)) (hy : a.eval y = .agg cells)
    (t : TypeId) (old : Array Value) (hg : w.heap[g]? = some (.cells old t (0, 0))) (hi : (P.info? ty).map (·.size) = some cells.size) (hold : old.size = cells.size) (h1 : cells.all (·.oneCell') = true)
    (h : K (a.put o.dst undef) (w.setRow g cells)) : if Region.wanted o (yielded ops a.tmps) = true then Oper.wp P o a w K Q else F := by
  have hw : Region.wanted o (yielded ops a.tmps) = true := by simp [Region.wanted, hgd]
  rw [if_pos hw]
  exact wp_store_row ty x y ho g cells hx hy t old hg hi hold h1 h
end
end Go
/- Explore: slices.Index and slices.Contains of states. -/
namespace Go.Proofs.Ytfcellgjbbfobaa
open Go.RowKit Go.Ex Go.Bf
theorem guard62 : Try.prog.eqGuardType Try.prog.depth 62 = false := by kernel_rfl
theorem exec_eqS {o : Oper} {ρ : Operand → Value} {x y : List Int} {X Y : Operand} {ty : TypeId} (w : World) (ho : o.op = .binOp .eql 62 X Y ty) (hX : ρ X = .agg (x.map (Value.int .i64)).toArray) (hY : ρ Y = .agg (y.map (Value.int .i64)).toArray) (hx : KS.ok x) (hy : KS.ok y) :
    (execOp ρ o).run Try.prog w = .ok (.value (.bool (decide (x = y)))) w := by
  obtain ⟨r, hr, hiff⟩ := run_equal_deep (P := Try.prog) w (m := 3) (by omega) (k := 62) (by kernel_rfl) (by rw [Try.underlying62]) (KS.key x hx) (KS.key y hy)
  have hrd : r = decide (x = y) := by
    rw [Bool.eq_iff_iff, hiff, decide_eq_true_eq]
    exact ⟨fun h => KS.inj x y hx hy h, fun h => by rw [h]⟩
  have hr2 : (Op.equalIn 10000 62 (.agg (x.map (Value.int .i64)).toArray) (.agg (y.map (Value.int .i64)).toArray)).run Try.prog w = .ok r w := hr
  unfold execOp
  simp only [ho, hX, hY, eqGuard]
  simp
  rw [run_eql_struct, hr2, hrd]
  rfl
theorem flat_cell {w : World} {g : Nat} {E : List (List Int)} (h12 : ∀ x ∈ E, x.length = 12) (hc : ∀ j u, (E.flatMap encS)[j]? = some u → w.cell? ⟨g, j, none⟩ = some u) {k : Nat} {x : List Int} (hx : E[k]? = some x) : ∀ j u, (encS x)[j]? = some u → w.cell? ⟨g, k * 12 + j, none⟩ = some u := by
  intro j u hu
  refine hc _ _ ?_
  have hl : ∀ {E : List (List Int)}, (∀ x ∈ E, x.length = 12) → ∀ {k : Nat} {x : List Int}, E[k]? = some x → ∀ {j : Nat} {u : Value}, (encS x)[j]? = some u → (E.flatMap encS)[k * 12 + j]? = some u := by
    intro E
    induction E with
    | nil => intro _ k x h; simp at h
    | cons y E ih =>
      intro h12 k x hx j u hu
      rw [List.flatMap_cons]
      have hy : (encS y).length = 12 := by unfold encS; rw [List.length_map]; exact h12 y (by simp)
      cases k with
      | zero =>
        simp at hx
        subst hx
        rw [Nat.zero_mul, Nat.zero_add, List.getElem?_append_left (List.getElem?_eq_some_iff.1 hu).1]
        exact hu
      | succ k =>
        rw [List.getElem?_append_right (by omega), show (k + 1) * 12 + j - (encS y).length = k * 12 + j by omega]
        exact ih (fun z hz => h12 z (by simp [hz])) (by simpa using hx) hu
  exact hl h12 hx hu
set_option maxRecDepth 100000 in
set_option maxHeartbeats 4000000 in
theorem index43_any {w : World} {g n c : Nat} {E : List (List Int)} {x : List Int} (hl : E.length = n) (hE : ∀ y ∈ E, KS.ok y) (hx : KS.ok x) (hc : ∀ j u, (E.flatMap encS)[j]? = some u → w.cell? ⟨g, j, none⟩ = some u) (hn : n ≤ 1000000000) (hnc : n ≤ c) (hcm : c ≤ 9223372036854775807) :
    Calls Try.prog 43 #[.slice (some ⟨g, 0, none⟩) n c, .agg (x.map (Value.int .i64)).toArray] w fun e w' => ∃ r : Int, e = .returned (.int .i64 r) ∧ (0 ≤ r ↔ x ∈ E) ∧ Keep [] w w' := by
  have HL := Lib.hid hl
  have HE := Lib.hid hE
  have HX := Lib.hid hx
  have HC := Lib.hid hc
  have hxl := hx.1
  have hkA : Keep [] w (w.alloc (.cells (x.map (Value.int .i64)).toArray 62)) := (Keep.refl [] w).alloc _
  have HKA := Lib.hid hkA
  have HA : Hid (ArrAt 62 (w.alloc (.cells (x.map (Value.int .i64)).toArray 62)) w.heap.size x) := Lib.hid (ArrAt.new 62 w x)
  clear hl hE hx hc
  obtain ⟨b3, hb3⟩ : ∃ b3, w.heap.size = b3 := ⟨_, rfl⟩
  obtain ⟨W0, hW0⟩ : ∃ W0, w.alloc (.cells (x.map (Value.int .i64)).toArray 62) = W0 := ⟨_, rfl⟩
  rw [hW0] at HKA HA
  rw [hb3] at HA
  clear hkA
  go_enter Try.func43, Try.ntmps43
  go_wp2_with fail
  clear hW0 hb3
  go_loopw [8] (fun j wr => ∃ k : Nat, k ≤ n ∧ j = .int .i64 k ∧ Hid (Keep [] W0 wr) ∧ Hid (∀ y ∈ E.take k, y ≠ x)) (fun j _ => n - (intOf j).toNat)
  case atStart => exact ⟨0, by omega, rfl, Lib.hid (Keep.refl _ _), Lib.hid (by simp)⟩
  case round =>
    obtain ⟨k, hk, rfl, HK, HNO⟩ := hrel
    by_cases hlt : k < n
    · obtain ⟨y, hy⟩ : ∃ y, E[k]? = some y := ⟨_, List.getElem?_eq_getElem (by rw [HL.out]; exact hlt)⟩
      have hyE : y ∈ E := List.mem_of_getElem? hy
      have hoky := HE.out y hyE
      have hdec : decide ((k : Int) < (n : Int)) = true := by simp; omega
      go_upto_region 4 with fail
      obtain ⟨wd, hwd⟩ : ∃ wd : World, { wr with drawn := wr.drawn + 1 } = wd := ⟨_, rfl⟩
      have hkd : Keep [] wr wd := by rw [← hwd]; exact (Keep.refl [] wr).drew
      have HKD := Lib.hid hkd
      have HAX : Hid (∀ j u, (x.map (Value.int .i64))[j]? = some u → wd.cell? ⟨b3, 0 + j, none⟩ = some u) := Lib.hid (fun j u hu => by
        have h1 := (HA.out.keep (HK.out.trans hkd) (by simp))
        have hj := (List.getElem?_eq_some_iff.1 hu).1
        rw [Nat.zero_add, h1.cell (by simpa using hj)]
        rw [List.getElem?_map] at hu
        rw [List.getD_eq_getElem?_getD]
        cases hz : x[j]? with
        | none => rw [hz] at hu; cases hu
        | some z => rw [hz] at hu; simpa using hu)
      have HAY : Hid (∀ j u, (y.map (Value.int .i64))[j]? = some u → wd.cell? ⟨g, k * 12 + j, none⟩ = some u) := Lib.hid (fun j u hu => ((HKA.out.trans HK.out).trans hkd).cell (flat_cell (fun z hz => (HE.out z hz).1) HC.out hy j u hu) (by simp))
      refine wp_region_still_lit mixed (by kernel_rfl) ?_
      rw [hwd]
      refine still_val rfl (exec_load_at 62 _ rfl b3 0 rfl (x.map (Value.int .i64)) _ HAX.out Try.underlying62 rfl (by rw [info62]; simp [hxl])) ?_
      simp only [Act.put, List.setIfInBounds_toArray, List.set_cons_succ, List.set_cons_zero]
      still_step
      still_step
      still_step
      refine still_val rfl (exec_load_at 62 _ rfl g (k * 12) rfl (y.map (Value.int .i64)) _ HAY.out Try.underlying62 rfl (by rw [info62]; simp [hoky.1])) ?_
      simp only [Act.put, List.setIfInBounds_toArray, List.set_cons_succ, List.set_cons_zero]
      refine still_val rfl (exec_eqS wd rfl rfl rfl HX.out hoky) ?_
      simp only [Act.put, List.setIfInBounds_toArray, List.set_cons_succ, List.set_cons_zero]
      refine wpStill_nil ?_
      have HY := Lib.hid hy
      have HKR := Lib.hid (HK.out.trans hkd)
      by_cases hxy : x = y
      · have hdx : decide (x = y) = true := decide_eq_true hxy
        rw [hdx]
        have HRE : Hid (x ∈ E) := Lib.hid (hxy ▸ hyE)
        clear hxy hdx hy hoky hyE hwd
        go_wp2_with fail
        go_ret
        exact ⟨(k : Int), rfl, ⟨fun _ => HRE.out, fun _ => Int.natCast_nonneg k⟩, HKA.out.trans HKR.out⟩
      · have hdx : decide (x = y) = false := decide_eq_false hxy
        rw [hdx]
        have HNN : Hid (∀ z ∈ E.take (k + 1), z ≠ x) := Lib.hid (fun z hz => by
          rw [List.take_add_one, HY.out] at hz
          rcases List.mem_append.1 hz with h | h
          · exact HNO.out z h
          · have : z = y := by simpa using h
            rw [this]
            exact fun e => hxy e.symm)
        clear hxy hdx hy hoky hyE hwd
        go_wp2_with fail
        exact ⟨⟨k + 1, hlt, by go_num, HKR, HNN⟩, by simp [intOf]; omega⟩
    · have hkn : k = n := by omega
      have hdec : decide ((k : Int) < (n : Int)) = false := by simp; omega
      have HNE : Hid (x ∉ E) := Lib.hid (fun hm => HNO.out x (by rw [List.take_of_length_le (by rw [HL.out]; omega)]; exact hm) rfl)
      go_wp2_with fail
      go_ret
      exact ⟨-1, rfl, ⟨fun h => absurd h (by decide), fun h => absurd h HNE.out⟩, HKA.out.trans HK.out⟩
set_option maxRecDepth 100000 in
set_option maxHeartbeats 4000000 in
theorem contains29_any {w : World} {g n c : Nat} {E : List (List Int)} {x : List Int} {A : Bool} (hl : E.length = n) (hE : ∀ y ∈ E, KS.ok y) (hx : KS.ok x) (hc : ∀ j u, (E.flatMap encS)[j]? = some u → w.cell? ⟨g, j, none⟩ = some u) (hn : n ≤ 1000000000) (hnc : n ≤ c) (hcm : c ≤ 9223372036854775807) (hA : decide (x ∈ E) = A) :
    Calls Try.prog 29 #[.slice (some ⟨g, 0, none⟩) n c, .agg (x.map (Value.int .i64)).toArray] w fun e w' => e = .returned (.bool A) ∧ Keep [] w w' := by
  have HKA := Lib.hid ((Keep.refl [] w).alloc (.cells (x.map (Value.int .i64)).toArray 62))
  have hxl := hx.1
  have HI := Lib.hid (index43_any (w := w.alloc (.cells (x.map (Value.int .i64)).toArray 62)) hl hE hx (fun j u hu => HKA.out.cell (hc j u hu) (by simp)) hn hnc hcm)
  have HAX : Hid ((w.alloc (.cells (x.map (Value.int .i64)).toArray 62)).heap[w.heap.size]? = some (.cells (x.map (Value.int .i64)).toArray 62 (0, 0))) := Lib.hid (blk_new w _)
  have HI12 : Hid ((Try.prog.info? 62).map (·.size) = some (x.map (Value.int .i64)).toArray.size) := Lib.hid (by rw [info62]; simp [hxl])
  have HA := Lib.hid hA
  clear hl hE hx hc hA
  go_enter Try.func29, Try.ntmps29
  go_wp2_with (first | (with_reducible refine wpList_load_row rfl 62 _ rfl w.heap.size rfl 62 _ (0, 0) _ HAX.out Try.underlying62 rfl HI12.out ?_) | (go_at_call 43; refine HI.out.mono ?_; rintro e1 w1 ⟨r, rfl, hr, hk1⟩; have HR := Lib.hid hr; have HK1 := Lib.hid hk1; obtain ⟨B, hB⟩ : ∃ B, decide (r ≥ 0) = B := ⟨_, rfl⟩; clear hr hk1))
  go_ret
  refine ⟨?_, HKA.out.trans HK1.out⟩
  have hBA : B = A := by
    rw [← hB, ← HA.out]
    exact decide_eq_decide.2 HR.out
  rw [hBA]; rfl
end Go.Proofs.Ytfcellgjbbfobaa
/- Explore: exploreBegun. -/
namespace Go
open Go.RowKit
/-- A block that holds rows as a literal. -/
theorem lnsBlock {w : World} {b : Nat} {l : List Ln} {T : TypeId} (h : w.heap[b]? = some (.cells (lanesC l).toArray T (0, 0))) (hm : l.length ≤ 1000) : LnsV w (some ⟨b, 0, none⟩) l.length l.length l :=
  ⟨rfl, Nat.le_refl _, by unfold maxLen; omega, fun _ => ⟨b, 0, rfl, fun j hj => by
    rw [Nat.zero_add, cellAt h j]
    simp⟩⟩
end Go
namespace Go.Proofs.Ytfcellgjbbfobaa
open Go.RowKit Go.Ex Go.Bf
theorem own_at {w : World} {B e m n : Nat} {v : Value} {xs : List Value} (h : w.ownsRow B e m v n xs) (hn : 0 < n) : ∃ g c, v = .slice (some ⟨g, 0, none⟩) n c ∧ n ≤ c ∧ c ≤ 9223372036854775807 ∧ B ≤ g ∧ g < w.heap.size ∧ ∀ j u, xs[j]? = some u → w.cell? ⟨g, j, none⟩ = some u := by
  rcases h.2 with ⟨_, h0⟩ | ⟨g, cap, cur, rfl, hb, hg, hnc, hcm, hcs, ht⟩
  · omega
  · refine ⟨g, cap, rfl, hnc, hcm, hb, lt_of_blk hg, fun j u hu => ?_⟩
    rw [cell_of_row w g j cur e (0, 0) hg]
    have hj : j < n * m := by rw [← h.1]; exact (List.getElem?_eq_some_iff.1 hu).1
    rw [← ht, List.getElem?_take_of_lt hj, Array.getElem?_toList] at hu
    exact hu
theorem keyType53 : Try.prog.keyType 53 = true := by kernel_rfl
theorem key53 {x0 x1 x2 x3 : Int} (hw : ∀ z ∈ [x0, x1, x2, x3], (Lit.int .i64 z).wf = true) :
    keyOf Try.prog 53 (aggI [x0, x1, x2, x3]) = some (.string (keyBytes [.int .i64 x0, .int .i64 x1, .int .i64 x2, .int .i64 x3])) := by
  obtain ⟨m, hm⟩ := size62t
  simp only [List.mem_cons, forall_eq_or_imp, List.not_mem_nil, false_imp_iff, implies_true, and_true] at hw
  obtain ⟨w0, w1, w2, w3⟩ := hw
  unfold keyOf aggI
  simp only [Try.underlying53]
  rw [if_pos (by simp [keyType53, Value.formed, Try.underlying53, cells53]), hm]
  simp only [Value.cells]
  have h := lits53 (m := m + 1) w0 w1 w2 w3
  simp only [List.map_cons, List.map_nil]
  rw [show m + 2 + 1 = m + 1 + 2 from rfl, h]
  rfl
theorem law53 : Go.WideMaps.KeyLaw Try.prog 53 := deep_law (m := 2) (by omega) (by kernel_rfl) (by kernel_rfl) (by rw [Try.underlying53])
theorem same53 {x0 x1 x2 x3 : Int} (hw : ∀ z ∈ [x0, x1, x2, x3], (Lit.int .i64 z).wf = true) (w : World) : (Op.equalIn 10000 53 (.agg #[.int .i64 x0, .int .i64 x1, .int .i64 x2, .int .i64 x3]) (.agg #[.int .i64 x0, .int .i64 x1, .int .i64 x2, .int .i64 x3])).run Try.prog w = .ok true w := by
  obtain ⟨r, hr, hiff⟩ := run_equal_deep (P := Try.prog) w (m := 2) (by omega) (k := 53) (by kernel_rfl) (by rw [Try.underlying53]) (key53 hw) (key53 hw)
  have hrt : r = true := hiff.2 rfl
  rw [hrt] at hr
  exact hr
set_option maxRecDepth 100000 in
set_option maxHeartbeats 4000000 in
theorem begun25_any (w : World) : Calls Try.prog 25 #[] w fun e w' => e = .returned (.bool true) ∧ Keep [] w w' := by
  have hkA : Keep [] w (((w.alloc (.cells #[.int .i64 3, .int .i64 0, .int .i64 2] 57)).alloc (.cells #[.int .i64 4, .int .i64 0, .int .i64 2] 57)).alloc (.cells #[.slice (some ⟨w.heap.size, 0, none⟩) 1 1, .slice (some ⟨w.heap.size + 1, 0, none⟩) 1 1] 54)) := (((Keep.refl [] w).alloc _).alloc _).alloc _
  have HKA := Lib.hid hkA
  have b0 := blk_new w (.cells #[.int .i64 3, .int .i64 0, .int .i64 2] 57)
  have b1 := blk_new (w.alloc (.cells #[.int .i64 3, .int .i64 0, .int .i64 2] 57)) (.cells #[.int .i64 4, .int .i64 0, .int .i64 2] 57)
  have b2 := blk_new ((w.alloc (.cells #[.int .i64 3, .int .i64 0, .int .i64 2] 57)).alloc (.cells #[.int .i64 4, .int .i64 0, .int .i64 2] 57)) (.cells #[.slice (some ⟨w.heap.size, 0, none⟩) 1 1, .slice (some ⟨w.heap.size + 1, 0, none⟩) 1 1] 54)
  rw [show (w.alloc (.cells #[.int .i64 3, .int .i64 0, .int .i64 2] 57)).heap.size = w.heap.size + 1 by simp] at b1
  rw [show ((w.alloc (.cells #[.int .i64 3, .int .i64 0, .int .i64 2] 57)).alloc (.cells #[.int .i64 4, .int .i64 0, .int .i64 2] 57)).heap.size = w.heap.size + 1 + 1 by simp] at b2
  have c0 := (((Keep.refl [] (w.alloc (.cells #[.int .i64 3, .int .i64 0, .int .i64 2] 57))).alloc (.cells #[.int .i64 4, .int .i64 0, .int .i64 2] 57)).alloc (.cells #[.slice (some ⟨w.heap.size, 0, none⟩) 1 1, .slice (some ⟨w.heap.size + 1, 0, none⟩) 1 1] 54)).at b0 (by simp)
  have c1 := ((Keep.refl [] ((w.alloc (.cells #[.int .i64 3, .int .i64 0, .int .i64 2] 57)).alloc (.cells #[.int .i64 4, .int .i64 0, .int .i64 2] 57))).alloc (.cells #[.slice (some ⟨w.heap.size, 0, none⟩) 1 1, .slice (some ⟨w.heap.size + 1, 0, none⟩) 1 1] 54)).at b1 (by simp)
  have hrows : RowsL (((w.alloc (.cells #[.int .i64 3, .int .i64 0, .int .i64 2] 57)).alloc (.cells #[.int .i64 4, .int .i64 0, .int .i64 2] 57)).alloc (.cells #[.slice (some ⟨w.heap.size, 0, none⟩) 1 1, .slice (some ⟨w.heap.size + 1, 0, none⟩) 1 1] 54)) (some ⟨w.heap.size + 1 + 1, 0, none⟩) 2 2 beg2 := by
    refine ⟨rfl, Nat.le_refl _, by omega, fun r l hl => ?_⟩
    match r, hl with
    | 0, hl =>
      have hl : l = [⟨3, 0, 2⟩] := by simp [beg2] at hl; exact hl.symm
      subst hl
      exact ⟨_, 0, some ⟨w.heap.size, 0, none⟩, 1, rfl, by rw [cellAt b2]; rfl, lnsBlock (l := [⟨3, 0, 2⟩]) c0 (by simp)⟩
    | 1, hl =>
      have hl : l = [⟨4, 0, 2⟩] := by simp [beg2] at hl; exact hl.symm
      subst hl
      exact ⟨_, 0, some ⟨w.heap.size + 1, 0, none⟩, 1, rfl, by rw [cellAt b2]; rfl, lnsBlock (l := [⟨4, 0, 2⟩]) c1 (by simp)⟩
    | r + 2, hl => simp [beg2] at hl
  have HRO := Lib.hid hrows
  have hsame := fun w => same53 (x0 := 1) (x1 := 1) (x2 := 0) (x3 := 0) (by intro z hz; exact wf_small (by simp at hz; omega) (by simp at hz; omega)) w
  clear hkA b0 b1 b2 c0 c1 hrows
  go_enter Try.func25, Try.ntmps25
  go_wp2_with (first | (go_at_call 27; (with_reducible refine (ends27_any HRO.out beg2_ok).mono ?_); rintro e1 w1 ⟨v, E, rfl, hE, hEl, hk1, ho1⟩; obtain rfl := beg2_law hE; obtain ⟨g, c, rfl, hgc, hgm, hgb, hgl, hg⟩ := own_at ho1 (by decide); have d8 := hg 8 _ rfl; have d9 := hg 9 _ rfl; have d10 := hg 10 _ rfl; have d11 := hg 11 _ rfl; have HK1 := Lib.hid (HKA.out.trans hk1); clear hg hE hEl hk1 ho1))
  go_ret
  exact ⟨rfl, HK1.out⟩
end Go.Proofs.Ytfcellgjbbfobaa
/- ExploreSome: plain. -/
namespace Go.Ex
open Go.Bf
theorem runP_sok {ps : List (List Ln)} (hp : PsOk ps) : ∀ {l : List Nat} {s : List Int}, SOk ps s → SOk ps (runP ps l s).1 ∧ steps (runP ps l s).1 = steps s + (runP ps l s).2
  | [], s, h => ⟨h, by simp [runP]⟩
  | j :: l, s, h => by
    unfold runP
    cases hn : nx ps j s with
    | none => exact ⟨h, by simp⟩
    | some t =>
      obtain ⟨h1, h2, _⟩ := h.next hp hn
      obtain ⟨h3, h4⟩ := runP_sok hp (l := l) h1
      refine ⟨h3, ?_⟩
      simp only
      rw [h4, h2]
      omega
/-- Which of three is tried. -/
def whoF (q : Option Nat) (k : Nat) : Nat := match q with | none => k | some q => (k + q) % 3
theorem whoF_lt (q : Option Nat) {k : Nat} (hk : k < 3) : whoF q k < 3 := by
  cases q with
  | none => exact hk
  | some q => exact Nat.mod_lt _ (by omega)
theorem whoF_all {P : Nat → Prop} (q : Option Nat) (h : ∀ k, k < 3 → P (whoF q k)) : ∀ j, j < 3 → P j := fun j hj => by
  cases q with
  | none => exact h j hj
  | some q =>
    have h1 := h ((j + 3 - q % 3) % 3) (Nat.mod_lt _ (by omega))
    have e : whoF (some q) ((j + 3 - q % 3) % 3) = j := by
      show ((j + 3 - q % 3) % 3 + q) % 3 = j
      omega
    rw [e] at h1
    exact h1
theorem restI_whoF {q k : Nat} (hk : k < 3) (hq : q < 3) : restI ((k : Int) + (q : Int)) 3 = ((k + q) % 3 : Nat) := by
  unfold restI
  omega
end Go.Ex
/- append(s, l...) of one's own row, l of whatever length. -/
namespace Go
theorem World.grownBy.same (w : World) (r : Option Nat) : w.grownBy w r := ⟨rfl, rfl, rfl, Nat.le_refl _, fun _ _ _ => rfl⟩
section
variable {P : Program} {w : World}
theorem run_append_any (t ty : TypeId) (base : Nat) (e : TypeId) (i : TypeInfo) (z : Value) (size bytes : Nat) (ht : P.underlying t = some (.slice e)) (hi : P.info? e = some i) (hz : i.zero = some z)
    (hsize : i.size = size) (hby : i.bytes = bytes) (hzs : z.cells.size = size) (hsz : 0 < size)
    (v : Value) (n : Nat) (xs : List Value) (hown : w.ownsRow base e size v n xs)
    (xa : Option Addr) (m c : Nat) (news : List Value) (hl : news.length = m * size) (hnews : 0 < m → ∃ ad, xa = some ad ∧ ∀ j u, news[j]? = some u → w.cell? (ad.add j) = some u) (h1 : ∀ u ∈ news, u.oneCell' = true)
    (h63 : n + m ≤ maxLen) (hbytes : (n + m) * bytes ≤ 140737488355328) (hbase : base ≤ w.heap.size) :
    ∃ v' w', (Builtin.append_ #[t, t] ty #[v, .slice xa m c]).run P w = .ok v' w' ∧ w'.ownsRow base e size v' (n + m) (xs ++ news) ∧ w.grownBy w' v.ownBlock ∧ (v'.ownBlock = v.ownBlock ∨ v'.ownBlock = some w.heap.size) ∧ ∃ a' c', v' = .slice a' (n + m) c' := by
  rcases Nat.eq_zero_or_pos m with h0 | h0
  · subst h0
    have hnil : news = [] := List.eq_nil_of_length_eq_zero (by omega)
    subst hnil
    have hr : (Builtin.append_ #[t, t] ty #[v, .slice xa 0 c]).run P w = .ok v w := by
      rcases hown.2 with ⟨rfl, rfl⟩ | ⟨g, cap, cur, rfl, _, _, hnc, _⟩
      · cases xa <;> simp [Builtin.append_, run_underlying ht, sizeOf, typeInfo, hi, Builtin.lenOf, Builtin.firstCells, loadCells, loadCellsFrom]
      · cases xa <;> simp [Builtin.append_, run_underlying ht, sizeOf, typeInfo, hi, Builtin.lenOf, Builtin.firstCells, hnc, storeCells, loadCells, loadCellsFrom]
    refine ⟨v, w, hr, by rw [List.append_nil]; exact hown, World.grownBy.same w _, .inl rfl, ?_⟩
    rcases hown.2 with ⟨rfl, rfl⟩ | ⟨g, cap, cur, rfl, _, _, hnc, _⟩
    · exact ⟨_, _, rfl⟩
    · exact ⟨_, _, rfl⟩
  · obtain ⟨ad, rfl, hc⟩ := hnews h0
    obtain ⟨g, cap, w', hr, h2, h3, h4, _⟩ := run_append_lies (P := P) (w := w) t ty base e i z size bytes ht hi hz hsize hby hzs hsz v n xs hown ad m c news hl hc h1 h0 h63 hbytes hbase _ rfl
    exact ⟨_, w', hr, h2, h3, h4.imp (fun h => h.symm) (fun h => by rw [h]; rfl), _, _, rfl⟩
theorem step_append_any {ops : Array Oper} {o : Oper} {a : Act} {K : Act → World → Prop} {Q : Exit → Act → World → Prop} {E : Prop} (hgd : o.guard = none) (s x : Operand) (t : TypeId)
    (ho : o.op = .call { callee := .builtin .append, args := #[s, x], argTypes := #[t, t] })
    (base : Nat) (e : TypeId) (i : TypeInfo) (z : Value) (size bytes : Nat) (ht : P.underlying t = some (.slice e)) (hi : P.info? e = some i) (hz : i.zero = some z)
    (hsize : i.size = size) (hby : i.bytes = bytes) (hzs : z.cells.size = size) (hsz : 0 < size)
    (v : Value) (n : Nat) (xs : List Value) (hs : a.eval s = v) (hown : w.ownsRow base e size v n xs)
    (xa : Option Addr) (m c : Nat) (news : List Value) (hx : a.eval x = .slice xa m c) (hl : news.length = m * size) (hnews : 0 < m → ∃ ad, xa = some ad ∧ ∀ j u, news[j]? = some u → w.cell? (ad.add j) = some u) (h1 : ∀ u ∈ news, u.oneCell' = true)
    (h63 : n + m ≤ maxLen) (hbytes : (n + m) * bytes ≤ 140737488355328) (hbase : base ≤ w.heap.size)
    (h : ∀ a' c' w', w'.ownsRow base e size (.slice a' (n + m) c') (n + m) (xs ++ news) → w.grownBy w' v.ownBlock → ((Value.slice a' (n + m) c').ownBlock = v.ownBlock ∨ (Value.slice a' (n + m) c').ownBlock = some w.heap.size) → K (a.put o.dst (.slice a' (n + m) c')) w') :
    if Region.wanted o (yielded ops a.tmps) = true then Oper.wp P o a w K Q else E := by
  have hw : Region.wanted o (yielded ops a.tmps) = true := by simp [Region.wanted, hgd]
  rw [if_pos hw]
  obtain ⟨v', w', hr, h2, h3, h4, a', c', rfl⟩ := run_append_any (P := P) (w := w) t o.type base e i z size bytes ht hi hz hsize hby hzs hsz v n xs hown xa m c news hl hnews h1 h63 hbytes hbase
  unfold Oper.wp execOp
  simp only [ho, resolve, invoke, builtin, Sem.run_bind, Sem.run_pure, Result.andThen_ok, List.map_toArray, List.map_cons, List.map_nil, hs, hx, hr]
  exact h a' c' w' h2 h3 h4
end
end Go
/- append(s, l...) of one's own row, l of whatever length, in a plain region. -/
namespace Go
theorem wpList_append_any {P : Program} {w : World} {ops : Array Oper} {rest : List Oper} {o : Oper} {a : Act} {Q : Exit → Act → World → Prop} (hgd : o.guard = none) (s x : Operand) (t : TypeId)
    (ho : o.op = .call { callee := .builtin .append, args := #[s, x], argTypes := #[t, t] })
    (base : Nat) (e : TypeId) (i : TypeInfo) (z : Value) (size bytes : Nat) (ht : P.underlying t = some (.slice e)) (hi : P.info? e = some i) (hz : i.zero = some z)
    (hsize : i.size = size) (hby : i.bytes = bytes) (hzs : z.cells.size = size) (hsz : 0 < size)
    (v : Value) (n : Nat) (xs : List Value) (hs : a.eval s = v) (hown : w.ownsRow base e size v n xs)
    (xa : Option Addr) (m c : Nat) (news : List Value) (hx : a.eval x = .slice xa m c) (hl : news.length = m * size) (hnews : 0 < m → ∃ ad, xa = some ad ∧ ∀ j u, news[j]? = some u → w.cell? (ad.add j) = some u) (h1 : ∀ u ∈ news, u.oneCell' = true)
    (h63 : n + m ≤ maxLen) (hbytes : (n + m) * bytes ≤ 140737488355328) (hbase : base ≤ w.heap.size)
    (h : ∀ a' c' w', w'.ownsRow base e size (.slice a' (n + m) c') (n + m) (xs ++ news) → w.grownBy w' v.ownBlock → ((Value.slice a' (n + m) c').ownBlock = v.ownBlock ∨ (Value.slice a' (n + m) c').ownBlock = some w.heap.size) → wpList P ops Q rest (a.put o.dst (.slice a' (n + m) c')) w') : wpList P ops Q (o :: rest) a w := by
  refine wpList_plain hgd fun K hK => ?_
  obtain ⟨v', w', hr, h2, h3, h4, a', c', rfl⟩ := run_append_any (P := P) (w := w) t o.type base e i z size bytes ht hi hz hsize hby hzs hsz v n xs hown xa m c news hl hnews h1 h63 hbytes hbase
  unfold Oper.wp execOp
  simp only [ho, resolve, invoke, builtin, Sem.run_bind, Sem.run_pure, Result.andThen_ok, List.map_toArray, List.map_cons, List.map_nil, hs, hx, hr]
  exact hK _ _ (h a' c' w' h2 h3 h4)
end Go
