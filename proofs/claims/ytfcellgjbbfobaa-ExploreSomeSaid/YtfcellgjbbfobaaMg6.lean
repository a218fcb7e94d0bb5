/- Texts laid together: R8 R13 EP3 QRst E1 E2. -/
import Derived.Test.YtfcellgjbbfobaaMg5
import Derived.Laws.CopyRow
import Derived.Deep.MidRow
import Derived.Test.YtfcellgjbbfobaaRows
import Derived.Deep.CutBlock
/- Writing in place into a row of one's own, elements of however many cells. -/
namespace Go
theorem keep_setRow (w : World) (g : Nat) (cs : Array Value) : Keep [g] w (w.setRow g cs) :=
  ⟨rfl, rfl, rfl, by simp, fun i _ hs => setRow_other w g i cs (by simpa using hs)⟩
section
variable {P : Program}
theorem wpList_append_room {w : World} {ops : Array Oper} {rest : List Oper} {o : Oper} {a : Act} {Q : Exit → Act → World → Prop} (hgd : o.guard = none) (s x : Operand) (t : TypeId)
    (ho : o.op = .call { callee := .builtin .append, args := #[s, x], argTypes := #[t, t] })
    (e : TypeId) (i : TypeInfo) (ht : P.underlying t = some (.slice e)) (hi : P.info? e = some i) (size : Nat) (hsz : i.size = size)
    (g sLen sCap : Nat) (cur : Array Value) (hg : w.heap[g]? = some (.cells cur e (0, 0))) (hs : a.eval s = .slice (some ⟨g, 0, none⟩) sLen sCap)
    (ad : Addr) (m c : Nat) (news : List Value) (hx : a.eval x = .slice (some ad) m c) (hl : news.length = m * size) (hnews : ∀ j u, news[j]? = some u → w.cell? (ad.add j) = some u) (h1 : ∀ u ∈ news, u.oneCell' = true)
    (hroom : sLen + m ≤ sCap) (hfit : sLen * size + news.length ≤ cur.size)
    (h : wpList P ops Q rest (a.put o.dst (.slice (some ⟨g, 0, none⟩) (sLen + m) sCap)) (w.setRow g (cur.toList.take (sLen * size) ++ news ++ cur.toList.drop (sLen * size + news.length)).toArray)) : wpList P ops Q (o :: rest) a w := by
  subst hsz
  refine wpList_plain hgd fun K hK => ?_
  have hrun := run_append_room (P := P) (w := w) t o.type e i ht hi g sLen sCap cur hg ad m c news hl hnews h1 hroom hfit
  unfold Oper.wp
  simp [execOp, ho, resolve, invoke, builtin, hs, hx, hrun, Result.andThen]
  exact hK _ _ (by simpa only [List.append_assoc] using h)
theorem wpList_clear_row {w : World} {ops : Array Oper} {rest : List Oper} {o : Oper} {a : Act} {Q : Exit → Act → World → Prop} (hgd : o.guard = none) (s : Operand) (t : TypeId)
    (ho : o.op = .call { callee := .builtin .clear, args := #[s], argTypes := #[t] })
    (e : TypeId) (z : Value) (ht : P.underlying t = some (.slice e)) (hv : ∀ w, (zeroValue e).run P w = .ok z w) (hz1 : ∀ u ∈ z.cells, u.oneCell' = true)
    (g off n c : Nat) (cur : Array Value) (hg : w.heap[g]? = some (.cells cur e (0, 0))) (hs : a.eval s = .slice (some ⟨g, off, none⟩) (n + 1) c) (hfit : off + (n + 1) * z.cells.size ≤ cur.size)
    (h : ∀ L : List Value, L.length = (n + 1) * z.cells.size → wpList P ops Q rest (a.put o.dst (.tuple #[])) (w.setRow g (cur.toList.take off ++ L ++ cur.toList.drop (off + L.length)).toArray)) : wpList P ops Q (o :: rest) a w := by
  refine wpList_plain hgd fun K hK => ?_
  obtain ⟨L, hL⟩ : ∃ L, (Builtin.zeroCells z.cells (n + 1)).toList = L := ⟨_, rfl⟩
  have hlen : L.length = (n + 1) * z.cells.size := by rw [← hL, Array.length_toList, size_zeroCells]
  have hone : ∀ u ∈ L, u.oneCell' = true := fun u hu => by
    rw [← hL] at hu
    have hu' : u ∈ Builtin.zeroCells z.cells (n + 1) := by simpa using hu
    unfold Builtin.zeroCells at hu'
    obtain ⟨j, hj, rfl⟩ := Array.mem_map.1 hu'
    have hj2 := Array.mem_range.1 hj
    have hs0 : 0 < z.cells.size := by
      rcases Nat.eq_zero_or_pos z.cells.size with h0 | h0
      · rw [h0] at hj2; simp at hj2
      · exact h0
    have hlt := Nat.mod_lt j hs0
    rw [getElem!_pos z.cells (j % z.cells.size) hlt]
    exact hz1 _ (Array.getElem_mem hlt)
  have hst := run_storeCells_at P g off e L 0 cur w hg (by omega) hone
  simp only [Nat.add_zero] at hst
  have hL' : Builtin.zeroCells z.cells (n + 1) = L.toArray := by rw [← hL]
  unfold Oper.wp
  simp [execOp, ho, resolve, invoke, builtin, hs, Builtin.clear_, run_underlying ht, hv, hL, hst, Result.andThen]
  exact hK _ _ (by simpa only [List.append_assoc] using h L hlen)
end
end Go
/- Rows of rows of three numbers; a state of numbers in a block of its own. -/
namespace Go
open Go.RowKit
structure RowsL (w : World) (a : Option Addr) (n c : Nat) (rs : List (List Ln)) : Prop where
  len : rs.length = n
  room : n ≤ c
  most : c ≤ 9223372036854775807
  at_ : ∀ (r : Nat) (l : List Ln), rs[r]? = some l → ∃ b off ar cr, a = some ⟨b, off, none⟩ ∧ w.cell? ⟨b, off + r, none⟩ = some (.slice ar l.length cr) ∧ LnsV w ar l.length cr l
theorem RowsL.keep {w w' : World} {a : Option Addr} {n c : Nat} {rs : List (List Ln)} (h : RowsL w a n c rs) (hk : Keep [] w w') : RowsL w' a n c rs :=
  ⟨h.len, h.room, h.most, fun r l hl => by
    obtain ⟨b, off, ar, cr, h1, h2, h3⟩ := h.at_ r l hl
    exact ⟨b, off, ar, cr, h1, hk.cell h2 (by simp), h3.keep hk (by simp)⟩⟩
/-- Numbers in a block of their own. -/
def ArrAt (T : TypeId) (w : World) (b : Nat) (s : List Int) : Prop := w.heap[b]? = some (.cells (s.map (Value.int .i64)).toArray T (0, 0))
section
variable {T : TypeId} {w w' : World} {b : Nat} {s : List Int}
theorem ArrAt.cell (h : ArrAt T w b s) {i : Nat} (hi : i < s.length) : w.cell? ⟨b, i, none⟩ = some (.int .i64 (s.getD i 0)) := by
  rw [cellAt h]
  simp [List.getD_eq_getElem?_getD, hi]
theorem ArrAt.put (h : ArrAt T w b s) (i : Nat) (v : Int) : ArrAt T (w.setCell ⟨b, i, none⟩ (.int .i64 v)) b (s.set i v) := by
  unfold ArrAt at *
  rw [blk_setCell, if_pos rfl, h]
  simp only [Option.map_some, Obj.put_cells, List.setIfInBounds_toArray, List.map_set]
theorem ArrAt.keep {S : List Nat} (h : ArrAt T w b s) (hk : Keep S w w') (hs : b ∉ S) : ArrAt T w' b s := hk.at h hs
theorem ArrAt.drew (h : ArrAt T w b s) : ArrAt T w.drew b s := h
theorem ArrAt.lt (h : ArrAt T w b s) : b < w.heap.size := lt_of_blk h
theorem ArrAt.new (T : TypeId) (w : World) (s : List Int) : ArrAt T (w.alloc (.cells (s.map (Value.int .i64)).toArray T)) w.heap.size s := blk_new w _
theorem ArrAt.other (h : ArrAt T w b s) {c i : Nat} (hc : b ≠ c) (v : Value) : ArrAt T (w.setCell ⟨c, i, none⟩ v) b s := by
  unfold ArrAt at *
  rw [blk_setCell, if_neg (fun e => hc e.symm)]
  exact h
theorem ArrAt.row (h : ArrAt T w b s) (t : List Int) : ArrAt T (w.setRow b (t.map (Value.int .i64)).toArray) b t := setRow_heap w b _ _ T _ h
end
theorem ints_one (s : List Int) : ((s.map (Value.int .i64)).toArray).all (·.oneCell') = true :=
  all_oneCell_toArray (fun v hv => by
    obtain ⟨z, _, rfl⟩ := List.mem_map.1 hv
    rfl)
theorem results_cell2 {P : Program} {fn : Func} {s r : Tmp} {t : TypeId} (h : fn.results = #[.cell s t, .tmp r]) {tmps : Array Value} {w : World} {a : Addr} (ha : tmps.getD s undef = .pointer (some a)) {v : Value} (hl : (loadVar t a).run P w = .ok v w) : (results fn tmps).run P w = .ok (.tuple #[v, tmps.getD r undef]) w := by
  have ha' : tmps[s]?.getD undef = .pointer (some a) := by simpa using ha
  simp [results, h, ha', hl, asAddr]
end Go
/- Lists of numbers, compared place by place; plain. -/
namespace Go.Ex
def cmp1 (x y : Int) : Int := if x < y then -1 else if x > y then 1 else 0
def cmpL : List Int → List Int → Int
  | x :: xs, y :: ys => if cmp1 x y ≠ 0 then cmp1 x y else cmpL xs ys
  | _, _ => 0
theorem cmp1_self (x : Int) : cmp1 x x = 0 := by simp [cmp1]
theorem cmpL_self : ∀ x : List Int, cmpL x x = 0
  | [] => rfl
  | x :: xs => by simp [cmpL, cmp1_self, cmpL_self xs]
theorem cmp1_swap (x y : Int) : cmp1 x y = - cmp1 y x := by
  unfold cmp1
  by_cases h1 : x < y
  · rw [if_pos h1, if_neg (by omega), if_pos (by omega)]
  · rw [if_neg h1]
    by_cases h2 : x > y
    · rw [if_pos h2, if_pos (by omega)]; rfl
    · rw [if_neg h2, if_neg (by omega), if_neg (by omega)]; rfl
theorem cmpL_swap : ∀ x y : List Int, cmpL x y = - cmpL y x
  | [], [] => rfl
  | [], _ :: _ => rfl
  | _ :: _, [] => rfl
  | x :: xs, y :: ys => by
    unfold cmpL
    rw [cmp1_swap x y, cmpL_swap xs ys]
    by_cases h : cmp1 y x = 0
    · rw [if_neg (by omega), if_neg (by omega)]
    · rw [if_pos (by omega), if_pos h]
theorem cmp1_le (x y : Int) : cmp1 x y ≤ 0 ↔ x ≤ y := by
  unfold cmp1
  split
  · omega
  · split <;> omega
theorem cmp1_zero (x y : Int) : cmp1 x y = 0 ↔ x = y := by
  unfold cmp1
  split
  · omega
  · split <;> omega
theorem cmpL_trans : ∀ {x y z : List Int}, x.length = y.length → y.length = z.length → cmpL x y ≤ 0 → cmpL y z ≤ 0 → cmpL x z ≤ 0
  | [], [], [], _, _, _, _ => by decide
  | x :: xs, y :: ys, z :: zs, h1, h2, h3, h4 => by
    have ih := @cmpL_trans xs ys zs (by simpa using h1) (by simpa using h2)
    unfold cmpL at h3 h4 ⊢
    have a1 := cmp1_le x y
    have a2 := cmp1_le y z
    have a3 := cmp1_le x z
    have b1 := cmp1_zero x y
    have b2 := cmp1_zero y z
    have b3 := cmp1_zero x z
    by_cases e1 : cmp1 x y = 0
    · rw [if_neg (by omega)] at h3
      by_cases e2 : cmp1 y z = 0
      · rw [if_neg (by omega)] at h4
        rw [if_neg (by have := b1.1 e1; have := b2.1 e2; have := b3.2 (by omega); omega)]
        exact ih h3 h4
      · rw [if_pos e2] at h4
        have := b1.1 e1
        have := a2.1 h4
        have h9 : ¬ cmp1 x z = 0 := fun e => e2 (b2.2 (by have := b3.1 e; omega))
        rw [if_pos h9]
        exact a3.2 (by omega)
    · rw [if_pos e1] at h3
      have c1 := a1.1 h3
      have c2 : ¬ x = y := fun e => e1 (b1.2 e)
      have c3 : y ≤ z := by
        by_cases e2 : cmp1 y z = 0
        · have := b2.1 e2; omega
        · rw [if_pos e2] at h4; exact a2.1 h4
      have h9 : ¬ cmp1 x z = 0 := fun e => c2 (by have := b3.1 e; omega)
      rw [if_pos h9]
      exact a3.2 (by omega)
theorem cmpL_app : ∀ {a b c d : List Int}, a.length = c.length → cmpL (a ++ b) (c ++ d) = if cmpL a c ≠ 0 then cmpL a c else cmpL b d
  | [], b, [], d, _ => by simp [cmpL]
  | x :: a, b, y :: c, d, h => by
    have ih := @cmpL_app a b c d (by simpa using h)
    simp only [List.cons_append, cmpL]
    rw [ih]
    by_cases e : cmp1 x y = 0
    · simp [e]
    · simp [e]
theorem cmp1_small (x y : Int) : -1 ≤ cmp1 x y ∧ cmp1 x y ≤ 1 := by
  unfold cmp1
  split
  · omega
  · split <;> omega
end Go.Ex
namespace Go.Proofs.Ytfcellgjbbfobaa
open Go.RowKit
theorem mixed : Try.prog.follows .mixedOrders = true := by kernel_rfl
set_option maxHeartbeats 400000 in
theorem rest_any (k n : Int) (w : World) (hn : 0 < n) (hn1 : n ≤ 1000000000) : Calls Try.prog 11 #[.int .i64 k, .int .i64 n] w fun e w' => e = .returned (.int .i64 (restI k n)) ∧ w = w' := by
  have hr := Lib.hid (rest_eq k n hn hn1)
  go_enter Try.func11, Try.ntmps11
  go_wp2_with fail
  go_ret
  exact ⟨ret_int hr.out, rfl⟩
theorem rest_at {k n q : Int} {w : World} (h : Hid (restI k n = q)) (hn : 0 < n) (hn1 : n ≤ 1000000000) : Calls Try.prog 11 #[.int .i64 k, .int .i64 n] w fun e w' => e = .returned (.int .i64 q) ∧ w = w' := by
  have := rest_any k n w hn hn1
  rw [h.out] at this
  exact this
/-- 'Rest' neither reads nor writes memory. -/
def isRest (args : Array Value) : Bool :=
  match args.toList with
  | [.int .i64 _, .int .i64 n] => decide (0 < n) && decide (n ≤ 1000000000)
  | _ => false
def quiets : Txt.Quiet := ⟨[11], fun f args => f == 11 && isRest args⟩
theorem quiet : Txt.QuietOk Try.prog quiets := by
  intro f args h
  simp only [quiets, Bool.and_eq_true, beq_iff_eq] at h
  obtain ⟨rfl, h⟩ := h
  refine ⟨by kernel_rfl, fun w => ?_, ?_⟩
  · have h1 : (Try.f11.name == "runtime.NumGoroutine") = false := by kernel_rfl
    have h2 : Try.f11.body.isNone = false := by kernel_rfl
    simp only [callFunc, Sem.run_bind, run_program, Result.andThen_ok, Try.func11, h1, h2, Bool.false_eq_true, if_false, Sem.run_pure]
  · unfold isRest at h
    split at h
    · rename_i k n he
      obtain rfl : args = #[.int .i64 k, .int .i64 n] := by cases args; simp_all
      simp only [Bool.and_eq_true, decide_eq_true_eq] at h
      exact ⟨_, fun w => rest_any k n w h.1 h.2⟩
    · cases h
theorem info3 : (Try.prog.info? 3).map (fun i => (i.zero, i.size, i.bytes)) = some (some (.int .i64 0), 1, 8) := by kernel_rfl
theorem rest_nat (k n : Int) (hn : 0 < n) : ∃ q : Nat, restI k n = q ∧ (q : Int) < n := by
  have h0 := restI_lo k hn
  have h1 := restI_hi k hn
  exact ⟨(restI k n).toNat, by omega, by omega⟩
end Go.Proofs.Ytfcellgjbbfobaa
/- Explore: next. -/
namespace Go.Proofs.Ytfcellgjbbfobaa
open Go.RowKit Go.Ex
theorem info62 : (Try.prog.info? 62).map (·.size) = some 12 := by kernel_rfl
set_option maxRecDepth 100000 in
set_option maxHeartbeats 4000000 in
theorem next40_any {w : World} {a : Option Addr} {n c who : Nat} {ps : List (List Ln)} {s : List Int} (hv : RowsL w a n c ps) (hp : PsOk ps) (hs : SOk ps s) (hw : who < n) :
    Calls Try.prog 40 #[.slice a n c, aggI s, .int .i64 who] w fun e w' => Keep [] w w' ∧ ((nx ps who s = none ∧ e = .returned (.tuple #[aggI s, .bool false])) ∨ ∃ t, nx ps who s = some t ∧ e = .returned (.tuple #[aggI t, .bool true])) := by
  have hwl : who < ps.length := by rw [hv.len]; exact hw
  have hw4 : who < 4 := by have := hp.few; omega
  have hkA : Keep [] w ((w.alloc (.cells (s.map (Value.int .i64)).toArray 62)).alloc (.cells #[.int .i64 0, .int .i64 0, .int .i64 0, .int .i64 0, .int .i64 0, .int .i64 0, .int .i64 0, .int .i64 0, .int .i64 0, .int .i64 0, .int .i64 0, .int .i64 0] 62)) := ((Keep.refl [] w).alloc _).alloc _
  have hA : ArrAt 62 ((w.alloc (.cells (s.map (Value.int .i64)).toArray 62)).alloc (.cells #[.int .i64 0, .int .i64 0, .int .i64 0, .int .i64 0, .int .i64 0, .int .i64 0, .int .i64 0, .int .i64 0, .int .i64 0, .int .i64 0, .int .i64 0, .int .i64 0] 62)) w.heap.size s := (ArrAt.new 62 w s).keep ((Keep.refl [] _).alloc _) (by simp)
  have hR : ArrAt 62 ((w.alloc (.cells (s.map (Value.int .i64)).toArray 62)).alloc (.cells #[.int .i64 0, .int .i64 0, .int .i64 0, .int .i64 0, .int .i64 0, .int .i64 0, .int .i64 0, .int .i64 0, .int .i64 0, .int .i64 0, .int .i64 0, .int .i64 0] 62)) (w.heap.size + 1) s0 := by
    have h9 := ArrAt.new 62 (w.alloc (.cells (s.map (Value.int .i64)).toArray 62)) s0
    rw [show (w.alloc (.cells (s.map (Value.int .i64)).toArray 62)).heap.size = w.heap.size + 1 by simp] at h9
    exact h9
  obtain ⟨l, hl⟩ : ∃ l, ps[who]? = some l := ⟨_, List.getElem?_eq_getElem hwl⟩
  obtain ⟨b, off, ar, cr, rfl, hc, hlv⟩ := (hv.keep hkA).at_ who l hl
  have hgd : ps.getD who [] = l := by rw [List.getD_eq_getElem?_getD, hl]; rfl
  have hat := hs.at_ who hw4
  have hop : opAt ps who s = l[(s.getD (8 + who) 0).toNat]? := by unfold opAt; rw [hgd]
  rw [hgd] at hat
  have hsl := hs.len
  have hc8 := hA.cell (i := 8 + who) (by omega)
  obtain ⟨y0, hy0⟩ : ∃ y, s.getD (8 + who) 0 = y := ⟨_, rfl⟩
  rw [hy0] at hat hop hc8
  obtain ⟨y, rfl⟩ : ∃ y : Nat, y0 = y := ⟨y0.toNat, by omega⟩
  obtain ⟨m, hm⟩ : ∃ m, l.length = m := ⟨_, rfl⟩
  rw [hm] at hat hlv hc
  have hroom := hv.room
  have hmost := hv.most
  have hcr := hlv.room
  have hcm := hlv.most
  rw [show maxLen = 9223372036854775807 from rfl] at hcm
  have hthA := thaw hA
  have hthR := thaw hR
  have HA := Lib.hid hA
  have HR := Lib.hid hR
  have HK := Lib.hid hkA
  have HS := Lib.hid hs
  have HP := Lib.hid hp
  have hsz := Lib.hid (show w.heap.size + 2 = ((w.alloc (.cells (s.map (Value.int .i64)).toArray 62)).alloc (.cells #[.int .i64 0, .int .i64 0, .int .i64 0, .int .i64 0, .int .i64 0, .int .i64 0, .int .i64 0, .int .i64 0, .int .i64 0, .int .i64 0, .int .i64 0, .int .i64 0] 62)).heap.size by simp)
  obtain ⟨w2, hw2⟩ : ∃ w2, (w.alloc (.cells (s.map (Value.int .i64)).toArray 62)).alloc (.cells #[.int .i64 0, .int .i64 0, .int .i64 0, .int .i64 0, .int .i64 0, .int .i64 0, .int .i64 0, .int .i64 0, .int .i64 0, .int .i64 0, .int .i64 0, .int .i64 0] 62) = w2 := ⟨_, rfl⟩
  rw [hw2] at hc hlv hc8 hthA hthR HA HR HK hsz
  have HAd := Lib.hid (show w2.drew.heap[w.heap.size]? = some (.cells (s.map (Value.int .i64)).toArray 62 (0, 0)) from HA.out)
  have HRd := Lib.hid (show w2.drew.heap[w.heap.size + 1]? = some (.cells (s0.map (Value.int .i64)).toArray 62 (0, 0)) from HR.out)
  have hi12 : (Try.prog.info? 62).map (·.size) = some (s.map (Value.int .i64)).toArray.size := by rw [info62]; simp [hsl]
  have hsz0 : (s0.map (Value.int .i64)).toArray.size = (s.map (Value.int .i64)).toArray.size := by simp [hsl, s0]
  have hone := ints_one s
  have HI := Lib.hid hi12
  have HZ := Lib.hid hsz0
  have HO := Lib.hid hone
  clear hkA hA hR hv hgd hi12 hsz0 hone
  by_cases hfull : y = m
  · have HNX : Hid (nx ps who s = none) := Lib.hid (by
      unfold nx
      rw [hop, List.getElem?_eq_none (by omega)])
    have hbe : ((y : Int) == (m : Int)) = true := by simp [hfull]
    clear hfull
    unfold aggI
    go_enter Try.func40, Try.ntmps40
    go_wp2_with (first | (with_reducible refine Txt.wp_region_text mixed quiet (by decide +kernel) ?_) | (with_reducible refine Txt.text_done (by kernel_rfl) ?_) | (with_reducible refine wpList_load_row rfl 62 _ rfl w.heap.size rfl 62 _ (0, 0) _ HAd.out Try.underlying62 rfl HI.out ?_) | (with_reducible refine wpList_store_row rfl 62 _ _ rfl (w.heap.size + 1) _ rfl rfl 62 _ HRd.out HI.out HZ.out HO.out ?_))
    refine bodyPost_ret (results_cell2 Try.results40 rfl (run_loadVar_row _ (w.heap.size + 1) 62 62 (s.map (Value.int .i64)).toArray (0, 0) _ (setRow_heap _ _ _ _ 62 _ HRd.out) Try.underlying62 rfl HI.out)) rfl ⟨HK.out.drew.call (keep_setRow _ _ _) (by simp), .inl ⟨HNX.out, rfl⟩⟩
  · have hym : y < m := by omega
    have hbe : ((y : Int) == (m : Int)) = false := by rw [beq_eq_false_iff_ne]; omega
    obtain ⟨⟨q, g0, u⟩, hd⟩ : ∃ d, l[y]? = some d := ⟨_, List.getElem?_eq_getElem (by omega)⟩
    obtain ⟨ba, oa, rfl, e0, e1, e2⟩ := hlv.at_ hym
    have hlat : lat l y = ⟨q, g0, u⟩ := by rw [lat, List.getD_eq_getElem?_getD, hd]; rfl
    rw [hlat] at e0 e1 e2
    have hmem : (⟨q, g0, u⟩ : Ln) ∈ l := List.mem_of_getElem? hd
    obtain ⟨⟨hq1, hq2⟩, ⟨hg1, hg2⟩, hu1, hu2⟩ := HP.out.all l (List.mem_of_getElem? hl) _ hmem
    simp only at hq1 hq2 hg1 hg2 hu1 hu2 e0 e1 e2
    obtain ⟨g, rfl⟩ : ∃ g : Nat, g0 = g := ⟨g0.toNat, by omega⟩
    have hst := steps_le HP.out HS.out
    have htot := HP.out.tot
    have hbg := HS.out.bd g (by omega)
    have hbh := HS.out.bd (4 + who) (by omega)
    have hcg := HA.out.cell (i := g) (by omega)
    have hch := HA.out.cell (i := 4 + who) (by omega)
    have HNX : Hid (nx ps who s = if q = 4 ∧ s.getD g 0 ≠ u then none else some ((eff ⟨q, g, u⟩ who s).set (8 + who) ((y : Int) + 1))) := Lib.hid (by
      unfold nx
      rw [hop, Int.toNat_natCast, hd, hy0]; rfl)
    obtain ⟨x, hx⟩ : ∃ x, s.getD g 0 = x := ⟨_, rfl⟩
    obtain ⟨h, hh⟩ : ∃ h, s.getD (4 + who) 0 = h := ⟨_, rfl⟩
    have HX := Lib.hid hx
    have HH := Lib.hid hh
    rw [hx] at hbg hcg
    rw [hh] at hbh hch
    have hx1 : -12000 ≤ x := by omega
    have hx2 : x ≤ 12000 := by omega
    have hh1 : -12000 ≤ h := by omega
    have hh2 : h ≤ 12000 := by omega
    have hgo : ¬ g = 8 + who := by omega
    have hog : ¬ 8 + who = g := by omega
    have hn1 : w.heap.size < w2.heap.size := by have := hsz.out; omega
    have hn2 : w.heap.size + 1 < w2.heap.size := by have := hsz.out; omega
    have hq : q = 1 ∨ q = 2 ∨ q = 3 ∨ q = 4 := by omega
    have hn3 : b < w2.heap.size := block_lt_of_cell hc
    have hn4 : ba < w2.heap.size := block_lt_of_cell e0
    have HY := Lib.hid hat
    clear hst htot hbg hbh hx hh hop hy0 hlv hmem hd hlat hl hq1 hq2 hs hp hat
    unfold aggI
    obtain rfl | rfl | rfl | rfl := hq
    · have HN : Hid (nx ps who s = some ((s.set (4 + who) x).set (8 + who) ((y : Int) + 1))) := Lib.hid (by rw [HNX.out, if_neg (by simp)]; simp [eff, ← HX.out])
      go_enter Try.func40, Try.ntmps40
      go_upto_region 3 with (first | (with_reducible refine Txt.wp_region_text mixed quiet (by decide +kernel) ?_) | (with_reducible refine Txt.text_done (by kernel_rfl) ?_))
      go_region
      go_upto_region 15 with (first | (with_reducible refine Txt.wp_region_text mixed quiet (by decide +kernel) ?_) | (with_reducible refine Txt.text_done (by kernel_rfl) ?_))
      obtain ⟨t, ht⟩ : ∃ t, (s.set (4 + who) x).set (8 + who) ((y : Int) + 1) = t := ⟨_, rfl⟩
      have htl : t.length = 12 := by rw [← ht]; simp [hsl]
      try rw [ht] at HN
      have HL := Lib.hid (show (((w2.setCell ⟨w.heap.size, 4 + who, none⟩ (.int .i64 x)).setCell ⟨w.heap.size, 8 + who, none⟩ (.int .i64 ((y : Int) + 1))).alloc (.cells #[.int .i64 1, .int .i64 g, .int .i64 u] 57)).drew.drew.heap[w.heap.size]? = some (.cells ((t).map (Value.int .i64)).toArray 62 (0, 0)) from ht ▸ ((((HA.out.put _ _).put _ _)).keep (S := []) ((Keep.refl [] _).alloc _) (by simp)).drew.drew)
      have HLR := Lib.hid (show (((w2.setCell ⟨w.heap.size, 4 + who, none⟩ (.int .i64 x)).setCell ⟨w.heap.size, 8 + who, none⟩ (.int .i64 ((y : Int) + 1))).alloc (.cells #[.int .i64 1, .int .i64 g, .int .i64 u] 57)).drew.drew.heap[w.heap.size + 1]? = some (.cells (s0.map (Value.int .i64)).toArray 62 (0, 0)) from ((((HR.out.other (by omega) _).other (by omega) _)).keep (S := []) ((Keep.refl [] _).alloc _) (by simp)).drew.drew)
      have HIT : Hid ((Try.prog.info? 62).map (·.size) = some ((t).map (Value.int .i64)).toArray.size) := Lib.hid (by rw [info62]; simp [htl])
      have HZT : Hid ((s0.map (Value.int .i64)).toArray.size = ((t).map (Value.int .i64)).toArray.size) := Lib.hid (by simp [htl, s0])
      have HOT := Lib.hid (ints_one (t))
      have HKE := Lib.hid (show Keep [] w (((w2.setCell ⟨w.heap.size, 4 + who, none⟩ (.int .i64 x)).setCell ⟨w.heap.size, 8 + who, none⟩ (.int .i64 ((y : Int) + 1))).alloc (.cells #[.int .i64 1, .int .i64 g, .int .i64 u] 57)).drew.drew from (((HK.out.setCell (.inr (Nat.le_refl _)) _).setCell (.inr (Nat.le_refl _)) _).alloc _).drew.drew)
      clear ht htl
      go_wp2_with (first | (with_reducible refine wpList_load_row rfl 62 _ rfl w.heap.size rfl 62 _ (0, 0) _ HL.out Try.underlying62 rfl HIT.out ?_) | (with_reducible refine wpList_store_row rfl 62 _ _ rfl (w.heap.size + 1) _ rfl rfl 62 _ HLR.out HIT.out HZT.out HOT.out ?_))
      refine bodyPost_ret (results_cell2 Try.results40 rfl (run_loadVar_row _ (w.heap.size + 1) 62 62 ((t).map (Value.int .i64)).toArray (0, 0) _ (setRow_heap _ _ _ _ 62 _ HLR.out) Try.underlying62 rfl HIT.out)) rfl ⟨HKE.out.call (keep_setRow _ _ _) (by simp), .inr ⟨_, HN.out, rfl⟩⟩
    · have HN : Hid (nx ps who s = some ((s.set g (h + u)).set (8 + who) ((y : Int) + 1))) := Lib.hid (by rw [HNX.out, if_neg (by simp)]; simp [eff, ← HH.out])
      go_enter Try.func40, Try.ntmps40
      go_upto_region 3 with (first | (with_reducible refine Txt.wp_region_text mixed quiet (by decide +kernel) ?_) | (with_reducible refine Txt.text_done (by kernel_rfl) ?_))
      go_region
      go_upto_region 8 with (first | (with_reducible refine Txt.wp_region_text mixed quiet (by decide +kernel) ?_) | (with_reducible refine Txt.text_done (by kernel_rfl) ?_))
      go_region
      go_upto_region 15 with (first | (with_reducible refine Txt.wp_region_text mixed quiet (by decide +kernel) ?_) | (with_reducible refine Txt.text_done (by kernel_rfl) ?_))
      obtain ⟨t, ht⟩ : ∃ t, (s.set g (h + u)).set (8 + who) ((y : Int) + 1) = t := ⟨_, rfl⟩
      have htl : t.length = 12 := by rw [← ht]; simp [hsl]
      try rw [ht] at HN
      have HL := Lib.hid (show (((w2.setCell ⟨w.heap.size, g, none⟩ (.int .i64 (h + u))).setCell ⟨w.heap.size, 8 + who, none⟩ (.int .i64 ((y : Int) + 1))).alloc (.cells #[.int .i64 2, .int .i64 g, .int .i64 u] 57)).drew.drew.drew.heap[w.heap.size]? = some (.cells ((t).map (Value.int .i64)).toArray 62 (0, 0)) from ht ▸ ((((HA.out.put _ _).put _ _)).keep (S := []) ((Keep.refl [] _).alloc _) (by simp)).drew.drew.drew)
      have HLR := Lib.hid (show (((w2.setCell ⟨w.heap.size, g, none⟩ (.int .i64 (h + u))).setCell ⟨w.heap.size, 8 + who, none⟩ (.int .i64 ((y : Int) + 1))).alloc (.cells #[.int .i64 2, .int .i64 g, .int .i64 u] 57)).drew.drew.drew.heap[w.heap.size + 1]? = some (.cells (s0.map (Value.int .i64)).toArray 62 (0, 0)) from ((((HR.out.other (by omega) _).other (by omega) _)).keep (S := []) ((Keep.refl [] _).alloc _) (by simp)).drew.drew.drew)
      have HIT : Hid ((Try.prog.info? 62).map (·.size) = some ((t).map (Value.int .i64)).toArray.size) := Lib.hid (by rw [info62]; simp [htl])
      have HZT : Hid ((s0.map (Value.int .i64)).toArray.size = ((t).map (Value.int .i64)).toArray.size) := Lib.hid (by simp [htl, s0])
      have HOT := Lib.hid (ints_one (t))
      have HKE := Lib.hid (show Keep [] w (((w2.setCell ⟨w.heap.size, g, none⟩ (.int .i64 (h + u))).setCell ⟨w.heap.size, 8 + who, none⟩ (.int .i64 ((y : Int) + 1))).alloc (.cells #[.int .i64 2, .int .i64 g, .int .i64 u] 57)).drew.drew.drew from (((HK.out.setCell (.inr (Nat.le_refl _)) _).setCell (.inr (Nat.le_refl _)) _).alloc _).drew.drew.drew)
      clear ht htl
      go_wp2_with (first | (with_reducible refine wpList_load_row rfl 62 _ rfl w.heap.size rfl 62 _ (0, 0) _ HL.out Try.underlying62 rfl HIT.out ?_) | (with_reducible refine wpList_store_row rfl 62 _ _ rfl (w.heap.size + 1) _ rfl rfl 62 _ HLR.out HIT.out HZT.out HOT.out ?_))
      refine bodyPost_ret (results_cell2 Try.results40 rfl (run_loadVar_row _ (w.heap.size + 1) 62 62 ((t).map (Value.int .i64)).toArray (0, 0) _ (setRow_heap _ _ _ _ 62 _ HLR.out) Try.underlying62 rfl HIT.out)) rfl ⟨HKE.out.call (keep_setRow _ _ _) (by simp), .inr ⟨_, HN.out, rfl⟩⟩
    · have HN : Hid (nx ps who s = some ((s.set g (x + u)).set (8 + who) ((y : Int) + 1))) := Lib.hid (by rw [HNX.out, if_neg (by simp)]; simp [eff, ← HX.out])
      go_enter Try.func40, Try.ntmps40
      go_upto_region 3 with (first | (with_reducible refine Txt.wp_region_text mixed quiet (by decide +kernel) ?_) | (with_reducible refine Txt.text_done (by kernel_rfl) ?_))
      go_region
      go_upto_region 10 with (first | (with_reducible refine Txt.wp_region_text mixed quiet (by decide +kernel) ?_) | (with_reducible refine Txt.text_done (by kernel_rfl) ?_))
      go_region
      go_upto_region 15 with (first | (with_reducible refine Txt.wp_region_text mixed quiet (by decide +kernel) ?_) | (with_reducible refine Txt.text_done (by kernel_rfl) ?_))
      obtain ⟨t, ht⟩ : ∃ t, (s.set g (x + u)).set (8 + who) ((y : Int) + 1) = t := ⟨_, rfl⟩
      have htl : t.length = 12 := by rw [← ht]; simp [hsl]
      try rw [ht] at HN
      have HL := Lib.hid (show (((w2.setCell ⟨w.heap.size, g, none⟩ (.int .i64 (x + u))).setCell ⟨w.heap.size, 8 + who, none⟩ (.int .i64 ((y : Int) + 1))).alloc (.cells #[.int .i64 3, .int .i64 g, .int .i64 u] 57)).drew.drew.drew.heap[w.heap.size]? = some (.cells ((t).map (Value.int .i64)).toArray 62 (0, 0)) from ht ▸ ((((HA.out.put _ _).put _ _)).keep (S := []) ((Keep.refl [] _).alloc _) (by simp)).drew.drew.drew)
      have HLR := Lib.hid (show (((w2.setCell ⟨w.heap.size, g, none⟩ (.int .i64 (x + u))).setCell ⟨w.heap.size, 8 + who, none⟩ (.int .i64 ((y : Int) + 1))).alloc (.cells #[.int .i64 3, .int .i64 g, .int .i64 u] 57)).drew.drew.drew.heap[w.heap.size + 1]? = some (.cells (s0.map (Value.int .i64)).toArray 62 (0, 0)) from ((((HR.out.other (by omega) _).other (by omega) _)).keep (S := []) ((Keep.refl [] _).alloc _) (by simp)).drew.drew.drew)
      have HIT : Hid ((Try.prog.info? 62).map (·.size) = some ((t).map (Value.int .i64)).toArray.size) := Lib.hid (by rw [info62]; simp [htl])
      have HZT : Hid ((s0.map (Value.int .i64)).toArray.size = ((t).map (Value.int .i64)).toArray.size) := Lib.hid (by simp [htl, s0])
      have HOT := Lib.hid (ints_one (t))
      have HKE := Lib.hid (show Keep [] w (((w2.setCell ⟨w.heap.size, g, none⟩ (.int .i64 (x + u))).setCell ⟨w.heap.size, 8 + who, none⟩ (.int .i64 ((y : Int) + 1))).alloc (.cells #[.int .i64 3, .int .i64 g, .int .i64 u] 57)).drew.drew.drew from (((HK.out.setCell (.inr (Nat.le_refl _)) _).setCell (.inr (Nat.le_refl _)) _).alloc _).drew.drew.drew)
      clear ht htl
      go_wp2_with (first | (with_reducible refine wpList_load_row rfl 62 _ rfl w.heap.size rfl 62 _ (0, 0) _ HL.out Try.underlying62 rfl HIT.out ?_) | (with_reducible refine wpList_store_row rfl 62 _ _ rfl (w.heap.size + 1) _ rfl rfl 62 _ HLR.out HIT.out HZT.out HOT.out ?_))
      refine bodyPost_ret (results_cell2 Try.results40 rfl (run_loadVar_row _ (w.heap.size + 1) 62 62 ((t).map (Value.int .i64)).toArray (0, 0) _ (setRow_heap _ _ _ _ 62 _ HLR.out) Try.underlying62 rfl HIT.out)) rfl ⟨HKE.out.call (keep_setRow _ _ _) (by simp), .inr ⟨_, HN.out, rfl⟩⟩
    · by_cases hxu : x = u
      · have HN : Hid (nx ps who s = some (s.set (8 + who) ((y : Int) + 1))) := Lib.hid (by rw [HNX.out, if_neg (by rw [HX.out]; simp [hxu])]; simp [eff])
        have hxe : (x != u) = false := by simp [hxu]
        clear hxu
        go_enter Try.func40, Try.ntmps40
        go_upto_region 3 with (first | (with_reducible refine Txt.wp_region_text mixed quiet (by decide +kernel) ?_) | (with_reducible refine Txt.text_done (by kernel_rfl) ?_))
        go_region
        go_upto_region 15 with (first | (with_reducible refine Txt.wp_region_text mixed quiet (by decide +kernel) ?_) | (with_reducible refine Txt.text_done (by kernel_rfl) ?_))
        obtain ⟨t, ht⟩ : ∃ t, s.set (8 + who) ((y : Int) + 1) = t := ⟨_, rfl⟩
        have htl : t.length = 12 := by rw [← ht]; simp [hsl]
        try rw [ht] at HN
        have HL := Lib.hid (show ((w2.setCell ⟨w.heap.size, 8 + who, none⟩ (.int .i64 ((y : Int) + 1))).alloc (.cells #[.int .i64 4, .int .i64 g, .int .i64 u] 57)).drew.drew.drew.heap[w.heap.size]? = some (.cells ((t).map (Value.int .i64)).toArray 62 (0, 0)) from ht ▸ (((HA.out.put _ _)).keep (S := []) ((Keep.refl [] _).alloc _) (by simp)).drew.drew.drew)
        have HLR := Lib.hid (show ((w2.setCell ⟨w.heap.size, 8 + who, none⟩ (.int .i64 ((y : Int) + 1))).alloc (.cells #[.int .i64 4, .int .i64 g, .int .i64 u] 57)).drew.drew.drew.heap[w.heap.size + 1]? = some (.cells (s0.map (Value.int .i64)).toArray 62 (0, 0)) from (((HR.out.other (by omega) _)).keep (S := []) ((Keep.refl [] _).alloc _) (by simp)).drew.drew.drew)
        have HIT : Hid ((Try.prog.info? 62).map (·.size) = some ((t).map (Value.int .i64)).toArray.size) := Lib.hid (by rw [info62]; simp [htl])
        have HZT : Hid ((s0.map (Value.int .i64)).toArray.size = ((t).map (Value.int .i64)).toArray.size) := Lib.hid (by simp [htl, s0])
        have HOT := Lib.hid (ints_one (t))
        have HKE := Lib.hid (show Keep [] w ((w2.setCell ⟨w.heap.size, 8 + who, none⟩ (.int .i64 ((y : Int) + 1))).alloc (.cells #[.int .i64 4, .int .i64 g, .int .i64 u] 57)).drew.drew.drew from ((HK.out.setCell (.inr (Nat.le_refl _)) _).alloc _).drew.drew.drew)
        clear ht htl
        go_wp2_with (first | (with_reducible refine wpList_load_row rfl 62 _ rfl w.heap.size rfl 62 _ (0, 0) _ HL.out Try.underlying62 rfl HIT.out ?_) | (with_reducible refine wpList_store_row rfl 62 _ _ rfl (w.heap.size + 1) _ rfl rfl 62 _ HLR.out HIT.out HZT.out HOT.out ?_))
        refine bodyPost_ret (results_cell2 Try.results40 rfl (run_loadVar_row _ (w.heap.size + 1) 62 62 ((t).map (Value.int .i64)).toArray (0, 0) _ (setRow_heap _ _ _ _ 62 _ HLR.out) Try.underlying62 rfl HIT.out)) rfl ⟨HKE.out.call (keep_setRow _ _ _) (by simp), .inr ⟨_, HN.out, rfl⟩⟩
      · have HN : Hid (nx ps who s = none) := Lib.hid (by rw [HNX.out, if_pos (by rw [HX.out]; exact ⟨rfl, hxu⟩)])
        have hxe : (x != u) = true := by simp [hxu]
        clear hxu
        go_enter Try.func40, Try.ntmps40
        go_upto_region 3 with (first | (with_reducible refine Txt.wp_region_text mixed quiet (by decide +kernel) ?_) | (with_reducible refine Txt.text_done (by kernel_rfl) ?_))
        go_region
        go_upto_region 13 with (first | (with_reducible refine Txt.wp_region_text mixed quiet (by decide +kernel) ?_) | (with_reducible refine Txt.text_done (by kernel_rfl) ?_))
        obtain ⟨t, ht, hts⟩ : ∃ t, s = t ∧ t = s := ⟨_, rfl, rfl⟩
        have htl : t.length = 12 := by rw [← ht]; simp [hsl]
        skip
        have HL := Lib.hid (show (w2.alloc (.cells #[.int .i64 4, .int .i64 g, .int .i64 u] 57)).drew.drew.drew.heap[w.heap.size]? = some (.cells ((t).map (Value.int .i64)).toArray 62 (0, 0)) from ht ▸ ((HA.out).keep (S := []) ((Keep.refl [] _).alloc _) (by simp)).drew.drew.drew)
        have HLR := Lib.hid (show (w2.alloc (.cells #[.int .i64 4, .int .i64 g, .int .i64 u] 57)).drew.drew.drew.heap[w.heap.size + 1]? = some (.cells (s0.map (Value.int .i64)).toArray 62 (0, 0)) from ((HR.out).keep (S := []) ((Keep.refl [] _).alloc _) (by simp)).drew.drew.drew)
        have HIT : Hid ((Try.prog.info? 62).map (·.size) = some ((t).map (Value.int .i64)).toArray.size) := Lib.hid (by rw [info62]; simp [htl])
        have HZT : Hid ((s0.map (Value.int .i64)).toArray.size = ((t).map (Value.int .i64)).toArray.size) := Lib.hid (by simp [htl, s0])
        have HOT := Lib.hid (ints_one (t))
        have HKE := Lib.hid (show Keep [] w (w2.alloc (.cells #[.int .i64 4, .int .i64 g, .int .i64 u] 57)).drew.drew.drew from (HK.out.alloc _).drew.drew.drew)
        clear ht htl
        go_wp2_with (first | (with_reducible refine wpList_load_row rfl 62 _ rfl w.heap.size rfl 62 _ (0, 0) _ HL.out Try.underlying62 rfl HIT.out ?_) | (with_reducible refine wpList_store_row rfl 62 _ _ rfl (w.heap.size + 1) _ rfl rfl 62 _ HLR.out HIT.out HZT.out HOT.out ?_))
        subst hts
        refine bodyPost_ret (results_cell2 Try.results40 rfl (run_loadVar_row _ (w.heap.size + 1) 62 62 ((t).map (Value.int .i64)).toArray (0, 0) _ (setRow_heap _ _ _ _ 62 _ HLR.out) Try.underlying62 rfl HIT.out)) rfl ⟨HKE.out.call (keep_setRow _ _ _) (by simp), .inl ⟨HN.out, rfl⟩⟩
end Go.Proofs.Ytfcellgjbbfobaa
/- Explore: Check. -/
namespace Go.Proofs.Ytfcellgjbbfobaa
open Go.RowKit Go.Ex
def totTo (ps : List (List Ln)) (k : Nat) : Nat := (ps.take k).flatten.length
theorem totTo_next {ps : List (List Ln)} {k : Nat} {l : List Ln} (h : ps[k]? = some l) : totTo ps (k + 1) = totTo ps k + l.length := by
  unfold totTo
  rw [List.take_add_one, h]; simp
theorem totTo_le (ps : List (List Ln)) (k : Nat) : totTo ps k ≤ ps.flatten.length := by
  unfold totTo
  have h := congrArg (fun l => l.flatten.length) (List.take_append_drop k ps)
  simp only [List.flatten_append, List.length_append] at h
  omega
set_option maxRecDepth 100000 in
set_option maxHeartbeats 4000000 in
theorem check39_ok {w : World} {a : Option Addr} {n c : Nat} {ps : List (List Ln)} (hv : RowsL w a n c ps) (hp : PsOk ps) :
    Calls Try.prog 39 #[.slice a n c] w fun e w' => e = .returned (.int .i64 0) ∧ Keep [] w w' := by
  have HV := Lib.hid hv
  have HP := Lib.hid hp
  have HL := Lib.hid hv.len
  have hn4 : n ≤ 4 := by rw [← hv.len]; exact hp.few
  have htot := hp.tot
  have hrm := hv.room
  have hms := hv.most
  clear hv hp
  go_enter Try.func39, Try.ntmps39
  go_wp2_with (first | (with_reducible refine Txt.wp_region_text mixed quiet (by decide +kernel) ?_) | (with_reducible refine Txt.text_done (by kernel_rfl) ?_))
  go_loopw [12, 3] (fun j v wr => ∃ k : Nat, k ≤ n ∧ j = .int .i64 k ∧ v = .int .i64 (totTo ps k : Nat) ∧ Hid (Keep [] w wr)) (fun j _ _ => n - (intOf j).toNat)
  case atStart => exact ⟨0, by omega, rfl, rfl, Lib.hid (Keep.refl _ _)⟩
  case round =>
    obtain ⟨k, hk, rfl, rfl, HK⟩ := hrel
    obtain ⟨M, hM⟩ : ∃ M, totTo ps k = M := ⟨_, rfl⟩
    have hM12 : M ≤ 12 := by have := totTo_le ps k; omega
    have HM := Lib.hid hM
    rw [hM]
    clear hM
    by_cases hlt : k < n
    · obtain ⟨l, hl⟩ : ∃ l, ps[k]? = some l := ⟨_, List.getElem?_eq_getElem (by rw [HL.out]; exact hlt)⟩
      obtain ⟨b, off, ar, cr, rfl, hc, hlv⟩ := (HV.out.keep HK.out).at_ k l hl
      have HN := Lib.hid (totTo_next hl)
      obtain ⟨m, hm⟩ : ∃ m, l.length = m := ⟨_, rfl⟩
      have hm12 : m ≤ 12 := by have := totTo_le ps (k + 1); have := HN.out; omega
      rw [hm] at hc hlv HN
      have hdec : decide ((k : Int) < (n : Int)) = true := by simp; omega
      clear hl hm hlv
      go_wp2_with (first | (with_reducible refine Txt.wp_region_text mixed quiet (by decide +kernel) ?_) | (with_reducible refine Txt.text_done (by kernel_rfl) ?_))
      exact ⟨⟨k + 1, hlt, by go_num, by rw [HN.out, HM.out]; go_num, HK⟩, by simp [intOf]; omega⟩
    · obtain rfl : k = n := by omega
      have hdec : decide ((k : Int) < (k : Int)) = false := by simp
      have hd1 : decide ((k : Int) > 4) = false := by simp; omega
      have hd2 : decide ((M : Int) > 12) = false := by simp; omega
      go_wp2_with (first | (with_reducible refine Txt.wp_region_text mixed quiet (by decide +kernel) ?_) | (with_reducible refine Txt.text_done (by kernel_rfl) ?_))
      clear hdec hd1 hd2 HM hM12
      go_loopw [30] (fun j wr2 => ∃ i : Nat, i ≤ k ∧ j = .int .i64 i ∧ Hid (Keep [] w wr2)) (fun j _ => k - (intOf j).toNat)
      case atStart => exact ⟨0, by omega, rfl, HK⟩
      case round =>
        obtain ⟨i, hi, rfl, HK2⟩ := hrel
        by_cases hlt2 : i < k
        · obtain ⟨l, hl⟩ : ∃ l, ps[i]? = some l := ⟨_, List.getElem?_eq_getElem (by rw [HL.out]; exact hlt2)⟩
          obtain ⟨b, off, ar, cr, rfl, hc, hlv⟩ := (HV.out.keep HK2.out).at_ i l hl
          have HOK := Lib.hid (HP.out.all l (List.mem_of_getElem? hl))
          have HLL := Lib.hid (show l.length = l.length from rfl)
          have hcr := hlv.room
          have hcm := hlv.most
          rw [show maxLen = 9223372036854775807 from rfl] at hcm
          obtain ⟨m, hm⟩ : ∃ m, l.length = m := ⟨_, rfl⟩
          rw [hm] at hc hlv hcr
          have HM := Lib.hid hm
          have HLV := Lib.hid hlv
          have hdec : decide ((i : Int) < (k : Int)) = true := by simp; omega
          clear hl hm hlv
          go_wp2_with (first | (with_reducible refine Txt.wp_region_text mixed quiet (by decide +kernel) ?_) | (with_reducible refine Txt.text_done (by kernel_rfl) ?_))
          go_loopw [36] (fun j wr3 => ∃ t : Nat, t ≤ m ∧ j = .int .i64 t ∧ Hid (Keep [] wr wr3)) (fun j _ => m - (intOf j).toNat)
          case atStart => exact ⟨0, by omega, rfl, Lib.hid (Keep.refl _ _)⟩
          case round =>
            obtain ⟨t, ht, rfl, HK3⟩ := hrel
            by_cases hlt3 : t < m
            · obtain ⟨x, hx⟩ : ∃ x, l[t]? = some x := ⟨_, List.getElem?_eq_getElem (by rw [HM.out]; exact hlt3)⟩
              obtain ⟨⟨h1, h2⟩, ⟨h3, h4⟩, h5, h6⟩ := HOK.out x (List.mem_of_getElem? hx)
              obtain ⟨b', off', hab, c0, c1, c2⟩ := (HLV.out.keep HK3.out (by simp)).at_ hlt3
              have hlat : lat l t = x := by rw [lat, List.getD_eq_getElem?_getD, hx]; rfl
              rw [hlat] at c0 c1 c2
              obtain ⟨q, g, u⟩ := x
              simp only at h1 h2 h3 h4 h5 h6 c0 c1 c2
              subst hab
              have d1 : decide (q < 1) = false := by simp; omega
              have d2 : decide (q > 4) = false := by simp; omega
              have d3 : decide (g < 0) = false := by simp; omega
              have d4 : decide (g ≥ 4) = false := by simp; omega
              have d5 : decide (u < -1000) = false := by simp; omega
              have d6 : decide (u > 1000) = false := by simp; omega
              have hdec2 : decide ((t : Int) < (m : Int)) = true := by simp; omega
              clear hx hlat
              go_wp2_with (first | (with_reducible refine Txt.wp_region_text mixed quiet (by decide +kernel) ?_) | (with_reducible refine Txt.text_done (by kernel_rfl) ?_))
              exact ⟨⟨t + 1, hlt3, by go_num, Lib.hid (HK3.out.alloc _)⟩, by simp [intOf]; omega⟩
            · have htm : t = m := by omega
              subst htm
              go_wp2_with (first | (with_reducible refine Txt.wp_region_text mixed quiet (by decide +kernel) ?_) | (with_reducible refine Txt.text_done (by kernel_rfl) ?_))
              exact ⟨⟨i + 1, hlt2, by go_num, Lib.hid (HK2.out.trans HK3.out)⟩, by simp [intOf]; omega⟩
        · have hik : i = k := by omega
          subst hik
          go_wp2_with (first | (with_reducible refine Txt.wp_region_text mixed quiet (by decide +kernel) ?_) | (with_reducible refine Txt.text_done (by kernel_rfl) ?_))
          go_ret
          exact ⟨rfl, HK2.out⟩
end Go.Proofs.Ytfcellgjbbfobaa
