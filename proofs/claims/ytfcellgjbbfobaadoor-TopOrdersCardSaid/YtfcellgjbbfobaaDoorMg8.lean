/- Texts laid together: R9 R10 R11 DQ3 EP2 EP5. -/
import Derived.Test.YtfcellgjbbfobaaDoorMg7
import Derived.Deep.AppendLies
import Derived.Laws.AppendOwnNone
/- Rows of bytes, as an argument. -/
namespace Go
open Go.ChangeShapes Go.WideShapes Go.ChangeAt Go.RowKit Go.Deep
/-- A slice of slices of bytes. -/
structure BRowsV (w : World) (a : Option Addr) (n c : Nat) (A : Nat → Option Addr) (L C : Nat → Nat) (Z : Nat → List Int) : Prop where
  room : n ≤ c
  most : c ≤ maxLen
  onNil : a = none → c = 0
  cells : 0 < n → ∃ b off, a = some ⟨b, off, none⟩ ∧ ∀ i, i < n → w.cell? ⟨b, off + i, none⟩ = some (.slice (A i) (L i) (C i))
  rows : ∀ i, i < n → BytesV w (A i) (L i) (C i) (Z i)
section
variable {H : Type} {enc : TypeId × Value → H} {P : Program} {W : World}
theorem byterows_of {t e q : TypeId} {a : Option Addr} {n c : Nat} {d : DataW H} {ps : List MemPlace} (ht : P.underlying t = some (.slice e)) (he : P.underlying e = some (.slice q)) (hq : P.underlying q = some (.int .u8)) (ce : P.cellsOf e = 1) (cq : P.cellsOf q = 1)
    (h : DataW.Trod enc P W 0 (fun _ => true) true t (.slice a n c) d ps) : ∃ A L C Z, BRowsV W a n c A L C Z := by
  obtain ⟨fuel, hf⟩ := h
  rcases open_int_rows ht he hq ce cq hf with ⟨hcs, _⟩ | ⟨x, l, c', A, L, C, Z, hcs, _, hl, hm, _, hr⟩
  · simp [Value.cells] at hcs
    obtain ⟨rfl, rfl, rfl⟩ := hcs
    exact ⟨fun _ => none, fun _ => 0, fun _ => 0, fun _ => [], Nat.le_refl _, Nat.zero_le _, fun _ => rfl, fun h => absurd h (by decide), fun i hi => absurd hi (by omega)⟩
  · simp [Value.cells] at hcs
    obtain ⟨rfl, rfl, rfl⟩ := hcs
    refine ⟨A, L, C, fun i => (Z i).take (L i), hl, hm, fun h => (by cases h), fun hn => ?_, fun i hi => ?_⟩
    · obtain ⟨b, off, spot⟩ := x
      have hspot : spot = none := by simpa [Addr.add] using World.cell?_spot (hr 0 (by omega)).1
      subst hspot
      exact ⟨b, off, rfl, fun i hi => by rw [← add_plain]; exact (hr i (by omega)).1⟩
    · obtain ⟨_, h1, h2, h3, h4, h5, h6⟩ := hr i (by omega)
      cases hA : A i with
      | none =>
        have hc := h5 hA
        have hl0 : L i = 0 := by omega
        have hz0 : (Z i).take (L i) = [] := by rw [hl0]; rfl
        (try dsimp only)
        rw [hz0, hl0, hc]
        exact BytesV.empty W
      | some y => exact BytesV.ofRow h1 h2 h3 (fun j hj => (h6 y hA).2 j (by omega)) h4
end
end Go
/- append(s, l...) of one's own row, l of whatever length. -/
namespace Go
theorem World.grownBy.same (w : World) (r : Option Nat) : w.grownBy w r := ⟨rfl, rfl, rfl, Nat.le_refl _, fun _ _ _ => rfl⟩
section
variable {P : Program} {w : World}
theorem run_append_any (t ty : TypeId) (base : Nat) (e : TypeId) (i : TypeInfo) (z : Value) (size bytes : Nat) (ht : P.underlying t = some (.slice e)) (hi : P.info? e = some i) (hz : i.zero = some z)
    (hsize : i.size = size) (hby : i.bytes = bytes) (hzs : z.cells.size = size) (hsz : 0 < size)
    (v : Value) (n : Nat) (xs : List Value) (hown : w.ownsRow base e size v n xs)
    (xa : Option Addr) (m c : Nat) (news : List Value) (hl : news.length = m * size) (hnews : 0 < m → ∃ ad, xa = some ad ∧ ∀ j u, news[j]? = some u → w.cell? (ad.add j) = some u) (h1 : ∀ u ∈ news, u.oneCell' = true)
    (h63 : n + m ≤ maxLen) (hbytes : (n + m) * bytes ≤ 140737488355328) (hbase : base ≤ w.heap.size) :
    ∃ v' w', (Builtin.append_ #[t, t] ty #[v, .slice xa m c]).run P w = .ok v' w' ∧ w'.ownsRow base e size v' (n + m) (xs ++ news) ∧ w.grownBy w' v.ownBlock ∧ (v'.ownBlock = v.ownBlock ∨ v'.ownBlock = some w.heap.size) ∧ ∃ a' c', v' = .slice a' (n + m) c' := by
  rcases Nat.eq_zero_or_pos m with h0 | h0
  · subst h0
    have hnil : news = [] := List.eq_nil_of_length_eq_zero (by omega)
    subst hnil
    have hr : (Builtin.append_ #[t, t] ty #[v, .slice xa 0 c]).run P w = .ok v w := by
      rcases hown.2 with ⟨rfl, rfl⟩ | ⟨g, cap, cur, rfl, _, _, hnc, _⟩
      · cases xa <;> simp [Builtin.append_, run_underlying ht, sizeOf, typeInfo, hi, Builtin.lenOf, Builtin.firstCells, loadCells, loadCellsFrom]
      · cases xa <;> simp [Builtin.append_, run_underlying ht, sizeOf, typeInfo, hi, Builtin.lenOf, Builtin.firstCells, hnc, storeCells, loadCells, loadCellsFrom]
    refine ⟨v, w, hr, by rw [List.append_nil]; exact hown, World.grownBy.same w _, .inl rfl, ?_⟩
    rcases hown.2 with ⟨rfl, rfl⟩ | ⟨g, cap, cur, rfl, _, _, hnc, _⟩
    · exact ⟨_, _, rfl⟩
    · exact ⟨_, _, rfl⟩
  · obtain ⟨ad, rfl, hc⟩ := hnews h0
    obtain ⟨g, cap, w', hr, h2, h3, h4, _⟩ := run_append_lies (P := P) (w := w) t ty base e i z size bytes ht hi hz hsize hby hzs hsz v n xs hown ad m c news hl hc h1 h0 h63 hbytes hbase _ rfl
    exact ⟨_, w', hr, h2, h3, h4.imp (fun h => h.symm) (fun h => by rw [h]; rfl), _, _, rfl⟩
theorem step_append_any {ops : Array Oper} {o : Oper} {a : Act} {K : Act → World → Prop} {Q : Exit → Act → World → Prop} {E : Prop} (hgd : o.guard = none) (s x : Operand) (t : TypeId)
    (ho : o.op = .call { callee := .builtin .append, args := #[s, x], argTypes := #[t, t] })
    (base : Nat) (e : TypeId) (i : TypeInfo) (z : Value) (size bytes : Nat) (ht : P.underlying t = some (.slice e)) (hi : P.info? e = some i) (hz : i.zero = some z)
    (hsize : i.size = size) (hby : i.bytes = bytes) (hzs : z.cells.size = size) (hsz : 0 < size)
    (v : Value) (n : Nat) (xs : List Value) (hs : a.eval s = v) (hown : w.ownsRow base e size v n xs)
    (xa : Option Addr) (m c : Nat) (news : List Value) (hx : a.eval x = .slice xa m c) (hl : news.length = m * size) (hnews : 0 < m → ∃ ad, xa = some ad ∧ ∀ j u, news[j]? = some u → w.cell? (ad.add j) = some u) (h1 : ∀ u ∈ news, u.oneCell' = true)
    (h63 : n + m ≤ maxLen) (hbytes : (n + m) * bytes ≤ 140737488355328) (hbase : base ≤ w.heap.size)
    (h : ∀ a' c' w', w'.ownsRow base e size (.slice a' (n + m) c') (n + m) (xs ++ news) → w.grownBy w' v.ownBlock → ((Value.slice a' (n + m) c').ownBlock = v.ownBlock ∨ (Value.slice a' (n + m) c').ownBlock = some w.heap.size) → K (a.put o.dst (.slice a' (n + m) c')) w') :
    if Region.wanted o (yielded ops a.tmps) = true then Oper.wp P o a w K Q else E := by
  have hw : Region.wanted o (yielded ops a.tmps) = true := by simp [Region.wanted, hgd]
  rw [if_pos hw]
  obtain ⟨v', w', hr, h2, h3, h4, a', c', rfl⟩ := run_append_any (P := P) (w := w) t o.type base e i z size bytes ht hi hz hsize hby hzs hsz v n xs hown xa m c news hl hnews h1 h63 hbytes hbase
  unfold Oper.wp execOp
  simp only [ho, resolve, invoke, builtin, Sem.run_bind, Sem.run_pure, Result.andThen_ok, List.map_toArray, List.map_cons, List.map_nil, hs, hx, hr]
  exact h a' c' w' h2 h3 h4
end
end Go
/- append(s, l...) of one's own row, l of whatever length, in a plain region. -/
namespace Go
theorem wpList_append_any {P : Program} {w : World} {ops : Array Oper} {rest : List Oper} {o : Oper} {a : Act} {Q : Exit → Act → World → Prop} (hgd : o.guard = none) (s x : Operand) (t : TypeId)
    (ho : o.op = .call { callee := .builtin .append, args := #[s, x], argTypes := #[t, t] })
    (base : Nat) (e : TypeId) (i : TypeInfo) (z : Value) (size bytes : Nat) (ht : P.underlying t = some (.slice e)) (hi : P.info? e = some i) (hz : i.zero = some z)
    (hsize : i.size = size) (hby : i.bytes = bytes) (hzs : z.cells.size = size) (hsz : 0 < size)
    (v : Value) (n : Nat) (xs : List Value) (hs : a.eval s = v) (hown : w.ownsRow base e size v n xs)
    (xa : Option Addr) (m c : Nat) (news : List Value) (hx : a.eval x = .slice xa m c) (hl : news.length = m * size) (hnews : 0 < m → ∃ ad, xa = some ad ∧ ∀ j u, news[j]? = some u → w.cell? (ad.add j) = some u) (h1 : ∀ u ∈ news, u.oneCell' = true)
    (h63 : n + m ≤ maxLen) (hbytes : (n + m) * bytes ≤ 140737488355328) (hbase : base ≤ w.heap.size)
    (h : ∀ a' c' w', w'.ownsRow base e size (.slice a' (n + m) c') (n + m) (xs ++ news) → w.grownBy w' v.ownBlock → ((Value.slice a' (n + m) c').ownBlock = v.ownBlock ∨ (Value.slice a' (n + m) c').ownBlock = some w.heap.size) → wpList P ops Q rest (a.put o.dst (.slice a' (n + m) c')) w') : wpList P ops Q (o :: rest) a w := by
  refine wpList_plain hgd fun K hK => ?_
  obtain ⟨v', w', hr, h2, h3, h4, a', c', rfl⟩ := run_append_any (P := P) (w := w) t o.type base e i z size bytes ht hi hz hsize hby hzs hsz v n xs hown xa m c news hl hnews h1 h63 hbytes hbase
  unfold Oper.wp execOp
  simp only [ho, resolve, invoke, builtin, Sem.run_bind, Sem.run_pure, Result.andThen_ok, List.map_toArray, List.map_cons, List.map_nil, hs, hx, hr]
  exact hK _ _ (h a' c' w' h2 h3 h4)
end Go
/- Part: slices of steps. -/
namespace Go
open Go.RowKit
theorem infoQ {o : Option TypeInfo} {z : Option Value} {s b : Nat} (h : o.map (fun i => (i.zero, i.size, i.bytes)) = some (z, s, b)) : ∃ i, o = some i ∧ i.zero = z ∧ i.size = s ∧ i.bytes = b := by
  obtain ⟨i, hi, he⟩ := Option.map_eq_some_iff.1 h
  simp only [Prod.mk.injEq] at he
  exact ⟨i, hi, he.1, he.2.1, he.2.2⟩
theorem neTypeQ {w : World} {a b : Nat} {c1 c2 : Array Value} {t1 t2 : TypeId} {f1 f2 : Nat × Nat} (h1 : w.heap[a]? = some (.cells c1 t1 f1)) (h2 : w.heap[b]? = some (.cells c2 t2 f2)) (h : t1 ≠ t2) : a ≠ b := by
  rintro rfl
  rw [h1] at h2
  injection h2 with h2
  injection h2 with _ h2 _
  exact h h2
theorem ownBaseQ {w : World} {b b' e m n : Nat} {v : Value} {xs : List Value} (h : w.ownsRow b e m v n xs) (hb : b' ≤ b) : w.ownsRow b' e m v n xs :=
  ⟨h.1, h.2.imp id fun ⟨g, cap, cur, h1, h2, h3⟩ => ⟨g, cap, cur, h1, Nat.le_trans hb h2, h3⟩⟩
theorem ownLtQ {w : World} {B e m n : Nat} {v : Value} {xs : List Value} (h : w.ownsRow B e m v n xs) : ∀ g, v.ownBlock = some g → B ≤ g ∧ g < w.heap.size ∧ ∃ cs, w.heap[g]? = some (.cells cs e (0, 0)) := by
  intro g hg
  rcases h.2 with ⟨rfl, _⟩ | ⟨g', cap, cur, rfl, hb, hgg, _⟩
  · simp [Value.ownBlock] at hg
  · simp [Value.ownBlock] at hg
    subst hg
    exact ⟨hb, (Array.getElem?_eq_some_iff.1 hgg).1, cur, hgg⟩
theorem ownSliceQ {w : World} {B e m n : Nat} {v : Value} {xs : List Value} (ho : w.ownsRow B e m v n xs) : ∃ a c, v = .slice a n c ∧ n ≤ c ∧ c ≤ 9223372036854775807 ∧ (∀ x, a = some x → v.ownBlock = some x.block ∧ x = ⟨x.block, 0, none⟩) := by
  rcases ho.2 with ⟨rfl, h0⟩ | ⟨g, cap, cur, rfl, hb, hg, hnc, hcm, hcs, ht⟩
  · subst h0
    exact ⟨none, 0, rfl, Nat.le_refl _, Nat.zero_le _, fun x hx => by cases hx⟩
  · exact ⟨_, _, rfl, hnc, hcm, fun x hx => by cases hx; exact ⟨rfl, rfl⟩⟩
theorem ownRoomQ {w : World} {B e m n c : Nat} {a : Option Addr} {xs : List Value} (h : w.ownsRow B e m (.slice a n c) n xs) : n ≤ c ∧ c ≤ 9223372036854775807 := by
  obtain ⟨a', c', he, h1, h2, _⟩ := ownSliceQ h
  injection he with _ _ h3
  rw [h3]
  exact ⟨h1, h2⟩
theorem lnsNews {w : World} {a : Option Addr} {n c : Nat} {ls : List Ln} (h : LnsV w a n c ls) : 0 < n → ∃ ad, a = some ad ∧ ∀ j u, (lanesC ls)[j]? = some u → w.cell? (ad.add j) = some u := fun hn => by
  obtain ⟨b, off, rfl, hc⟩ := h.cells hn
  refine ⟨_, rfl, fun j u hu => ?_⟩
  have h1 := (List.getElem?_eq_some_iff.1 hu).1
  rw [lanesC_len, h.len] at h1
  rw [Go.WideShapes.add_plain, hc j h1]
  exact hu
theorem lanesOne {ls : List Ln} : ∀ u ∈ lanesC ls, u.oneCell' = true := fun u hu => by
  obtain ⟨L, _, hu⟩ := List.mem_flatMap.1 hu
  simp [Ln.cells] at hu
  rcases hu with hu | hu | hu <;> (subst hu; rfl)
theorem own_empty (w : World) (e m : TypeId) : (w.alloc (.cells #[] e)).ownsRow w.heap.size e m (.slice (some ⟨w.heap.size, 0, none⟩) 0 0) 0 [] :=
  ⟨by simp, .inr ⟨w.heap.size, 0, #[], rfl, Nat.le_refl _, blk_new w _, Nat.le_refl _, Nat.zero_le _, by simp, by simp⟩⟩
end Go
namespace Go.Proofs.YtfcellgjbbfobaaDoor
open Go.RowKit
theorem info29 : (Tryd.prog.info? 52).map (fun i => (i.zero, i.size, i.bytes)) = some (some (.agg #[.int .i64 0, .int .i64 0, .int .i64 0]), 3, 24) := by kernel_rfl
set_option maxRecDepth 100000 in
set_option maxHeartbeats 1000000 in
theorem clone12_any {w : World} {a : Option Addr} {n c : Nat} {ls : List Ln} (hv : LnsV w a n c ls) (hn : n ≤ 1000) :
    Calls Tryd.prog 26 #[.slice a n c] w fun e w' => ∃ v, e = .returned v ∧ Keep [] w w' ∧ w'.ownsRow w.heap.size 52 3 v n (lanesC ls) := by
  obtain ⟨i29, hi, hz0, hz1, hz2⟩ := infoQ info29
  cases a with
  | none =>
    have h0 : n = 0 := by
      by_cases h : 0 < n
      · obtain ⟨b, off, he, _⟩ := hv.cells h; cases he
      · omega
    subst h0
    have hnil : ls = [] := List.eq_nil_of_length_eq_zero hv.len
    subst hnil
    clear hv
    have hb1 : (binOp BinOp.eql 44 (.slice none 0 c) (.slice none 0 0)).run Tryd.prog w = .ok (.bool true) w := by kernel_rfl
    go_enter Tryd.func26, Tryd.ntmps26
    go_wp2_with (first | (with_reducible refine Txt.wp_region_text mixed quiet (by decide +kernel) ?_) | (with_reducible refine Txt.text_done (by kernel_rfl) ?_))
    go_ret
    exact ⟨_, rfl, Keep.refl _ _, World.ownsRow_nil _ _ _ _⟩
  | some ad =>
    have hk : Keep [] w (w.alloc (.cells #[] 52)) := (Keep.refl [] w).alloc _
    have HN := Lib.hid (lnsNews (hv.keep hk (by simp)))
    have HLN : Hid ((lanesC ls).length = n * 3) := Lib.hid (by rw [lanesC_len, hv.len, Nat.mul_comm])
    have HO := Lib.hid (own_empty w 52 3)
    have HK := Lib.hid hk
    have hr := hv.room
    have hm := hv.most
    have h9 : maxLen = 9223372036854775807 := rfl
    rw [h9] at hm
    clear hv hk h9
    have hb1 : (binOp BinOp.eql 44 (.slice (some ad) n c) (.slice none 0 0)).run Tryd.prog w = .ok (.bool false) w := by kernel_rfl
    go_enter Tryd.func26, Tryd.ntmps26
    go_wp2_with (first | (with_reducible refine Txt.wp_region_text mixed quiet (by decide +kernel) ?_) | (with_reducible refine Txt.text_done (by kernel_rfl) ?_) | (at_builtin; refine wpList_append_any rfl _ _ 44 rfl w.heap.size 52 i29 (.agg #[.int .i64 0, .int .i64 0, .int .i64 0]) 3 24 Tryd.underlying44 hi hz0 hz1 hz2 rfl (by decide) (.slice (some ⟨w.heap.size, 0, none⟩) 0 0) 0 [] rfl HO.out (some ad) n c (lanesC ls) rfl HLN.out HN.out lanesOne (by unfold maxLen; omega) (by omega) (by simp) ?_; intro a8 c8 w8 hown8 hgr8 hat8; have HO8 := Lib.hid hown8; have HG8 := Lib.hid hgr8; clear hown8 hgr8 hat8))
    go_ret
    have h := HO8.out
    rw [Nat.zero_add, List.nil_append] at h
    have hk8 : Keep [w.heap.size] (w.alloc (.cells #[] 52)) w8 := Keep.ofGrown HG8.out (fun x hx => by simp [Value.ownBlock] at hx; simp [hx])
    exact ⟨_, by first | rfl | (rw [Nat.zero_add]; done) | simp, HK.out.call hk8 (fun g hg => .inr (by rw [List.mem_singleton.1 hg]; exact Nat.le_refl _)), h⟩
set_option maxRecDepth 100000 in
set_option maxHeartbeats 2000000 in
theorem equal23_any {w : World} {a1 a2 : Option Addr} {n c1 m c2 : Nat} {xs ys : List Ln} (h1 : LnsV w a1 n c1 xs) (h2 : LnsV w a2 m c2 ys) :
    Calls Tryd.prog 16 #[.slice a1 n c1, .slice a2 m c2] w fun e w' => e = .returned (.bool (decide (xs = ys))) ∧ Keep [] w w' := by
  have HX := Lib.hid h1
  have HY := Lib.hid h2
  have HL1 := Lib.hid h1.len
  have HL2 := Lib.hid h2.len
  have r1 := h1.room
  have m1 := h1.most
  have r2 := h2.room
  have m2 := h2.most
  have h9 : maxLen = 9223372036854775807 := rfl
  rw [h9] at m1 m2
  clear h9
  by_cases hnm : n = m
  · subst hnm
    clear h1 h2
    go_enter Tryd.func16, Tryd.ntmps16
    go_wp2_with fail
    go_loopw [13] (fun i wr => ∃ k : Nat, k ≤ n ∧ i = .int .i64 k ∧ Hid (xs.take k = ys.take k) ∧ Hid (Keep [] w wr)) (fun i _ => n - (intOf i).toNat)
    case atStart => exact ⟨0, by omega, rfl, Lib.hid (by simp), Lib.hid (Keep.refl _ _)⟩
    case round =>
      obtain ⟨k, hk, rfl, HT, HK⟩ := hrel
      by_cases hlt : k < n
      · obtain ⟨x, hx⟩ : ∃ x, xs[k]? = some x := ⟨_, List.getElem?_eq_getElem (by rw [HL1.out]; exact hlt)⟩
        obtain ⟨y, hy⟩ : ∃ y, ys[k]? = some y := ⟨_, List.getElem?_eq_getElem (by rw [HL2.out]; exact hlt)⟩
        obtain ⟨b, off, rfl, c0, c1', c2'⟩ := lnsAt (HX.out.keep HK.out (by simp)) hx
        obtain ⟨b', off', rfl, d0, d1, d2⟩ := lnsAt (HY.out.keep HK.out (by simp)) hy
        have HXX := Lib.hid hx
        have HYY := Lib.hid hy
        have hdec : decide ((k : Int) < (n : Int)) = true := by simp; omega
        clear hx hy
        by_cases he : x = y
        · subst he
          have HT2 : Hid (xs.take (k + 1) = ys.take (k + 1)) := Lib.hid (by rw [List.take_add_one, List.take_add_one, HT.out, HXX.out, HYY.out])
          obtain ⟨q, g, u⟩ := x
          simp only at c0 c1' c2' d0 d1 d2
          go_wp2_with fail
          go_region
          all_goals
            go_wp2_with fail
            exact ⟨⟨k + 1, hlt, by go_num, HT2, Lib.hid (by repeat (first | exact HK.out | apply Keep.drew))⟩, by simp [intOf]; omega⟩
        · have HNE : Hid (decide (xs = ys) = false) := Lib.hid (decide_eq_false (fun e => he (by have := HXX.out; rw [e, HYY.out] at this; injection this with this; exact this.symm)))
          obtain ⟨q, g, u⟩ := x
          obtain ⟨q2, g2, u2⟩ := y
          simp only at c0 c1' c2' d0 d1 d2
          have hne : ¬ (q = q2 ∧ g = g2 ∧ u = u2) := fun ⟨e1, e2, e3⟩ => he (by rw [e1, e2, e3])
          obtain ⟨b1, h1⟩ : ∃ b1, (q == q2) = b1 := ⟨_, rfl⟩
          obtain ⟨b2, h2⟩ : ∃ b2, (g == g2) = b2 := ⟨_, rfl⟩
          obtain ⟨b3, h3⟩ : ∃ b3, (u == u2) = b3 := ⟨_, rfl⟩
          have hb : (b1 && b2 && b3) = false := by
            rw [← h1, ← h2, ← h3]
            rw [Bool.eq_false_iff]
            intro h
            simp at h
            exact hne ⟨h.1.1, h.1.2, h.2⟩
          have HB := Lib.hid hb
          clear he hne hb
          cases b1 <;> cases b2 <;> cases b3
          all_goals first
            | (have := HB.out; simp at this; done)
            | (go_wp2_with fail; go_region; all_goals (go_wp2_with fail; go_ret; exact ⟨ret_bool HNE.out.symm, by repeat (first | exact HK.out | apply Keep.drew)⟩))
      · obtain rfl : k = n := by omega
        have HE : Hid (decide (xs = ys) = true) := Lib.hid (decide_eq_true (by have h := HT.out; rw [List.take_of_length_le (by rw [HL1.out]; exact Nat.le_refl _), List.take_of_length_le (by rw [HL2.out]; exact Nat.le_refl _)] at h; exact h))
        have hdec : decide ((k : Int) < (k : Int)) = false := by simp
        go_wp2_with fail
        go_ret
        exact ⟨ret_bool HE.out.symm, HK.out⟩
  · have HE : Hid (decide (xs = ys) = false) := Lib.hid (decide_eq_false (fun e => hnm (by rw [← HL1.out, ← HL2.out, e])))
    have hne : ((n : Int) != (m : Int)) = true := by simp; omega
    clear h1 h2
    go_enter Tryd.func16, Tryd.ntmps16
    go_wp2_with (first | (with_reducible refine Txt.wp_region_text mixed quiet (by decide +kernel) ?_) | (with_reducible refine Txt.text_done (by kernel_rfl) ?_))
    go_ret
    exact ⟨ret_bool HE.out.symm, Keep.refl _ _⟩
theorem one3 {x y z : Int} : ∀ u ∈ [Value.int .i64 x, .int .i64 y, .int .i64 z], u.oneCell' = true := fun u hu => by
  simp at hu
  rcases hu with hu | hu | hu <;> (subst hu; rfl)
end Go.Proofs.YtfcellgjbbfobaaDoor
/- Explore: what is just added is all there in the end; of three taken apart some may be lost; plain. -/
namespace Go.Ex
open Go.Bf
def sumC (c : Nat) (l : List Ln) : Int := (l.map fun d => if d.g = (c : Int) then d.u else 0).sum
theorem sumC_app (c : Nat) (a b : List Ln) : sumC c (a ++ b) = sumC c a + sumC c b := by simp [sumC]
theorem sumC_take {c : Nat} {l : List Ln} {n : Nat} {d : Ln} (h : l[n]? = some d) : sumC c (l.take (n + 1)) = sumC c (l.take n) + if d.g = (c : Int) then d.u else 0 := by
  rw [List.take_add_one, h, sumC_app]; simp [sumC]
theorem sumC4 (c : Nat) (ps : List (List Ln)) (h : ps.length ≤ 4) : sumC c (ps.getD 0 []) + sumC c (ps.getD 1 []) + sumC c (ps.getD 2 []) + sumC c (ps.getD 3 []) = sumC c ps.flatten := by
  match ps, h with
  | [], _ => rfl
  | [a], _ => simp [sumC]
  | [a, b], _ => simp [sumC]
  | [a, b, c], _ => simp [sumC]; omega
  | [a, b, c, d], _ => simp [sumC]; omega
def done (ps : List (List Ln)) (s : List Int) (c who : Nat) : Int := sumC c ((ps.getD who []).take (s.getD (8 + who) 0).toNat)
theorem adds_inv {ps : List (List Ln)} (hp : PsOk ps) (ha : ∀ p ∈ ps, ∀ d ∈ p, d.q = 3) {s : List Int} (h : Rc ps.length (nx ps) s0 s) : (∀ c, c < 4 → s.getD c 0 = done ps s c 0 + done ps s c 1 + done ps s c 2 + done ps s c 3) ∧ ∀ i, i < 4 → s.getD (4 + i) 0 = 0 := by
  induction h with
  | start =>
    constructor
    · intro c hc
      have hz : ∀ who, who < 4 → done ps s0 c who = 0 := fun who hw => by
        unfold done
        rw [show s0.getD (8 + who) 0 = 0 by obtain rfl | rfl | rfl | rfl : who = 0 ∨ who = 1 ∨ who = 2 ∨ who = 3 := by omega
                                            all_goals rfl]
        rfl
      rw [hz 0 (by omega), hz 1 (by omega), hz 2 (by omega), hz 3 (by omega)]
      obtain rfl | rfl | rfl | rfl : c = 0 ∨ c = 1 ∨ c = 2 ∨ c = 3 := by omega
      all_goals rfl
    · intro i hi
      obtain rfl | rfl | rfl | rfl : i = 0 ∨ i = 1 ∨ i = 2 ∨ i = 3 := by omega
      all_goals rfl
  | step hr hj hn ih =>
    rename_i s t who
    obtain ⟨ih1, ih2⟩ := ih
    have hok := reach_ok hp hr
    obtain ⟨d, hd, _, rfl⟩ := nx_some hn
    obtain ⟨_, hmem, hpm, hlt⟩ := opAt_lt hd
    have hdo := hp.all _ hpm _ hmem
    have hq := ha _ hpm _ hmem
    have hw4 : who < 4 := by have := hp.few; omega
    have hl := hok.len
    have hle : (eff d who s).length = 12 := by rw [eff_len, hl]
    have heq : eff d who s = s.set d.g.toNat (s.getD d.g.toNat 0 + d.u) := by unfold eff; rw [if_neg (by omega), if_neg (by omega), if_pos hq]
    obtain ⟨_, ⟨hg1, hg2⟩, _⟩ := hdo
    have hat := hok.at_ who hw4
    have hg : ∀ j, ((eff d who s).set (8 + who) (s.getD (8 + who) 0 + 1)).getD j 0 = if j = 8 + who then s.getD (8 + who) 0 + 1 else if j = d.g.toNat then s.getD d.g.toNat 0 + d.u else s.getD j 0 := fun j => by
      rw [getD_set (by omega), heq, getD_set (by omega)]
    have hdone : ∀ c, c < 4 → ∀ z, z < 4 → done ps ((eff d who s).set (8 + who) (s.getD (8 + who) 0 + 1)) c z = done ps s c z + if z = who then (if d.g = (c : Int) then d.u else 0) else 0 := fun c hc z hz => by
      unfold done
      rw [hg]
      by_cases e : z = who
      · subst e
        rw [if_pos rfl, if_pos rfl, show (s.getD (8 + z) 0 + 1).toNat = (s.getD (8 + z) 0).toNat + 1 by omega]
        exact sumC_take hd
      · rw [if_neg (by omega), if_neg (by omega), if_neg e, Int.add_zero]
    constructor
    · intro c hc
      rw [hdone c hc 0 (by omega), hdone c hc 1 (by omega), hdone c hc 2 (by omega), hdone c hc 3 (by omega), hg, if_neg (by omega)]
      have h1 := ih1 c hc
      by_cases e : c = d.g.toNat
      · subst e
        rw [if_pos rfl, h1, show ((d.g.toNat : Nat) : Int) = d.g by omega]
        simp only [if_true]
        obtain rfl | rfl | rfl | rfl : who = 0 ∨ who = 1 ∨ who = 2 ∨ who = 3 := by omega
        all_goals (simp; omega)
      · rw [if_neg e, h1, if_neg (show ¬ d.g = (c : Int) by omega)]
        simp
    · intro i hi
      rw [hg, if_neg (by omega), if_neg (by omega)]
      exact ih2 i hi
def wantS (ps : List (List Ln)) : List Int := [sumC 0 ps.flatten, sumC 1 ps.flatten, sumC 2 ps.flatten, sumC 3 ps.flatten, 0, 0, 0, 0, (ps.getD 0 []).length, (ps.getD 1 []).length, (ps.getD 2 []).length, (ps.getD 3 []).length]
theorem ext12 {a b : List Int} (ha : a.length = 12) (hb : b.length = 12) (h : ∀ i, i < 12 → a.getD i 0 = b.getD i 0) : a = b := by
  refine List.ext_getElem (by rw [ha, hb]) fun i h1 h2 => ?_
  have h3 := h i (by omega)
  rw [List.getD_eq_getElem?_getD, List.getD_eq_getElem?_getD, List.getElem?_eq_getElem h1, List.getElem?_eq_getElem h2] at h3
  exact h3
theorem adds_end {ps : List (List Ln)} (hp : PsOk ps) (ha : ∀ p ∈ ps, ∀ d ∈ p, d.q = 3) {s : List Int} (h : Rc ps.length (nx ps) s0 s) (hf : fin ps s = true) : s = wantS ps := by
  obtain ⟨h1, h2⟩ := adds_inv hp ha h
  have hok := reach_ok hp h
  rw [fin_iff] at hf
  have hat : ∀ who, who < 4 → s.getD (8 + who) 0 = (ps.getD who []).length := fun who hw => by
    have h3 := hok.at_ who hw
    by_cases hl : who < ps.length
    · have h4 := hf who hl
      unfold nx at h4
      split at h4
      · rename_i hn
        unfold opAt at hn
        rw [List.getElem?_eq_none_iff] at hn
        omega
      · rename_i d hd
        obtain ⟨_, hmem, hpm, _⟩ := opAt_lt hd
        rw [if_neg (by rw [ha _ hpm _ hmem]; omega)] at h4
        cases h4
    · have h5 : ps.getD who [] = [] := by rw [List.getD_eq_getElem?_getD, List.getElem?_eq_none (by omega)]; rfl
      rw [h5] at h3 ⊢
      simp at h3 ⊢
      omega
  have hdn : ∀ c who, who < 4 → done ps s c who = sumC c (ps.getD who []) := fun c who hw => by
    unfold done
    rw [hat who hw, Int.toNat_natCast, List.take_length]
  have hc : ∀ c, c < 4 → s.getD c 0 = sumC c ps.flatten := fun c hc => by
    rw [h1 c hc, hdn c 0 (by omega), hdn c 1 (by omega), hdn c 2 (by omega), hdn c 3 (by omega), sumC4 c ps hp.few]
  refine ext12 hok.len rfl fun i hi => ?_
  obtain rfl | rfl | rfl | rfl | rfl | rfl | rfl | rfl | rfl | rfl | rfl | rfl : i = 0 ∨ i = 1 ∨ i = 2 ∨ i = 3 ∨ i = 4 ∨ i = 5 ∨ i = 6 ∨ i = 7 ∨ i = 8 ∨ i = 9 ∨ i = 10 ∨ i = 11 := by omega
  · exact hc 0 (by omega)
  · exact hc 1 (by omega)
  · exact hc 2 (by omega)
  · exact hc 3 (by omega)
  · exact h2 0 (by omega)
  · exact h2 1 (by omega)
  · exact h2 2 (by omega)
  · exact h2 3 (by omega)
  · exact hat 0 (by omega)
  · exact hat 1 (by omega)
  · exact hat 2 (by omega)
  · exact hat 3 (by omega)
/-- What Ends answers: every end once. -/
structure EndsOf (ps : List (List Ln)) (E : List (List Int)) : Prop where
  nodup : E.Nodup
  mem : ∀ s, s ∈ E ↔ Rc ps.length (nx ps) s0 s ∧ fin ps s = true
theorem adds_one {ps : List (List Ln)} (hp : PsOk ps) (ha : ∀ p ∈ ps, ∀ d ∈ p, d.q = 3) {E : List (List Int)} (he : EndsOf ps E) : E = [wantS ps] := by
  obtain ⟨t, ht, hf⟩ := fin_ex hp 12 s0 .start (by decide)
  have h1 := adds_end hp ha ht hf
  have h2 : ∀ s ∈ E, s = wantS ps := fun s hs => adds_end hp ha ((he.mem s).1 hs).1 ((he.mem s).1 hs).2
  have h3 : wantS ps ∈ E := h1 ▸ (he.mem t).2 ⟨ht, hf⟩
  have hn := he.nodup
  match E, h2, h3, hn with
  | [], _, h3, _ => simp at h3
  | [x], h2, _, _ => rw [h2 x (by simp)]
  | x :: y :: l, h2, _, hn =>
    rw [List.nodup_cons] at hn
    exact absurd (by rw [h2 x (by simp), h2 y (by simp)]; simp) hn.1
/-- Runs, for examples. -/
def runL (ps : List (List Ln)) : List Nat → List Int → Option (List Int)
  | [], s => some s
  | j :: l, s => if j < ps.length then (nx ps j s).bind (runL ps l) else none
theorem runL_rc {ps : List (List Ln)} : ∀ {l : List Nat} {s t : List Int}, Rc ps.length (nx ps) s0 s → runL ps l s = some t → Rc ps.length (nx ps) s0 t
  | [], s, t, h, hr => by injection hr with hr; exact hr ▸ h
  | j :: l, s, t, h, hr => by
    unfold runL at hr
    split at hr
    · rename_i hj
      cases hn : nx ps j s with
      | none => rw [hn] at hr; cases hr
      | some u => rw [hn] at hr; exact runL_rc (.step h hj hn) hr
    · cases hr
def inc3 : List (List Ln) := [[⟨1, 0, 0⟩, ⟨2, 0, 1⟩], [⟨1, 0, 0⟩, ⟨2, 0, 1⟩], [⟨1, 0, 0⟩, ⟨2, 0, 1⟩]]
def lvlD (ps : List (List Ln)) : Nat → List (List Int)
  | 0 => [s0]
  | k + 1 => ((lvlD ps k).flatMap fun s => (List.range ps.length).filterMap fun j => nx ps j s).eraseDups
def setD (ps : List (List Ln)) (n : Nat) : List (List Int) := (List.range n).flatMap (lvlD ps)
def closed (ps : List (List Ln)) (U : List (List Int)) : Bool := U.contains s0 && U.all fun s => (List.range ps.length).all fun j => match nx ps j s with | none => true | some t => U.contains t
theorem closed_rc {ps : List (List Ln)} {U : List (List Int)} (hc : closed ps U = true) {s : List Int} (h : Rc ps.length (nx ps) s0 s) : s ∈ U := by
  unfold closed at hc
  rw [Bool.and_eq_true, List.all_eq_true] at hc
  induction h with
  | start => simpa using hc.1
  | step _ hj hn ih =>
    have h1 := hc.2 _ ih
    rw [List.all_eq_true] at h1
    have h2 := h1 _ (List.mem_range.2 hj)
    rw [hn] at h2
    simpa using h2
theorem inc3_ok : PsOk inc3 := ⟨by decide, by unfold DoOk inc3; decide, by decide⟩
theorem inc3_low {s : List Int} (h : Rc inc3.length (nx inc3) s0 s) (hf : fin inc3 s = true) : 1 ≤ s.getD 0 0 ∧ s.getD 0 0 ≤ 3 := by
  have h1 := closed_rc (U := setD inc3 7) (by decide +kernel) h
  have h2 : (setD inc3 7).all (fun s => !fin inc3 s || (decide (1 ≤ s.getD 0 0) && decide (s.getD 0 0 ≤ 3))) = true := by decide +kernel
  rw [List.all_eq_true] at h2
  have h3 := h2 s h1
  rw [hf] at h3
  simpa using h3
theorem inc3_one : ∃ s, Rc inc3.length (nx inc3) s0 s ∧ fin inc3 s = true ∧ s.getD 0 0 = 1 := ⟨[1, 0, 0, 0, 0, 0, 0, 0, 2, 2, 2, 0], runL_rc (l := [0, 1, 2, 0, 1, 2]) .start (by decide +kernel), by decide +kernel, rfl⟩
theorem inc3_three : ∃ s, Rc inc3.length (nx inc3) s0 s ∧ fin inc3 s = true ∧ s.getD 0 0 = 3 := ⟨[3, 0, 0, 0, 0, 1, 2, 0, 2, 2, 2, 0], runL_rc (l := [0, 0, 1, 1, 2, 2]) .start (by decide +kernel), by decide +kernel, rfl⟩
def lowF (E : List (List Int)) : Int := E.foldl (fun m s => min m (s.getD 0 0)) 3
def highF (E : List (List Int)) : Int := E.foldl (fun m s => max m (s.getD 0 0)) 0
theorem lowF_snoc (E : List (List Int)) (s : List Int) : lowF (E ++ [s]) = min (lowF E) (s.getD 0 0) := by simp [lowF]
theorem highF_snoc (E : List (List Int)) (s : List Int) : highF (E ++ [s]) = max (highF E) (s.getD 0 0) := by simp [highF]
theorem foldl_low : ∀ (E : List (List Int)) (m : Int), (∀ s ∈ E, E.foldl (fun m s => min m (s.getD 0 0)) m ≤ s.getD 0 0) ∧ (E.foldl (fun m s => min m (s.getD 0 0)) m ≤ m) ∧ ((∀ s ∈ E, 1 ≤ s.getD 0 0) → 1 ≤ m → 1 ≤ E.foldl (fun m s => min m (s.getD 0 0)) m)
  | [], m => ⟨fun s hs => absurd hs (by simp), Int.le_refl _, fun _ h => h⟩
  | x :: E, m => by
    obtain ⟨h1, h2, h3⟩ := foldl_low E (min m (x.getD 0 0))
    simp only [List.foldl_cons]
    refine ⟨fun s hs => ?_, by omega, fun ha hm => h3 (fun s hs => ha s (by simp [hs])) (by have := ha x (by simp); omega)⟩
    rcases List.mem_cons.1 hs with rfl | hs
    · omega
    · exact h1 s hs
theorem foldl_high : ∀ (E : List (List Int)) (m : Int), (∀ s ∈ E, s.getD 0 0 ≤ E.foldl (fun m s => max m (s.getD 0 0)) m) ∧ (m ≤ E.foldl (fun m s => max m (s.getD 0 0)) m) ∧ ((∀ s ∈ E, s.getD 0 0 ≤ 3) → m ≤ 3 → E.foldl (fun m s => max m (s.getD 0 0)) m ≤ 3)
  | [], m => ⟨fun s hs => absurd hs (by simp), Int.le_refl _, fun _ h => h⟩
  | x :: E, m => by
    obtain ⟨h1, h2, h3⟩ := foldl_high E (max m (x.getD 0 0))
    simp only [List.foldl_cons]
    refine ⟨fun s hs => ?_, by omega, fun ha hm => h3 (fun s hs => ha s (by simp [hs])) (by have := ha x (by simp); omega)⟩
    rcases List.mem_cons.1 hs with rfl | hs
    · omega
    · exact h1 s hs
theorem lost_law {E : List (List Int)} (he : EndsOf inc3 E) : lowF E = 1 ∧ highF E = 3 := by
  obtain ⟨a, ha, hfa, h1⟩ := inc3_one
  obtain ⟨b, hb, hfb, h3⟩ := inc3_three
  have hl := foldl_low E 3
  have hh := foldl_high E 0
  have hla := hl.1 a ((he.mem a).2 ⟨ha, hfa⟩)
  have hhb := hh.1 b ((he.mem b).2 ⟨hb, hfb⟩)
  have hl1 := hl.2.2 (fun s hs => (inc3_low ((he.mem s).1 hs).1 ((he.mem s).1 hs).2).1) (by omega)
  have hh1 := hh.2.2 (fun s hs => (inc3_low ((he.mem s).1 hs).1 ((he.mem s).1 hs).2).2) (by omega)
  unfold lowF highF
  omega
def beg2 : List (List Ln) := [[⟨3, 0, 2⟩], [⟨4, 0, 2⟩]]
theorem beg2_ok : PsOk beg2 := ⟨by decide, by unfold DoOk beg2; decide, by decide⟩
theorem beg2_law {E : List (List Int)} (he : EndsOf beg2 E) : E = [[2, 0, 0, 0, 0, 0, 0, 0, 1, 1, 0, 0]] := by
  have hr : Rc beg2.length (nx beg2) s0 [2, 0, 0, 0, 0, 0, 0, 0, 1, 1, 0, 0] := runL_rc (l := [0, 1]) .start (by decide +kernel)
  have h3 : [2, 0, 0, 0, 0, 0, 0, 0, 1, 1, 0, 0] ∈ E := (he.mem _).2 ⟨hr, by decide +kernel⟩
  have h2 : ∀ s ∈ E, s = [2, 0, 0, 0, 0, 0, 0, 0, 1, 1, 0, 0] := fun s hs => by
    obtain ⟨h4, h5⟩ := (he.mem s).1 hs
    have h1 := closed_rc (U := setD beg2 3) (by decide +kernel) h4
    have h6 : (setD beg2 3).all (fun s => !fin beg2 s || decide (s = [2, 0, 0, 0, 0, 0, 0, 0, 1, 1, 0, 0])) = true := by decide +kernel
    rw [List.all_eq_true] at h6
    have h7 := h6 s h1
    rw [h5] at h7
    simpa using h7
  have hn := he.nodup
  match E, h2, h3, hn with
  | [], _, h3, _ => simp at h3
  | [x], h2, _, _ => rw [h2 x (by simp)]
  | x :: y :: l, h2, _, hn =>
    rw [List.nodup_cons] at hn
    exact absurd (by rw [h2 x (by simp), h2 y (by simp)]; simp) hn.1
end Go.Ex
/- Explore: what Run answers; plain. -/
namespace Go.Ex
open Go.Bf
def runP (ps : List (List Ln)) : List Nat → List Int → List Int × Nat
  | [], s => (s, 0)
  | j :: l, s => match nx ps j s with
    | none => (s, 0)
    | some t => ((runP ps l t).1, (runP ps l t).2 + 1)
/-- Whole orders lead to what can be come to. -/
theorem runP_whole {ps : List (List Ln)} : ∀ {l : List Nat} {s : List Int}, Rc ps.length (nx ps) s0 s → (∀ j ∈ l, j < ps.length) → (runP ps l s).2 = l.length → Rc ps.length (nx ps) s0 (runP ps l s).1
  | [], s, h, _, _ => h
  | j :: l, s, h, hl, he => by
    unfold runP at he ⊢
    cases hn : nx ps j s with
    | none => rw [hn] at he; simp at he
    | some t =>
      rw [hn] at he
      simp only at he ⊢
      exact runP_whole (.step h (hl j (by simp)) hn) (fun k hk => hl k (by simp [hk])) (by simpa using he)
theorem runP_le {ps : List (List Ln)} : ∀ {l : List Nat} {s : List Int}, (runP ps l s).2 ≤ l.length
  | [], s => Nat.le_refl _
  | j :: l, s => by
    unfold runP
    cases nx ps j s with
    | none => simp
    | some t =>
      have := runP_le (ps := ps) (l := l) (s := t)
      simp only [List.length_cons]
      omega
/-- One more behind a whole order. -/
theorem runP_snoc {ps : List (List Ln)} : ∀ {l : List Nat} {s : List Int} {j : Nat}, (runP ps l s).2 = l.length → runP ps (l ++ [j]) s = match nx ps j (runP ps l s).1 with
    | none => ((runP ps l s).1, l.length)
    | some t => (t, l.length + 1)
  | [], s, j, _ => by
    show (match nx ps j s with | none => (s, 0) | some t => ((runP ps [] t).1, (runP ps [] t).2 + 1)) = _
    cases h : nx ps j s with
    | none => simp [runP, h]
    | some t => simp [runP, h]
  | k :: l, s, j, he => by
    unfold runP at he
    rw [List.cons_append]
    cases hn : nx ps k s with
    | none => rw [hn] at he; simp at he
    | some t =>
      rw [hn] at he
      have ih := runP_snoc (ps := ps) (l := l) (s := t) (j := j) (by simpa using he)
      have e1 : runP ps (k :: l) s = ((runP ps l t).1, (runP ps l t).2 + 1) := by
        show (match nx ps k s with | none => (s, 0) | some t => ((runP ps l t).1, (runP ps l t).2 + 1)) = _
        rw [hn]
      have e2 : runP ps (k :: (l ++ [j])) s = ((runP ps (l ++ [j]) t).1, (runP ps (l ++ [j]) t).2 + 1) := by
        show (match nx ps k s with | none => (s, 0) | some t => ((runP ps (l ++ [j]) t).1, (runP ps (l ++ [j]) t).2 + 1)) = _
        rw [hn]
      rw [e1, e2, ih]
      cases nx ps j (runP ps l t).1 with
      | none => simp
      | some u => simp
end Go.Ex
