/- Texts laid together: R11 Q3 Q4 Q5 QS1 Q6 Q7. -/
import Derived.Test.YtfcellgjbbfobaaMg3
import Derived.Shelf.SlSortCmp.WholeK
import Derived.Ground.SlsfProg
/- append(s, l...) of one's own row, l of whatever length, in a plain region. -/
namespace Go
theorem wpList_append_any {P : Program} {w : World} {ops : Array Oper} {rest : List Oper} {o : Oper} {a : Act} {Q : Exit → Act → World → Prop} (hgd : o.guard = none) (s x : Operand) (t : TypeId)
    (ho : o.op = .call { callee := .builtin .append, args := #[s, x], argTypes := #[t, t] })
    (base : Nat) (e : TypeId) (i : TypeInfo) (z : Value) (size bytes : Nat) (ht : P.underlying t = some (.slice e)) (hi : P.info? e = some i) (hz : i.zero = some z)
    (hsize : i.size = size) (hby : i.bytes = bytes) (hzs : z.cells.size = size) (hsz : 0 < size)
    (v : Value) (n : Nat) (xs : List Value) (hs : a.eval s = v) (hown : w.ownsRow base e size v n xs)
    (xa : Option Addr) (m c : Nat) (news : List Value) (hx : a.eval x = .slice xa m c) (hl : news.length = m * size) (hnews : 0 < m → ∃ ad, xa = some ad ∧ ∀ j u, news[j]? = some u → w.cell? (ad.add j) = some u) (h1 : ∀ u ∈ news, u.oneCell' = true)
    (h63 : n + m ≤ maxLen) (hbytes : (n + m) * bytes ≤ 140737488355328) (hbase : base ≤ w.heap.size)
    (h : ∀ a' c' w', w'.ownsRow base e size (.slice a' (n + m) c') (n + m) (xs ++ news) → w.grownBy w' v.ownBlock → ((Value.slice a' (n + m) c').ownBlock = v.ownBlock ∨ (Value.slice a' (n + m) c').ownBlock = some w.heap.size) → wpList P ops Q rest (a.put o.dst (.slice a' (n + m) c')) w') : wpList P ops Q (o :: rest) a w := by
  refine wpList_plain hgd fun K hK => ?_
  obtain ⟨v', w', hr, h2, h3, h4, a', c', rfl⟩ := run_append_any (P := P) (w := w) t o.type base e i z size bytes ht hi hz hsize hby hzs hsz v n xs hown xa m c news hl hnews h1 h63 hbytes hbase
  unfold Oper.wp execOp
  simp only [ho, resolve, invoke, builtin, Sem.run_bind, Sem.run_pure, Result.andThen_ok, List.map_toArray, List.map_cons, List.map_nil, hs, hx, hr]
  exact hK _ _ (h a' c' w' h2 h3 h4)
end Go
/- Part: slices of steps. -/
namespace Go
open Go.RowKit
theorem infoQ {o : Option TypeInfo} {z : Option Value} {s b : Nat} (h : o.map (fun i => (i.zero, i.size, i.bytes)) = some (z, s, b)) : ∃ i, o = some i ∧ i.zero = z ∧ i.size = s ∧ i.bytes = b := by
  obtain ⟨i, hi, he⟩ := Option.map_eq_some_iff.1 h
  simp only [Prod.mk.injEq] at he
  exact ⟨i, hi, he.1, he.2.1, he.2.2⟩
theorem neTypeQ {w : World} {a b : Nat} {c1 c2 : Array Value} {t1 t2 : TypeId} {f1 f2 : Nat × Nat} (h1 : w.heap[a]? = some (.cells c1 t1 f1)) (h2 : w.heap[b]? = some (.cells c2 t2 f2)) (h : t1 ≠ t2) : a ≠ b := by
  rintro rfl
  rw [h1] at h2
  injection h2 with h2
  injection h2 with _ h2 _
  exact h h2
theorem ownBaseQ {w : World} {b b' e m n : Nat} {v : Value} {xs : List Value} (h : w.ownsRow b e m v n xs) (hb : b' ≤ b) : w.ownsRow b' e m v n xs :=
  ⟨h.1, h.2.imp id fun ⟨g, cap, cur, h1, h2, h3⟩ => ⟨g, cap, cur, h1, Nat.le_trans hb h2, h3⟩⟩
theorem ownLtQ {w : World} {B e m n : Nat} {v : Value} {xs : List Value} (h : w.ownsRow B e m v n xs) : ∀ g, v.ownBlock = some g → B ≤ g ∧ g < w.heap.size ∧ ∃ cs, w.heap[g]? = some (.cells cs e (0, 0)) := by
  intro g hg
  rcases h.2 with ⟨rfl, _⟩ | ⟨g', cap, cur, rfl, hb, hgg, _⟩
  · simp [Value.ownBlock] at hg
  · simp [Value.ownBlock] at hg
    subst hg
    exact ⟨hb, (Array.getElem?_eq_some_iff.1 hgg).1, cur, hgg⟩
theorem ownSliceQ {w : World} {B e m n : Nat} {v : Value} {xs : List Value} (ho : w.ownsRow B e m v n xs) : ∃ a c, v = .slice a n c ∧ n ≤ c ∧ c ≤ 9223372036854775807 ∧ (∀ x, a = some x → v.ownBlock = some x.block ∧ x = ⟨x.block, 0, none⟩) := by
  rcases ho.2 with ⟨rfl, h0⟩ | ⟨g, cap, cur, rfl, hb, hg, hnc, hcm, hcs, ht⟩
  · subst h0
    exact ⟨none, 0, rfl, Nat.le_refl _, Nat.zero_le _, fun x hx => by cases hx⟩
  · exact ⟨_, _, rfl, hnc, hcm, fun x hx => by cases hx; exact ⟨rfl, rfl⟩⟩
theorem ownRoomQ {w : World} {B e m n c : Nat} {a : Option Addr} {xs : List Value} (h : w.ownsRow B e m (.slice a n c) n xs) : n ≤ c ∧ c ≤ 9223372036854775807 := by
  obtain ⟨a', c', he, h1, h2, _⟩ := ownSliceQ h
  injection he with _ _ h3
  rw [h3]
  exact ⟨h1, h2⟩
theorem lnsNews {w : World} {a : Option Addr} {n c : Nat} {ls : List Ln} (h : LnsV w a n c ls) : 0 < n → ∃ ad, a = some ad ∧ ∀ j u, (lanesC ls)[j]? = some u → w.cell? (ad.add j) = some u := fun hn => by
  obtain ⟨b, off, rfl, hc⟩ := h.cells hn
  refine ⟨_, rfl, fun j u hu => ?_⟩
  have h1 := (List.getElem?_eq_some_iff.1 hu).1
  rw [lanesC_len, h.len] at h1
  rw [Go.WideShapes.add_plain, hc j h1]
  exact hu
theorem lanesOne {ls : List Ln} : ∀ u ∈ lanesC ls, u.oneCell' = true := fun u hu => by
  obtain ⟨L, _, hu⟩ := List.mem_flatMap.1 hu
  simp [Ln.cells] at hu
  rcases hu with hu | hu | hu <;> (subst hu; rfl)
theorem own_empty (w : World) (e m : TypeId) : (w.alloc (.cells #[] e)).ownsRow w.heap.size e m (.slice (some ⟨w.heap.size, 0, none⟩) 0 0) 0 [] :=
  ⟨by simp, .inr ⟨w.heap.size, 0, #[], rfl, Nat.le_refl _, blk_new w _, Nat.le_refl _, Nat.zero_le _, by simp, by simp⟩⟩
end Go
namespace Go.Proofs.Ytfcellgjbbfobaa
open Go.RowKit
theorem info29 : (Try.prog.info? 29).map (fun i => (i.zero, i.size, i.bytes)) = some (some (.agg #[.int .i64 0, .int .i64 0, .int .i64 0]), 3, 24) := by kernel_rfl
set_option maxRecDepth 100000 in
set_option maxHeartbeats 1000000 in
theorem clone12_any {w : World} {a : Option Addr} {n c : Nat} {ls : List Ln} (hv : LnsV w a n c ls) (hn : n ≤ 1000) :
    Calls Try.prog 12 #[.slice a n c] w fun e w' => ∃ v, e = .returned v ∧ Keep [] w w' ∧ w'.ownsRow w.heap.size 29 3 v n (lanesC ls) := by
  obtain ⟨i29, hi, hz0, hz1, hz2⟩ := infoQ info29
  cases a with
  | none =>
    have h0 : n = 0 := by
      by_cases h : 0 < n
      · obtain ⟨b, off, he, _⟩ := hv.cells h; cases he
      · omega
    subst h0
    have hnil : ls = [] := List.eq_nil_of_length_eq_zero hv.len
    subst hnil
    clear hv
    have hb1 : (binOp BinOp.eql 24 (.slice none 0 c) (.slice none 0 0)).run Try.prog w = .ok (.bool true) w := by kernel_rfl
    go_enter Try.func12, Try.ntmps12
    go_wp2_with (first | (with_reducible refine Txt.wp_region_text mixed quiet (by decide +kernel) ?_) | (with_reducible refine Txt.text_done (by kernel_rfl) ?_))
    go_ret
    exact ⟨_, rfl, Keep.refl _ _, World.ownsRow_nil _ _ _ _⟩
  | some ad =>
    have hk : Keep [] w (w.alloc (.cells #[] 29)) := (Keep.refl [] w).alloc _
    have HN := Lib.hid (lnsNews (hv.keep hk (by simp)))
    have HLN : Hid ((lanesC ls).length = n * 3) := Lib.hid (by rw [lanesC_len, hv.len, Nat.mul_comm])
    have HO := Lib.hid (own_empty w 29 3)
    have HK := Lib.hid hk
    have hr := hv.room
    have hm := hv.most
    have h9 : maxLen = 9223372036854775807 := rfl
    rw [h9] at hm
    clear hv hk h9
    have hb1 : (binOp BinOp.eql 24 (.slice (some ad) n c) (.slice none 0 0)).run Try.prog w = .ok (.bool false) w := by kernel_rfl
    go_enter Try.func12, Try.ntmps12
    go_wp2_with (first | (with_reducible refine Txt.wp_region_text mixed quiet (by decide +kernel) ?_) | (with_reducible refine Txt.text_done (by kernel_rfl) ?_) | (at_builtin; refine wpList_append_any rfl _ _ 24 rfl w.heap.size 29 i29 (.agg #[.int .i64 0, .int .i64 0, .int .i64 0]) 3 24 Try.underlying24 hi hz0 hz1 hz2 rfl (by decide) (.slice (some ⟨w.heap.size, 0, none⟩) 0 0) 0 [] rfl HO.out (some ad) n c (lanesC ls) rfl HLN.out HN.out lanesOne (by unfold maxLen; omega) (by omega) (by simp) ?_; intro a8 c8 w8 hown8 hgr8 hat8; have HO8 := Lib.hid hown8; have HG8 := Lib.hid hgr8; clear hown8 hgr8 hat8))
    go_ret
    have h := HO8.out
    rw [Nat.zero_add, List.nil_append] at h
    have hk8 : Keep [w.heap.size] (w.alloc (.cells #[] 29)) w8 := Keep.ofGrown HG8.out (fun x hx => by simp [Value.ownBlock] at hx; simp [hx])
    exact ⟨_, by first | rfl | (rw [Nat.zero_add]; done) | simp, HK.out.call hk8 (fun g hg => .inr (by rw [List.mem_singleton.1 hg]; exact Nat.le_refl _)), h⟩
set_option maxRecDepth 100000 in
set_option maxHeartbeats 2000000 in
theorem equal23_any {w : World} {a1 a2 : Option Addr} {n c1 m c2 : Nat} {xs ys : List Ln} (h1 : LnsV w a1 n c1 xs) (h2 : LnsV w a2 m c2 ys) :
    Calls Try.prog 23 #[.slice a1 n c1, .slice a2 m c2] w fun e w' => e = .returned (.bool (decide (xs = ys))) ∧ Keep [] w w' := by
  have HX := Lib.hid h1
  have HY := Lib.hid h2
  have HL1 := Lib.hid h1.len
  have HL2 := Lib.hid h2.len
  have r1 := h1.room
  have m1 := h1.most
  have r2 := h2.room
  have m2 := h2.most
  have h9 : maxLen = 9223372036854775807 := rfl
  rw [h9] at m1 m2
  clear h9
  by_cases hnm : n = m
  · subst hnm
    clear h1 h2
    go_enter Try.func23, Try.ntmps23
    go_wp2_with fail
    go_loopw [13] (fun i wr => ∃ k : Nat, k ≤ n ∧ i = .int .i64 k ∧ Hid (xs.take k = ys.take k) ∧ Hid (Keep [] w wr)) (fun i _ => n - (intOf i).toNat)
    case atStart => exact ⟨0, by omega, rfl, Lib.hid (by simp), Lib.hid (Keep.refl _ _)⟩
    case round =>
      obtain ⟨k, hk, rfl, HT, HK⟩ := hrel
      by_cases hlt : k < n
      · obtain ⟨x, hx⟩ : ∃ x, xs[k]? = some x := ⟨_, List.getElem?_eq_getElem (by rw [HL1.out]; exact hlt)⟩
        obtain ⟨y, hy⟩ : ∃ y, ys[k]? = some y := ⟨_, List.getElem?_eq_getElem (by rw [HL2.out]; exact hlt)⟩
        obtain ⟨b, off, rfl, c0, c1', c2'⟩ := lnsAt (HX.out.keep HK.out (by simp)) hx
        obtain ⟨b', off', rfl, d0, d1, d2⟩ := lnsAt (HY.out.keep HK.out (by simp)) hy
        have HXX := Lib.hid hx
        have HYY := Lib.hid hy
        have hdec : decide ((k : Int) < (n : Int)) = true := by simp; omega
        clear hx hy
        by_cases he : x = y
        · subst he
          have HT2 : Hid (xs.take (k + 1) = ys.take (k + 1)) := Lib.hid (by rw [List.take_add_one, List.take_add_one, HT.out, HXX.out, HYY.out])
          obtain ⟨q, g, u⟩ := x
          simp only at c0 c1' c2' d0 d1 d2
          go_wp2_with fail
          go_region
          all_goals
            go_wp2_with fail
            exact ⟨⟨k + 1, hlt, by go_num, HT2, Lib.hid (by repeat (first | exact HK.out | apply Keep.drew))⟩, by simp [intOf]; omega⟩
        · have HNE : Hid (decide (xs = ys) = false) := Lib.hid (decide_eq_false (fun e => he (by have := HXX.out; rw [e, HYY.out] at this; injection this with this; exact this.symm)))
          obtain ⟨q, g, u⟩ := x
          obtain ⟨q2, g2, u2⟩ := y
          simp only at c0 c1' c2' d0 d1 d2
          have hne : ¬ (q = q2 ∧ g = g2 ∧ u = u2) := fun ⟨e1, e2, e3⟩ => he (by rw [e1, e2, e3])
          obtain ⟨b1, h1⟩ : ∃ b1, (q == q2) = b1 := ⟨_, rfl⟩
          obtain ⟨b2, h2⟩ : ∃ b2, (g == g2) = b2 := ⟨_, rfl⟩
          obtain ⟨b3, h3⟩ : ∃ b3, (u == u2) = b3 := ⟨_, rfl⟩
          have hb : (b1 && b2 && b3) = false := by
            rw [← h1, ← h2, ← h3]
            rw [Bool.eq_false_iff]
            intro h
            simp at h
            exact hne ⟨h.1.1, h.1.2, h.2⟩
          have HB := Lib.hid hb
          clear he hne hb
          cases b1 <;> cases b2 <;> cases b3
          all_goals first
            | (have := HB.out; simp at this; done)
            | (go_wp2_with fail; go_region; all_goals (go_wp2_with fail; go_ret; exact ⟨ret_bool HNE.out.symm, by repeat (first | exact HK.out | apply Keep.drew)⟩))
      · obtain rfl : k = n := by omega
        have HE : Hid (decide (xs = ys) = true) := Lib.hid (decide_eq_true (by have h := HT.out; rw [List.take_of_length_le (by rw [HL1.out]; exact Nat.le_refl _), List.take_of_length_le (by rw [HL2.out]; exact Nat.le_refl _)] at h; exact h))
        have hdec : decide ((k : Int) < (k : Int)) = false := by simp
        go_wp2_with fail
        go_ret
        exact ⟨ret_bool HE.out.symm, HK.out⟩
  · have HE : Hid (decide (xs = ys) = false) := Lib.hid (decide_eq_false (fun e => hnm (by rw [← HL1.out, ← HL2.out, e])))
    have hne : ((n : Int) != (m : Int)) = true := by simp; omega
    clear h1 h2
    go_enter Try.func23, Try.ntmps23
    go_wp2_with (first | (with_reducible refine Txt.wp_region_text mixed quiet (by decide +kernel) ?_) | (with_reducible refine Txt.text_done (by kernel_rfl) ?_))
    go_ret
    exact ⟨ret_bool HE.out.symm, Keep.refl _ _⟩
end Go.Proofs.Ytfcellgjbbfobaa
/- Part: Steps. -/
namespace Go
open Go.RowKit
theorem and8 : ∀ a b : Fin 8, 0 ≤ bits .and .i64 ((a.val : Nat) : Int) ((b.val : Nat) : Int) ∧ bits .and .i64 ((a.val : Nat) : Int) ((b.val : Nat) : Int) < 256 := by decide +kernel
theorem and16 : ∀ (a : Fin 4) (b : Fin 16), 0 ≤ bits .and .i64 (wrap64 (2 ^ a.val)) ((b.val : Nat) : Int) ∧ bits .and .i64 (wrap64 (2 ^ a.val)) ((b.val : Nat) : Int) < 256 := by decide +kernel
theorem stOk_of {q r s t m : Nat} (hq : (q : Int) < 4) (hr : (r : Int) < 8) (hs : (s : Int) < 8) (ht : (t : Int) < 4) (hm : (m : Int) < 16) : StOk ⟨q, bits .and .i64 r s, bits .and .i64 (wrap64 (2 ^ t)) m⟩ := by
  have h1 := and8 ⟨r, by omega⟩ ⟨s, by omega⟩
  have h2 := and16 ⟨t, by omega⟩ ⟨m, by omega⟩
  exact ⟨⟨Int.natCast_nonneg q, by show (q : Int) < 8; omega⟩, h1, h2⟩
end Go
namespace Go.Proofs.Ytfcellgjbbfobaa
open Go.RowKit
theorem one3 {x y z : Int} : ∀ u ∈ [Value.int .i64 x, .int .i64 y, .int .i64 z], u.oneCell' = true := fun u hu => by
  simp at hu
  rcases hu with hu | hu | hu <;> (subst hu; rfl)
theorem rest_ex (k n : Int) (w : World) (hn : 0 < n) (hn1 : n ≤ 1000000000) : Calls Try.prog 11 #[.int .i64 k, .int .i64 n] w fun e w' => ∃ q : Nat, e = .returned (.int .i64 q) ∧ (q : Int) < n ∧ w = w' := by
  obtain ⟨q, hq, hq2⟩ := rest_nat k n hn
  refine (rest_any k n w hn hn1).mono ?_
  rintro e w' ⟨rfl, rfl⟩
  exact ⟨q, by rw [hq], hq2, rfl⟩
set_option maxRecDepth 100000 in
set_option maxHeartbeats 4000000 in
theorem steps10_any {w : World} {a : Option Addr} {len cap : Nat} {zs : List Int} (hv : IntsV w a len cap zs) :
    Calls Try.prog 10 #[.slice a len cap] w fun e w' => ∃ (ls : List Ln) (v : Value), e = .returned v ∧ w'.ownsRow w.heap.size 29 3 v ls.length (lanesC ls) ∧ (∀ x ∈ ls, StOk x) ∧ ls.length ≤ 40 ∧ Keep [] w w' := by
  have hroom := hv.room
  have hmost := hv.most
  have h9 : maxLen = 9223372036854775807 := rfl
  rw [h9] at hmost
  obtain ⟨N, hN⟩ : ∃ N : Nat, min len 40 = N := ⟨_, rfl⟩
  have hmn : (min (len : Int) 40).toNat = N := by omega
  have hNl : N ≤ len := by omega
  have hN1 : N ≤ 40 := by omega
  have HV := Lib.hid hv
  obtain ⟨i29, hi29, hz0, hz1, hz2⟩ := infoQ info29
  clear hv h9
  go_enter Try.func10, Try.ntmps10
  go_wp2_with (first | (with_reducible refine Txt.wp_region_text mixed quiet (by decide +kernel) ?_) | (with_reducible refine Txt.text_done (by kernel_rfl) ?_))
  go_loopw [12, 3] (fun j v wr => ∃ (ls : List Ln) (i : Nat), i ≤ N ∧ j = .int .i64 i ∧ Hid (ls.length = i) ∧ Hid (wr.ownsRow w.heap.size 29 3 v i (lanesC ls)) ∧ Hid (∀ x ∈ ls, StOk x) ∧ Hid (Keep [] w wr)) (fun j _ _ => N - (intOf j).toNat)
  case atStart => exact ⟨[], 0, by omega, rfl, Lib.hid rfl, Lib.hid (World.ownsRow_nil _ _ _ _), Lib.hid (fun x hx => by cases hx), Lib.hid (Keep.refl _ _)⟩
  case round =>
    obtain ⟨ls, i, hi, rfl, HLN, HO, HOK, HK⟩ := hrel
    obtain ⟨av, cv, rfl, hcv1, hcv2, -⟩ := ownSliceQ HO.out
    by_cases hlt : i < N
    · obtain ⟨b1, off, hab, hc⟩ := (HV.out.keep HK.out (by simp)).cells (by omega)
      have hcx := hc i (by omega)
      obtain ⟨z, hz⟩ : ∃ z, zs.getD i 0 = z := ⟨_, rfl⟩
      rw [hz] at hcx
      have hdec : decide ((i : Int) < (N : Int)) = true := by simp; omega
      have tok1 : True := trivial
      have tok2 : True := trivial
      have tok3 : True := trivial
      have tok4 : True := trivial
      obtain ⟨W1, hW1⟩ : ∃ W1, W1 = wr := ⟨_, rfl⟩
      subst hW1
      have HSZ := Lib.hid HK.out.size
      subst hab
      clear hc hz
      go_wp2_with (first | (with_reducible refine Txt.wp_region_text mixed quiet (by decide +kernel) ?_) | (with_reducible refine Txt.text_done (by kernel_rfl) ?_) | (go_at_call 11; have _t := tok1; (with_reducible refine (rest_ex _ _ _ (by decide) (by decide)).mono ?_); rintro e9 w9 ⟨qa, rfl, hqa, rfl⟩; clear tok1 _t) | (go_at_call 11; have _t := tok2; (with_reducible refine (rest_ex _ _ _ (by decide) (by decide)).mono ?_); rintro e9 w9 ⟨qb, rfl, hqb, rfl⟩; clear tok2 _t) | (go_at_call 11; have _t := tok3; (with_reducible refine (rest_ex _ _ _ (by decide) (by decide)).mono ?_); rintro e9 w9 ⟨qc, rfl, hqc, rfl⟩; clear tok3 _t) | (go_at_call 11; have _t := tok4; (with_reducible refine (rest_ex _ _ _ (by decide) (by decide)).mono ?_); rintro e9 w9 ⟨qd, rfl, hqd, rfl⟩; have hqd0 : (0 : Int) ≤ qd := Int.natCast_nonneg qd; have hqd64 : (qd : Int) ≤ 64 := (by omega); clear tok4 _t) | (go_at_call 11; (with_reducible refine (rest_ex _ _ _ (by decide) (by decide)).mono ?_); rintro e9 w9 ⟨qe, rfl, hqe, rfl⟩; obtain ⟨y, hy⟩ : ∃ y : Ln, y = ⟨(qa : Int), bits .and .i64 qb qc, bits .and .i64 (wrap64 (2 ^ qd)) qe⟩ := ⟨_, rfl⟩; have HYC : Hid (y.cells = [.int .i64 (qa : Int), .int .i64 (bits .and .i64 qb qc), .int .i64 (bits .and .i64 (wrap64 (2 ^ qd)) qe)]) := Lib.hid (by rw [hy]; rfl); have HYO : Hid (StOk y) := Lib.hid (by rw [hy]; exact stOk_of hqa hqb hqc hqd hqe); have HOA := Lib.hid (own_keep HO.out ((Keep.refl [] W1).alloc (.cells #[.int .i64 (qa : Int), .int .i64 (bits .and .i64 qb qc), .int .i64 (bits .and .i64 (wrap64 (2 ^ qd)) qe)] 29)) (fun _ _ h => absurd h List.not_mem_nil)); clear hy hqa hqb hqc hqe) | (at_builtin; refine wpList_append_lies _ rfl _ _ 24 rfl w.heap.size 29 i29 (.agg #[.int .i64 0, .int .i64 0, .int .i64 0]) 3 24 Try.underlying24 hi29 hz0 hz1 hz2 rfl (by decide) (.slice av i cv) i (lanesC ls) rfl HOA.out ⟨W1.heap.size, 0, none⟩ 1 1 [.int .i64 (qa : Int), .int .i64 (bits .and .i64 qb qc), .int .i64 (bits .and .i64 (wrap64 (2 ^ qd)) qe)] rfl rfl (cells_new W1 [.int .i64 (qa : Int), .int .i64 (bits .and .i64 qb qc), .int .i64 (bits .and .i64 (wrap64 (2 ^ qd)) qe)] 29 (0, 0)) one3 (by decide) (by unfold maxLen; omega) (by omega) (Nat.le_trans HSZ.out ((Keep.refl [] W1).alloc _).size) _ rfl ?_; intro g9 c9 w9 hown9 hgr9 hat9 hlt9; have HO9 := Lib.hid hown9; have HG9 := Lib.hid hgr9; clear hown9 hgr9 hat9))
      have hk9 : Keep (Value.slice av i cv).ownBlock.toList (W1.alloc (.cells #[.int .i64 (qa : Int), .int .i64 (bits .and .i64 qb qc), .int .i64 (bits .and .i64 (wrap64 (2 ^ qd)) qe)] 29)).drew w9 := Keep.ofGrown HG9.out (fun x hx => by simp [hx])
      refine ⟨⟨ls ++ [y], i + 1, hlt, by go_num, Lib.hid (by rw [List.length_append, HLN.out]; rfl), Lib.hid (by rw [lanesC_snoc, HYC.out]; exact HO9.out), Lib.hid (fun x hx => (List.mem_append.1 hx).elim (HOK.out x) (fun hx => by rw [List.mem_singleton.1 hx]; exact HYO.out)), Lib.hid ((HK.out.alloc _).drew.call hk9 (fun g hg => .inr (ownLtQ HO.out g (by simpa using hg)).1))⟩, by simp [intOf]; omega⟩
    · obtain rfl : i = N := by omega
      have hdec : decide ((i : Int) < (i : Int)) = false := by simp
      go_wp2_with (first | (with_reducible refine Txt.wp_region_text mixed quiet (by decide +kernel) ?_) | (with_reducible refine Txt.text_done (by kernel_rfl) ?_))
      go_ret
      exact ⟨ls, _, rfl, by rw [HLN.out]; exact HO.out, HOK.out, by rw [HLN.out]; exact hN1, HK.out⟩
end Go.Proofs.Ytfcellgjbbfobaa
/- Part: slices.ContainsFunc with the closures of Normal and of PartRounds. -/
namespace Go.Proofs.Ytfcellgjbbfobaa
open Go.RowKit
theorem free37 {w : World} {g : Nat} {x : Ln} (hb : w.heap[g]? = some (.cells x.cells.toArray 29 (0, 0))) (y : Ln) : Calls Try.prog 37 #[lnV y, .pointer (some ⟨g, 0, none⟩)] w fun e w' => e = .returned (.bool (dep x y)) ∧ Keep [] w w' := by
  have HD : Hid (∀ w, Calls Try.prog 31 #[lnV x, lnV y] w fun e w' => e = .returned (.bool (dep x y)) ∧ Keep [] w w') := Lib.hid (dep31 x y)
  obtain ⟨b, hbd⟩ : ∃ b, dep x y = b := ⟨_, rfl⟩
  rw [hbd] at HD ⊢
  clear hbd
  obtain ⟨q, h, u⟩ := x
  obtain ⟨q2, h2, u2⟩ := y
  unfold lnV at HD ⊢
  simp only [Ln.cells] at hb HD ⊢
  obtain ⟨c0, c1, c2, -⟩ := row3 hb
  have hlt := lt_of_blk hb
  have hne : ¬ g = w.heap.size := by omega
  clear hb
  go_enter Try.func37, Try.ntmps37
  go_wp2_with (first | (with_reducible refine Txt.wp_region_text mixed quiet (by decide +kernel) ?_) | (with_reducible refine Txt.text_done (by kernel_rfl) ?_) | (go_at_call 31; (with_reducible refine (HD.out _).mono ?_); rintro e2 w2 ⟨rfl, hk2⟩; have HK2 := Lib.hid hk2; clear hk2))
  go_ret
  exact ⟨rfl, ((Keep.refl [] w).alloc _).trans HK2.out⟩
theorem deps17 {w : World} {g : Nat} {x : Ln} (hx : StOk x) (hb : w.heap[g]? = some (.cells x.cells.toArray 29 (0, 0))) (y : Ln) (hy : StOk y) : Calls Try.prog 17 #[lnV y, .pointer (some ⟨g, 0, none⟩)] w fun e w' => e = .returned (.bool (dep x y)) ∧ Keep [] w w' := by
  have HD : Hid (∀ w, Calls Try.prog 13 #[lnV x, lnV y] w fun e w' => e = .returned (.tuple #[.bool (dep x y), .int .i64 0]) ∧ Keep [] w w') := Lib.hid (depend13_any x y hx hy)
  obtain ⟨b, hbd⟩ : ∃ b, dep x y = b := ⟨_, rfl⟩
  rw [hbd] at HD ⊢
  clear hbd hx hy
  obtain ⟨q, h, u⟩ := x
  obtain ⟨q2, h2, u2⟩ := y
  unfold lnV at HD ⊢
  simp only [Ln.cells] at hb HD ⊢
  obtain ⟨c0, c1, c2, -⟩ := row3 hb
  have hlt := lt_of_blk hb
  have hne : ¬ g = w.heap.size := by omega
  clear hb
  go_enter Try.func17, Try.ntmps17
  go_wp2_with (first | (with_reducible refine Txt.wp_region_text mixed quiet (by decide +kernel) ?_) | (with_reducible refine Txt.text_done (by kernel_rfl) ?_) | (go_at_call 13; (with_reducible refine (HD.out _).mono ?_); rintro e2 w2 ⟨rfl, hk2⟩; have HK2 := Lib.hid hk2; clear hk2))
  go_ret
  exact ⟨rfl, by first | exact ((Keep.refl [] w).alloc _).trans HK2.out | exact HK2.out⟩
set_option maxRecDepth 100000 in
set_option maxHeartbeats 1000000 in
theorem index35_37 {w : World} {g n2 c2 : Nat} {a2 : Option Addr} {p : Ln → Bool} {l : List Ln} (hcl : ∀ x ∈ l, ∀ w', Keep [] w w' → Calls Try.prog 37 #[lnV x, .pointer (some ⟨g, 0, none⟩)] w' fun e w2 => e = .returned (.bool (p x)) ∧ Keep [] w' w2) (hh : LnsV w a2 n2 c2 l) :
    Calls Try.prog 35 #[.slice a2 n2 c2, .func (.func 37) #[] #[.pointer (some ⟨g, 0, none⟩)]] w fun e w' => Keep [] w w' ∧ ((e = .returned (.int .i64 (-1)) ∧ l.any p = false) ∨ ∃ i : Nat, e = .returned (.int .i64 (i : Nat)) ∧ l.any p = true) := by
  have HC := Lib.hid hcl
  have HH := Lib.hid hh
  have hcc := hh.room
  have hcm := hh.most
  rw [show maxLen = 9223372036854775807 from rfl] at hcm
  clear hcl hh
  go_enter Try.func35, Try.ntmps35
  go_wp2_with (first | (with_reducible refine Txt.wp_region_text mixed quiet (by decide +kernel) ?_) | (with_reducible refine Txt.text_done (by kernel_rfl) ?_))
  go_loopw [8] (fun j wr => ∃ i : Nat, i ≤ n2 ∧ j = .int .i64 i ∧ Hid (Keep [] w wr) ∧ Hid (∀ x ∈ l.take i, p x = false)) (fun j _ => n2 - (intOf j).toNat)
  case atStart => exact ⟨0, by omega, rfl, Lib.hid (Keep.refl _ _), Lib.hid (fun x hx => by simp at hx)⟩
  case round =>
    obtain ⟨i, hi, rfl, HK, HNO⟩ := hrel
    by_cases hlt : i < n2
    · obtain ⟨x, hxi⟩ : ∃ x, l[i]? = some x := ⟨_, List.getElem?_eq_getElem (by have := HH.out.len; omega)⟩
      obtain ⟨b1, off, hab, c0, c1, c2'⟩ := lnsAt (HH.out.keep HK.out (by simp)) hxi
      have HXI := Lib.hid hxi
      have HCX : Hid (∀ w', Keep [] w w' → Calls Try.prog 37 #[lnV x, .pointer (some ⟨g, 0, none⟩)] w' fun e w2 => e = .returned (.bool (p x)) ∧ Keep [] w' w2) := Lib.hid (HC.out x (List.mem_of_getElem? hxi))
      obtain ⟨px, hpx⟩ : ∃ px, p x = px := ⟨_, rfl⟩
      have HPX := Lib.hid hpx
      have HXM := Lib.hid (List.mem_of_getElem? hxi)
      rw [hpx] at HCX
      obtain ⟨xq, xg, xu⟩ := x
      simp only at c0 c1 c2'
      unfold lnV at HCX
      simp only at HCX
      have hdec : decide ((i : Int) < (n2 : Int)) = true := by simp; omega
      subst hab
      clear hxi hpx
      cases px with
      | true =>
        go_wp2_with (first | (with_reducible refine Txt.wp_region_text mixed quiet (by decide +kernel) ?_) | (with_reducible refine Txt.text_done (by kernel_rfl) ?_) | (go_at_call 37; (with_reducible refine (HCX.out _ HK.out).mono ?_); rintro e w5 ⟨rfl, hk5⟩))
        go_ret
        exact ⟨HK.out.trans hk5, .inr ⟨i, rfl, List.any_eq_true.2 ⟨_, HXM.out, HPX.out⟩⟩⟩
      | false =>
        go_wp2_with (first | (with_reducible refine Txt.wp_region_text mixed quiet (by decide +kernel) ?_) | (with_reducible refine Txt.text_done (by kernel_rfl) ?_) | (go_at_call 37; (with_reducible refine (HCX.out _ HK.out).mono ?_); rintro e w5 ⟨rfl, hk5⟩; have HK5 := Lib.hid (HK.out.trans hk5)))
        refine ⟨⟨i + 1, hlt, by go_num, HK5, Lib.hid (fun y hy => ?_)⟩, by simp [intOf]; omega⟩
        rw [List.take_add_one, HXI.out, Option.toList_some] at hy
        rcases List.mem_append.1 hy with hy | hy
        · exact HNO.out y hy
        · rw [List.mem_singleton.1 hy]; exact HPX.out
    · obtain rfl : i = n2 := by omega
      have hdec : decide ((i : Int) < (i : Int)) = false := by simp
      go_wp2_with (first | (with_reducible refine Txt.wp_region_text mixed quiet (by decide +kernel) ?_) | (with_reducible refine Txt.text_done (by kernel_rfl) ?_))
      go_ret
      refine ⟨HK.out, .inl ⟨rfl, List.any_eq_false.2 fun x hx => ?_⟩⟩
      rw [HNO.out x (by rw [List.take_of_length_le (by rw [HH.out.len]; exact Nat.le_refl _)]; exact hx)]
      decide
theorem contains16_37 {w : World} {g n2 c2 : Nat} {a2 : Option Addr} {p : Ln → Bool} {l : List Ln} (hcl : ∀ x ∈ l, ∀ w', Keep [] w w' → Calls Try.prog 37 #[lnV x, .pointer (some ⟨g, 0, none⟩)] w' fun e w2 => e = .returned (.bool (p x)) ∧ Keep [] w' w2) (hh : LnsV w a2 n2 c2 l) :
    Calls Try.prog 16 #[.slice a2 n2 c2, .func (.func 37) #[] #[.pointer (some ⟨g, 0, none⟩)]] w fun e w' => e = .returned (.bool (l.any p)) ∧ Keep [] w w' := by
  have H0 := index35_37 hcl hh
  cases hb : l.any p with
  | true =>
    have HC : Hid (Calls Try.prog 35 #[.slice a2 n2 c2, .func (.func 37) #[] #[.pointer (some ⟨g, 0, none⟩)]] w fun e w' => ∃ i : Nat, e = .returned (.int .i64 i) ∧ Keep [] w w') := Lib.hid (H0.mono (by
      rintro e w' ⟨hk, ⟨rfl, h⟩ | ⟨i, rfl, h⟩⟩
      · rw [hb] at h; cases h
      · exact ⟨i, rfl, hk⟩))
    clear H0 hb hcl hh
    go_enter Try.func16, Try.ntmps16
    go_wp2_with (first | (with_reducible refine Txt.wp_region_text mixed quiet (by decide +kernel) ?_) | (with_reducible refine Txt.text_done (by kernel_rfl) ?_) | (go_at_call 35; (with_reducible refine HC.out.mono ?_); rintro e w5 ⟨i, rfl, hk5⟩))
    go_ret
    exact ⟨by first | rfl | (simp; done), hk5⟩
  | false =>
    have HC : Hid (Calls Try.prog 35 #[.slice a2 n2 c2, .func (.func 37) #[] #[.pointer (some ⟨g, 0, none⟩)]] w fun e w' => e = .returned (.int .i64 (-1)) ∧ Keep [] w w') := Lib.hid (H0.mono (by
      rintro e w' ⟨hk, ⟨rfl, h⟩ | ⟨i, rfl, h⟩⟩
      · exact ⟨rfl, hk⟩
      · rw [hb] at h; cases h))
    clear H0 hb hcl hh
    go_enter Try.func16, Try.ntmps16
    go_wp2_with (first | (with_reducible refine Txt.wp_region_text mixed quiet (by decide +kernel) ?_) | (with_reducible refine Txt.text_done (by kernel_rfl) ?_) | (go_at_call 35; (with_reducible refine HC.out.mono ?_); rintro e w5 ⟨rfl, hk5⟩))
    go_ret
    exact ⟨by first | rfl | (simp; done), hk5⟩
set_option maxRecDepth 100000 in
set_option maxHeartbeats 1000000 in
theorem index35_17 {w : World} {g n2 c2 : Nat} {a2 : Option Addr} {p : Ln → Bool} {l : List Ln} (hcl : ∀ x ∈ l, ∀ w', Keep [] w w' → Calls Try.prog 17 #[lnV x, .pointer (some ⟨g, 0, none⟩)] w' fun e w2 => e = .returned (.bool (p x)) ∧ Keep [] w' w2) (hh : LnsV w a2 n2 c2 l) :
    Calls Try.prog 35 #[.slice a2 n2 c2, .func (.func 17) #[] #[.pointer (some ⟨g, 0, none⟩)]] w fun e w' => Keep [] w w' ∧ ((e = .returned (.int .i64 (-1)) ∧ l.any p = false) ∨ ∃ i : Nat, e = .returned (.int .i64 (i : Nat)) ∧ l.any p = true) := by
  have HC := Lib.hid hcl
  have HH := Lib.hid hh
  have hcc := hh.room
  have hcm := hh.most
  rw [show maxLen = 9223372036854775807 from rfl] at hcm
  clear hcl hh
  go_enter Try.func35, Try.ntmps35
  go_wp2_with (first | (with_reducible refine Txt.wp_region_text mixed quiet (by decide +kernel) ?_) | (with_reducible refine Txt.text_done (by kernel_rfl) ?_))
  go_loopw [8] (fun j wr => ∃ i : Nat, i ≤ n2 ∧ j = .int .i64 i ∧ Hid (Keep [] w wr) ∧ Hid (∀ x ∈ l.take i, p x = false)) (fun j _ => n2 - (intOf j).toNat)
  case atStart => exact ⟨0, by omega, rfl, Lib.hid (Keep.refl _ _), Lib.hid (fun x hx => by simp at hx)⟩
  case round =>
    obtain ⟨i, hi, rfl, HK, HNO⟩ := hrel
    by_cases hlt : i < n2
    · obtain ⟨x, hxi⟩ : ∃ x, l[i]? = some x := ⟨_, List.getElem?_eq_getElem (by have := HH.out.len; omega)⟩
      obtain ⟨b1, off, hab, c0, c1, c2'⟩ := lnsAt (HH.out.keep HK.out (by simp)) hxi
      have HXI := Lib.hid hxi
      have HCX : Hid (∀ w', Keep [] w w' → Calls Try.prog 17 #[lnV x, .pointer (some ⟨g, 0, none⟩)] w' fun e w2 => e = .returned (.bool (p x)) ∧ Keep [] w' w2) := Lib.hid (HC.out x (List.mem_of_getElem? hxi))
      obtain ⟨px, hpx⟩ : ∃ px, p x = px := ⟨_, rfl⟩
      have HPX := Lib.hid hpx
      have HXM := Lib.hid (List.mem_of_getElem? hxi)
      rw [hpx] at HCX
      obtain ⟨xq, xg, xu⟩ := x
      simp only at c0 c1 c2'
      unfold lnV at HCX
      simp only at HCX
      have hdec : decide ((i : Int) < (n2 : Int)) = true := by simp; omega
      subst hab
      clear hxi hpx
      cases px with
      | true =>
        go_wp2_with (first | (with_reducible refine Txt.wp_region_text mixed quiet (by decide +kernel) ?_) | (with_reducible refine Txt.text_done (by kernel_rfl) ?_) | (go_at_call 17; (with_reducible refine (HCX.out _ HK.out).mono ?_); rintro e w5 ⟨rfl, hk5⟩))
        go_ret
        exact ⟨HK.out.trans hk5, .inr ⟨i, rfl, List.any_eq_true.2 ⟨_, HXM.out, HPX.out⟩⟩⟩
      | false =>
        go_wp2_with (first | (with_reducible refine Txt.wp_region_text mixed quiet (by decide +kernel) ?_) | (with_reducible refine Txt.text_done (by kernel_rfl) ?_) | (go_at_call 17; (with_reducible refine (HCX.out _ HK.out).mono ?_); rintro e w5 ⟨rfl, hk5⟩; have HK5 := Lib.hid (HK.out.trans hk5)))
        refine ⟨⟨i + 1, hlt, by go_num, HK5, Lib.hid (fun y hy => ?_)⟩, by simp [intOf]; omega⟩
        rw [List.take_add_one, HXI.out, Option.toList_some] at hy
        rcases List.mem_append.1 hy with hy | hy
        · exact HNO.out y hy
        · rw [List.mem_singleton.1 hy]; exact HPX.out
    · obtain rfl : i = n2 := by omega
      have hdec : decide ((i : Int) < (i : Int)) = false := by simp
      go_wp2_with (first | (with_reducible refine Txt.wp_region_text mixed quiet (by decide +kernel) ?_) | (with_reducible refine Txt.text_done (by kernel_rfl) ?_))
      go_ret
      refine ⟨HK.out, .inl ⟨rfl, List.any_eq_false.2 fun x hx => ?_⟩⟩
      rw [HNO.out x (by rw [List.take_of_length_le (by rw [HH.out.len]; exact Nat.le_refl _)]; exact hx)]
      decide
theorem contains16_17 {w : World} {g n2 c2 : Nat} {a2 : Option Addr} {p : Ln → Bool} {l : List Ln} (hcl : ∀ x ∈ l, ∀ w', Keep [] w w' → Calls Try.prog 17 #[lnV x, .pointer (some ⟨g, 0, none⟩)] w' fun e w2 => e = .returned (.bool (p x)) ∧ Keep [] w' w2) (hh : LnsV w a2 n2 c2 l) :
    Calls Try.prog 16 #[.slice a2 n2 c2, .func (.func 17) #[] #[.pointer (some ⟨g, 0, none⟩)]] w fun e w' => e = .returned (.bool (l.any p)) ∧ Keep [] w w' := by
  have H0 := index35_17 hcl hh
  cases hb : l.any p with
  | true =>
    have HC : Hid (Calls Try.prog 35 #[.slice a2 n2 c2, .func (.func 17) #[] #[.pointer (some ⟨g, 0, none⟩)]] w fun e w' => ∃ i : Nat, e = .returned (.int .i64 i) ∧ Keep [] w w') := Lib.hid (H0.mono (by
      rintro e w' ⟨hk, ⟨rfl, h⟩ | ⟨i, rfl, h⟩⟩
      · rw [hb] at h; cases h
      · exact ⟨i, rfl, hk⟩))
    clear H0 hb hcl hh
    go_enter Try.func16, Try.ntmps16
    go_wp2_with (first | (with_reducible refine Txt.wp_region_text mixed quiet (by decide +kernel) ?_) | (with_reducible refine Txt.text_done (by kernel_rfl) ?_) | (go_at_call 35; (with_reducible refine HC.out.mono ?_); rintro e w5 ⟨i, rfl, hk5⟩))
    go_ret
    exact ⟨by first | rfl | (simp; done), hk5⟩
  | false =>
    have HC : Hid (Calls Try.prog 35 #[.slice a2 n2 c2, .func (.func 17) #[] #[.pointer (some ⟨g, 0, none⟩)]] w fun e w' => e = .returned (.int .i64 (-1)) ∧ Keep [] w w') := Lib.hid (H0.mono (by
      rintro e w' ⟨hk, ⟨rfl, h⟩ | ⟨i, rfl, h⟩⟩
      · exact ⟨rfl, hk⟩
      · rw [hb] at h; cases h))
    clear H0 hb hcl hh
    go_enter Try.func16, Try.ntmps16
    go_wp2_with (first | (with_reducible refine Txt.wp_region_text mixed quiet (by decide +kernel) ?_) | (with_reducible refine Txt.text_done (by kernel_rfl) ?_) | (go_at_call 35; (with_reducible refine HC.out.mono ?_); rintro e w5 ⟨rfl, hk5⟩))
    go_ret
    exact ⟨by first | rfl | (simp; done), hk5⟩
end Go.Proofs.Ytfcellgjbbfobaa
/- The shelf: slices.SortFunc. -/
namespace Go.Proofs
open Go.Shelf
def Try.sort33_ren : Go.Shelf.Ren := ⟨fun | 6 => 33 | 15 => 46 | 14 => 45 | 28 => 58 | 29 => 59 | 20 => 50 | 21 => 51 | 22 => 52 | 23 => 53 | 24 => 54 | 25 => 55 | 26 => 56 | 27 => 57 | 46 => 69 | 47 => 70 | 48 => 71 | 49 => 72 | 50 => 73 | 57 => 78 | n => n, fun | 22 => 24 | 24 => 29 | 25 => 71 | 3 => 3 | 39 => 85 | 0 => 0 | 53 => 98 | 55 => 66 | 4 => 4 | 46 => 91 | 45 => 90 | 50 => 95 | 5 => 5 | 9 => 9 | 66 => 105 | 70 => 109 | 76 => 113 | 77 => 114 | n => n, fun | n => n⟩
theorem Try.sort33 : Go.Proofs.SlLaysF0.n6 Try.prog Try.sort33_ren := {
  mixed := by kernel_rfl
  f6 := ⟨Try.f33.name, by decide, Try.func33.trans (congrArg some (by kernel_rfl))⟩
  f14 := ⟨Try.f45.name, by decide, Try.func45.trans (congrArg some (by kernel_rfl))⟩
  f15 := Try.func46.trans (congrArg some (by kernel_rfl))
  f20 := ⟨Try.f50.name, by decide, Try.func50.trans (congrArg some (by kernel_rfl))⟩
  f21 := ⟨Try.f51.name, by decide, Try.func51.trans (congrArg some (by kernel_rfl))⟩
  f22 := ⟨Try.f52.name, by decide, Try.func52.trans (congrArg some (by kernel_rfl))⟩
  f23 := ⟨Try.f53.name, by decide, Try.func53.trans (congrArg some (by kernel_rfl))⟩
  f24 := ⟨Try.f54.name, by decide, Try.func54.trans (congrArg some (by kernel_rfl))⟩
  f25 := ⟨Try.f55.name, by decide, Try.func55.trans (congrArg some (by kernel_rfl))⟩
  f26 := ⟨Try.f56.name, by decide, Try.func56.trans (congrArg some (by kernel_rfl))⟩
  f27 := ⟨Try.f57.name, by decide, Try.func57.trans (congrArg some (by kernel_rfl))⟩
  f28 := Try.func58.trans (congrArg some (by kernel_rfl))
  f29 := Try.func59.trans (congrArg some (by kernel_rfl))
  f46 := ⟨Try.f69.name, by decide, Try.func69.trans (congrArg some (by kernel_rfl))⟩
  f47 := Try.func70.trans (congrArg some (by kernel_rfl))
  f48 := Try.func71.trans (congrArg some (by kernel_rfl))
  f49 := ⟨Try.f72.name, by decide, Try.func72.trans (congrArg some (by kernel_rfl))⟩
  f50 := ⟨Try.f73.name, by decide, Try.func73.trans (congrArg some (by kernel_rfl))⟩
  f57 := ⟨Try.f78.name, by decide, Try.func78.trans (congrArg some (by kernel_rfl))⟩
  t0 := Try.underlying0
  a0 := Try.isAgg0
  z0 := Try.sizeOf0
  v0 := Try.zeroValue0
  t3 := Try.underlying3
  a3 := Try.isAgg3
  z3 := Try.sizeOf3
  v3 := Try.zeroValue3
  t4 := Try.underlying4
  a4 := Try.isAgg4
  z4 := Try.sizeOf4
  v4 := Try.zeroValue4
  t5 := Try.underlying5
  a5 := Try.isAgg5
  z5 := Try.sizeOf5
  v5 := Try.zeroValue5
  t9 := Try.underlying9
  a9 := Try.isAgg9
  z9 := Try.sizeOf9
  v9 := Try.zeroValue9
  t22 := Try.underlying24
  a22 := Try.isAgg24
  z22 := Try.sizeOf24
  v22 := Try.zeroValue24
  t25 := Try.underlying71
  a25 := Try.isAgg71
  z25 := Try.sizeOf71
  v25 := Try.zeroValue71
  t39 := Try.underlying85
  a39 := Try.isAgg85
  z39 := Try.sizeOf85
  v39 := Try.zeroValue85
  t45 := Try.underlying90
  a45 := Try.isAgg90
  z45 := Try.sizeOf90
  v45 := Try.zeroValue90
  t46 := Try.underlying91
  a46 := Try.isAgg91
  z46 := Try.sizeOf91
  v46 := Try.zeroValue91
  t50 := Try.underlying95
  a50 := Try.isAgg95
  z50 := Try.sizeOf95
  v50 := Try.zeroValue95
  t53 := Try.underlying98
  a53 := Try.isAgg98
  z53 := Try.sizeOf98
  v53 := Try.zeroValue98
  t55 := Try.underlying66
  a55 := Try.isAgg66
  z55 := Try.sizeOf66
  v55 := Try.zeroValue66
  t66 := Try.underlying105
  a66 := Try.isAgg105
  z66 := Try.sizeOf105
  v66 := Try.zeroValue105
  t70 := Try.underlying109
  a70 := Try.isAgg109
  z70 := Try.sizeOf109
  v70 := Try.zeroValue109
  t76 := Try.underlying113
  a76 := Try.isAgg113
  z76 := Try.sizeOf113
  v76 := Try.zeroValue113
  t77 := Try.underlying114
  a77 := Try.isAgg114
  z77 := Try.sizeOf114
  v77 := Try.zeroValue114 }
end Go.Proofs
/- Part: slices.SortFunc of a row of steps of the call's own. -/
namespace Go
open Go.RowKit Go.Sort Go.Shelf Go.Proofs Go.Lib
theorem flat_at {α : Type} {enc : α → List Value} {k : Nat} (hk : ∀ x, (enc x).length = k) (l : List α) : ∀ (i j : Nat) (x : α), l[i]? = some x → j < k → (l.flatMap enc)[i * k + j]? = (enc x)[j]? := by
  induction l with
  | nil => intro i j x h; simp at h
  | cons y l ih =>
    intro i j x h hj
    rw [List.flatMap_cons]
    cases i with
    | zero =>
      simp at h
      subst h
      rw [Nat.zero_mul, Nat.zero_add, List.getElem?_append_left (by rw [hk]; exact hj)]
    | succ i =>
      simp at h
      rw [List.getElem?_append_right (by rw [hk, Nat.succ_mul]; omega), hk, show (i + 1) * k + j - k = i * k + j by rw [Nat.succ_mul]; omega]
      exact ih i j x h hj
theorem flat_len {α : Type} {enc : α → List Value} {k : Nat} (hk : ∀ x, (enc x).length = k) (l : List α) : (l.flatMap enc).length = l.length * k := by
  induction l with
  | nil => simp
  | cons y l ih => rw [List.flatMap_cons, List.length_append, ih, hk, List.length_cons, Nat.succ_mul]; omega
theorem flatK_list {α : Type} [Inhabited α] {enc : α → List Value} {k : Nat} (hk : ∀ x, (enc x).length = k) (l : List α) : (flatK enc k l.toArray).toList = l.flatMap enc := by
  refine List.ext_getElem? fun t => ?_
  by_cases ht : t < l.length * k
  · have hk0 : 0 < k := by
      rcases Nat.eq_zero_or_pos k with h | h
      · rw [h] at ht; omega
      · exact h
    have hi : t / k < l.length := (Nat.div_lt_iff_lt_mul hk0).2 ht
    have hm := Nat.mod_lt t hk0
    have h1 := flat_at hk l (t / k) (t % k) _ (List.getElem?_eq_getElem hi) hm
    rw [Nat.div_add_mod' t k] at h1
    rw [h1, Array.getElem?_toList]
    have h2 := get_flatK enc k l.toArray t (by simpa using ht)
    rw [Array.getElem?_eq_getElem (by simpa using ht)]
    rw [getElem!_pos _ t (by simpa using ht)] at h2
    rw [h2]
    simp only [List.getElem!_toArray]
    rw [getElem!_pos l _ hi, getElem!_pos _ _ (by rw [hk]; exact hm), List.getElem?_eq_getElem (by rw [hk]; exact hm)]
  · rw [List.getElem?_eq_none (by simp; omega), List.getElem?_eq_none (by rw [flat_len hk]; omega)]
theorem holdsK_own {α : Type} [Inhabited α] {enc : α → List Value} {k : Nat} (hk : ∀ x, (enc x).length = k) {w : World} {g : Nat} {cur : Array Value} {e : TypeId} {l : List α} (hb : w.heap[g]? = some (.cells cur e (0, 0))) (ht : cur.toList.take (l.length * k) = l.flatMap enc) : HoldsK enc k w g 0 l.toArray := by
  intro j hj
  rw [size_flatK] at hj
  have hj2 : j < l.length * k := by simpa using hj
  refine ⟨?_, thaw hb _⟩
  rw [Nat.zero_add, cellAt hb]
  show cur[j]? = some ((flatK enc k l.toArray)[j]!)
  rw [getElem!_pos (flatK enc k l.toArray) j (by simpa using hj2)]
  have h1 : (cur.toList.take (l.length * k))[j]? = (flatK enc k l.toArray).toList[j]? := by rw [ht, flatK_list hk]
  rw [List.getElem?_take, if_pos hj2, Array.getElem?_toList, Array.getElem?_toList, Array.getElem?_eq_getElem (xs := flatK enc k l.toArray) (i := j) (by simpa using hj2)] at h1
  exact h1
theorem sortedK_heap {α : Type} [Inhabited α] {enc : α → List Value} {k : Nat} {w : World} {g n : Nat} {os : Array Obj} {cur : Array Value} {e : TypeId} {fr : Nat × Nat} (d : Array α) (hb : w.heap[g]? = some (.cells cur e fr)) :
    (sortWorldK enc k w g 0 n d os).heap[g]? = some (.cells (putCells id 0 (flatK enc k d) cur) e fr) := by
  have hg : g < w.heap.size := (Array.getElem?_eq_some_iff.1 hb).1
  unfold sortWorldK
  rw [heap_grow_old _ _ (by simpa [putRowK, putRow, mapBlock, Sort.ahead] using hg)]
  simp [putRowK, putRow, mapBlock, Sort.ahead, Array.getElem?_modify, hb, onCells]
theorem sortedK_keep {α : Type} [Inhabited α] {enc : α → List Value} {k : Nat} {w : World} {g n : Nat} {os : Array Obj} (d : Array α) : Keep [g] w (sortWorldK enc k w g 0 n d os) := by
  refine Keep.ofGrown (row := some g) ⟨rfl, rfl, rfl, by simp [sortWorldK, putRowK, putRow, mapBlock, Sort.ahead, grow], fun j hj hne => ?_⟩ (fun x hx => by simp at hx; simp [hx])
  unfold sortWorldK
  rw [heap_grow_old _ _ (by simpa [putRowK, putRow, mapBlock, Sort.ahead] using hj)]
  have : g ≠ j := fun e => hne (by rw [e])
  simp [putRowK, putRow, mapBlock, Sort.ahead, Array.getElem?_modify, this]
theorem sortedK_own {α : Type} [Inhabited α] {enc : α → List Value} {k : Nat} (hk : ∀ x, (enc x).length = k) {w : World} {B g cap n : Nat} {os : Array Obj} {e : TypeId} {l m : List α} (ho : w.ownsRow B e k (.slice (some ⟨g, 0, none⟩) l.length cap) l.length (l.flatMap enc)) (hm : m.length = l.length) : (sortWorldK enc k w g 0 n m.toArray os).ownsRow B e k (.slice (some ⟨g, 0, none⟩) l.length cap) l.length (m.flatMap enc) := by
  refine ⟨by rw [flat_len hk, hm], ?_⟩
  rcases ho.2 with ⟨h, _⟩ | ⟨g', cap', cur, hv, hb, hg, hnc, hcm, hcs, ht⟩
  · cases h
  · cases hv
    refine .inr ⟨g, cap, _, rfl, hb, sortedK_heap _ hg, hnc, hcm, by simp [putCells, hcs], ?_⟩
    rw [← flatK_list hk m]
    have hle : l.length * k ≤ cap * k := Nat.mul_le_mul_right _ hnc
    refine List.ext_getElem? fun j => ?_
    by_cases hj : j < l.length * k
    · rw [List.getElem?_take_of_lt hj, Array.getElem?_toList, Array.getElem?_toList]
      have h2 : j < m.length * k := by rw [hm]; exact hj
      have h3 : j < cur.size := by rw [hcs]; omega
      simp [putCells, h2, h3]
    · rw [List.getElem?_take_eq_none (by omega), List.getElem?_eq_none (by simp [hm]; omega)]
end Go
namespace Go.Proofs.Ytfcellgjbbfobaa
open Go.RowKit Go.Sort Go.Shelf Go.Proofs
theorem who34 (x y : Ln) (hx : StOk x) (hy : StOk y) (w : World) : Calls Try.prog 34 #[.agg x.cells.toArray, .agg y.cells.toArray] w fun e w' => e = .returned (.int .i64 (x.q - y.q)) ∧ w' = (w.alloc (.cells x.cells.toArray 29)).alloc (.cells y.cells.toArray 29) := by
  obtain ⟨⟨h1, h2⟩, -⟩ := hx
  obtain ⟨⟨h3, h4⟩, -⟩ := hy
  obtain ⟨q, g, u⟩ := x
  obtain ⟨q2, g2, u2⟩ := y
  simp only at h1 h2 h3 h4
  have hw : wrap64 (q - q2) = q - q2 := by unfold wrap64; omega
  simp only [Ln.cells]
  clear h1 h2 h3 h4
  go_enter Try.func34, Try.ntmps34
  go_wp2_with (first | (with_reducible refine Txt.wp_region_text mixed quiet (by decide +kernel) ?_) | (with_reducible refine Txt.text_done (by kernel_rfl) ?_))
  go_ret
  exact ⟨ret_int hw, rfl⟩
abbrev StT : Type := {x : Ln // StOk x}
instance : Inhabited StT := ⟨⟨⟨0, 0, 0⟩, by decide, by decide, by decide⟩⟩
def stC (x : StT) : List Value := x.1.cells
theorem stC_flat (l : List StT) : l.flatMap stC = lanesC (l.map (·.1)) := by
  induction l with
  | nil => rfl
  | cons x l ih => rw [List.flatMap_cons, ih]; rfl
theorem attach_st {l : List Ln} (h : ∀ x ∈ l, StOk x) : ∃ m : List StT, m.map (·.1) = l := by
  induction l with
  | nil => exact ⟨[], rfl⟩
  | cons x l ih =>
    obtain ⟨m, hm⟩ := ih (fun y hy => h y (by simp [hy]))
    exact ⟨⟨x, h x (by simp)⟩ :: m, by rw [List.map_cons, hm]⟩
theorem swoSt : SWO (ltOf (fun x y : StT => x.1.q - y.1.q)) := by
  refine ⟨fun x => ?_, fun x y z => ?_, fun x y z => ?_⟩
  all_goals
    simp only [ltOf, decide_eq_true_eq, decide_eq_false_iff_not]
    intros
    omega
theorem sort33_own {w : World} {B : Nat} {v : Value} {l : List Ln} (ho : w.ownsRow B 29 3 v l.length (lanesC l)) (hl : 0 < l.length) (hap : l.Pairwise (fun x y => dep x y = false)) (hok : ∀ x ∈ l, StOk x) (hn : l.length ≤ 1000) :
    Calls Try.prog 33 #[v, .func (.func 34) #[] #[]] w fun e w' => e = .returned (.tuple #[]) ∧ w'.ownsRow B 29 3 v l.length (lanesC (Tr.sortQ Ln.q l)) ∧ Keep v.ownBlock.toList w w' := by
  obtain ⟨m, rfl⟩ := attach_st hok
  rw [← stC_flat, List.length_map] at ho
  rw [List.length_map] at hl hn ⊢
  have hk : ∀ x : StT, (stC x).length = 3 := fun x => rfl
  rcases ho.2 with ⟨_, h0⟩ | ⟨g, cap, cur, rfl, hb, hg, hnc, hcm, hcs, ht⟩
  · omega
  · have hH := holdsK_own hk hg ht
    have hsz : m.toArray.size = m.length := by simp
    have h := AnyQ.slices_SortFunc Try.sort33 3 (fun w => by kernel_rfl) (fun w => by kernel_rfl) stC hk (fun x u hu => by simp [stC, Ln.cells] at hu; rcases hu with hu | hu | hu <;> (subst hu; rfl)) (fun x y : StT => x.1.q - y.1.q) swoSt 34 #[] g 0 cap m.toArray w (fun args w => by kernel_rfl) (fun k os dk _ x y => (who34 x.1 y.1 x.2 y.2 _).mono (by
      rintro e w' ⟨rfl, rfl⟩
      exact ⟨rfl, 0, #[.cells x.1.cells.toArray 29 (0, 0), .cells y.1.cells.toArray 29 (0, 0)], by rw [alloc_eq_grow, alloc_eq_grow, grow_grow]; rfl⟩)) hH (Array.getElem?_eq_some_iff.1 hg).1 (by rw [hsz]; omega)
    rw [hsz] at h
    refine h.mono ?_
    rintro e w' ⟨rfl, d', n, os, hp, hsd, rfl⟩
    obtain ⟨m', rfl⟩ : ∃ m' : List StT, d' = m'.toArray := ⟨d'.toList, by simp⟩
    have hlen : m'.length = m.length := by have := hp.1; simpa using this
    have hperm : m'.Perm m := by
      have := hp.2.2
      simp only [List.extract_toArray, List.extract_eq_take_drop, Nat.sub_zero, List.drop_zero] at this
      rw [List.take_of_length_le (by omega), List.take_of_length_le (Nat.le_refl _)] at this
      exact this
    have hsorted : (m'.map (·.1)).Pairwise (fun x y : Ln => x.q ≤ y.q) := by
      rw [List.pairwise_map, List.pairwise_iff_getElem]
      intro i j hi hj hij
      have h1 := hsd i j (Nat.zero_le _) hij (by omega)
      simp only [ltOf, decide_eq_false_iff_not, List.getElem!_toArray] at h1
      rw [getElem!_pos m' j hj, getElem!_pos m' i hi] at h1
      omega
    have heq := Tr.sortQ_ext (D := dep) (q := Ln.q) dep_q dep_symm hap (hperm.map (·.1)) hsorted
    have h9 := sortedK_own hk (n := n) (os := os) ho hlen
    rw [stC_flat, heq] at h9
    exact ⟨rfl, h9, sortedK_keep _⟩
end Go.Proofs.Ytfcellgjbbfobaa
/- Part: the rounds under way, in plain words and in memory. -/
namespace Go
open Go.RowKit
def lvs (l : List Ln) : List Nat := (Tr.lv dep l).map Prod.snd
def rsOf (l : List Ln) : List (List Ln) := (List.range (Tr.nr dep l)).map (Tr.rnd dep l)
/-- The levels while the one at i is reckoned. -/
def LVx (l : List Ln) (n i x : Nat) : List Int := ((lvs (l.take i) ++ x :: List.replicate (n - (i + 1)) 0).map (fun k : Nat => (k : Int)))
theorem lvs_len (l : List Ln) : (lvs l).length = l.length := by unfold lvs; rw [List.length_map, Tr.lv_len]
theorem LVx_len {l : List Ln} {n i x : Nat} (hl : l.length = n) (hi : i < n) : (LVx l n i x).length = n := by
  unfold LVx
  rw [List.length_map, List.length_append, lvs_len, List.length_take, List.length_cons, List.length_replicate]; omega
theorem LVx_at {l : List Ln} {n i x : Nat} (hl : l.length = n) (hi : i < n) : (LVx l n i x)[i]? = some (x : Int) := by
  unfold LVx
  rw [List.getElem?_map, List.getElem?_append_right (by rw [lvs_len, List.length_take]; omega), lvs_len, List.length_take, Nat.min_eq_left (by omega), Nat.sub_self]; rfl
theorem LVx_lo {l : List Ln} {n i x k : Nat} (hl : l.length = n) (hi : i < n) (hk : k < i) : ∃ (m : Nat) (t : Ln), (LVx l n i x)[k]? = some (m : Int) ∧ l[k]? = some t ∧ (Tr.lv dep (l.take i))[k]? = some (t, m) := by
  have hkl : k < (Tr.lv dep (l.take i)).length := by rw [Tr.lv_len, List.length_take]; omega
  obtain ⟨⟨t, m⟩, ht⟩ : ∃ p, (Tr.lv dep (l.take i))[k]? = some p := ⟨_, List.getElem?_eq_getElem hkl⟩
  refine ⟨m, t, ?_, ?_, ht⟩
  · unfold LVx lvs
    rw [List.getElem?_map, List.getElem?_append_left (by rw [List.length_map]; exact hkl), List.getElem?_map, ht]; rfl
  · have h1 := congrArg (fun l => l[k]?) (Tr.lv_fst (D := dep) (l.take i))
    simp only [List.getElem?_map, ht, Option.map_some, List.getElem?_take, if_pos hk] at h1
    exact h1.symm
theorem LVx_set {l : List Ln} {n i x y : Nat} (hl : l.length = n) (hi : i < n) : (LVx l n i x).set i (y : Int) = LVx l n i y := by
  unfold LVx
  rw [List.map_append, List.map_append, List.set_append_right _ _ (by rw [List.length_map, lvs_len, List.length_take]; omega), List.length_map, lvs_len, List.length_take, Nat.min_eq_left (by omega), Nat.sub_self]; rfl
theorem LVx_next {l : List Ln} {n i : Nat} {s : Ln} (hi : i + 1 < n) (hs : l[i]? = some s) : LVx l n i (Tr.lvOf dep (Tr.lv dep (l.take i)) s) = LVx l n (i + 1) 0 := by
  unfold LVx lvs
  have h1 : l.take (i + 1) = l.take i ++ [s] := by rw [List.take_add_one, hs]; rfl
  rw [h1, Tr.lv_snoc, List.map_append (f := Prod.snd), List.append_assoc]
  have h2 : List.replicate (n - (i + 1)) 0 = 0 :: List.replicate (n - (i + 1 + 1)) 0 := by
    rw [show n - (i + 1) = (n - (i + 1 + 1)) + 1 by omega, List.replicate_succ]
  rw [h2]; rfl
theorem LVx_zero {l : List Ln} {n : Nat} (hn : 0 < n) : (List.replicate n 0).map (fun k : Nat => (k : Int)) = LVx l n 0 0 := by
  unfold LVx
  rw [List.take_zero, show n = (n - (0 + 1)) + 1 by omega, List.replicate_succ]
  simp [lvs, Tr.lv, Tr.lvFrom]
theorem lvOf_take {p : List (Ln × Nat)} {k m : Nat} {t s : Ln} (h : p[k]? = some (t, m)) : Tr.lvOf dep (p.take (k + 1)) s = if dep s t = true then max (Tr.lvOf dep (p.take k) s) (m + 1) else Tr.lvOf dep (p.take k) s := by
  rw [List.take_add_one, h, Option.toList_some, Tr.lvOf_snoc]
theorem rsOf_len (l : List Ln) : (rsOf l).length = Tr.nr dep l := by simp [rsOf]
theorem rsOf_at {l : List Ln} {r : Nat} (h : r < Tr.nr dep l) : (rsOf l)[r]? = some (Tr.rnd dep l r) := by
  unfold rsOf
  rw [List.getElem?_map, List.getElem?_range h]; rfl
theorem rsOf_none {l : List Ln} {r : Nat} (h : ¬ r < Tr.nr dep l) : (rsOf l)[r]? = none := List.getElem?_eq_none (by rw [rsOf_len]; omega)
/-- One more step comes into its round. -/
theorem rsOf_old {l : List Ln} {s : Ln} (h : Tr.lvOf dep (Tr.lv dep l) s < Tr.nr dep l) : rsOf (l ++ [s]) = (rsOf l).set (Tr.lvOf dep (Tr.lv dep l) s) (Tr.rnd dep l (Tr.lvOf dep (Tr.lv dep l) s) ++ [s]) := by
  have hn : Tr.nr dep (l ++ [s]) = Tr.nr dep l := by rw [Tr.nr_snoc]; omega
  refine List.ext_getElem? fun r => ?_
  rw [List.getElem?_set]
  by_cases hr : r < Tr.nr dep l
  · rw [rsOf_at (hn ▸ hr), Tr.rnd_snoc]
    by_cases he : Tr.lvOf dep (Tr.lv dep l) s = r
    · rw [if_pos he, if_pos he, if_pos (by rw [rsOf_len]; omega), he]
    · rw [if_neg he, if_neg he, List.append_nil, rsOf_at hr]
  · rw [rsOf_none (by rw [hn]; exact hr), if_neg (by omega), rsOf_none hr]
theorem rsOf_new {l : List Ln} {s : Ln} (h : Tr.lvOf dep (Tr.lv dep l) s = Tr.nr dep l) : rsOf (l ++ [s]) = (rsOf l ++ [[]]).set (Tr.nr dep l) ([] ++ [s]) := by
  have hn : Tr.nr dep (l ++ [s]) = Tr.nr dep l + 1 := by rw [Tr.nr_snoc]; omega
  refine List.ext_getElem? fun r => ?_
  rw [List.getElem?_set]
  by_cases hr : r < Tr.nr dep l
  · rw [rsOf_at (by omega), Tr.rnd_snoc, if_neg (by omega), List.append_nil, if_neg (by omega), List.getElem?_append_left (by rw [rsOf_len]; exact hr), rsOf_at hr]
  · by_cases he : Tr.nr dep l = r
    · subst he
      have h0 : Tr.rnd dep l (Tr.nr dep l) = [] := by
        rw [List.eq_nil_iff_forall_not_mem]
        intro x hx
        have := Tr.lt_nr (Tr.mem_rnd.1 hx)
        omega
      rw [rsOf_at (by omega), Tr.rnd_snoc, if_pos h, h0, if_pos rfl, if_pos (by rw [List.length_append, rsOf_len]; simp)]
    · rw [rsOf_none (by omega), if_neg he, List.getElem?_eq_none (by rw [List.length_append, rsOf_len]; simp; omega)]
theorem rsOf_rnds (l : List Ln) : (rsOf l).map (Tr.sortQ Ln.q) = Tr.rnds dep Ln.q l := by
  unfold rsOf Tr.rnds
  rw [List.map_map]; rfl
theorem rnd_sub {l : List Ln} {r : Nat} {x : Ln} (h : x ∈ Tr.rnd dep l r) : x ∈ l := by
  have h1 := Tr.mem_rnd.1 h
  have h2 := List.mem_map_of_mem (f := Prod.fst) h1
  rwa [Tr.lv_fst] at h2
theorem rnd_len (l : List Ln) (r : Nat) : (Tr.rnd dep l r).length ≤ l.length := by
  unfold Tr.rnd
  rw [List.length_map]
  exact Nat.le_trans (List.length_filter_le _ _) (by rw [Tr.lv_len]; exact Nat.le_refl _)
theorem nr_le (l : List Ln) : Tr.nr dep l ≤ l.length := by
  refine Tr.snoc_ind (P := fun l => Tr.nr dep l ≤ l.length) (Nat.le_refl _) (fun l s ih => ?_) l
  rw [Tr.nr_snoc, List.length_append, List.length_singleton]
  have := Tr.lvOf_le_nr (D := dep) l s
  omega
/-- Rows of rows of steps, of the call's own. -/
structure RndAt (w : World) (B : Nat) (v : Value) (vals : List Value) (rs : List (List Ln)) : Prop where
  len : vals.length = rs.length
  out : w.ownsRow B 24 1 v rs.length vals
  row : ∀ (r : Nat) (x : Value) (l : List Ln), vals[r]? = some x → rs[r]? = some l → w.ownsRow B 29 3 x l.length (lanesC l)
  apart : ∀ (i j : Nat) (x y : Value) (g : Nat), vals[i]? = some x → vals[j]? = some y → x.ownBlock = some g → y.ownBlock = some g → i = j
theorem own_put_cellQ {w : World} {B e m n : Nat} {g cap : Nat} {xs : List Value} (h : w.ownsRow B e m (.slice (some ⟨g, 0, none⟩) n cap) n xs) (j : Nat) (x : Value) :
    (w.setCell ⟨g, j, none⟩ x).ownsRow B e m (.slice (some ⟨g, 0, none⟩) n cap) n (xs.set j x) := by
  obtain ⟨hl, h⟩ := h
  refine ⟨by simpa using hl, ?_⟩
  rcases h with ⟨h0, _⟩ | ⟨g', cap', cur, hv, hb, hg, hnc, hcm, hcs, ht⟩
  · cases h0
  · cases hv
    refine .inr ⟨g, cap, cur.setIfInBounds j x, rfl, hb, by rw [blk_setCell, if_pos rfl, hg]; rfl, hnc, hcm, by simpa using hcs, ?_⟩
    rw [← ht]
    simp only [Array.toList_setIfInBounds]
    rw [List.take_set]
theorem own_cellQ {w : World} {B e n : Nat} {v : Value} {vs : List Value} (h : w.ownsRow B e 1 v n vs) (hn : 0 < n) : ∃ g cap, v = .slice (some ⟨g, 0, none⟩) n cap ∧ B ≤ g ∧ g < w.heap.size ∧ (∃ cs, w.heap[g]? = some (.cells cs e (0, 0))) ∧ (∀ i x, vs[i]? = some x → w.cell? ⟨g, i, none⟩ = some x) ∧ ∀ i, w.frozen? ⟨g, i, none⟩ = false := by
  obtain ⟨hl, h⟩ := h
  rcases h with ⟨_, h0⟩ | ⟨g, cap, cur, rfl, hb, hg, hnc, hcm, hcs, ht⟩
  · omega
  · refine ⟨g, cap, rfl, hb, (Array.getElem?_eq_some_iff.1 hg).1, ⟨cur, hg⟩, fun i x hx => ?_, thaw hg⟩
    rw [cell_of_row w g i cur e (0, 0) hg]
    have hi := (List.getElem?_eq_some_iff.1 hx).1
    have : (cur.toList.take (n * 1))[i]? = vs[i]? := by rw [ht]
    rw [List.getElem?_take, if_pos (by omega)] at this
    simp only [Array.getElem?_toList] at this
    rw [this, hx]
section
variable {w w' : World} {B : Nat} {v : Value} {vals : List Value} {rs : List (List Ln)} {S : List Nat}
theorem RndAt.start (w : World) (B : Nat) : RndAt w B (.slice none 0 0) [] [] :=
  ⟨rfl, World.ownsRow_nil _ _ _ _, fun r x l h => by simp at h, fun i j x y g h => by simp at h⟩
theorem RndAt.keep (h : RndAt w B v vals rs) (hk : Keep S w w') (hS : ∀ g ∈ S, ∀ cs T fr, w.heap[g]? = some (.cells cs T fr) → T ≠ 24 ∧ T ≠ 29) : RndAt w' B v vals rs :=
  ⟨h.len, own_keep h.out hk (fun g hg hm => by obtain ⟨_, _, cs, hc⟩ := ownLtQ h.out g hg; exact (hS g hm _ _ _ hc).1 rfl), fun r x l hx hl => own_keep (h.row r x l hx hl) hk (fun g hg hm => by obtain ⟨_, _, cs, hc⟩ := ownLtQ (h.row r x l hx hl) g hg; exact (hS g hm _ _ _ hc).2 rfl), h.apart⟩
theorem RndAt.keep0 (h : RndAt w B v vals rs) (hk : Keep [] w w') : RndAt w' B v vals rs := h.keep hk (fun g hg => by cases hg)
/-- An empty row more. -/
theorem RndAt.more {v' : Value} (h : RndAt w B v vals rs) (hk : Keep v.ownBlock.toList w w') (ho : w'.ownsRow B 24 1 v' (rs.length + 1) (vals ++ [.slice none 0 0])) : RndAt w' B v' (vals ++ [.slice none 0 0]) (rs ++ [[]]) := by
  have hg : ∀ {l : List Value} {i : Nat} {x : Value}, (l ++ [Value.slice none 0 0])[i]? = some x → l[i]? = some x ∨ (i = l.length ∧ x = .slice none 0 0) := fun {l i x} hx => by
    by_cases hi : i < l.length
    · rw [List.getElem?_append_left hi] at hx; exact .inl hx
    · rw [List.getElem?_append_right (by omega)] at hx
      have h1 := (List.getElem?_eq_some_iff.1 hx).1
      simp at h1
      have h2 : i - l.length = 0 := by omega
      rw [h2] at hx
      simp at hx
      exact .inr ⟨by omega, hx.symm⟩
  refine ⟨by simp [h.len], by rw [List.length_append]; exact ho, fun r x l hx hl => ?_, fun i j x y g hx hy h1 h2 => ?_⟩
  · rcases hg hx with hx | ⟨rfl, rfl⟩
    · have hr := (List.getElem?_eq_some_iff.1 hx).1
      rw [h.len] at hr
      rw [List.getElem?_append_left hr] at hl
      refine own_keep (h.row r x l hx hl) hk (fun g hg hm => ?_)
      obtain ⟨_, _, cs, hc⟩ := ownLtQ (h.row r x l hx hl) g hg
      obtain ⟨_, _, cs', hc'⟩ := ownLtQ h.out g (by simpa using hm)
      exact neTypeQ hc hc' (by decide) rfl
    · rw [h.len, List.getElem?_append_right (Nat.le_refl _), Nat.sub_self] at hl
      simp at hl
      subst hl
      exact World.ownsRow_nil _ _ _ _
  · rcases hg hx with hx | ⟨_, rfl⟩
    · rcases hg hy with hy | ⟨_, rfl⟩
      · exact h.apart i j x y g hx hy h1 h2
      · simp [Value.ownBlock] at h2
    · simp [Value.ownBlock] at h1
/-- A row is written anew. -/
theorem RndAt.put {wa w9 : World} {go n cap r : Nat} {x x9 : Value} {l l9 : List Ln} (h : RndAt w B (.slice (some ⟨go, 0, none⟩) n cap) vals rs) (hn : rs.length = n) (hx : vals[r]? = some x) (hl : rs[r]? = some l) (hka : Keep [] w wa) (hk9 : Keep x.ownBlock.toList wa w9) (ho9 : w9.ownsRow B 29 3 x9 l9.length (lanesC l9)) (hx9 : x9.ownBlock = x.ownBlock ∨ x9.ownBlock = some wa.heap.size) : RndAt (w9.setCell ⟨go, r, none⟩ x9) B (.slice (some ⟨go, 0, none⟩) n cap) (vals.set r x9) (rs.set r l9) := by
  have hrl := (List.getElem?_eq_some_iff.1 hx).1
  have hox := h.row r x l hx hl
  have hout := h.out
  rw [hn] at hout
  have ho1 := own_keep (own_keep hout hka (by simp)) hk9 (fun g hg hm => by
    obtain ⟨_, _, cs, hc⟩ := ownLtQ hout g hg
    obtain ⟨_, _, cs', hc'⟩ := ownLtQ hox g (by simpa using hm)
    exact neTypeQ hc hc' (by decide) rfl)
  have ho2 := own_put_cellQ ho1 r x9
  have hgo : go ∉ ([] : List Nat) := by simp
  obtain ⟨_, _, cgo, hgob⟩ := ownLtQ ho1 go (by simp [Value.ownBlock])
  have hset : ∀ (j : Nat) (u : Value), (vals.set r x9)[j]? = some u → (j = r ∧ u = x9) ∨ (j ≠ r ∧ vals[j]? = some u) := fun j u hu => by
    by_cases hj : r = j
    · subst hj
      rw [List.getElem?_set_self hrl] at hu
      injection hu with hu
      exact .inl ⟨rfl, hu.symm⟩
    · rw [List.getElem?_set_ne hj] at hu
      exact .inr ⟨fun e => hj e.symm, hu⟩
  have hkS : Keep [go] w9 (w9.setCell ⟨go, r, none⟩ x9) := (Keep.refl [go] w9).setCell (.inl (by simp)) x9
  have hcell : ∀ {u : Value} {m : Nat} {xs : List Value}, w9.ownsRow B 29 3 u m xs → (w9.setCell ⟨go, r, none⟩ x9).ownsRow B 29 3 u m xs := fun {u m xs} ho => own_keep ho hkS (fun g hg hm => by
    obtain ⟨_, _, cs, hc⟩ := ownLtQ ho g hg
    rw [List.mem_singleton.1 hm] at hc
    exact neTypeQ hc hgob (by decide) rfl)
  have hlt9 : ∀ (j : Nat) (u : Value) (g : Nat), vals[j]? = some u → u.ownBlock = some g → g < wa.heap.size := fun j u g h3 h4 => by
    have hj := (List.getElem?_eq_some_iff.1 h3).1
    rw [h.len] at hj
    exact Nat.lt_of_lt_of_le (ownLtQ (h.row j u _ h3 (List.getElem?_eq_getElem hj)) g h4).2.1 hka.size
  refine ⟨by rw [List.length_set, List.length_set]; exact h.len, by rw [List.length_set, hn]; exact ho2, fun j u m hu hm => ?_, fun i j u u' g hi hj h1 h2 => ?_⟩
  · rcases hset j u hu with ⟨rfl, rfl⟩ | ⟨hne, hu⟩
    · rw [List.getElem?_set_self (by rw [← h.len]; exact hrl)] at hm
      injection hm with hm
      subst hm
      exact hcell ho9
    · rw [List.getElem?_set_ne (fun e => hne e.symm)] at hm
      exact hcell (own_keep (own_keep (h.row j u m hu hm) hka (by simp)) hk9 (fun g hg hm2 => hne (h.apart j r u x g hu hx hg (by simpa using hm2))))
  · rcases hset i u hi with ⟨e1, e2⟩ | ⟨hne, hi⟩ <;> rcases hset j u' hj with ⟨e3, e4⟩ | ⟨hne2, hj⟩
    · rw [e1, e3]
    · rw [e1]
      rw [e2] at h1
      rcases hx9 with h3 | h3
      · exact h.apart _ _ _ _ g hx hj (h3 ▸ h1) h2
      · rw [h3] at h1
        injection h1 with h1
        have := hlt9 _ _ _ hj h2
        omega
    · rw [e3]
      rw [e4] at h2
      rcases hx9 with h3 | h3
      · exact h.apart _ _ _ _ g hi hx h1 (h3 ▸ h2)
      · rw [h3] at h2
        injection h2 with h2
        have := hlt9 _ _ _ hi h1
        omega
    · exact h.apart i j u u' g hi hj h1 h2
theorem RndAt.rowSl (h : RndAt w B v vals rs) {r : Nat} (hr : r < rs.length) : ∃ x l, vals[r]? = some x ∧ rs[r]? = some l ∧ w.ownsRow B 29 3 x l.length (lanesC l) := by
  have hv : r < vals.length := by rw [h.len]; exact hr
  exact ⟨_, _, List.getElem?_eq_getElem hv, List.getElem?_eq_getElem hr, h.row r _ _ (List.getElem?_eq_getElem hv) (List.getElem?_eq_getElem hr)⟩
end
end Go
