/- Texts laid together: N19 N20. -/
import Derived.Test.YtfgdgdjdlnchlaaMg7
import Derived.Lib.AppendZerosOnto
import Derived.Deep.CutRange
import Derived.Deep.DeepCutAuto
/- NamesOwn. -/
namespace Go
open Go.RowKit
theorem run_append_zeros_own {P : Program} {w : World} (base : Nat) (t tn ty e : TypeId) (kn : IntKind) (i : TypeInfo) (z : Value) (size bytes : Nat) (ht : P.underlying t = some (.slice e)) (htn : P.underlying tn = some (.int kn)) (hi : P.info? e = some i) (hz : i.zero = some z)
    (hsize : i.size = size) (hby : i.bytes = bytes) (hzs : z.cells.size = size) (hsz : 0 < size)
    (v : Value) (n : Nat) (xs : List Value) (hown : w.ownsRow base e size v n xs)
    (m : Nat) (hm : 0 < m) (h1 : ∀ u ∈ (Builtin.zeroCells z.cells m).toList, u.oneCell' = true)
    (h63 : n + m ≤ maxLen) (hbytes : (n + m) * bytes ≤ 140737488355328) (hbase : base ≤ w.heap.size) :
    ∃ v' w', (Builtin.append_ #[t, tn] ty #[v, .int .i64 m]).run P w = .ok v' w' ∧ w'.ownsRow base e size v' (n + m) (xs ++ (Builtin.zeroCells z.cells m).toList) ∧ w.grownBy w' v.ownBlock := by
  subst hsize
  subst hby
  obtain ⟨news, hnews⟩ : ∃ news, (Builtin.zeroCells z.cells m).toList = news := ⟨_, rfl⟩
  have hna : Builtin.zeroCells z.cells m = news.toArray := by rw [← hnews]
  have hl : news.length = m * i.size := by rw [← hnews, Array.length_toList, size_zeroCells, hzs]
  rw [hnews] at h1 ⊢
  have hsmall : n + m ≤ 9223372036854775807 := by simp only [maxLen] at h63; omega
  have hmb : m * i.bytes ≤ 281474976710656 := Nat.le_trans (Nat.le_trans (Nat.mul_le_mul_right _ (Nat.le_add_left m n)) hbytes) (by decide)
  have hlen : (xs ++ news).length = (n + m) * i.size := by rw [List.length_append, hown.1, hl, Nat.add_mul]
  have grown : ∀ (old : Nat), ∀ (row : Option Nat),
      (w.drew.alloc (.cells (xs.toArray ++ news.toArray ++ Builtin.zeroCells z.cells (grownCap w (n + m) old e - (n + m))) e)).ownsRow base e i.size
        (.slice (some ⟨w.heap.size, 0, none⟩) (n + m) (grownCap w (n + m) old e)) (n + m) (xs ++ news) ∧
      w.grownBy (w.drew.alloc (.cells (xs.toArray ++ news.toArray ++ Builtin.zeroCells z.cells (grownCap w (n + m) old e - (n + m))) e)) row := by
    intro old row
    have hge := grownCap_ge w (n + m) old e
    have hcm : grownCap w (n + m) old e ≤ maxLen := grownCap_le_maxLen w (n + m) old e h63
    refine ⟨⟨hlen, .inr ⟨w.heap.size, _, _, rfl, hbase, heap_alloc_new w.drew _, hge, hcm, ?_, ?_⟩⟩, ⟨rfl, rfl, rfl, by simp, fun k hk _ => Below.heap_alloc w.drew _ _ hk⟩⟩
    · simp only [Array.size_append, List.size_toArray, size_zeroCells, hzs, hown.1, hl, ← Nat.add_mul]
      congr 1
      omega
    · simp only [Array.toList_append, List.append_assoc]
      rw [← List.append_assoc, ← hlen]
      exact List.take_left
  rcases hown.2 with ⟨rfl, rfl⟩ | ⟨g, cap, cur, rfl, hbg, hg, hnc, hcm, hcs, htake⟩
  · have hx : xs = [] := List.eq_nil_of_length_eq_zero (by simpa using hown.1)
    subst hx
    have hr := Lib.run_append_nil_zeros (P := P) w t tn ty e i z .i64 kn ht htn hi hz m hm hsz (by omega) hmb
    rw [hna] at hr
    have hgr := grown 0 (Value.ownBlock (.slice none 0 0))
    simp only [Nat.zero_add, List.nil_append, Array.empty_append] at hgr ⊢
    exact ⟨_, _, hr, hgr.1, hgr.2⟩
  · by_cases hroom : n + m ≤ cap
    · have hfit : n * i.size + news.length ≤ cur.size := by rw [hl, hcs, ← Nat.add_mul]; exact Nat.mul_le_mul_right _ hroom
      have hst := run_storeCells_at P g (n * i.size) e news 0 cur w hg (by simpa using hfit) h1
      simp only [Nat.add_zero] at hst
      have hw : IntKind.i64.wrap (m : Int) = m := by rw [IntKind.wrap_i64]; omega
      have hneg : ¬ ((m : Int) < 0) := by omega
      have h48i : ¬ (281474976710656 < (m : Int) * (i.bytes : Int)) := by
        rw [← Int.natCast_mul]
        omega
      have hns : ¬ (m * i.size = 0) := Nat.mul_ne_zero (by omega) (by omega)
      have hns1 : m ≠ 0 := by omega
      have hns2 : i.size ≠ 0 := by omega
      refine ⟨.slice (some ⟨g, 0, none⟩) (n + m) cap, w.setRow g (cur.toList.take (n * i.size) ++ news ++ cur.toList.drop (n * i.size + news.length)).toArray, ?_, ⟨hlen, .inr ⟨g, cap, _, rfl, hbg, setRow_heap w g cur _ e _ hg, hroom, hcm, ?_, ?_⟩⟩, ⟨rfl, rfl, rfl, by simp, fun k _ hk => setRow_other w g k _ (fun e => hk (by simp [Value.ownBlock, e]))⟩⟩
      · simp [Builtin.append_, run_underlying ht, run_underlying htn, sizeOf, typeInfo, zeroValue, hi, hz, asInt, asIntOf, hw, hneg, hns, hns1, hns2, h48i, hroom, hna, Addr.add_lit, hst]
      · simp only [List.size_toArray, List.length_append, List.length_take, List.length_drop, Array.length_toList]
        omega
      · rw [htake, ← hlen]
        exact List.take_left
    · have holds : ∀ j u, xs[j]? = some u → w.cell? ((⟨g, 0, none⟩ : Addr).add j) = some u := hown.cells (g := g) rfl
      have hld := run_loadCells_list (P := P) w.drew ⟨g, 0, none⟩ xs holds
      rw [hown.1] at hld
      have hfc : (Builtin.firstCells i.size n (.slice (some ⟨g, 0, none⟩) n cap)).run P w.drew = .ok xs.toArray w.drew := by
        simp [Builtin.firstCells, hld]
      have hr := Lib.run_append_grow_zeros (P := P) w t tn ty e i z .i64 kn ht htn hi hz (some ⟨g, 0, none⟩) n cap xs hfc m hm hsz (by omega) (by omega) hmb (growslice_fits (by omega) hbytes)
      rw [hna] at hr
      have hgr := grown cap (Value.ownBlock (.slice (some ⟨g, 0, none⟩) n cap))
      exact ⟨_, _, hr, hgr.1, hgr.2⟩
/-- The beginning of a row of one's own. -/
theorem own_take {w : World} {B e k m n c : Nat} {a : Option Addr} {xs ys : List Value} (h : w.ownsRow B e k (.slice a n c) n (xs ++ ys)) (hx : xs.length = m * k) (hmn : m ≤ n) (h0 : 0 < n) : w.ownsRow B e k (.slice a m c) m xs := by
  refine ⟨hx, ?_⟩
  rcases h.2 with ⟨h1, h2⟩ | ⟨g, cap, cur, he, hb, hg, hnc, hcm, hcs, ht⟩
  · omega
  · injection he with h1 _ h3
    subst h1
    subst h3
    refine .inr ⟨g, c, cur, rfl, hb, hg, by omega, hcm, hcs, ?_⟩
    have h4 := congrArg (List.take (m * k)) ht
    rw [List.take_take, Nat.min_eq_left (Nat.mul_le_mul_right _ hmn), ← hx, List.take_left] at h4
    rw [← hx]
    exact h4
end Go
namespace Go.Proofs.Ytfgdgdjdlnchlaa
open Go.RowKit
open Go.Nm
set_option maxRecDepth 100000 in
set_option maxHeartbeats 1000000 in
theorem clone20_any {w : World} {a : Option Addr} {n c : Nat} {ls : List (Fin 7 × T)} (hv : EltV rc 4 w a n c ls) (hn : n ≤ 1000) :
    Calls Try.prog 20 #[.slice a n c] w fun e w' => ∃ v, e = .returned v ∧ Keep [] w w' ∧ w'.ownsRow w.heap.size 40 4 v n (ls.flatMap rc) := by
  obtain ⟨i40, hi, hz0, hz1, hz2⟩ := infoN info40
  cases a with
  | none =>
    have h0 : n = 0 := by
      by_cases h : 0 < n
      · obtain ⟨b, off, he, _⟩ := hv.cells h; cases he
      · omega
    subst h0
    have hnil : ls = [] := List.eq_nil_of_length_eq_zero hv.len
    subst hnil
    clear hv
    have hb1 : (binOp BinOp.eql 31 (.slice none 0 c) (.slice none 0 0)).run Try.prog w = .ok (.bool true) w := by kernel_rfl
    go_enter Try.func20, Try.ntmps20
    go_wp2_with (first | (with_reducible refine Txt.wp_region_text mixed quiet (by decide +kernel) ?_) | (with_reducible refine Txt.text_done (by kernel_rfl) ?_))
    go_ret
    exact ⟨_, rfl, Keep.refl _ _, World.ownsRow_nil _ _ _ _⟩
  | some ad =>
    have hk : Keep [] w (w.alloc (.cells #[] 40)) := (Keep.refl [] w).alloc _
    have HN := Lib.hid ((hv.keep rc_len hk (by simp)).news rc_len)
    have HLN : Hid ((ls.flatMap rc).length = n * 4) := Lib.hid (by rw [flat_len rc_len, hv.len])
    have HO : Hid ((w.alloc (.cells #[] 40)).ownsRow w.heap.size 40 4 (.slice (some ⟨w.heap.size, 0, none⟩) 0 0) 0 []) := Lib.hid ⟨by simp, .inr ⟨w.heap.size, 0, #[], rfl, Nat.le_refl _, blk_new w _, Nat.le_refl _, Nat.zero_le _, by simp, by simp⟩⟩
    have HK := Lib.hid hk
    have hr := hv.room
    have hm := hv.most
    have h9 : maxLen = 9223372036854775807 := rfl
    rw [h9] at hm
    clear hv hk h9
    have hb1 : (binOp BinOp.eql 31 (.slice (some ad) n c) (.slice none 0 0)).run Try.prog w = .ok (.bool false) w := by kernel_rfl
    go_enter Try.func20, Try.ntmps20
    go_wp2_with (first | (with_reducible refine Txt.wp_region_text mixed quiet (by decide +kernel) ?_) | (with_reducible refine Txt.text_done (by kernel_rfl) ?_) | (at_builtin; refine wpList_append_any rfl _ _ 31 rfl w.heap.size 40 i40 (.agg #[.string ⟨#[]⟩, .int .i64 0, .int .i64 0, .int .i64 0]) 4 40 Try.underlying31 hi hz0 hz1 hz2 rfl (by decide) (.slice (some ⟨w.heap.size, 0, none⟩) 0 0) 0 [] rfl HO.out (some ad) n c (ls.flatMap rc) rfl HLN.out HN.out (rc_one _) (by unfold maxLen; omega) (by omega) (by simp) ?_; intro a8 c8 w8 hown8 hgr8 hat8; have HO8 := Lib.hid hown8; have HG8 := Lib.hid hgr8; clear hown8 hgr8 hat8))
    go_ret
    have h := HO8.out
    rw [Nat.zero_add, List.nil_append] at h
    have hk8 : Keep [w.heap.size] (w.alloc (.cells #[] 40)) w8 := Keep.ofGrown HG8.out (fun x hx => by simp [Value.ownBlock] at hx; simp [hx])
    exact ⟨_, by first | rfl | (rw [Nat.zero_add]; done) | simp, HK.out.call hk8 (fun g hg => .inr (by rw [List.mem_singleton.1 hg]; exact Nat.le_refl _)), h⟩
set_option maxRecDepth 100000 in
set_option maxHeartbeats 2000000 in
theorem spoil21_any {w : World} {g cap n : Nat} {cur : Array Value} (hb : w.heap[g]? = some (.cells cur 40 (0, 0))) (hsz : cur.size = cap * 4) (hcm : cap ≤ 9223372036854775807) (hn : n ≤ cap) (s : ByteArray) (x y z : Int) :
    Calls Try.prog 21 #[.slice (some ⟨g, 0, none⟩) n cap, .agg #[.string s, .int .i64 x, .int .i64 y, .int .i64 z]] w fun e w' => e = .returned (.tuple #[]) ∧ Keep [g] w w' := by
  have HGL := Lib.hid (lt_of_blk hb)
  have HB : Hid ((w.alloc (.cells #[.string s, .int .i64 x, .int .i64 y, .int .i64 z] 40)).heap[g]? = some (.cells cur 40 (0, 0))) := Lib.hid (((Keep.refl [] w).alloc _).at hb (by simp))
  have HSZ := Lib.hid hsz
  have HK0 : Hid (Keep [g] w (w.alloc (.cells #[.string s, .int .i64 x, .int .i64 y, .int .i64 z] 40))) := Lib.hid ((Keep.refl _ w).alloc _)
  have HNG : Hid (w.heap.size ∉ [g]) := Lib.hid (by have := HGL.out; simp; omega)
  clear hb hsz
  go_enter Try.func21, Try.ntmps21
  go_wp2_with (first | (with_reducible refine Txt.wp_region_text mixed quiet (by decide +kernel) ?_) | (with_reducible refine Txt.text_done (by kernel_rfl) ?_))
  go_loopw [11, 4] (fun j _ wr => ∃ k : Nat, k ≤ cap ∧ j = .int .i64 k ∧ Hid (Keep [g] (w.alloc (.cells #[.string s, .int .i64 x, .int .i64 y, .int .i64 z] 40)) wr) ∧ Hid (∃ c1 : Array Value, wr.heap[g]? = some (.cells c1 40 (0, 0)) ∧ c1.size = cap * 4)) (fun j _ _ => cap - (intOf j).toNat)
  case atStart => exact ⟨0, by omega, rfl, Lib.hid (Keep.refl _ _), Lib.hid ⟨cur, HB.out, HSZ.out⟩⟩
  case round =>
    obtain ⟨k, hk, rfl, HK, HC⟩ := hrel
    by_cases hlt : k < cap
    · obtain ⟨c1, hb1, hs1⟩ := HC.out
      have hdec : decide ((k : Int) < (cap : Int)) = true := by simp; omega
      obtain ⟨v0, q0⟩ : ∃ v, wr.cell? ⟨g, k * 4, none⟩ = some v := ⟨_, (cell_of_row wr g (k * 4) c1 40 (0, 0) hb1).trans (Array.getElem?_eq_getElem (by omega))⟩
      obtain ⟨v1, q1⟩ : ∃ v, wr.cell? ⟨g, k * 4 + 1, none⟩ = some v := ⟨_, (cell_of_row wr g (k * 4 + 1) c1 40 (0, 0) hb1).trans (Array.getElem?_eq_getElem (by omega))⟩
      obtain ⟨v2, q2⟩ : ∃ v, wr.cell? ⟨g, k * 4 + 2, none⟩ = some v := ⟨_, (cell_of_row wr g (k * 4 + 2) c1 40 (0, 0) hb1).trans (Array.getElem?_eq_getElem (by omega))⟩
      obtain ⟨v3, q3⟩ : ∃ v, wr.cell? ⟨g, k * 4 + 3, none⟩ = some v := ⟨_, (cell_of_row wr g (k * 4 + 3) c1 40 (0, 0) hb1).trans (Array.getElem?_eq_getElem (by omega))⟩
      obtain ⟨d0, d1, d2, d3, -⟩ := row4 (HK.out.at (blk_new w (.cells #[.string s, .int .i64 x, .int .i64 y, .int .i64 z] 40 (0, 0))) HNG.out)
      have hth := thaw hb1
      have HB2 : Hid (∃ c2 : Array Value, ((((wr.setCell ⟨g, k * 4, none⟩ (.string s)).setCell ⟨g, k * 4 + 1, none⟩ (.int .i64 x)).setCell ⟨g, k * 4 + 2, none⟩ (.int .i64 y)).setCell ⟨g, k * 4 + 3, none⟩ (.int .i64 z)).heap[g]? = some (.cells c2 40 (0, 0)) ∧ c2.size = cap * 4) := Lib.hid (by
        simp only [blk_setCell, if_true, hb1, Option.map_some, Obj.put_cells]
        exact ⟨_, rfl, by simp [hs1]⟩)
      have HK2 : Hid (Keep [g] (w.alloc (.cells #[.string s, .int .i64 x, .int .i64 y, .int .i64 z] 40)) ((((wr.setCell ⟨g, k * 4, none⟩ (.string s)).setCell ⟨g, k * 4 + 1, none⟩ (.int .i64 x)).setCell ⟨g, k * 4 + 2, none⟩ (.int .i64 y)).setCell ⟨g, k * 4 + 3, none⟩ (.int .i64 z))) := Lib.hid (by
        iterate 4 refine Keep.setCell ?_ (.inl (by simp)) _
        exact HK.out)
      have hki : (k : Int) < (cap : Int) := by omega
      clear hb1 hs1
      go_wp2_with (first | (with_reducible refine Txt.wp_region_text mixed quiet (by decide +kernel) ?_) | (with_reducible refine Txt.text_done (by kernel_rfl) ?_))
      exact ⟨⟨k + 1, hlt, by go_num, Lib.hid HK2.out, Lib.hid HB2.out⟩, by simp [intOf]; omega⟩
    · have hdec : decide ((k : Int) < (cap : Int)) = false := by simp; omega
      go_wp2_with (first | (with_reducible refine Txt.wp_region_text mixed quiet (by decide +kernel) ?_) | (with_reducible refine Txt.text_done (by kernel_rfl) ?_))
      go_end0
      exact ⟨rfl, HK0.out.trans HK.out⟩
set_option maxRecDepth 100000 in
set_option maxHeartbeats 2000000 in
theorem spoil22_any {w : World} {g cap n : Nat} {cur : Array Value} (hb : w.heap[g]? = some (.cells cur 47 (0, 0))) (hsz : cur.size = cap * 2) (hcm : cap ≤ 9223372036854775807) (hn : n ≤ cap) (s : ByteArray) (x : Int) :
    Calls Try.prog 22 #[.slice (some ⟨g, 0, none⟩) n cap, .agg #[.string s, .int .i64 x]] w fun e w' => e = .returned (.tuple #[]) ∧ Keep [g] w w' := by
  have HGL := Lib.hid (lt_of_blk hb)
  have HB : Hid ((w.alloc (.cells #[.string s, .int .i64 x] 47)).heap[g]? = some (.cells cur 47 (0, 0))) := Lib.hid (((Keep.refl [] w).alloc _).at hb (by simp))
  have HSZ := Lib.hid hsz
  have HK0 : Hid (Keep [g] w (w.alloc (.cells #[.string s, .int .i64 x] 47))) := Lib.hid ((Keep.refl _ w).alloc _)
  have HNG : Hid (w.heap.size ∉ [g]) := Lib.hid (by have := HGL.out; simp; omega)
  clear hb hsz
  go_enter Try.func22, Try.ntmps22
  go_wp2_with (first | (with_reducible refine Txt.wp_region_text mixed quiet (by decide +kernel) ?_) | (with_reducible refine Txt.text_done (by kernel_rfl) ?_))
  go_loopw [11, 4] (fun j _ wr => ∃ k : Nat, k ≤ cap ∧ j = .int .i64 k ∧ Hid (Keep [g] (w.alloc (.cells #[.string s, .int .i64 x] 47)) wr) ∧ Hid (∃ c1 : Array Value, wr.heap[g]? = some (.cells c1 47 (0, 0)) ∧ c1.size = cap * 2)) (fun j _ _ => cap - (intOf j).toNat)
  case atStart => exact ⟨0, by omega, rfl, Lib.hid (Keep.refl _ _), Lib.hid ⟨cur, HB.out, HSZ.out⟩⟩
  case round =>
    obtain ⟨k, hk, rfl, HK, HC⟩ := hrel
    by_cases hlt : k < cap
    · obtain ⟨c1, hb1, hs1⟩ := HC.out
      have hdec : decide ((k : Int) < (cap : Int)) = true := by simp; omega
      obtain ⟨v0, q0⟩ : ∃ v, wr.cell? ⟨g, k * 2, none⟩ = some v := ⟨_, (cell_of_row wr g (k * 2) c1 47 (0, 0) hb1).trans (Array.getElem?_eq_getElem (by omega))⟩
      obtain ⟨v1, q1⟩ : ∃ v, wr.cell? ⟨g, k * 2 + 1, none⟩ = some v := ⟨_, (cell_of_row wr g (k * 2 + 1) c1 47 (0, 0) hb1).trans (Array.getElem?_eq_getElem (by omega))⟩
      obtain ⟨d0, d1, -⟩ := row2 (HK.out.at (blk_new w (.cells #[.string s, .int .i64 x] 47 (0, 0))) HNG.out)
      have hth := thaw hb1
      have HB2 : Hid (∃ c2 : Array Value, ((wr.setCell ⟨g, k * 2, none⟩ (.string s)).setCell ⟨g, k * 2 + 1, none⟩ (.int .i64 x)).heap[g]? = some (.cells c2 47 (0, 0)) ∧ c2.size = cap * 2) := Lib.hid (by
        simp only [blk_setCell, if_true, hb1, Option.map_some, Obj.put_cells]
        exact ⟨_, rfl, by simp [hs1]⟩)
      have HK2 : Hid (Keep [g] (w.alloc (.cells #[.string s, .int .i64 x] 47)) ((wr.setCell ⟨g, k * 2, none⟩ (.string s)).setCell ⟨g, k * 2 + 1, none⟩ (.int .i64 x))) := Lib.hid (by
        iterate 2 refine Keep.setCell ?_ (.inl (by simp)) _
        exact HK.out)
      have hki : (k : Int) < (cap : Int) := by omega
      clear hb1 hs1
      go_wp2_with (first | (with_reducible refine Txt.wp_region_text mixed quiet (by decide +kernel) ?_) | (with_reducible refine Txt.text_done (by kernel_rfl) ?_))
      exact ⟨⟨k + 1, hlt, by go_num, Lib.hid HK2.out, Lib.hid HB2.out⟩, by simp [intOf]; omega⟩
    · have hdec : decide ((k : Int) < (cap : Int)) = false := by simp; omega
      go_wp2_with (first | (with_reducible refine Txt.wp_region_text mixed quiet (by decide +kernel) ?_) | (with_reducible refine Txt.text_done (by kernel_rfl) ?_))
      go_end0
      exact ⟨rfl, HK0.out.trans HK.out⟩
end Go.Proofs.Ytfgdgdjdlnchlaa
/- NamesOwn: the walk. -/
namespace Go.Proofs.Ytfgdgdjdlnchlaa
open Go.RowKit
open Go.Nm
set_option maxRecDepth 100000 in
theorem spoil21_own {w : World} {B n : Nat} {v : Value} {xs : List Value} (ho : w.ownsRow B 40 4 v n xs) (s : ByteArray) (x y z : Int) :
    Calls Try.prog 21 #[v, .agg #[.string s, .int .i64 x, .int .i64 y, .int .i64 z]] w fun e w' => e = .returned (.tuple #[]) ∧ Keep v.ownBlock.toList w w' := by
  rcases ho.2 with ⟨rfl, h0⟩ | ⟨g, cap, cur, rfl, hb, hg, hnc, hcm, hcs, ht⟩
  · clear ho h0
    go_enter Try.func21, Try.ntmps21
    go_wp2_with (first | (with_reducible refine Txt.wp_region_text mixed quiet (by decide +kernel) ?_) | (with_reducible refine Txt.text_done (by kernel_rfl) ?_))
    go_loopw [11, 4] (fun j _ wr => j = .int .i64 0 ∧ Hid (Keep [] w wr)) (fun _ _ _ => 0)
    case atStart => exact ⟨rfl, Lib.hid ((Keep.refl _ w).alloc _)⟩
    case round =>
      obtain ⟨rfl, HK⟩ := hrel
      go_wp2_with (first | (with_reducible refine Txt.wp_region_text mixed quiet (by decide +kernel) ?_) | (with_reducible refine Txt.text_done (by kernel_rfl) ?_))
      go_end0
      exact ⟨rfl, HK.out.more (by simp)⟩
  · exact spoil21_any hg hcs hcm hnc s x y z
set_option maxRecDepth 100000 in
theorem spoil22_own {w : World} {B n : Nat} {v : Value} {xs : List Value} (ho : w.ownsRow B 47 2 v n xs) (s : ByteArray) (x : Int) :
    Calls Try.prog 22 #[v, .agg #[.string s, .int .i64 x]] w fun e w' => e = .returned (.tuple #[]) ∧ Keep v.ownBlock.toList w w' := by
  rcases ho.2 with ⟨rfl, h0⟩ | ⟨g, cap, cur, rfl, hb, hg, hnc, hcm, hcs, ht⟩
  · clear ho h0
    go_enter Try.func22, Try.ntmps22
    go_wp2_with (first | (with_reducible refine Txt.wp_region_text mixed quiet (by decide +kernel) ?_) | (with_reducible refine Txt.text_done (by kernel_rfl) ?_))
    go_loopw [11, 4] (fun j _ wr => j = .int .i64 0 ∧ Hid (Keep [] w wr)) (fun _ _ _ => 0)
    case atStart => exact ⟨rfl, Lib.hid ((Keep.refl _ w).alloc _)⟩
    case round =>
      obtain ⟨rfl, HK⟩ := hrel
      go_wp2_with (first | (with_reducible refine Txt.wp_region_text mixed quiet (by decide +kernel) ?_) | (with_reducible refine Txt.text_done (by kernel_rfl) ?_))
      go_end0
      exact ⟨rfl, HK.out.more (by simp)⟩
  · exact spoil22_any hg hcs hcm hnc s x
structure OW (w1 : World) (ps : Nat → Nat) (st : Nat → Reg) (g gc B : Nat) (v3 : Value) (m3 : Nat) (R : List (Fin 7 × T)) (v4 : Value) (m4 : Nat) (A : List (Fin 7 × Int)) (W : World) : Prop where
  reg : RC w1 3 ps st W
  li : W.ownsRow w1.heap.size 28 1 (.slice (some ⟨g, 0, none⟩) 2 gc) 2 ((List.range 2).map (fun i => ptr (ps i)))
  lb : g < B
  ro : W.ownsRow w1.heap.size 40 4 v3 m3 (R.flatMap rc)
  rb : ∀ x, v3.ownBlock = some x → x < B
  al : W.ownsRow w1.heap.size 47 2 v4 m4 (A.flatMap ac)
  ab : ∀ x, v4.ownBlock = some x → x < B
  lo : w1.heap.size ≤ B
section
variable {w1 : World} {ps : Nat → Nat} {st : Nat → Reg} {g gc B : Nat} {v3 : Value} {m3 : Nat} {R : List (Fin 7 × T)} {v4 : Value} {m4 : Nat} {A : List (Fin 7 × Int)} {W W' : World}
theorem OW.kept (h : OW w1 ps st g gc B v3 m3 R v4 m4 A W) (hk : Keep [] W W') : OW w1 ps st g gc B v3 m3 R v4 m4 A W' :=
  ⟨h.reg.kept hk, own_keep h.li hk (by simp), h.lb, own_keep h.ro hk (by simp), h.rb, own_keep h.al hk (by simp), h.ab, h.lo⟩
theorem OW.wrote (h : OW w1 ps st g gc B v3 m3 R v4 m4 A W) {S : List Nat} (hk : Keep S W W') (hS : ∀ b ∈ S, B ≤ b ∧ ∃ cs T g, W.heap[b]? = some (.cells cs T g) ∧ T ≠ 58) : OW w1 ps st g gc B v3 m3 R v4 m4 A W' :=
  ⟨h.reg.keptS hk (fun b hb => ⟨Nat.le_trans h.lo (hS b hb).1, (hS b hb).2⟩), own_keep h.li hk (fun b hb hm => by
      have h1 := (hS b hm).1
      have h2 := h.lb
      simp [Value.ownBlock] at hb
      omega), h.lb, own_keep h.ro hk (fun b hb hm => by have h1 := (hS b hm).1; have h2 := h.rb b hb; omega), h.rb, own_keep h.al hk (fun b hb hm => by have h1 := (hS b hm).1; have h2 := h.ab b hb; omega), h.ab, h.lo⟩
theorem OW.told (h : OW w1 ps st g gc B v3 m3 R v4 m4 A W) {st' : Nat → Reg} (hr : RC w1 3 ps st' W') (hn : NK W W') : OW w1 ps st' g gc B v3 m3 R v4 m4 A W' :=
  ⟨hr, hn.own (by decide) h.li, h.lb, hn.own (by decide) h.ro, h.rb, hn.own (by decide) h.al, h.ab, h.lo⟩
theorem OW.ptr (h : OW w1 ps st g gc B v3 m3 R v4 m4 A W) : W.cell? ⟨g, 0, none⟩ = some (.pointer (some ⟨ps 0, 0, none⟩)) := ptrsAt h.li (NK.refl _) 0 (by decide)
end
/-- The row's block was made by the call: what is written to it was not there before. -/
theorem freshOwn {w w' w'' : World} {e m n : Nat} {v : Value} {xs : List Value} (hk : Keep [] w w') (ho : w'.ownsRow w.heap.size e m v n xs) (hk2 : Keep v.ownBlock.toList w' w'') : Keep [] w w'' :=
  hk.call hk2 (fun b hb => .inr (ownLtN ho b (by simpa using hb)).1)
theorem grow3 {w : World} {B m : Nat} {v : Value} {xs : List Value} (ho : w.ownsRow B 40 4 v m xs) (hm : m ≤ 7) (hB : B ≤ w.heap.size) :
    ∃ g7 c7 w7, (Builtin.append_ #[31, 3] 31 #[v, .int .i64 3]).run Try.prog w = .ok (.slice (some ⟨g7, 0, none⟩) (m + 3) c7) w7 ∧ w7.ownsRow B 40 4 (.slice (some ⟨g7, 0, none⟩) m c7) m xs ∧ Keep v.ownBlock.toList w w7 ∧ m + 3 ≤ c7 ∧ c7 ≤ 9223372036854775807 := by
  obtain ⟨i40, hi40, hz0, hz1, hz2⟩ := infoN info40
  obtain ⟨v', w', hr, ho', hg⟩ := run_append_zeros_own (P := Try.prog) B 31 3 31 40 .i64 i40 _ 4 40 Try.underlying31 Try.underlying3 hi40 hz0 hz1 hz2 rfl (by decide) v m xs ho 3 (by decide) (by decide +kernel) (by unfold maxLen; omega) (by omega) hB
  rcases ho'.2 with ⟨_, h0⟩ | ⟨g7, c7, cur, rfl, hb, hgg, hnc, hcm, hcs, ht⟩
  · omega
  · refine ⟨g7, c7, w', hr, ?_, Keep.ofGrown hg (fun x hx => by simp [hx]), hnc, hcm⟩
    exact own_take ho' ho.1 (by omega) (by omega)
theorem range2 {ps PS : Nat → Nat} (h : ∀ i, i < 2 → ps i = PS i) : (List.range 2).map (fun i => ptr (ps i)) = (List.range 2).map (fun i => ptr (PS i)) :=
  List.map_congr_left (fun i hi => by rw [h i (List.mem_range.1 hi)])
set_option maxRecDepth 100000 in
set_option maxHeartbeats 8000000 in
theorem namesOwn_walk (ap : Option Addr) (len cap : Nat) (zs : List Int) (w : World) (hz : IntsV w ap len cap zs) :
    Calls Try.prog 7 #[.slice ap len cap] w fun e w' => e = .returned (.bool true) ∧ Keep [] w w' := by
  have HZ := Lib.hid hz
  obtain ⟨i40, hi40, hz0, hz1, hz2⟩ := infoN info40
  clear hz
  go_enter Try.func7, Try.ntmps7
  go_upto_region 6 with (first | (with_reducible refine Txt.wp_region_text mixed quiet (by decide +kernel) ?_) | (with_reducible refine Txt.text_done (by kernel_rfl) ?_) | (go_at_call 8; (with_reducible refine begun8_any.mono ?_); rintro e w1 ⟨rfl, hk1⟩; have HK1 := Lib.hid hk1; clear hk1) | (go_at_call 9; (with_reducible refine (register9_at 2 2 rfl (by decide) (by decide) (HZ.out.keep HK1.out (by simp))).mono ?_); rintro e w2 ⟨v, ps, st0, rfl, hrc, ho, hs⟩; obtain ⟨a, c, rfl, hc1, hc2, hcell⟩ := own_ptrs ho; obtain ⟨g, rfl, -⟩ := hcell (by decide); have c0 := ptrsAt ho (NK.refl _) 0 (by decide); have HO := Lib.hid ho; have HW2 := Lib.hid hrc.keep.size; have HS := Lib.hid (hs 0 (by decide)).1; have HT := Lib.hid (told (hrc.kept ((Keep.refl [] w2).drew)) (j := 0) (by decide) (hs 0 (by decide)).1.ok (Int.le_trans (hs 0 (by decide)).1.hi (by decide))); clear hcell hrc ho hs))
  obtain ⟨R, hR⟩ : ∃ R, rows (st0 0).f = R := ⟨_, rfl⟩
  have HRR := Lib.hid hR
  have HSZ : Hid (w1.heap.size ≤ w2.heap.size) := Lib.hid HW2.out
  rw [hR] at HT
  clear hR
  go_cut [5, 6] (fun v5 v6 wx => ∃ (a3 : Option Addr) (m3 c3 : Nat) (a4 : Option Addr) (m4 c4 : Nat), v5 = .slice a3 m3 c3 ∧ v6 = .slice a4 m4 c4 ∧ Hid (RC w1 2 ps st0 wx) ∧ Hid (Keep [] w2 wx) ∧ Hid (wx.ownsRow w1.heap.size 40 4 (.slice a3 m3 c3) m3 (R.flatMap rc)) ∧ Hid (wx.ownsRow w1.heap.size 47 2 (.slice a4 m4 c4) m4 ((alls R).flatMap ac)))
  case first =>
    go_region_law (first | (go_simp; go_at_call 12; (with_reducible refine HT.out.mono ?_); rintro e3 w3 ⟨a3, m3, c3, rfl, hk3, HR3, HO3, HV3, -⟩; have HK3 := Lib.hid (((Keep.refl [] w2).drew).trans hk3); have c0' := ptrsAt HO.out (NK.ofKeep HK3.out) 0 (by decide); have ha := alled HR3.out (j := 0) (by decide); rw [HRR.out] at ha; have HA := Lib.hid ha; clear hk3 ha) | (go_simp; go_at_call 19; (with_reducible refine HA.out.mono ?_); rintro e4 w4 ⟨a4, m4, c4, rfl, hk4, HR4, HO4, HV4⟩; have HK4 := Lib.hid hk4; clear hk4))
    all_goals
      go_wp2_with fail
      go_meet
      exact ⟨a3, m3, c3, a4, m4, c4, rfl, rfl, HR4, Lib.hid (HK3.out.trans HK4.out), Lib.hid (ownBaseN (own_keep HO3.out HK4.out (by simp)) HSZ.out), Lib.hid (ownBaseN HO4.out (Nat.le_trans HSZ.out HK3.out.size))⟩
  case rest =>
    obtain ⟨a3, m3, c3, a4, m4, c4, rfl, rfl, HR4, HK4, HO3, HO4⟩ := hcut
    clear HT
    have hm37 : m3 ≤ 7 := by
      have h1 := HO3.out.1
      rw [flat_len rc_len] at h1
      have h2 := rows_len (st0 0).f
      rw [HRR.out] at h2
      omega
    have hv3 := eltOwn HO3.out
    have hm3c := hv3.room
    have HNEW := Lib.hid (new17_any HR4.out 5 (by decide))
    have HIF : Hid (MOk (st0 0).f 150) := Lib.hid (HS.out.ok.mono HS.out.hi)
    go_upto_region 8 with (first | (with_reducible refine Txt.wp_region_text mixed quiet (by decide +kernel) ?_) | (with_reducible refine Txt.text_done (by kernel_rfl) ?_) | (go_at_call 17; (with_reducible refine HNEW.out.mono ?_); rintro e w5 ⟨p, rfl, hrc5, hk5, -⟩; have HR5 := Lib.hid hrc5; have HK5 := Lib.hid hk5; clear hrc5 hk5 HNEW))
    obtain ⟨PS, hPS⟩ : ∃ PS : Nat → Nat, (fun j => if j = 2 then p else ps j) = PS := ⟨_, rfl⟩
    have hr5 := HR5.out
    rw [hPS] at hr5
    have p2 : PS 2 = p := by rw [← hPS]; rfl
    have p0 : ps 0 = PS 0 := by rw [← hPS]; rfl
    have hli := own_keep (own_keep HO.out HK4.out (by simp)) HK5.out (by simp)
    rw [range2 (PS := PS) (fun i hi => by rw [← hPS]; simp only; rw [if_neg (by omega)])] at hli
    have hro := own_keep HO3.out HK5.out (by simp)
    have hal := own_keep HO4.out HK5.out (by simp)
    have HOW5 : Hid (OW w1 PS (Go.upd st0 2 ⟨5, 0, fun _ => none⟩) g c w5.heap.size (.slice a3 m3 c3) m3 R (.slice a4 m4 c4) m4 (alls R) w5) := Lib.hid ⟨hr5, hli, (ownLtN hli g rfl).2.1, hro, fun x hx => (ownLtN hro x hx).2.1, hal, fun x hx => (ownLtN hal x hx).2.1, Nat.le_trans (Nat.le_trans HSZ.out HK4.out.size) HK5.out.size⟩
    clear hr5 hli hro hal hPS p0 hv3 hm3c HR4 HR5 HO3 HO4 HO
    subst p2
    obtain ⟨st2, hst2⟩ : ∃ st2, Go.upd (Go.upd st0 2 ⟨5, 0, fun _ => none⟩) 2 (mergeR (Go.upd st0 2 ⟨5, 0, fun _ => none⟩ 2) (st0 0).f) = st2 := ⟨_, rfl⟩
    have h20 : (st2 0).f = (st0 0).f := by rw [← hst2, upd_other (by decide), upd_other (by decide)]
    have h22 : (st2 2).f = (st0 0).f := by
      rw [← hst2, upd_same, upd_same]
      show Nm.merge (fun _ => none) (st0 0).f = (st0 0).f
      exact funext fun i => none_join _
    have HS2 := Lib.hid hst2
    have HI0 : Hid (MOk (st2 0).f 150) := Lib.hid (h20 ▸ HIF.out)
    have HI2 : Hid (MOk (st2 2).f 150) := Lib.hid (h22 ▸ HIF.out)
    have HR0 : Hid (rows (st2 0).f = R) := Lib.hid (by rw [h20]; exact HRR.out)
    have HR2 : Hid (rows (st2 2).f = R) := Lib.hid (by rw [h22]; exact HRR.out)
    have HV5 := Lib.hid (eltOwn HOW5.out.ro)
    have HL2 := Lib.hid HOW5.out.lo
    have hm31 : m3 ≤ 1000 := by omega
    clear hst2 h20 h22
    go_wp2_with (first | (with_reducible refine Txt.wp_region_text mixed quiet (by decide +kernel) ?_) | (with_reducible refine Txt.text_done (by kernel_rfl) ?_) | (go_at_call 20; (with_reducible refine (clone20_any HV5.out hm31).mono ?_); rintro e w6 ⟨v6, rfl, hk6, ho6⟩; obtain ⟨g7, c7, w7, hr7, ho7, hk7, hc7, hc7m⟩ := grow3 ho6 hm37 hk6.size; have HAP := Lib.hid hr7; have HIN := Lib.hid ho7; have HOW7 := Lib.hid ((HOW5.out.kept hk6).wrote hk7 (fun b hb => (by obtain ⟨h1, h2, cs, h3⟩ := ownLtN ho6 b (by simpa using hb); exact ⟨h1, cs, 40, (0, 0), h3, by decide⟩))); have hm3c : m3 ≤ c7 := (by omega); have hm := merge11_any HOW7.out.reg (i := 2) (by decide) (a := some ⟨g7, 0, none⟩) (m := m3) (c := c7) (g := (st0 0).f) (by rw [HRR.out]; exact eltOwn ho7) HIF.out (by decide); rw [HS2.out] at hm; have HM7 := Lib.hid hm; clear hk6 ho6 hr7 ho7 hk7 hm) | (at_builtin; refine Lib.wpList_append_run _ rfl _ _ 31 3 rfl _ _ rfl rfl _ _ HAP.out ?_) | (go_at_call 11; (with_reducible refine HM7.out.mono ?_); rintro e w8 ⟨rfl, hrc8, hnk8⟩; have HOW8 := Lib.hid (HOW7.out.told hrc8 hnk8); have HIN8 := Lib.hid (hnk8.own (by decide) HIN.out); clear hrc8 hnk8) | (go_at_call 16; (with_reducible refine (equal16_any (eltOwn HIN8.out) (eltOwn HOW8.out.ro)).mono ?_); rintro e w9 ⟨rfl, hk9⟩; rw [decide_eq_true (rfl : R = R)]; have HOW9 := Lib.hid (HOW8.out.kept hk9); have HIN9 := Lib.hid (own_keep HIN8.out hk9 (by simp)); clear hk9) | (go_at_call 21; (with_reducible refine (spoil21_own HIN9.out _ _ _ _).mono ?_); rintro e wa ⟨rfl, hka⟩; have HOWA := Lib.hid (HOW9.out.wrote hka (fun b hb => (by obtain ⟨h1, h2, cs, h3⟩ := ownLtN HIN9.out b (by simpa using hb); exact ⟨h1, cs, 40, (0, 0), h3, by decide⟩))); have ca := HOWA.out.ptr; have HTA := Lib.hid (told HOWA.out.reg (j := 0) (by decide) HI0.out (by decide)); clear hka HIN9) | (go_at_call 12; (with_reducible refine HTA.out.mono ?_); rintro e wb ⟨ab, mb, cb, rfl, hkb, -, HOB, -, -⟩; have HKB := Lib.hid hkb; clear hkb HTA) | (go_at_call 21; (with_reducible refine (spoil21_own HOB.out _ _ _ _).mono ?_); rintro e wc1 ⟨rfl, hkc⟩; have HOWC := Lib.hid (HOWA.out.kept (freshOwn HKB.out HOB.out hkc)); have cc1 := HOWC.out.ptr; have HAC := Lib.hid (alled HOWC.out.reg (j := 0) (by decide)); clear hkc HOB) | (go_at_call 19; (with_reducible refine HAC.out.mono ?_); rintro e wd ⟨ad, md, cd, rfl, hkd, -, HOD, -⟩; have HKD := Lib.hid hkd; clear hkd HAC) | (go_at_call 22; (with_reducible refine (spoil22_own HOD.out _ _).mono ?_); rintro e we ⟨rfl, hke⟩; have HOWE := Lib.hid (HOWC.out.kept (freshOwn HKD.out HOD.out hke)); have ht := told HOWE.out.reg (j := 2) (by decide) HI2.out (by decide); rw [HR2.out] at ht; have HTE := Lib.hid ht; clear hke HOD ht) | (go_at_call 12; (with_reducible refine HTE.out.mono ?_); rintro e wf ⟨af, mf, cf, rfl, hkf, -, -, HVF, -⟩; have HOWF := Lib.hid (HOWE.out.kept hkf); clear hkf HTE) | (go_at_call 16; (with_reducible refine (equal16_any HVF.out (eltOwn HOWF.out.ro)).mono ?_); rintro e wg ⟨rfl, hkg⟩; rw [decide_eq_true (rfl : R = R)]; have HOWG := Lib.hid (HOWF.out.kept hkg); have cg := HOWG.out.ptr; have ht := told HOWG.out.reg (j := 0) (by decide) HI0.out (by decide); rw [HR0.out] at ht; have HTG := Lib.hid ht; clear hkg ht HVF) | (go_at_call 12; (with_reducible refine HTG.out.mono ?_); rintro e wh ⟨ah, mh, ch, rfl, hkh, -, -, HVH, -⟩; have HOWH := Lib.hid (HOWG.out.kept hkh); clear hkh HTG) | (go_at_call 16; (with_reducible refine (equal16_any HVH.out (eltOwn HOWH.out.ro)).mono ?_); rintro e wi ⟨rfl, hki⟩; rw [decide_eq_true (rfl : R = R)]; have HOWI := Lib.hid (HOWH.out.kept hki); have ci := HOWI.out.ptr; have ha := alled HOWI.out.reg (j := 0) (by decide); rw [HR0.out] at ha; have HAI := Lib.hid ha; clear hki ha HVH) | (go_at_call 19; (with_reducible refine HAI.out.mono ?_); rintro e wj ⟨aj, mj, cj, rfl, hkj, -, -, HVJ⟩; have HOWJ := Lib.hid (HOWI.out.kept hkj); clear hkj HAI) | (go_at_call 18; (with_reducible refine (equal18_any HVJ.out (altOwn HOWJ.out.al)).mono ?_); rintro e wk ⟨rfl, hkk⟩; rw [decide_eq_true (rfl : alls R = alls R)]; have HOWK := Lib.hid (HOWJ.out.kept hkk); clear hkk))
    go_ret
    exact ⟨rfl, HK1.out.trans HOWK.out.reg.keep⟩
end Go.Proofs.Ytfgdgdjdlnchlaa
