/- Texts laid together: Q11 Q12 Q13 R8 Q14 Q18. -/
import Derived.Test.YtfcellgjbbfobaaMg5
import Derived.Shelf.Spec.SlicesGrow
import Derived.Laws.AppendOwnNone
import Derived.Laws.IdiomCopy
import Derived.Laws.CopyRow
/- PartSwaps: the walk. -/
namespace Go.Proofs.Ytfcellgjbbfobaa
open Go.RowKit
theorem q_wrap {q n : Nat} (h : q + 1 < n) (h2 : n ≤ 40) : IntKind.i64.wrap ((q : Int) + 1) = (q : Int) + 1 := by
  simp [IntKind.wrap, IntKind.bits, IntKind.signed]; omega
theorem own3Q {w : World} {B e n : Nat} {v : Value} {ls : List Ln} (h : w.ownsRow B e 3 v n (lanesC ls)) (hn : 0 < n) : ∃ g cap, v = .slice (some ⟨g, 0, none⟩) n cap ∧ n ≤ cap ∧ cap ≤ 9223372036854775807 ∧ B ≤ g ∧ g < w.heap.size ∧ (∀ j, w.frozen? ⟨g, j, none⟩ = false) ∧ ∀ (i : Nat) (x : Ln), ls[i]? = some x → w.cell? ⟨g, i * 3, none⟩ = some (.int .i64 x.q) ∧ w.cell? ⟨g, i * 3 + 1, none⟩ = some (.int .i64 x.g) ∧ w.cell? ⟨g, i * 3 + 2, none⟩ = some (.int .i64 x.u) := by
  obtain ⟨a, c, he, hlv, _⟩ := LnsV.ofOwn h
  rcases h.2 with ⟨_, h0⟩ | ⟨g, cap, cur, rfl, hb, hg, hnc, hcm, hcs, ht⟩
  · omega
  · injection he with h1 _ h2
    refine ⟨g, cap, rfl, hnc, hcm, hb, (Array.getElem?_eq_some_iff.1 hg).1, thaw hg, fun i x hx => ?_⟩
    obtain ⟨b, off, hab, c0, c1, c2⟩ := lnsAt hlv hx
    rw [← h1] at hab
    injection hab with hab
    injection hab with h3 h4 _
    rw [← h3, ← h4, Nat.zero_add] at c0 c1 c2
    exact ⟨c0, c1, c2⟩
theorem pred_wrap {n : Nat} (h : 2 ≤ n) (h2 : n ≤ 40) : ∃ p : Nat, p + 1 = n ∧ wrap64 ((n : Int) - 1) = (p : Int) ∧ IntKind.i64.wrap ((n : Int) - 1) = (p : Int) := by
  refine ⟨n - 1, by omega, ?_, ?_⟩
  · unfold wrap64; omega
  · simp [IntKind.wrap, IntKind.bits, IntKind.signed]; omega
set_option maxRecDepth 100000 in
set_option maxHeartbeats 8000000 in
theorem partSwaps_walk (ap : Option Addr) (len cap : Nat) (zs : List Int) (i0 : Int) (w : World) (hz : IntsV w ap len cap zs) :
    Calls Try.prog 3 #[.slice ap len cap, .int .i64 i0] w fun e w' => e = .returned (.bool true) ∧ Keep [] w w' := by
  have HZ := Lib.hid hz
  clear hz
  go_enter Try.func3, Try.ntmps3
  go_upto_if 17 with (first | (with_reducible refine Txt.wp_region_text mixed quiet (by decide +kernel) ?_) | (with_reducible refine Txt.text_done (by kernel_rfl) ?_) | (go_at_call 9; (with_reducible refine begun9_any.mono ?_); rintro e w1 ⟨rfl, hk1⟩; have HK1 := Lib.hid hk1; clear hk1) | (go_at_call 10; (with_reducible refine (steps10_any (HZ.out.keep HK1.out (by simp))).mono ?_); rintro e w2 ⟨ls, v, rfl, ho2, hok2, hl2, hk2⟩; obtain ⟨a2, c2, rfl, hv2, -⟩ := LnsV.ofOwn ho2; have HO2 := Lib.hid ho2; have HV2 := Lib.hid hv2; have HOK := Lib.hid hok2; have HK2 := Lib.hid (HK1.out.trans hk2); have hr2 := hv2.room; have hm2 := hv2.most; rw [show maxLen = 9223372036854775807 from rfl] at hm2; clear ho2 hv2 hok2 hk2))
  obtain ⟨n, hn⟩ : ∃ n, ls.length = n := ⟨_, rfl⟩
  have HN := Lib.hid hn
  rw [hn] at HO2 HV2 hl2 hr2 ⊢
  clear hn
  by_cases h2 : n < 2
  · have hdec : decide ((n : Int) < 2) = true := by simp; omega
    go_wp2_with (first | (with_reducible refine Txt.wp_region_text mixed quiet (by decide +kernel) ?_) | (with_reducible refine Txt.text_done (by kernel_rfl) ?_))
    go_ret
    exact ⟨rfl, HK2.out⟩
  · have hdec : decide ((n : Int) < 2) = false := by simp; omega
    obtain ⟨p, hp, hw1, hw2⟩ := pred_wrap (n := n) (by omega) hl2
    go_upto_region 8 with (first | (with_reducible refine Txt.wp_region_text mixed quiet (by decide +kernel) ?_) | (with_reducible refine Txt.text_done (by kernel_rfl) ?_) | (go_at_call 11; (with_reducible refine (rest_ex _ _ _ (by omega) (by omega)).mono ?_); rintro e9 w9 ⟨q, rfl, hq, rfl⟩; clear hw1 hw2) | (go_at_call 12; (with_reducible refine (clone12_any HV2.out (by omega)).mono ?_); rintro e3 w3 ⟨v3, rfl, hk3, ho3⟩; have HK3 := Lib.hid hk3; have HO3 := Lib.hid ho3; clear hk3 ho3))
    obtain ⟨g, cg, rfl, hcg1, hcg2, hgB, hgl, hth, hcl⟩ := own3Q HO3.out (by omega)
    obtain ⟨x, hx⟩ : ∃ x, ls[q]? = some x := ⟨_, List.getElem?_eq_getElem (by rw [HN.out]; omega)⟩
    obtain ⟨y, hy⟩ : ∃ y, ls[q + 1]? = some y := ⟨_, List.getElem?_eq_getElem (by rw [HN.out]; omega)⟩
    obtain ⟨p0, p1, p2⟩ := hcl q x hx
    obtain ⟨q0, q1, q2⟩ := hcl (q + 1) y hy
    have HLAW := Lib.hid (partSwaps_law hx hy)
    have HXO := Lib.hid (HOK.out x (List.mem_of_getElem? hx))
    have HYO := Lib.hid (HOK.out y (List.mem_of_getElem? hy))
    have hqn : (q : Int) + 1 < (n : Int) := by omega
    have HX := Lib.hid hx
    have HY := Lib.hid hy
    have HTH := Lib.hid hth
    have hq1n : q + 1 < ls.length := by rw [HN.out]; omega
    have hsw : World.ownsRow ((((((w3.setCell ⟨g, q * 3, none⟩ (.int .i64 y.q)).setCell ⟨g, q * 3 + 1, none⟩ (.int .i64 y.g)).setCell ⟨g, q * 3 + 2, none⟩ (.int .i64 y.u)).setCell ⟨g, (q + 1) * 3, none⟩ (.int .i64 x.q)).setCell ⟨g, (q + 1) * 3 + 1, none⟩ (.int .i64 x.g)).setCell ⟨g, (q + 1) * 3 + 2, none⟩ (.int .i64 x.u)) w2.heap.size 29 3 (.slice (some ⟨g, 0, none⟩) n cg) n (lanesC ((ls.set q y).set (q + 1) x)) := own_put3Q (own_put3Q HO3.out (i := q) (by omega) y.q y.g y.u) (i := q + 1) (by simpa using hq1n) x.q x.g x.u
    have hks : Keep [g] w3 ((((((w3.setCell ⟨g, q * 3, none⟩ (.int .i64 y.q)).setCell ⟨g, q * 3 + 1, none⟩ (.int .i64 y.g)).setCell ⟨g, q * 3 + 2, none⟩ (.int .i64 y.u)).setCell ⟨g, (q + 1) * 3, none⟩ (.int .i64 x.q)).setCell ⟨g, (q + 1) * 3 + 1, none⟩ (.int .i64 x.g)).setCell ⟨g, (q + 1) * 3 + 2, none⟩ (.int .i64 x.u)).drew := by
      refine Keep.drew ?_
      iterate 6 refine Keep.setCell ?_ (.inl (by simp)) _
      exact Keep.refl _ _
    have hOKB : ∀ z ∈ (ls.set q y).set (q + 1) x, StOk z := fun z hz => by
      rcases List.mem_or_eq_of_mem_set hz with hz | rfl
      · rcases List.mem_or_eq_of_mem_set hz with hz | rfl
        · exact HOK.out z hz
        · exact HYO.out
      · exact HXO.out
    have HDP : Hid (∀ w, Calls Try.prog 13 #[lnV x, lnV y] w fun e w' => e = .returned (.tuple #[.bool (dep x y), .int .i64 0]) ∧ Keep [] w w') := Lib.hid (depend13_any x y HXO.out HYO.out)
    obtain ⟨lb, hlb⟩ : ∃ lb, (ls.set q y).set (q + 1) x = lb := ⟨_, rfl⟩
    rw [hlb] at hsw hOKB HLAW
    obtain ⟨bd, hbd⟩ : ∃ bd, dep x y = bd := ⟨_, rfl⟩
    obtain ⟨bs, hbs⟩ : ∃ bs, decide (Tr.rnds dep Ln.q ls = Tr.rnds dep Ln.q lb) = bs := ⟨_, rfl⟩
    have HBS := Lib.hid hbs
    have HCS : Hid ((bd = false ∧ bs = true) ∨ (bd = true ∧ bs = false) ∨ (bd = true ∧ bs = true ∧ x = y)) := Lib.hid (by
      cases bd with
      | false =>
        left
        refine ⟨rfl, ?_⟩
        rw [← hbs]
        exact decide_eq_true (HLAW.out.1 hbd)
      | true =>
        right
        cases bs with
        | false => exact .inl ⟨rfl, rfl⟩
        | true => exact .inr ⟨rfl, rfl, HLAW.out.2 hbd (of_decide_eq_true hbs)⟩)
    rw [hbd] at HDP
    have HXYE : Hid (x = y → x.q = y.q ∧ x.g = y.g ∧ x.u = y.u) := Lib.hid (fun e => by rw [e]; exact ⟨rfl, rfl, rfl⟩)
    obtain ⟨a9, c9, he9, hsv, _⟩ := LnsV.ofOwn hsw
    cases he9
    have HGV := Lib.hid hsv.drew
    have HOKB := Lib.hid hOKB
    obtain ⟨b2, off2, ha2, e0, e1, e2⟩ := lnsAt (HV2.out.keep HK3.out (by simp)) hx
    obtain ⟨b2', off2', ha2', f0, f1, f2⟩ := lnsAt (HV2.out.keep HK3.out (by simp)) hy
    obtain ⟨rfl, rfl⟩ : b2 = b2' ∧ off2 = off2' := by rw [ha2] at ha2'; injection ha2' with h; injection h with h1 h2 _; exact ⟨h1, h2⟩
    have HV5 := Lib.hid ((HV2.out.keep HK3.out (by simp)).keep hks (fun z hz => by
      rw [ha2] at hz
      cases hz
      obtain ⟨_, _, _, hb0, _⟩ := lnsAt HV2.out hx
      have : b2 < w2.heap.size := by
        obtain ⟨b', off', hab', hb1, _⟩ := lnsAt HV2.out hx
        rw [ha2] at hab'
        cases hab'
        exact World.block_lt_of_cell? _ _ hb1
      simp
      omega))
    subst ha2
    obtain ⟨x0, x1, x2⟩ := x
    obtain ⟨y0, y1, y2⟩ := y
    unfold lnV at HDP
    simp only at p0 p1 p2 q0 q1 q2 hks HGV HV5 HDP e0 e1 e2 f0 f1 f2 HXYE
    have hfz := hth (q * 3)
    clear hsw hsv hbd hbs hlb hx hy hcl hOKB hq1n ha2'
    go_region
    obtain ⟨w5, hw5⟩ : ∃ w5, ((((((w3.setCell ⟨g, q * 3, none⟩ (.int .i64 y0)).setCell ⟨g, q * 3 + 1, none⟩ (.int .i64 y1)).setCell ⟨g, q * 3 + 2, none⟩ (.int .i64 y2)).setCell ⟨g, (q + 1) * 3, none⟩ (.int .i64 x0)).setCell ⟨g, (q + 1) * 3 + 1, none⟩ (.int .i64 x1)).setCell ⟨g, (q + 1) * 3 + 2, none⟩ (.int .i64 x2)).drew = w5 := ⟨_, rfl⟩
    rw [hw5] at hks HGV HV5 ⊢
    have HK5 : Hid (Keep [] w w5) := Lib.hid ((HK2.out.trans HK3.out).call hks (fun z hz => .inr (by rw [List.mem_singleton.1 hz]; exact Nat.le_trans HK2.out.size hgB)))
    clear hw5 p0 p1 p2 q0 q1 q2 e0 e1 e2 f0 f1 f2 hth hfz HTH hks
    obtain ⟨b3, off3, ha3, e0, e1, e2⟩ := lnsAt HV5.out HX.out
    obtain ⟨b3', off3', ha3', f0, f1, f2⟩ := lnsAt HV5.out HY.out
    cases ha3
    cases ha3'
    simp only at e0 e1 e2 f0 f1 f2
    have hqn2 : q < n := by omega
    have hqn3 : q + 1 < n := by omega
    have hqn4 : (q : Int) < (n : Int) := by omega
    have hwq := q_wrap (n := n) hqn3 hl2
    have hq0 : (0 : Int) ≤ (q : Int) + 1 := by omega
    have hwt : ((q : Int) + 1).toNat = q + 1 := by omega
    go_wp2_with fail
    go_region_law (first | (go_simp; go_at_call 13; (with_reducible refine (HDP.out _).mono ?_); rintro e6 w6 ⟨rfl, hk6⟩; have HK6 := Lib.hid hk6; clear hk6))
    all_goals
      have hk6 : Keep [] w5 w6 := by first | exact HK6.out | exact ((Keep.refl [] w5).drew).trans HK6.out | exact ((Keep.refl [] w5).drew.drew).trans HK6.out
      have HV6 := Lib.hid (HV5.out.keep hk6 (by simp))
      have HG6 := Lib.hid (HGV.out.keep hk6 (by simp))
      have HKW := Lib.hid (HK5.out.trans hk6)
      clear hk6
      clear hwq e0 e1 e2 f0 f1 f2
      go_upto_region 11 with (first | (with_reducible refine Txt.wp_region_text mixed quiet (by decide +kernel) ?_) | (with_reducible refine Txt.text_done (by kernel_rfl) ?_) | (go_at_call 14; (with_reducible refine (same14_any HV6.out HG6.out hl2 hl2 HOK.out HOKB.out).mono ?_); rintro e7 w7 ⟨rfl, hk7⟩; rw [HBS.out]; have HK7 := Lib.hid hk7; clear hk7))
      have HKX := Lib.hid (HKW.out.trans HK7.out)
      rcases HCS.out with ⟨h1, h2⟩ | ⟨h1, h2⟩ | ⟨h1, h2, h3⟩
      · subst h1 h2
        go_wp2_with (first | (with_reducible refine Txt.wp_region_text mixed quiet (by decide +kernel) ?_) | (with_reducible refine Txt.text_done (by kernel_rfl) ?_))
        go_ret
        exact ⟨rfl, by first | exact HKX.out | exact HKX.out.drew⟩
      · subst h1 h2
        go_wp2_with (first | (with_reducible refine Txt.wp_region_text mixed quiet (by decide +kernel) ?_) | (with_reducible refine Txt.text_done (by kernel_rfl) ?_))
        go_ret
        exact ⟨rfl, by first | exact HKX.out | exact HKX.out.drew⟩
      · subst h1 h2
        obtain ⟨g1, g2, g3⟩ := HXYE.out h3
        subst g1 g2 g3
        obtain ⟨b4, off4, ha4, e0, e1, e2⟩ := lnsAt (HV6.out.keep HK7.out (by simp)) HX.out
        obtain ⟨b4', off4', ha4', f0, f1, f2⟩ := lnsAt (HV6.out.keep HK7.out (by simp)) HY.out
        cases ha4
        cases ha4'
        simp only at e0 e1 e2 f0 f1 f2
        have hwq := q_wrap (n := n) hqn3 hl2
        go_wp2_with fail
        go_region
        all_goals
          go_wp2_with fail
          go_ret
          exact ⟨rfl, by first | exact HKX.out | exact HKX.out.drew⟩
end Go.Proofs.Ytfcellgjbbfobaa
/- Part: slices.Grow, slices.Concat. -/
namespace Go.Proofs
open Go.Shelf
def Try.grow36_ren : Go.Shelf.Ren := ⟨fun | 4 => 36 | n => n, fun | 22 => 24 | 25 => 29 | 3 => 3 | 4 => 4 | 9 => 9 | 20 => 20 | 0 => 0 | n => n, fun | n => n⟩
theorem Try.grow36 : Go.Proofs.Lays8.n4 Try.prog Try.grow36_ren := {
  mixed := by kernel_rfl
  f4 := ⟨Try.f36.name, by decide, Try.func36.trans (congrArg some (by kernel_rfl))⟩
  t0 := Try.underlying0
  a0 := Try.isAgg0
  z0 := Try.sizeOf0
  v0 := Try.zeroValue0
  t3 := Try.underlying3
  a3 := Try.isAgg3
  z3 := Try.sizeOf3
  v3 := Try.zeroValue3
  t4 := Try.underlying4
  a4 := Try.isAgg4
  z4 := Try.sizeOf4
  v4 := Try.zeroValue4
  t9 := Try.underlying9
  a9 := Try.isAgg9
  z9 := Try.sizeOf9
  v9 := Try.zeroValue9
  t20 := Try.underlying20
  a20 := Try.isAgg20
  z20 := Try.sizeOf20
  v20 := Try.zeroValue20
  t22 := Try.underlying24
  a22 := Try.isAgg24
  z22 := Try.sizeOf24
  v22 := Try.zeroValue24 }
end Go.Proofs
namespace Go.Proofs.Ytfcellgjbbfobaa
open Go.RowKit
theorem grow36_any {n : Nat} {w : World} (hb : n ≤ 1000000) :
    Calls Try.prog 36 #[.slice none 0 0, .int .i64 n] w fun e w' => ∃ a c, e = .returned (.slice a 0 c) ∧ Keep [] w w' ∧ w'.ownsRow w.heap.size 29 3 (.slice a 0 c) 0 [] := by
  by_cases hn : n = 0
  · subst hn
    refine (Any8.slices_Grow_room Try.grow36 none 0 0 0 w (by omega) (by omega) (by omega) (by omega)).mono ?_
    rintro e w' ⟨rfl, rfl⟩
    exact ⟨_, _, rfl, Keep.refl _ _, World.ownsRow_nil _ _ _ _⟩
  obtain ⟨i5, hi5, hy0, hy1, hy2⟩ := infoQ info29
  refine (Any8.slices_Grow_grow Try.grow36 i5 (.agg #[.int .i64 0, .int .i64 0, .int .i64 0]) hi5 hy0 (by omega) none 0 0 n [] w (by omega) (by omega) (by rw [hy2]; omega) (by omega) (by simp) (fun _ => rfl) (fun a h => by cases h)).mono ?_
  rintro e w' ⟨rfl, rfl⟩
  refine ⟨_, _, rfl, ?_, rfl, .inr ?_⟩
  · exact ((Keep.refl [] w).drew).alloc _
  · have e5 : Try.grow36_ren.t 25 = 29 := rfl
    have h1 := grownCap_ge w (0 + n) 0 29
    have h2 := grownCap_le_maxLen w (0 + n) 0 29 (by unfold maxLen; omega)
    rw [e5]
    refine ⟨w.heap.size, _, #[] ++ Builtin.zeroCells (Value.agg #[.int .i64 0, .int .i64 0, .int .i64 0]).cells (0 + n - 0) ++ Builtin.zeroCells (Value.agg #[.int .i64 0, .int .i64 0, .int .i64 0]).cells (grownCap w (0 + n) 0 29 - (0 + n)), rfl, Nat.le_refl _, ?_, Nat.zero_le _, h2, ?_, by simp⟩
    · have := blk_new w.drew (.cells (#[] ++ Builtin.zeroCells (Value.agg #[.int .i64 0, .int .i64 0, .int .i64 0]).cells (0 + n - 0) ++ Builtin.zeroCells (Value.agg #[.int .i64 0, .int .i64 0, .int .i64 0]).cells (grownCap w (0 + n) 0 29 - (0 + n))) 29)
      exact this
    · rw [Nat.zero_add] at h1 ⊢
      simp only [Array.size_append, size_zeroCells, List.size_toArray, Value.cells]
      simp
      omega
theorem flat_take {rs : List (List Ln)} {k : Nat} {l : List Ln} (h : rs[k]? = some l) : (rs.take (k + 1)).flatten = (rs.take k).flatten ++ l := by
  rw [List.take_add_one, h, Option.toList_some, List.flatten_append, List.flatten_singleton]
theorem flat_le (rs : List (List Ln)) (k : Nat) : (rs.take k).flatten.length ≤ rs.flatten.length := by
  have h : rs.flatten = (rs.take k).flatten ++ (rs.drop k).flatten := by rw [← List.flatten_append, List.take_append_drop]
  rw [h, List.length_append]; omega
set_option maxRecDepth 100000 in
set_option maxHeartbeats 2000000 in
theorem concat18_any {w : World} {a : Option Addr} {m c : Nat} {rs : List (List Ln)} (h : RowsL w a m c rs) (hm : m ≤ 1000) (hb : rs.flatten.length ≤ 1000) :
    Calls Try.prog 18 #[.slice a m c] w fun e w' => ∃ v, e = .returned v ∧ Keep [] w w' ∧ w'.ownsRow w.heap.size 29 3 v rs.flatten.length (lanesC rs.flatten) := by
  have HR := Lib.hid h
  have HL := Lib.hid h.len
  have hr := h.room
  have hmm := h.most
  have HF := Lib.hid (flat_le rs)
  obtain ⟨i29, hi29, hz0, hz1, hz2⟩ := infoQ info29
  clear h
  go_enter Try.func18, Try.ntmps18
  go_wp2_with fail
  go_loopw [3, 5, 11] (fun s _ j wr => ∃ k : Nat, k ≤ m ∧ j = .int .i64 k ∧ s = .int .i64 ((rs.take k).flatten.length : Nat) ∧ Keep [] w wr) (fun _ _ j _ => m - (intOf j).toNat)
  case atStart => exact ⟨0, by omega, rfl, rfl, Keep.refl _ _⟩
  case round =>
    obtain ⟨k, hk, rfl, rfl, hkw⟩ := hrel
    by_cases hlt : k < m
    · obtain ⟨l, hl⟩ : ∃ l, rs[k]? = some l := ⟨_, List.getElem?_eq_getElem (by rw [HL.out]; exact hlt)⟩
      obtain ⟨b, off, ar, cr, rfl, hc, hv⟩ := (HR.out.keep hkw).at_ k l hl
      have HS : Hid ((rs.take (k + 1)).flatten.length = (rs.take k).flatten.length + l.length) := Lib.hid (by rw [flat_take hl, List.length_append])
      have h1 := HF.out (k + 1)
      rw [HS.out] at h1
      have hr1 := hv.room
      obtain ⟨s, hs⟩ : ∃ s, (rs.take k).flatten.length = s := ⟨_, rfl⟩
      obtain ⟨x, hx⟩ : ∃ x, l.length = x := ⟨_, rfl⟩
      rw [hx] at hc h1
      rw [hs] at h1 ⊢
      rw [hs, hx] at HS
      clear hv hs hx hl hr1
      go_wp2_with (first | (with_reducible refine Txt.wp_region_text mixed quiet (by decide +kernel) ?_) | (with_reducible refine Txt.text_done (by kernel_rfl) ?_))
      exact ⟨⟨k + 1, hlt, by go_num, by rw [HS.out]; go_num, hkw⟩, by simp [intOf]; omega⟩
    · obtain rfl : k = m := by omega
      have htk : rs.take k = rs := List.take_of_length_le (by rw [HL.out]; exact Nat.le_refl _)
      rw [htk]
      obtain ⟨T, hT⟩ : ∃ T, rs.flatten.length = T := ⟨_, rfl⟩
      rw [hT] at hb HF ⊢
      have HT := Lib.hid hT
      clear hT htk
      go_wp2_with (first | (go_at_call 36; (with_reducible refine (grow36_any (by omega)).mono ?_); rintro e w2 ⟨ga, gc, rfl, hk2, ho2⟩; have HO2 := Lib.hid ho2; clear ho2))
      have hkw2 := hkw.trans hk2
      have hsz2 := hkw.size
      have HO3 := Lib.hid (ownBaseQ HO2.out hsz2)
      clear HO2 hk2
      go_loopw [6, 8, 27] (fun v _ j wr' => ∃ (k' : Nat) (va : Option Addr) (L vc : Nat), k' ≤ k ∧ j = .int .i64 k' ∧ v = .slice va L vc ∧ Hid ((rs.take k').flatten.length = L) ∧ Keep [] w wr' ∧ Hid (wr'.ownsRow w.heap.size 29 3 (.slice va L vc) L (lanesC (rs.take k').flatten))) (fun _ _ j _ => k - (intOf j).toNat)
      case atStart => exact ⟨0, _, _, _, by omega, rfl, rfl, Lib.hid rfl, hkw2, HO3⟩
      case round =>
        obtain ⟨i, va, L, vc, hi, rfl, rfl, HLL, hkq, HO⟩ := hrel
        have hsq := hkq.size
        obtain ⟨hvc1, hvc2⟩ := ownRoomQ HO.out
        by_cases hli : i < k
        · obtain ⟨l, hl⟩ : ∃ l, rs[i]? = some l := ⟨_, List.getElem?_eq_getElem (by rw [HL.out]; exact hli)⟩
          obtain ⟨b, off, ar, cr, rfl, hc, hv⟩ := (HR.out.keep hkq).at_ i l hl
          have HS : Hid ((rs.take (i + 1)).flatten.length = L + l.length) := Lib.hid (by rw [flat_take hl, List.length_append, HLL.out])
          have HZ : Hid (lanesC (rs.take (i + 1)).flatten = lanesC (rs.take i).flatten ++ lanesC l) := Lib.hid (by rw [flat_take hl]; simp [lanesC])
          have h1 := HF.out (i + 1)
          rw [HS.out] at h1
          have hr1 := hv.room
          have HNW := Lib.hid (lnsNews hv)
          have HLN : Hid ((lanesC l).length = l.length * 3) := Lib.hid (by rw [lanesC_len, Nat.mul_comm])
          obtain ⟨x, hx⟩ : ∃ x, l.length = x := ⟨_, rfl⟩
          rw [hx] at hc h1 HS HNW HLN hr1
          clear hv hx hl
          go_wp2_with (first | (at_builtin; refine wpList_append_any rfl _ _ 24 rfl w.heap.size 29 i29 (.agg #[.int .i64 0, .int .i64 0, .int .i64 0]) 3 24 Try.underlying24 hi29 hz0 hz1 hz2 rfl (by decide) (.slice va L vc) L (lanesC (rs.take i).flatten) rfl HO.out ar x cr (lanesC l) rfl HLN.out HNW.out lanesOne (by unfold maxLen; omega) (by omega) hsq ?_; intro a8 c8 w8 hown8 hgr8 hat8; have HO8 := Lib.hid hown8; have HG8 := Lib.hid hgr8; clear hown8 hgr8 hat8))
          exact ⟨⟨i + 1, a8, L + x, c8, hli, by go_num, rfl, HS, hkq.grown HG8.out (fun g hg => .inr (ownLtQ HO.out g hg).1), Lib.hid (by rw [HZ.out]; exact HO8.out)⟩, by simp [intOf]; omega⟩
        · obtain rfl : i = k := by omega
          have htk : rs.take i = rs := List.take_of_length_le (by rw [HL.out]; exact Nat.le_refl _)
          rw [htk] at HO HLL
          have HFIN : Hid (wr.ownsRow w.heap.size 29 3 (.slice va L vc) T (lanesC rs.flatten)) := Lib.hid (by rw [← HT.out, HLL.out]; exact HO.out)
          go_wp2_with fail
          go_ret
          exact ⟨_, rfl, hkq, by rw [HT.out]; exact HFIN.out⟩
end Go.Proofs.Ytfcellgjbbfobaa
/- PartRounds: the walk. -/
namespace Go
open Go.RowKit
theorem rnds_at {ls : List Ln} {r : Nat} {l : List Ln} (h : (Tr.rnds dep Ln.q ls)[r]? = some l) : l = Tr.sortQ Ln.q (Tr.rnd dep ls r) ∧ r < Tr.nr dep ls := by
  have hr := (List.getElem?_eq_some_iff.1 h).1
  unfold Tr.rnds at h hr
  rw [List.length_map, List.length_range] at hr
  rw [List.getElem?_map, List.getElem?_range hr] at h
  injection h with h
  exact ⟨h.symm, hr⟩
theorem rnds_len (ls : List Ln) : (Tr.rnds dep Ln.q ls).length = Tr.nr dep ls := by simp [Tr.rnds]
theorem rnds_sub {ls : List Ln} {r : Nat} {l : List Ln} (h : (Tr.rnds dep Ln.q ls)[r]? = some l) {x : Ln} (hx : x ∈ l) : x ∈ ls := by
  obtain ⟨rfl, _⟩ := rnds_at h
  exact rnd_sub ((Tr.sortQ_perm Ln.q _).mem_iff.1 hx)
theorem rnds_row {ls : List Ln} {r : Nat} {l : List Ln} (h : (Tr.rnds dep Ln.q ls)[r]? = some l) : l.length ≤ ls.length := by
  obtain ⟨rfl, _⟩ := rnds_at h
  rw [(Tr.sortQ_perm Ln.q _).length_eq]
  exact rnd_len ls r
theorem rnds_apart {ls : List Ln} {r : Nat} {l : List Ln} (h : (Tr.rnds dep Ln.q ls)[r]? = some l) {i j : Nat} {s t : Ln} (ht : l[i]? = some t) (hs : l[j]? = some s) (hij : i < j) : dep s t = false := by
  obtain ⟨rfl, _⟩ := rnds_at h
  have h1 : (Tr.sortQ Ln.q (Tr.rnd dep ls r)).Pairwise (fun x y => dep x y = false) := ((Tr.sortQ_perm Ln.q _).pairwise_iff (fun {x y} h => by rw [dep_symm]; exact h)).2 (Tr.rnd_apart dep_symm ls r)
  rw [List.pairwise_iff_getElem] at h1
  obtain ⟨hi, rfl⟩ := List.getElem?_eq_some_iff.1 ht
  obtain ⟨hj, rfl⟩ := List.getElem?_eq_some_iff.1 hs
  rw [dep_symm]
  exact h1 i j hi hj hij
theorem rnds_wit {ls : List Ln} {r : Nat} {l l' : List Ln} (h : (Tr.rnds dep Ln.q ls)[r + 1]? = some l) (h' : (Tr.rnds dep Ln.q ls)[r]? = some l') {s : Ln} (hs : s ∈ l) : l'.any (dep s) = true := by
  obtain ⟨rfl, _⟩ := rnds_at h
  obtain ⟨rfl, _⟩ := rnds_at h'
  obtain ⟨y, hy, hd⟩ := Tr.rnd_wit ((Tr.sortQ_perm Ln.q _).mem_iff.1 hs)
  exact List.any_eq_true.2 ⟨y, (Tr.sortQ_perm Ln.q _).mem_iff.2 hy, hd⟩
theorem rnds_flat (ls : List Ln) : Tr.rnds dep Ln.q ls = Tr.rnds dep Ln.q (Tr.rnds dep Ln.q ls).flatten ∧ (Tr.rnds dep Ln.q ls).flatten.length = ls.length ∧ ∀ x ∈ (Tr.rnds dep Ln.q ls).flatten, x ∈ ls := by
  have h := Tr.flat_same (D := dep) (q := Ln.q) dep_symm ls
  exact ⟨((Tr.same_iff dep_q dep_symm _ _).2 h).symm, (Tr.lv_perm h).length_eq, fun x hx => (Tr.lv_perm h).mem_iff.1 hx⟩
end Go
namespace Go.Proofs.Ytfcellgjbbfobaa
open Go.RowKit
theorem pred_w1 {r p : Nat} (h : p + 1 = r) (h2 : r ≤ 1000) : wrap64 ((r : Int) - 1) = (p : Int) ∧ IntKind.i64.wrap ((r : Int) - 1) = (p : Int) := by
  constructor
  · unfold wrap64; omega
  · simp [IntKind.wrap, IntKind.bits, IntKind.signed]; omega
set_option maxRecDepth 100000 in
set_option maxHeartbeats 8000000 in
theorem partRounds_walk (ap : Option Addr) (len cap : Nat) (zs : List Int) (w : World) (hz : IntsV w ap len cap zs) :
    Calls Try.prog 4 #[.slice ap len cap] w fun e w' => e = .returned (.bool true) ∧ Keep [] w w' := by
  have HZ := Lib.hid hz
  clear hz
  go_enter Try.func4, Try.ntmps4
  go_wp2_with (first | (with_reducible refine Txt.wp_region_text mixed quiet (by decide +kernel) ?_) | (with_reducible refine Txt.text_done (by kernel_rfl) ?_) | (go_at_call 9; (with_reducible refine begun9_any.mono ?_); rintro e w1 ⟨rfl, hk1⟩; have HK1 := Lib.hid hk1; clear hk1) | (go_at_call 10; (with_reducible refine (steps10_any (HZ.out.keep HK1.out (by simp))).mono ?_); rintro e w2 ⟨ls, v, rfl, ho2, hok2, hl2, hk2⟩; obtain ⟨a2, c2, rfl, hv2, -⟩ := LnsV.ofOwn ho2; have HV2 := Lib.hid hv2; have HOK := Lib.hid hok2; have HK2 := Lib.hid (HK1.out.trans hk2); have hr2 := hv2.room; have hm2 := hv2.most; rw [show maxLen = 9223372036854775807 from rfl] at hm2; clear ho2 hv2 hok2 hk2) | (go_at_call 15; (with_reducible refine (rounds15_any HV2.out hl2 HOK.out).mono ?_); rintro e w4 ⟨v4, vals4, rfl, hr4, hk4⟩; obtain ⟨a4, c4, rfl, hrw⟩ := hr4.rows; have HR4 := Lib.hid hrw; have HK4 := Lib.hid (HK2.out.trans hk4); have HV4 := Lib.hid (HV2.out.keep hk4 (by simp)); clear hr4 hk4 hrw))
  obtain ⟨rs, hrs⟩ : ∃ rs, Tr.rnds dep Ln.q ls = rs := ⟨_, rfl⟩
  have HRS := Lib.hid hrs
  rw [hrs] at HR4 ⊢
  obtain ⟨N, hN⟩ : ∃ N, rs.length = N := ⟨_, rfl⟩
  have HN := Lib.hid hN
  rw [hN] at HR4 ⊢
  have hN40 : N ≤ 40 := by rw [← hN, ← hrs, rnds_len]; exact Nat.le_trans (nr_le ls) hl2
  have hrm := HR4.out.room
  have hmm := HR4.out.most
  have HROW : Hid (∀ (r : Nat) (l : List Ln), rs[r]? = some l → l.length ≤ 40 ∧ ∀ x ∈ l, StOk x) := Lib.hid (fun r l h => by rw [← hrs] at h; exact ⟨Nat.le_trans (rnds_row h) hl2, fun x hx => HOK.out x (rnds_sub h hx)⟩)
  have HAP : Hid (∀ (r : Nat) (l : List Ln), rs[r]? = some l → ∀ (i j : Nat) (s t : Ln), l[i]? = some t → l[j]? = some s → i < j → dep s t = false) := Lib.hid (fun r l h i j s t ht hs hij => by rw [← hrs] at h; exact rnds_apart h ht hs hij)
  have HWT : Hid (∀ (r : Nat) (l l' : List Ln), rs[r + 1]? = some l → rs[r]? = some l' → ∀ s ∈ l, l'.any (dep s) = true) := Lib.hid (fun r l l' h h' s hs => by rw [← hrs] at h h'; exact rnds_wit h h' hs)
  have HFL : Hid (Tr.rnds dep Ln.q ls = Tr.rnds dep Ln.q rs.flatten ∧ rs.flatten.length ≤ 40 ∧ ∀ x ∈ rs.flatten, StOk x) := Lib.hid (by
    obtain ⟨h1, h2, h3⟩ := rnds_flat ls
    rw [hrs] at h2 h3
    refine ⟨?_, by omega, fun x hx => HOK.out x (h3 x hx)⟩
    rw [← hrs]
    exact h1)
  clear hrs hN
  go_loopw [28] (fun j wr => ∃ r : Nat, r ≤ N ∧ j = .int .i64 r ∧ Hid (Keep [] w4 wr)) (fun j _ => N - (intOf j).toNat)
  case atStart => exact ⟨0, by omega, rfl, Lib.hid (Keep.refl _ _)⟩
  case round =>
    obtain ⟨r, hr, rfl, HK⟩ := hrel
    by_cases hlt : r < N
    · obtain ⟨l, hl⟩ : ∃ l, rs[r]? = some l := ⟨_, List.getElem?_eq_getElem (by rw [HN.out]; exact hlt)⟩
      obtain ⟨b, off, ar, cr, hab, hc, hv⟩ := (HR4.out.keep HK.out).at_ r l hl
      obtain ⟨hl40, hlok⟩ := HROW.out r l hl
      have HLV := Lib.hid hv
      have HLK := Lib.hid hlok
      have HL := Lib.hid hl
      obtain ⟨M, hM⟩ : ∃ M, l.length = M := ⟨_, rfl⟩
      have HM := Lib.hid hM
      have hrr := hv.room
      have hrm2 := hv.most
      rw [show maxLen = 9223372036854775807 from rfl] at hrm2
      rw [hM] at hc hl40 hrr HLV
      have hdec : decide ((r : Int) < (N : Int)) = true := by simp; omega
      obtain ⟨W1, hW1⟩ : ∃ W1, W1 = wr := ⟨_, rfl⟩
      subst hW1
      subst hab
      clear hl hv hlok hM
      go_wp2_with (first | (with_reducible refine Txt.wp_region_text mixed quiet (by decide +kernel) ?_) | (with_reducible refine Txt.text_done (by kernel_rfl) ?_))
      go_loopw [35] (fun j wr => ∃ k : Nat, k ≤ M ∧ j = .int .i64 k ∧ Hid (Keep [] W1 wr)) (fun j _ => M - (intOf j).toNat)
      case atStart => exact ⟨0, by omega, rfl, Lib.hid (Keep.refl _ _)⟩
      case round =>
        obtain ⟨k, hk, rfl, HK2⟩ := hrel
        by_cases hlt2 : k < M
        · obtain ⟨s, hs⟩ : ∃ s, l[k]? = some s := ⟨_, List.getElem?_eq_getElem (by rw [HM.out]; exact hlt2)⟩
          obtain ⟨b1, off1, hab1, c0, c1, c2'⟩ := lnsAt (HLV.out.keep HK2.out (by simp)) hs
          have HS := Lib.hid hs
          have HSM := Lib.hid (List.mem_of_getElem? hs)
          have HSO := Lib.hid (HLK.out s (List.mem_of_getElem? hs))
          have HSC : Hid (s.cells = [.int .i64 s.q, .int .i64 s.g, .int .i64 s.u]) := Lib.hid rfl
          have HSV : Hid (lnV s = .agg #[.int .i64 s.q, .int .i64 s.g, .int .i64 s.u]) := Lib.hid rfl
          obtain ⟨sq, hsq⟩ : ∃ sq, s.q = sq := ⟨_, rfl⟩
          obtain ⟨sg, hsg⟩ : ∃ sg, s.g = sg := ⟨_, rfl⟩
          obtain ⟨su, hsu⟩ : ∃ su, s.u = su := ⟨_, rfl⟩
          rw [hsq, hsg, hsu] at HSC HSV
          rw [hsq] at c0
          rw [hsg] at c1
          rw [hsu] at c2'
          have hdec2 : decide ((k : Int) < (M : Int)) = true := by simp; omega
          subst hab1
          clear hs hsq hsg hsu
          go_wp2_with (first | (with_reducible refine Txt.wp_region_text mixed quiet (by decide +kernel) ?_) | (with_reducible refine Txt.text_done (by kernel_rfl) ?_))
          have HBX : Hid ((wr.alloc (.cells #[.int .i64 sq, .int .i64 sg, .int .i64 su] 29)).heap[wr.heap.size]? = some (.cells #[.int .i64 sq, .int .i64 sg, .int .i64 su] 29 (0, 0))) := Lib.hid (blk_new wr _)
          have HKA : Hid (Keep [] W1 (wr.alloc (.cells #[.int .i64 sq, .int .i64 sg, .int .i64 su] 29))) := Lib.hid (HK2.out.alloc _)
          obtain ⟨bx, hbx⟩ : ∃ bx, wr.heap.size = bx := ⟨_, rfl⟩
          rw [hbx] at HBX ⊢
          obtain ⟨WA, hWA⟩ : ∃ WA, wr.alloc (.cells #[.int .i64 sq, .int .i64 sg, .int .i64 su] 29) = WA := ⟨_, rfl⟩
          rw [hWA] at HBX HKA ⊢
          clear hWA hbx
          go_loopw [44] (fun j wr => ∃ i : Nat, i ≤ k ∧ j = .int .i64 i ∧ Hid (Keep [] WA wr)) (fun j _ => k - (intOf j).toNat)
          case atStart => exact ⟨0, by omega, rfl, Lib.hid (Keep.refl _ _)⟩
          case round =>
            obtain ⟨i, hi, rfl, HK3⟩ := hrel
            obtain ⟨e0, e1, e2, -⟩ := row3 (HK3.out.at HBX.out (by simp))
            have hbxl := lt_of_blk (HK3.out.at HBX.out (by simp))
            have hne : ¬ bx = wr.heap.size := by omega
            by_cases hlt3 : i < k
            · obtain ⟨t, ht⟩ : ∃ t, l[i]? = some t := ⟨_, List.getElem?_eq_getElem (by rw [HM.out]; omega)⟩
              obtain ⟨b3, off3, hab3, d0, d1, d2⟩ := lnsAt (HLV.out.keep (HKA.out.trans HK3.out) (by simp)) ht
              obtain ⟨rfl, rfl⟩ : b1 = b3 ∧ off1 = off3 := by injection hab3 with h; injection h with h1 h2 _; exact ⟨h1, h2⟩
              have hd := HAP.out r l HL.out i k _ t ht HS.out hlt3
              have hdp := depend13_any _ t HSO.out (HLK.out t (List.mem_of_getElem? ht))
              rw [hd, HSV.out] at hdp
              obtain ⟨tq, tg, tu⟩ := t
              unfold lnV at hdp
              simp only at d0 d1 d2 hdp
              have HDP := Lib.hid hdp
              have hdec3 : decide ((i : Int) < (k : Int)) = true := by simp; omega
              clear hab3 ht hd hdp
              go_wp2_with (first | (with_reducible refine Txt.wp_region_text mixed quiet (by decide +kernel) ?_) | (with_reducible refine Txt.text_done (by kernel_rfl) ?_) | (go_at_call 13; (with_reducible refine (HDP.out _).mono ?_); rintro e6 w6 ⟨rfl, hk6⟩; have HK6 := Lib.hid hk6; clear hk6))
              exact ⟨⟨i + 1, hlt3, by go_num, Lib.hid ((HK3.out.alloc _).trans HK6.out)⟩, by simp [intOf]; omega⟩
            · obtain rfl : i = k := by omega
              have hdec3 : decide ((i : Int) < (i : Int)) = false := by simp
              have HKX := Lib.hid (HKA.out.trans HK3.out)
              by_cases hr0 : r = 0
              · have hdec4 : decide ((r : Int) > 0) = false := by simp; omega
                go_wp2_with (first | (with_reducible refine Txt.wp_region_text mixed quiet (by decide +kernel) ?_) | (with_reducible refine Txt.text_done (by kernel_rfl) ?_))
                exact ⟨⟨i + 1, hlt2, by go_num, HKX⟩, by simp [intOf]; omega⟩
              · have hdec4 : decide ((r : Int) > 0) = true := by simp; omega
                obtain ⟨p, hp⟩ : ∃ p, p + 1 = r := ⟨r - 1, by omega⟩
                obtain ⟨hw1, hw2⟩ := pred_w1 hp (by omega)
                have hpN : p < N := by omega
                obtain ⟨l', hl'⟩ : ∃ l', rs[p]? = some l' := ⟨_, List.getElem?_eq_getElem (by rw [HN.out]; omega)⟩
                obtain ⟨b4, off4, ar4, cr4, hab4, hc4, hv4⟩ := (HR4.out.keep (HK.out.trans HKX.out)).at_ p l' hl'
                obtain ⟨rfl, rfl⟩ : b = b4 ∧ off = off4 := by injection hab4 with h; injection h with h1 h2 _; exact ⟨h1, h2⟩
                have HAN := Lib.hid (HWT.out p l l' (by rw [hp]; exact HL.out) hl' _ HSM.out)
                have HLV4 := Lib.hid hv4
                have hbl : ∀ w', Keep [] wr w' → w'.heap[bx]? = some (.cells #[.int .i64 sq, .int .i64 sg, .int .i64 su] 29 (0, 0)) := fun w' hk => hk.at (HK3.out.at HBX.out (by simp)) (by simp)
                have HC16 := Lib.hid (contains16_17 (g := bx) (p := dep _) (fun y hy w' hk => deps17 HSO.out (by rw [HSC.out]; exact hbl w' hk) y ((HROW.out p l' hl').2 y hy)) hv4)
                rw [HAN.out] at HC16
                obtain ⟨M4, hM4⟩ : ∃ M4, l'.length = M4 := ⟨_, rfl⟩
                rw [hM4] at hc4 HC16 HLV4
                clear hl' hab4 hv4 hbl hM4 hp
                go_wp2_with (first | (with_reducible refine Txt.wp_region_text mixed quiet (by decide +kernel) ?_) | (with_reducible refine Txt.text_done (by kernel_rfl) ?_) | (go_at_call 16; (with_reducible refine HC16.out.mono ?_); rintro e6 w6 ⟨rfl, hk6⟩; have HK6 := Lib.hid hk6; clear hk6))
                clear hw1 hw2
                exact ⟨⟨i + 1, hlt2, by go_num, Lib.hid (by first | exact HKX.out.trans HK6.out | exact (HKX.out.trans HK6.out).drew)⟩, by simp [intOf]; omega⟩
        · obtain rfl : k = M := by omega
          have hdec2 : decide ((k : Int) < (k : Int)) = false := by simp
          go_wp2_with (first | (with_reducible refine Txt.wp_region_text mixed quiet (by decide +kernel) ?_) | (with_reducible refine Txt.text_done (by kernel_rfl) ?_))
          exact ⟨⟨r + 1, hlt, by go_num, Lib.hid (HK.out.trans HK2.out)⟩, by simp [intOf]; omega⟩
    · obtain rfl : r = N := by omega
      have hdec : decide ((r : Int) < (r : Int)) = false := by simp
      have HRX := Lib.hid (HR4.out.keep HK.out)
      have HVX := Lib.hid (HV4.out.keep HK.out (by simp))
      have HKX := Lib.hid (HK4.out.trans HK.out)
      obtain ⟨hf1, hf2, hf3⟩ := HFL.out
      have HF3 := Lib.hid hf3
      have HF1 : Hid (decide (Tr.rnds dep Ln.q ls = Tr.rnds dep Ln.q rs.flatten) = true) := Lib.hid (decide_eq_true hf1)
      obtain ⟨T, hT⟩ : ∃ T, rs.flatten.length = T := ⟨_, rfl⟩
      have HC := Lib.hid (concat18_any HRX.out (by omega) (by omega))
      rw [hT] at HC hf2
      clear hf1 hf3 hT
      go_wp2_with (first | (with_reducible refine Txt.wp_region_text mixed quiet (by decide +kernel) ?_) | (with_reducible refine Txt.text_done (by kernel_rfl) ?_) | (go_at_call 18; (with_reducible refine HC.out.mono ?_); rintro e6 w6 ⟨v6, rfl, hk6, ho6⟩; obtain ⟨a6, c6, rfl, hv6, -⟩ := LnsV.ofOwn ho6; have HV6 := Lib.hid hv6; have HK6 := Lib.hid (HKX.out.trans hk6); have HVY := Lib.hid (HVX.out.keep hk6 (by simp)); clear hk6 ho6 hv6) | (go_at_call 14; (with_reducible refine (same14_any HVY.out HV6.out hl2 hf2 HOK.out HF3.out).mono ?_); rintro e7 w7 ⟨rfl, hk7⟩; rw [HF1.out]; have HK7 := Lib.hid (HK6.out.trans hk7); clear hk7))
      go_ret
      exact ⟨rfl, by first | exact HK7.out | exact HK7.out.drew⟩
end Go.Proofs.Ytfcellgjbbfobaa
/- Writing in place into a row of one's own, elements of however many cells. -/
namespace Go
theorem keep_setRow (w : World) (g : Nat) (cs : Array Value) : Keep [g] w (w.setRow g cs) :=
  ⟨rfl, rfl, rfl, by simp, fun i _ hs => setRow_other w g i cs (by simpa using hs)⟩
section
variable {P : Program}
theorem wpList_append_room {w : World} {ops : Array Oper} {rest : List Oper} {o : Oper} {a : Act} {Q : Exit → Act → World → Prop} (hgd : o.guard = none) (s x : Operand) (t : TypeId)
    (ho : o.op = .call { callee := .builtin .append, args := #[s, x], argTypes := #[t, t] })
    (e : TypeId) (i : TypeInfo) (ht : P.underlying t = some (.slice e)) (hi : P.info? e = some i) (size : Nat) (hsz : i.size = size)
    (g sLen sCap : Nat) (cur : Array Value) (hg : w.heap[g]? = some (.cells cur e (0, 0))) (hs : a.eval s = .slice (some ⟨g, 0, none⟩) sLen sCap)
    (ad : Addr) (m c : Nat) (news : List Value) (hx : a.eval x = .slice (some ad) m c) (hl : news.length = m * size) (hnews : ∀ j u, news[j]? = some u → w.cell? (ad.add j) = some u) (h1 : ∀ u ∈ news, u.oneCell' = true)
    (hroom : sLen + m ≤ sCap) (hfit : sLen * size + news.length ≤ cur.size)
    (h : wpList P ops Q rest (a.put o.dst (.slice (some ⟨g, 0, none⟩) (sLen + m) sCap)) (w.setRow g (cur.toList.take (sLen * size) ++ news ++ cur.toList.drop (sLen * size + news.length)).toArray)) : wpList P ops Q (o :: rest) a w := by
  subst hsz
  refine wpList_plain hgd fun K hK => ?_
  have hrun := run_append_room (P := P) (w := w) t o.type e i ht hi g sLen sCap cur hg ad m c news hl hnews h1 hroom hfit
  unfold Oper.wp
  simp [execOp, ho, resolve, invoke, builtin, hs, hx, hrun, Result.andThen]
  exact hK _ _ (by simpa only [List.append_assoc] using h)
theorem wpList_clear_row {w : World} {ops : Array Oper} {rest : List Oper} {o : Oper} {a : Act} {Q : Exit → Act → World → Prop} (hgd : o.guard = none) (s : Operand) (t : TypeId)
    (ho : o.op = .call { callee := .builtin .clear, args := #[s], argTypes := #[t] })
    (e : TypeId) (z : Value) (ht : P.underlying t = some (.slice e)) (hv : ∀ w, (zeroValue e).run P w = .ok z w) (hz1 : ∀ u ∈ z.cells, u.oneCell' = true)
    (g off n c : Nat) (cur : Array Value) (hg : w.heap[g]? = some (.cells cur e (0, 0))) (hs : a.eval s = .slice (some ⟨g, off, none⟩) (n + 1) c) (hfit : off + (n + 1) * z.cells.size ≤ cur.size)
    (h : ∀ L : List Value, L.length = (n + 1) * z.cells.size → wpList P ops Q rest (a.put o.dst (.tuple #[])) (w.setRow g (cur.toList.take off ++ L ++ cur.toList.drop (off + L.length)).toArray)) : wpList P ops Q (o :: rest) a w := by
  refine wpList_plain hgd fun K hK => ?_
  obtain ⟨L, hL⟩ : ∃ L, (Builtin.zeroCells z.cells (n + 1)).toList = L := ⟨_, rfl⟩
  have hlen : L.length = (n + 1) * z.cells.size := by rw [← hL, Array.length_toList, size_zeroCells]
  have hone : ∀ u ∈ L, u.oneCell' = true := fun u hu => by
    rw [← hL] at hu
    have hu' : u ∈ Builtin.zeroCells z.cells (n + 1) := by simpa using hu
    unfold Builtin.zeroCells at hu'
    obtain ⟨j, hj, rfl⟩ := Array.mem_map.1 hu'
    have hj2 := Array.mem_range.1 hj
    have hs0 : 0 < z.cells.size := by
      rcases Nat.eq_zero_or_pos z.cells.size with h0 | h0
      · rw [h0] at hj2; simp at hj2
      · exact h0
    have hlt := Nat.mod_lt j hs0
    rw [getElem!_pos z.cells (j % z.cells.size) hlt]
    exact hz1 _ (Array.getElem_mem hlt)
  have hst := run_storeCells_at P g off e L 0 cur w hg (by omega) hone
  simp only [Nat.add_zero] at hst
  have hL' : Builtin.zeroCells z.cells (n + 1) = L.toArray := by rw [← hL]
  unfold Oper.wp
  simp [execOp, ho, resolve, invoke, builtin, hs, Builtin.clear_, run_underlying ht, hv, hL, hst, Result.andThen]
  exact hK _ _ (by simpa only [List.append_assoc] using h L hlen)
end
end Go
/- Part: slices.Delete of one step. -/
namespace Go
open Go.RowKit
theorem lanesC_len3 (l : List Ln) : (lanesC l).length = l.length * 3 := by rw [lanesC_len, Nat.mul_comm]
theorem lanesC_app3 (a b : List Ln) : lanesC (a ++ b) = lanesC a ++ lanesC b := by simp [lanesC]
theorem lanesC_take3 (l : List Ln) (k : Nat) : (lanesC l).take (k * 3) = lanesC (l.take k) := by
  by_cases hk : k ≤ l.length
  · have h := congrArg lanesC (List.take_append_drop k l)
    rw [lanesC_app3] at h
    rw [← h, List.take_left' (by rw [lanesC_len3, List.length_take]; omega)]
  · rw [List.take_of_length_le (by rw [lanesC_len3]; omega), List.take_of_length_le (by omega)]
theorem lanesC_drop3 (l : List Ln) (k : Nat) : (lanesC l).drop (k * 3) = lanesC (l.drop k) := by
  by_cases hk : k ≤ l.length
  · have h := congrArg lanesC (List.take_append_drop k l)
    rw [lanesC_app3] at h
    rw [← h, List.drop_left' (by rw [lanesC_len3, List.length_take]; omega)]
  · rw [List.drop_of_length_le (by rw [lanesC_len3]; omega), List.drop_of_length_le (by omega)]; rfl
end Go
namespace Go.Proofs.Ytfcellgjbbfobaa
open Go.RowKit
theorem zero29 : ∀ w, (zeroValue 29).run Try.prog w = .ok (.agg #[.int .i64 0, .int .i64 0, .int .i64 0]) w := fun w => by kernel_rfl
set_option maxRecDepth 100000 in
set_option maxHeartbeats 2000000 in
theorem delete38_any {B i : Nat} {v : Value} {l : List Ln} {w : World} (ho : w.ownsRow B 29 3 v l.length (lanesC l)) (hi : i < l.length) (hl : l.length ≤ 100000) :
    Calls Try.prog 38 #[v, .int .i64 i, .int .i64 ((i : Int) + 1)] w fun e w' => ∃ v', e = .returned v' ∧ v'.ownBlock = v.ownBlock ∧ Keep v.ownBlock.toList w w' ∧ w'.ownsRow B 29 3 v' (l.length - 1) (lanesC (l.eraseIdx i)) := by
  obtain ⟨i0, hi0, hz0, hz1, hz2⟩ := infoQ info29
  rcases ho.2 with ⟨_, h0⟩ | ⟨g, cap, cur, rfl, hb, hg, hnc, hcm, hcs, ht⟩
  · omega
  obtain ⟨k, hk⟩ : ∃ k, l.length = k + 1 := ⟨l.length - 1, by omega⟩
  rw [hk] at hi hl hnc ht
  have hcurl : (k + 1) * 3 ≤ cur.toList.length := by rw [Array.length_toList, hcs]; omega
  have HNEWS : Hid (∀ j u, (lanesC (l.drop (i + 1)))[j]? = some u → w.drew.cell? ((⟨g, (i + 1) * 3, none⟩ : Addr).add j) = some u) := Lib.hid (fun j u hu => by
    rw [Go.WideShapes.add_plain]
    show w.cell? ⟨g, (i + 1) * 3 + j, none⟩ = some u
    rw [cell_of_row w g _ cur 29 (0, 0) hg, ← hu, ← lanesC_drop3, ← ht, List.getElem?_drop, List.getElem?_take]
    have hj := (List.getElem?_eq_some_iff.1 hu).1
    rw [lanesC_len3, List.length_drop, hk] at hj
    rw [if_pos (by omega)]
    simp)
  have HLEN : Hid ((lanesC (l.drop (i + 1))).length = (k - i) * 3) := Lib.hid (by rw [lanesC_len3, List.length_drop, hk]; congr 1; omega)
  have HONE : Hid (∀ u ∈ lanesC (l.drop (i + 1)), u.oneCell' = true) := Lib.hid (fun u hu => by
    exact lanesOne u hu)
  have HG := Lib.hid hg
  have HT := Lib.hid ht
  have HCS := Lib.hid hcs
  have HB := Lib.hid hb
  have hcm' := hcm
  unfold maxLen at hcm'
  clear ho hb hg ht
  have HTI : Hid (cur.toList.take (i * 3) = lanesC (l.take i)) := Lib.hid (by
    rw [← lanesC_take3, ← HT.out, List.take_take, Nat.min_eq_left (by omega)])
  have HSZ : Hid ((cur.toList.take (i * 3) ++ (lanesC (l.drop (i + 1)) ++ cur.toList.drop (i * 3 + (lanesC (l.drop (i + 1))).length))).length = cap * 3) := Lib.hid (by
    rw [List.length_append, List.length_append, HLEN.out, List.length_take, List.length_drop, Array.length_toList, HCS.out]
    omega)
  have HER : Hid (∀ L : List Value, ((cur.toList.take (i * 3) ++ (lanesC (l.drop (i + 1)) ++ cur.toList.drop (i * 3 + (lanesC (l.drop (i + 1))).length))).take (k * 3) ++ L).take (k * 3) = lanesC (l.eraseIdx i)) := Lib.hid (fun L => by
    have h1 : (cur.toList.take (i * 3)).length = i * 3 := by rw [List.length_take, Array.length_toList, HCS.out]; omega
    have h2 : ((cur.toList.take (i * 3) ++ (lanesC (l.drop (i + 1)) ++ cur.toList.drop (i * 3 + (lanesC (l.drop (i + 1))).length))).take (k * 3)).length = k * 3 := by rw [List.length_take, HSZ.out]; omega
    rw [List.take_left' h2, ← List.append_assoc, List.take_left' (by rw [List.length_append, h1, HLEN.out]; omega), HTI.out, ← lanesC_app3, List.eraseIdx_eq_take_drop_succ])
  have HZ1 : Hid (∀ u ∈ (Value.agg #[.int .i64 0, .int .i64 0, .int .i64 0]).cells, u.oneCell' = true) := Lib.hid (by
    intro u hu
    simp [Value.cells] at hu
    subst hu; rfl)
  rw [hk]
  have e1 : i + (k - i) = k := by omega
  have HFIT : Hid (k * 3 + (0 + 1) * (Value.agg #[.int .i64 0, .int .i64 0, .int .i64 0]).cells.size ≤ (cur.toList.take (i * 3) ++ (lanesC (l.drop (i + 1)) ++ cur.toList.drop (i * 3 + (lanesC (l.drop (i + 1))).length))).toArray.size) := Lib.hid (by
    show k * 3 + (0 + 1) * 3 ≤ (List.toArray _).size
    rw [List.size_toArray, HSZ.out]
    omega)
  by_cases hcap : cap = i + 1
  · subst hcap
    have hik : i = k := by omega
    subst hik
    have HNIL : Hid (lanesC (l.drop (i + 1)) = []) := Lib.hid (by rw [List.drop_eq_nil_of_le (by omega)]; rfl)
    have HL0 : Hid ((lanesC (l.drop (i + 1))).length = 0 * 3) := Lib.hid (by rw [HNIL.out]; rfl)
    have HN0 : Hid (∀ j u, (lanesC (l.drop (i + 1)))[j]? = some u → w.drew.cell? ((⟨g, 0, none⟩ : Addr).add j) = some u) := Lib.hid (fun j u hu => by rw [HNIL.out] at hu; simp at hu)
    go_enter Try.func38, Try.ntmps38
    go_wp2_with (first | (with_reducible refine Txt.wp_region_text mixed quiet (by decide +kernel) ?_) | (with_reducible refine Txt.text_done (by kernel_rfl) ?_) | (at_builtin; refine wpList_append_room rfl _ _ 24 rfl 29 i0 Try.underlying24 hi0 3 hz1 g i (i + 1) cur HG.out rfl ⟨g, 0, none⟩ 0 0 (lanesC (l.drop (i + 1))) rfl HL0.out HN0.out HONE.out (by omega) (by rw [HL0.out]; omega) ?_) | (refine wpList_clear_row rfl _ 24 rfl 29 _ Try.underlying24 zero29 HZ1.out g (i * 3) 0 _ _ (setRow_heap w.drew g cur _ 29 (0, 0) HG.out) rfl HFIT.out ?_; intro L hL))
    go_ret
    have hL5 : L.length = 3 := by rw [hL]; try rfl
    refine ⟨.slice (some ⟨g, 0, none⟩) i (i + 1), rfl, rfl, (((Keep.refl [g] w).drew).trans (keep_setRow _ _ _)).trans (keep_setRow _ _ _), ?_, .inr ⟨g, (i + 1), _, rfl, HB.out, setRow_heap _ g _ _ 29 (0, 0) (setRow_heap w.drew g cur _ 29 (0, 0) HG.out), by omega, hcm, ?_, ?_⟩⟩
    · rw [lanesC_len3, List.length_eraseIdx, if_pos (by omega), hk]
    · rw [List.size_toArray, List.length_append, List.length_append, List.length_take, List.length_drop, HSZ.out, hL5]; omega
    · have h1 : (cur.toList.take (i * 3)).length = i * 3 := by rw [List.length_take, Array.length_toList, HCS.out]; omega
      show List.take (i * 3) (List.take (i * 3) cur.toList ++ _) = _
      rw [List.take_left' h1, HTI.out, List.eraseIdx_eq_take_drop_succ, lanesC_app3, HNIL.out, List.append_nil]
  · go_enter Try.func38, Try.ntmps38
    go_wp2_with (first | (with_reducible refine Txt.wp_region_text mixed quiet (by decide +kernel) ?_) | (with_reducible refine Txt.text_done (by kernel_rfl) ?_) | (at_builtin; refine wpList_append_room rfl _ _ 24 rfl 29 i0 Try.underlying24 hi0 3 hz1 g i cap cur HG.out rfl ⟨g, (i + 1) * 3, none⟩ (k - i) (cap - (i + 1)) (lanesC (l.drop (i + 1))) rfl HLEN.out HNEWS.out HONE.out (by omega) (by rw [HLEN.out]; omega) ?_) | (refine wpList_clear_row rfl _ 24 rfl 29 _ Try.underlying24 zero29 HZ1.out g (k * 3) 0 _ _ (setRow_heap w.drew g cur _ 29 (0, 0) HG.out) rfl HFIT.out ?_; intro L hL))
    go_ret
    have hL5 : L.length = 3 := by rw [hL]; try rfl
    refine ⟨.slice (some ⟨g, 0, none⟩) k cap, rfl, rfl, (((Keep.refl [g] w).drew).trans (keep_setRow _ _ _)).trans (keep_setRow _ _ _), ?_, .inr ⟨g, cap, _, rfl, HB.out, setRow_heap _ g _ _ 29 (0, 0) (setRow_heap w.drew g cur _ 29 (0, 0) HG.out), by omega, hcm, ?_, ?_⟩⟩
    · rw [lanesC_len3, List.length_eraseIdx, if_pos (by omega), hk]
    · rw [List.size_toArray, List.length_append, List.length_append, List.length_take, List.length_drop, HSZ.out, hL5]; omega
    · exact HER.out _
end Go.Proofs.Ytfcellgjbbfobaa
/- Part: slices.DeleteFunc with the closure 21: what is left is of one process. -/
namespace Go
open Go.RowKit
def his (who : Int) (l : List Ln) : List Ln := l.filter (fun y => !(y.q != who))
theorem setC_take {l : List Ln} {p : Nat} {x : Ln} (h : p < l.length) : (l.set p x).take (p + 1) = l.take p ++ [x] := by
  refine List.ext_getElem? fun k => ?_
  rcases Nat.lt_trichotomy k p with hk | hk | hk
  · rw [List.getElem?_take, if_pos (by omega), List.getElem?_set, if_neg (by omega), List.getElem?_append_left (by rw [List.length_take]; omega), List.getElem?_take, if_pos hk]
  · subst hk
    rw [List.getElem?_take, if_pos (by omega), List.getElem?_set, if_pos rfl, if_pos h, List.getElem?_append_right (by rw [List.length_take]; omega), List.length_take, Nat.min_eq_left (by omega), Nat.sub_self]; rfl
  · rw [List.getElem?_take, if_neg (by omega), List.getElem?_eq_none (by rw [List.length_append, List.length_take]; simp; omega)]
theorem drop_same {l : List Ln} {p q : Nat} (h : p < q) (x : Ln) : (l.set p x).drop q = l.drop q := by
  refine List.ext_getElem? fun k => ?_
  rw [List.getElem?_drop, List.getElem?_drop, List.getElem?_set, if_neg (by omega)]
theorem nat_ne_m1 (i : Nat) : ((i : Int) == -1) = false := by
  rw [beq_eq_false_iff_ne]; omega
theorem his_not {who : Int} {l : List Ln} {i : Nat} (h : his who l = l) (hi : i < l.length) (h1 : his who (l.take (i + 1)) = l.take i) : False := by
  have h2 : his who (l.take (i + 1)) = l.take (i + 1) := List.filter_eq_self.2 (fun y hy => List.filter_eq_self.1 h y (List.mem_of_mem_take hy))
  have h3 := congrArg List.length (h2.symm.trans h1)
  rw [List.length_take, List.length_take] at h3
  omega
theorem his_take {who : Int} {l : List Ln} {q : Nat} {x : Ln} (h : l[q]? = some x) : his who (l.take (q + 1)) = his who (l.take q) ++ (if (x.q != who) = true then [] else [x]) := by
  unfold his
  rw [List.take_add_one, h, Option.toList_some, List.filter_append]
  by_cases hx : (x.q != who) = true
  · rw [if_pos hx]; simp [hx]
  · rw [if_neg hx]; simp [hx]
end Go
namespace Go.Proofs.Ytfcellgjbbfobaa
open Go.RowKit
set_option maxRecDepth 100000 in
set_option maxHeartbeats 4000000 in
theorem delete20_any {B gw : Nat} {who : Int} {v : Value} {l : List Ln} {w : World} (ho : w.ownsRow B 29 3 v l.length (lanesC l)) (hl : l.length ≤ 40) (hw : w.heap[gw]? = some (.cells #[.int .i64 who] 3 (0, 0))) :
    Calls Try.prog 20 #[v, .func (.func 21) #[] #[.pointer (some ⟨gw, 0, none⟩)]] w fun e w' => ∃ v', e = .returned v' ∧ Keep v.ownBlock.toList w w' ∧ ∃ m, w'.ownsRow B 29 3 v' m (lanesC (his who l)) := by
  obtain ⟨a, c, rfl, hv, -⟩ := LnsV.ofOwn ho
  have HI := index35_21 (g := gw) (p := fun y => y.q != who) (fun x hx w' hk => isnt21 (hk.at hw (by simp)) x) hv
  by_cases hany : his who l = l
  · have HM : Hid (Calls Try.prog 35 #[.slice a l.length c, .func (.func 21) #[] #[.pointer (some ⟨gw, 0, none⟩)]] w fun e w' => e = .returned (.int .i64 (-1)) ∧ Keep [] w w') := Lib.hid (HI.mono (by
      rintro e w' ⟨hk, ⟨rfl, h⟩ | ⟨i, rfl, h, h1⟩⟩
      · exact ⟨rfl, hk⟩
      · exact (his_not hany h h1).elim))
    have HO := Lib.hid ho
    clear HI ho hv hw
    go_enter Try.func20, Try.ntmps20
    go_wp2_with (first | (with_reducible refine Txt.wp_region_text mixed quiet (by decide +kernel) ?_) | (with_reducible refine Txt.text_done (by kernel_rfl) ?_) | (go_at_call 35; (with_reducible refine HM.out.mono ?_); rintro e w5 ⟨rfl, hk5⟩))
    go_ret
    exact ⟨_, rfl, hk5.more (by simp), l.length, by rw [hany]; exact own_keep HO.out hk5 (by simp)⟩
  · have HM : Hid (Calls Try.prog 35 #[.slice a l.length c, .func (.func 21) #[] #[.pointer (some ⟨gw, 0, none⟩)]] w fun e w' => ∃ i : Nat, e = .returned (.int .i64 (i : Nat)) ∧ i < l.length ∧ his who (l.take (i + 1)) = l.take i ∧ Keep [] w w') := Lib.hid (HI.mono (by
      rintro e w' ⟨hk, ⟨rfl, h⟩ | ⟨i, rfl, h, h1⟩⟩
      · exact (hany h).elim
      · exact ⟨i, rfl, h, h1, hk⟩))
    have hpos : 0 < l.length := by
      rcases l with _ | ⟨x, l⟩
      · exact (hany rfl).elim
      · simp
    obtain ⟨g, cap, hva, hcg1, hcg2, hgB, hgl, -, -⟩ := own3Q ho hpos
    injection hva with hva _ hcc
    subst hva
    subst hcc
    have HW := Lib.hid hw
    have HO := Lib.hid ho
    have HGW : Hid (gw ≠ g) := Lib.hid (by
      rcases ho.2 with ⟨h, _⟩ | ⟨g', cap', cur, he, hb, hg, _⟩
      · cases h
      · cases he
        exact neTypeQ hw hg (by decide))
    obtain ⟨n, hn⟩ : ∃ n, l.length = n := ⟨_, rfl⟩
    have HN := Lib.hid hn
    rw [hn] at HM HO hl hpos hcg1 ⊢
    clear HI ho hv hw hany hn
    have hob : (Value.slice (some ⟨g, 0, none⟩) n c).ownBlock.toList = [g] := rfl
    rw [hob]
    clear hob
    go_enter Try.func20, Try.ntmps20
    go_wp2_with (first | (with_reducible refine Txt.wp_region_text mixed quiet (by decide +kernel) ?_) | (with_reducible refine Txt.text_done (by kernel_rfl) ?_) | (go_at_call 35; (with_reducible refine HM.out.mono ?_); rintro e w5 ⟨i0, rfl, hi0, hf0, hk5⟩; have HF0 := Lib.hid hf0; have HK5 := Lib.hid hk5; have hm1 := nat_ne_m1 i0; clear hf0 hk5))
    clear hm1
    go_loopw [5, 6, 7] (fun ii jj _ wr => ∃ (p q : Nat) (L : List Ln), p < q ∧ q ≤ n ∧ ii = .int .i64 p ∧ jj = .int .i64 q ∧ Hid (L.length = n) ∧ Hid (wr.ownsRow B 29 3 (.slice (some ⟨g, 0, none⟩) n c) n (lanesC L)) ∧ Hid (L.take p = his who (l.take q)) ∧ Hid (L.drop q = l.drop q) ∧ Hid (Keep [g] w wr)) (fun _ jj _ _ => n - (intOf jj).toNat)
    case atStart => exact ⟨i0, i0 + 1, l, by omega, by omega, rfl, by go_num, HN, Lib.hid (own_keep HO.out HK5.out (by simp)), Lib.hid HF0.out.symm, Lib.hid rfl, Lib.hid (HK5.out.more (by simp))⟩
    case round =>
      obtain ⟨p, q, L, hpq, hq, rfl, rfl, HLN, HOR, HT, HD, HK⟩ := hrel
      by_cases hlt : q < n
      · obtain ⟨x, hx⟩ : ∃ x, L[q]? = some x := ⟨_, List.getElem?_eq_getElem (by rw [HLN.out]; exact hlt)⟩
        obtain ⟨y, hy⟩ : ∃ y, L[p]? = some y := ⟨_, List.getElem?_eq_getElem (by rw [HLN.out]; omega)⟩
        have HXL : Hid (l[q]? = some x) := Lib.hid (by
          have h1 := congrArg (fun t => t[0]?) HD.out
          simp only [List.getElem?_drop, Nat.add_zero] at h1
          rw [← h1]; exact hx)
        obtain ⟨g2, cg2, hve, -, -, -, hgl2, hth, hcl⟩ := own3Q HOR.out (by omega)
        injection hve with hve _ hcc
        injection hve with hve
        injection hve with hve _ _
        subst hve
        subst hcc
        obtain ⟨p0, p1, p2⟩ := hcl q x hx
        have HY := Lib.hid hy
        have HB : Hid (∀ w', Keep [] wr w' → w'.cell? ⟨g, p * 3, none⟩ = some (.int .i64 y.q) ∧ w'.cell? ⟨g, p * 3 + 1, none⟩ = some (.int .i64 y.g) ∧ w'.cell? ⟨g, p * 3 + 2, none⟩ = some (.int .i64 y.u) ∧ ∀ j, w'.frozen? ⟨g, j, none⟩ = false) := Lib.hid (fun w' hk => by
          obtain ⟨g3, cg3, hve, -, -, -, -, hth, hcl⟩ := own3Q (own_keep HOR.out hk (by simp)) (by omega)
          injection hve with hve _ _
          injection hve with hve
          injection hve with hve _ _
          subst hve
          obtain ⟨r0, r1, r2⟩ := hcl p y HY.out
          exact ⟨r0, r1, r2, hth⟩)
        have HCL : Hid (∀ w', Keep [] wr w' → Calls Try.prog 21 #[lnV x, .pointer (some ⟨gw, 0, none⟩)] w' fun e w2 => e = .returned (.bool (x.q != who)) ∧ Keep [] w' w2) := Lib.hid (fun w' hk => isnt21 ((HK.out.trans (hk.more (by simp))).at HW.out (by simpa using HGW.out)) x)
        obtain ⟨bx, hbx⟩ : ∃ bx, (x.q != who) = bx := ⟨_, rfl⟩
        have HBX := Lib.hid hbx
        have HTN : Hid (his who (l.take (q + 1)) = his who (l.take q) ++ (if bx = true then [] else [x])) := Lib.hid (by rw [← hbx]; exact his_take HXL.out)
        rw [hbx] at HCL
        have HDN : Hid (∀ z, (L.set p z).drop (q + 1) = l.drop (q + 1)) := Lib.hid (fun z => by
          rw [drop_same (by omega), ← List.drop_drop, ← List.drop_drop, HD.out])
        have HDN2 : Hid (L.drop (q + 1) = l.drop (q + 1)) := Lib.hid (by
          rw [← List.drop_drop, ← List.drop_drop, HD.out])
        have HX := Lib.hid hx
        obtain ⟨x0, x1, x2⟩ := x
        obtain ⟨y0, y1, y2⟩ := y
        simp only at p0 p1 p2 HB
        unfold lnV at HCL
        simp only at HCL
        have hdec : decide ((q : Int) < (n : Int)) = true := by simp; omega
        have hpn : p < n := by omega
        clear hx hy hcl hbx hth
        obtain ⟨W1, hW1⟩ : ∃ W1, W1 = wr := ⟨_, rfl⟩
        subst hW1
        cases bx with
        | true =>
          go_wp2_with (first | (with_reducible refine Txt.wp_region_text mixed quiet (by decide +kernel) ?_) | (with_reducible refine Txt.text_done (by kernel_rfl) ?_) | (go_at_call 21; (with_reducible refine (HCL.out _ ((Keep.refl [] W1).alloc _)).mono ?_); rintro e w6 ⟨rfl, hk6⟩; have HK6 := Lib.hid (((Keep.refl [] W1).alloc _).trans hk6); clear hk6))
          refine ⟨⟨p, q + 1, L, by omega, by omega, rfl, by go_num, HLN, Lib.hid (own_keep HOR.out HK6.out (by simp)), Lib.hid (by rw [HTN.out, HT.out]; simp), HDN2, Lib.hid (HK.out.trans (HK6.out.more (by simp)))⟩, by simp [intOf]; omega⟩
        | false =>
          go_wp2_with (first | (with_reducible refine Txt.wp_region_text mixed quiet (by decide +kernel) ?_) | (with_reducible refine Txt.text_done (by kernel_rfl) ?_) | (go_at_call 21; (with_reducible refine (HCL.out _ ((Keep.refl [] W1).alloc _)).mono ?_); rintro e w6 ⟨rfl, hk6⟩; have HK6 := Lib.hid (((Keep.refl [] W1).alloc _).trans hk6); have hbx := hk6.at (blk_new W1 _) (by simp); obtain ⟨d0, d1, d2, -⟩ := row3 hbx; clear hk6 hbx; obtain ⟨r0, r1, r2, hth⟩ := HB.out _ HK6.out; have hfz := hth (p * 3)))
          have HP6 := own_put3Q (own_keep HOR.out HK6.out (by simp)) (i := p) (by rw [HLN.out]; exact hpn) x0 x1 x2
          refine ⟨⟨p + 1, q + 1, L.set p ⟨x0, x1, x2⟩, by omega, by omega, by go_num, by go_num, Lib.hid (by rw [List.length_set]; exact HLN.out), Lib.hid (by first | exact HP6 | exact HP6.drew), Lib.hid (by rw [HTN.out, setC_take (by rw [HLN.out]; exact hpn), HT.out]; simp), HDN.out _ |> Lib.hid, Lib.hid ?_⟩, by simp [intOf]; omega⟩
          refine HK.out.trans ?_
          have h6 := HK6.out.more (S' := [g]) (by simp)
          first
            | exact ((h6.setCell (.inl (by simp)) _).setCell (.inl (by simp)) _).setCell (.inl (by simp)) _
            | exact (((h6.setCell (.inl (by simp)) _).setCell (.inl (by simp)) _).setCell (.inl (by simp)) _).drew
      · obtain rfl : q = n := by omega
        obtain ⟨k, hk⟩ : ∃ k, q = p + (k + 1) := ⟨q - p - 1, by omega⟩
        rcases HOR.out.2 with ⟨h, _⟩ | ⟨g2, cap2, cur, he, hb, hg, hnc, hcm, hcs, ht⟩
        · cases h
        cases he
        have HG := Lib.hid hg
        have HCS := Lib.hid hcs
        have HCT := Lib.hid ht
        have HGB := Lib.hid hb
        have hcm' := hcm
        unfold maxLen at hcm'
        have HTL : Hid (L.take p = his who l) := Lib.hid (by rw [HT.out, List.take_of_length_le (by rw [HN.out]; omega)])
        clear hg hcs ht hb HT HD
        subst hk
        have hdec : decide (((p + (k + 1) : Nat) : Int) < ((p + (k + 1) : Nat) : Int)) = false := by simp
        have HFIT : Hid (p * 3 + (k + 1) * (Value.agg #[.int .i64 0, .int .i64 0, .int .i64 0]).cells.size ≤ cur.size) := Lib.hid (by
          show p * 3 + (k + 1) * 3 ≤ cur.size
          rw [HCS.out]; omega)
        have HZ1 : Hid (∀ u ∈ (Value.agg #[.int .i64 0, .int .i64 0, .int .i64 0]).cells, u.oneCell' = true) := Lib.hid (by
          intro u hu
          simp [Value.cells] at hu
          subst hu; rfl)
        go_wp2_with (first | (with_reducible refine Txt.wp_region_text mixed quiet (by decide +kernel) ?_) | (with_reducible refine Txt.text_done (by kernel_rfl) ?_) | (refine wpList_clear_row rfl _ 24 rfl 29 _ Try.underlying24 zero29 HZ1.out g (p * 3) k _ cur HG.out rfl HFIT.out ?_; intro LZ hL))
        go_ret
        have hL5 : LZ.length = (k + 1) * 3 := by rw [hL]; rfl
        have hsz := HCS.out
        refine ⟨.slice (some ⟨g, 0, none⟩) p c, rfl, HK.out.trans (keep_setRow _ _ _), p, ?_, .inr ⟨g, c, _, rfl, HGB.out, setRow_heap _ g _ _ 29 (0, 0) HG.out, by omega, hcm, ?_, ?_⟩⟩
        · rw [lanesC_len3, ← HTL.out, List.length_take, HLN.out, Nat.min_eq_left (by omega)]
        · rw [List.size_toArray, List.length_append, List.length_append, List.length_take, List.length_drop, Array.length_toList, hL5, hsz]; omega
        · have h1 : (cur.toList.take (p * 3)).length = p * 3 := by rw [List.length_take, Array.length_toList, hsz]; omega
          rw [← HTL.out, ← lanesC_take3, ← HCT.out, List.take_take, Nat.min_eq_left (by omega)]
          first
            | exact List.take_left' h1
            | (show List.take (p * 3) (List.take (p * 3) cur.toList ++ LZ ++ _) = _; rw [List.append_assoc, List.take_left' h1])
end Go.Proofs.Ytfcellgjbbfobaa
