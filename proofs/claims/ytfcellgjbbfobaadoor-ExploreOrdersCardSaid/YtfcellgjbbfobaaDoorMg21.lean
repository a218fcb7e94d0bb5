/- Texts laid together: DQ15 DB2. -/
import Derived.Test.YtfcellgjbbfobaaDoorMg20
/- Part: Normal. -/
namespace Go
open Go.RowKit
def sliceLen (v : Value) : Nat := match v with | .slice _ n _ => n | _ => 0
def bstI (o : Option (Nat × Ln)) : Int := match o with | none => -1 | some b => (b.1 : Int)
theorem bst_next {l : List Ln} {i : Nat} {x : Ln} (h : l[i]? = some x) : Tr.bst dep Ln.q l (i + 1) = if (!(l.take i).any (dep x) && (match Tr.bst dep Ln.q l i with | none => true | some b => decide (x.q < b.2.q))) = true then some (i, x) else Tr.bst dep Ln.q l i := by
  simp only [Tr.bst, h, Tr.isFree]
  cases Tr.bst dep Ln.q l i <;> rfl
theorem norm_next {l : List Ln} {M j : Nat} {b : Ln} (h : Tr.bst dep Ln.q l l.length = some (j, b)) : Tr.norm dep Ln.q (M + 1) l = b :: Tr.norm dep Ln.q M (l.eraseIdx j) := by
  simp only [Tr.norm, h]
theorem lnsTake {w : World} {a : Option Addr} {n c i : Nat} {ls : List Ln} (h : LnsV w a n c ls) (hi : i ≤ n) : LnsV w a i c (ls.take i) :=
  ⟨by rw [List.length_take, h.len]; omega, Nat.le_trans hi h.room, h.most, fun h0 => by
    obtain ⟨b, off, he, hc⟩ := h.cells (by omega)
    refine ⟨b, off, he, fun j hj => ?_⟩
    rw [hc j (by omega), ← lanesC_take3, List.getElem?_take, if_pos (by omega)]⟩
theorem normal_len (ls : List Ln) : (Tr.normal dep Ln.q ls).length = ls.length := ((Tr.lv_perm (Tr.normal_same (D := dep) dep_symm Ln.q ls)).length_eq).symm
end Go
namespace Go.Proofs.YtfcellgjbbfobaaDoor
open Go.RowKit
theorem own3Q {w : World} {B e n : Nat} {v : Value} {ls : List Ln} (h : w.ownsRow B e 3 v n (lanesC ls)) (hn : 0 < n) : ∃ g cap, v = .slice (some ⟨g, 0, none⟩) n cap ∧ n ≤ cap ∧ cap ≤ 9223372036854775807 ∧ B ≤ g ∧ g < w.heap.size ∧ (∀ j, w.frozen? ⟨g, j, none⟩ = false) ∧ ∀ (i : Nat) (x : Ln), ls[i]? = some x → w.cell? ⟨g, i * 3, none⟩ = some (.int .i64 x.q) ∧ w.cell? ⟨g, i * 3 + 1, none⟩ = some (.int .i64 x.g) ∧ w.cell? ⟨g, i * 3 + 2, none⟩ = some (.int .i64 x.u) := by
  obtain ⟨a, c, he, hlv, _⟩ := LnsV.ofOwn h
  rcases h.2 with ⟨_, h0⟩ | ⟨g, cap, cur, rfl, hb, hg, hnc, hcm, hcs, ht⟩
  · omega
  · injection he with h1 _ h2
    refine ⟨g, cap, rfl, hnc, hcm, hb, (Array.getElem?_eq_some_iff.1 hg).1, thaw hg, fun i x hx => ?_⟩
    obtain ⟨b, off, hab, c0, c1, c2⟩ := lnsAt hlv hx
    rw [← h1] at hab
    injection hab with hab
    injection hab with h3 h4 _
    rw [← h3, ← h4, Nat.zero_add] at c0 c1 c2
    exact ⟨c0, c1, c2⟩
set_option maxRecDepth 100000 in
set_option maxHeartbeats 8000000 in
theorem normal24_any {w : World} {a : Option Addr} {n c : Nat} {ls : List Ln} (hv : LnsV w a n c ls) (hn : n ≤ 40) (hok : ∀ x ∈ ls, StOk x) :
    Calls Tryd.prog 12 #[.slice a n c] w fun e w' => ∃ v, e = .returned (.tuple #[v, .int .i64 0]) ∧ w'.ownsRow w.heap.size 52 3 v n (lanesC (Tr.normal dep Ln.q ls)) ∧ Keep [] w w' := by
  have HC := Lib.hid (check30_ok hv hn hok)
  have HV := Lib.hid hv
  have HL := Lib.hid hv.len
  have hrm := hv.room
  have hms := hv.most
  rw [show maxLen = 9223372036854775807 from rfl] at hms
  obtain ⟨i29, hi29, hz0, hz1, hz2⟩ := infoQ info29
  clear hv hok
  go_enter Tryd.func12, Tryd.ntmps12
  go_wp2_with (first | (with_reducible refine Txt.wp_region_text mixed quiet (by decide +kernel) ?_) | (with_reducible refine Txt.text_done (by kernel_rfl) ?_) | (go_at_call 25; (with_reducible refine HC.out.mono ?_); rintro e1 w1 ⟨rfl, hk1⟩; have HK1 := Lib.hid hk1; clear hk1) | (go_at_call 26; (with_reducible refine (clone12_any (HV.out.keep HK1.out (by simp)) (by omega)).mono ?_); rintro e3 w3 ⟨v3, rfl, hk3, ho3⟩; obtain ⟨a3, c3, rfl, hc31, hc32, -⟩ := ownSliceQ ho3; have HK3 := Lib.hid (HK1.out.trans hk3); have HO3 := Lib.hid (ownBaseQ ho3 HK1.out.size); clear hk3 ho3))
  go_loopw [5, 6] (fun v u wr => ∃ (dn rest : List Ln) (va ra : Option Addr) (L vc M rc : Nat), v = .slice va L vc ∧ u = .slice ra M rc ∧ L + M = n ∧ Hid (rest.length = M) ∧ Hid (wr.ownsRow w.heap.size 52 3 (.slice va L vc) L (lanesC dn)) ∧ Hid (wr.ownsRow w.heap.size 52 3 (.slice ra M rc) M (lanesC rest)) ∧ Hid (∀ g, (Value.slice va L vc).ownBlock = some g → (Value.slice ra M rc).ownBlock ≠ some g) ∧ Hid (dn ++ Tr.norm dep Ln.q M rest = Tr.normal dep Ln.q ls) ∧ Hid (Keep [] w wr)) (fun _ u _ => sliceLen u)
  case atStart => exact ⟨[], ls, none, a3, 0, 0, n, c3, rfl, rfl, by omega, HL, Lib.hid (World.ownsRow_nil _ _ _ _), HO3, Lib.hid (fun g h => by simp [Value.ownBlock] at h), Lib.hid (by unfold Tr.normal; rw [HL.out]; rfl), HK3⟩
  case round =>
    obtain ⟨dn, rest, va, ra, L, vc, M, rc, rfl, rfl, hLM, HRL, HOD, HOR, HAP, HNM, HK⟩ := hrel
    obtain ⟨hvc1, hvc2⟩ := ownRoomQ HOD.out
    obtain ⟨hrc1, hrc2⟩ := ownRoomQ HOR.out
    by_cases h0 : M = 0
    · have hdec : decide ((M : Int) > 0) = false := by simp; omega
      have hnil : rest = [] := List.eq_nil_of_length_eq_zero (by rw [HRL.out]; exact h0)
      have HFIN : Hid (wr.ownsRow w.heap.size 52 3 (.slice va L vc) n (lanesC (Tr.normal dep Ln.q ls))) := Lib.hid (by
        have h := HNM.out
        rw [hnil, h0] at h
        simp only [Tr.norm, List.append_nil] at h
        rw [← h]
        have : L = n := by omega
        rw [← this]
        exact HOD.out)
      clear hnil
      go_wp2_with (first | (with_reducible refine Txt.wp_region_text mixed quiet (by decide +kernel) ?_) | (with_reducible refine Txt.text_done (by kernel_rfl) ?_))
      go_ret2
      exact ⟨_, rfl, HFIN.out, HK.out⟩
    · have hdec : decide ((M : Int) > 0) = true := by simp; omega
      obtain ⟨g, cg, hve, hcg1, hcg2, hgB, hgl, hth, hcl⟩ := own3Q HOR.out (by omega)
      injection hve with hve _ hcc
      subst hve
      subst hcc
      obtain ⟨a8, c8, he8, hlr, -⟩ := LnsV.ofOwn HOR.out
      cases he8
      have HLR := Lib.hid hlr
      have HCL := Lib.hid hcl
      obtain ⟨W1, hW1⟩ : ∃ W1, W1 = wr := ⟨_, rfl⟩
      subst hW1
      clear hlr hcl
      go_wp2_with (first | (with_reducible refine Txt.wp_region_text mixed quiet (by decide +kernel) ?_) | (with_reducible refine Txt.text_done (by kernel_rfl) ?_))
      go_loopw [23, 7] (fun j v wr => ∃ i : Nat, i ≤ M ∧ j = .int .i64 i ∧ v = .int .i64 (bstI (Tr.bst dep Ln.q rest i)) ∧ Hid (Keep [] W1 wr)) (fun j _ _ => M - (intOf j).toNat)
      case atStart => exact ⟨0, by omega, rfl, rfl, Lib.hid (Keep.refl _ _)⟩
      case round =>
        obtain ⟨i, hi, rfl, rfl, HK2⟩ := hrel
        by_cases hlt : i < M
        · obtain ⟨x, hx⟩ : ∃ x, rest[i]? = some x := ⟨_, List.getElem?_eq_getElem (by rw [HRL.out]; exact hlt)⟩
          have hcl2 : ∀ (i : Nat) (x : Ln), rest[i]? = some x → wr.cell? ⟨g, i * 3, none⟩ = some (.int .i64 x.q) ∧ wr.cell? ⟨g, i * 3 + 1, none⟩ = some (.int .i64 x.g) ∧ wr.cell? ⟨g, i * 3 + 2, none⟩ = some (.int .i64 x.u) := fun i x h => by
            obtain ⟨h1, h2, h3⟩ := HCL.out i x h
            exact ⟨HK2.out.cell h1 (by simp), HK2.out.cell h2 (by simp), HK2.out.cell h3 (by simp)⟩
          obtain ⟨c0, c1, c2'⟩ := hcl2 i x hx
          have hnx := bst_next hx
          have hgw : g < wr.heap.size := Nat.lt_of_lt_of_le hgl HK2.out.size
          have hne : ¬ g = wr.heap.size := by omega
          have hsp := Tr.bst_spec (D := dep) Ln.q rest i (by rw [HRL.out]; exact hi)
          have HLT := Lib.hid (lnsTake (HLR.out.keep HK2.out (by simp)) hi)
          have hk1 : Keep [] wr (wr.alloc (.cells x.cells.toArray 52)) := (Keep.refl [] wr).alloc _
          have hc16 := contains16_37 (w := wr.alloc (.cells x.cells.toArray 52)) (g := wr.heap.size) (p := dep x) (fun y _ w' hk => free37 (hk.at (blk_new wr _) (by simp)) y) (HLT.out.keep hk1 (by simp))
          have hbn := blk_new wr (.cells x.cells.toArray 52)
          have HXX := Lib.hid hx
          obtain ⟨bf, hbf⟩ : ∃ bf, (rest.take i).any (dep x) = bf := ⟨_, rfl⟩
          rw [hbf] at hc16 hnx
          have HNX := Lib.hid hnx
          have HCJ : Hid (∀ (w' : World), Keep [] (wr.alloc (.cells x.cells.toArray 52)) w' → ∀ (j : Nat) (b : Ln), rest[j]? = some b → w'.cell? ⟨g, j * 3, none⟩ = some (.int .i64 b.q)) := Lib.hid (fun w' hk j b hb => (hk1.trans hk).cell (hcl2 j b hb).1 (by simp))
          obtain ⟨xq, xg, xu⟩ := x
          simp only [Ln.cells] at c0 c1 c2' hk1 hc16 hbn HCJ
          have HC16 := Lib.hid hc16
          have HBN := Lib.hid hbn
          have HKA := Lib.hid (HK2.out.trans hk1)
          have hdec2 : decide ((i : Int) < (M : Int)) = true := by simp; omega
          clear hx hnx hbf hc16 hbn hcl2 hk1
          rcases hsp with ⟨-, hb0⟩ | ⟨j, b, hb0, hj1, hj2, -, -⟩
          · have e1 : bstI (Tr.bst dep Ln.q rest i) = -1 := by rw [hb0]; rfl
            rw [hb0] at HNX
            rw [e1]
            clear hb0 e1
            cases bf with
            | true =>
              go_wp2_with (first | (with_reducible refine Txt.wp_region_text mixed quiet (by decide +kernel) ?_) | (with_reducible refine Txt.text_done (by kernel_rfl) ?_) | (go_at_call 27; (with_reducible refine HC16.out.mono ?_); rintro e6 w6 ⟨rfl, hk6⟩; obtain ⟨f0, f1, f2, -⟩ := row3 (hk6.at HBN.out (by simp)); have HK6 := Lib.hid hk6; clear hk6))
              exact ⟨⟨i + 1, hlt, by go_num, by rw [HNX.out]; try simp [bstI], Lib.hid (by first | exact (HKA.out.trans HK6.out).drew | exact HKA.out.trans HK6.out)⟩, by simp [intOf]; omega⟩
            | false =>
              go_wp2_with (first | (with_reducible refine Txt.wp_region_text mixed quiet (by decide +kernel) ?_) | (with_reducible refine Txt.text_done (by kernel_rfl) ?_) | (go_at_call 27; (with_reducible refine HC16.out.mono ?_); rintro e6 w6 ⟨rfl, hk6⟩; obtain ⟨f0, f1, f2, -⟩ := row3 (hk6.at HBN.out (by simp)); have HK6 := Lib.hid hk6; clear hk6))
              exact ⟨⟨i + 1, hlt, by go_num, by rw [HNX.out]; try simp [bstI], Lib.hid (by first | exact (HKA.out.trans HK6.out).drew | exact HKA.out.trans HK6.out)⟩, by simp [intOf]; omega⟩
          · have e1 : bstI (Tr.bst dep Ln.q rest i) = (j : Int) := by rw [hb0]; rfl
            rw [hb0] at HNX
            rw [e1]
            have hjM : (j : Int) < (M : Int) := by omega
            have hjM2 : j < M := by omega
            have hj0 : decide ((j : Int) < 0) = false := by rw [decide_eq_false_iff_not]; omega
            have HB2 := Lib.hid hj2
            obtain ⟨bl, hbl⟩ : ∃ bl, decide (xq < b.q) = bl := ⟨_, rfl⟩
            obtain ⟨bq, hbq⟩ : ∃ bq, b.q = bq := ⟨_, rfl⟩
            have HBQ := Lib.hid hbq
            rw [hbq] at hbl
            have HBLE : Hid (decide (xq < b.q) = bl) := Lib.hid (by rw [hbq]; exact hbl)
            clear hb0 e1 hj2 hbq hj1
            cases bf with
            | true =>
              go_wp2_with (first | (with_reducible refine Txt.wp_region_text mixed quiet (by decide +kernel) ?_) | (with_reducible refine Txt.text_done (by kernel_rfl) ?_) | (go_at_call 27; (with_reducible refine HC16.out.mono ?_); rintro e6 w6 ⟨rfl, hk6⟩; obtain ⟨f0, f1, f2, -⟩ := row3 (hk6.at HBN.out (by simp)); have HK6 := Lib.hid hk6; clear hk6))
              exact ⟨⟨i + 1, hlt, by go_num, by rw [HNX.out]; try simp [bstI], Lib.hid (by first | exact (HKA.out.trans HK6.out).drew | exact HKA.out.trans HK6.out)⟩, by simp [intOf]; omega⟩
            | false =>
              cases bl with
              | true =>
                have HN2 : Hid (Tr.bst dep Ln.q rest (i + 1) = some (i, ⟨xq, xg, xu⟩)) := Lib.hid (by rw [HNX.out]; simp only [HBLE.out]; rfl)
                clear HNX
                go_wp2_with (first | (with_reducible refine Txt.wp_region_text mixed quiet (by decide +kernel) ?_) | (with_reducible refine Txt.text_done (by kernel_rfl) ?_) | (go_at_call 27; (with_reducible refine HC16.out.mono ?_); rintro e6 w6 ⟨rfl, hk6⟩; obtain ⟨f0, f1, f2, -⟩ := row3 (hk6.at HBN.out (by simp)); have hcj := HCJ.out _ hk6 j b HB2.out; rw [HBQ.out] at hcj; have HK6 := Lib.hid hk6; clear hk6))
                exact ⟨⟨i + 1, hlt, by go_num, by rw [HN2.out]; rfl, Lib.hid (by first | exact (HKA.out.trans HK6.out).drew | exact HKA.out.trans HK6.out)⟩, by simp [intOf]; omega⟩
              | false =>
                have HN2 : Hid (Tr.bst dep Ln.q rest (i + 1) = some (j, b)) := Lib.hid (by rw [HNX.out]; simp only [HBLE.out]; rfl)
                clear HNX
                go_wp2_with (first | (with_reducible refine Txt.wp_region_text mixed quiet (by decide +kernel) ?_) | (with_reducible refine Txt.text_done (by kernel_rfl) ?_) | (go_at_call 27; (with_reducible refine HC16.out.mono ?_); rintro e6 w6 ⟨rfl, hk6⟩; obtain ⟨f0, f1, f2, -⟩ := row3 (hk6.at HBN.out (by simp)); have hcj := HCJ.out _ hk6 j b HB2.out; rw [HBQ.out] at hcj; have HK6 := Lib.hid hk6; clear hk6))
                exact ⟨⟨i + 1, hlt, by go_num, by rw [HN2.out]; rfl, Lib.hid (by first | exact (HKA.out.trans HK6.out).drew | exact HKA.out.trans HK6.out)⟩, by simp [intOf]; omega⟩
        · have hiM : i = M := by omega
          rcases Tr.bst_spec (D := dep) Ln.q rest rest.length (Nat.le_refl _) with ⟨h1, _⟩ | ⟨j, b, hb0, hj1, hj2, -, -⟩
          · have := HRL.out; omega
          · have e1 : bstI (Tr.bst dep Ln.q rest i) = (j : Int) := by rw [hiM, ← HRL.out, hb0]; rfl
            rw [e1]
            obtain ⟨K, hK⟩ : ∃ K, M = K + 1 := ⟨M - 1, by omega⟩
            have HNN : Hid (Tr.norm dep Ln.q M rest = b :: Tr.norm dep Ln.q K (rest.eraseIdx j)) := Lib.hid (by rw [hK]; exact norm_next hb0)
            have HKM := Lib.hid hK
            have hjM2 : j < M := by rw [← HRL.out]; exact hj1
            have hjM : (j : Int) < (M : Int) := by omega
            obtain ⟨d0, d1, d2⟩ := HCL.out j b hj2
            have d0 := HK2.out.cell d0 (by simp)
            have d1 := HK2.out.cell d1 (by simp)
            have d2 := HK2.out.cell d2 (by simp)
            have HOD2 := Lib.hid (own_keep HOD.out HK2.out (by simp))
            have HOR2 := Lib.hid (own_keep HOR.out HK2.out (by simp))
            have hdec2 : decide ((i : Int) < (M : Int)) = false := by simp; omega
            have HJ1 : Hid (j < rest.length) := Lib.hid hj1
            have HBC : Hid (b.cells = [.int .i64 b.q, .int .i64 b.g, .int .i64 b.u]) := Lib.hid rfl
            obtain ⟨bq, hbq⟩ : ∃ bq, b.q = bq := ⟨_, rfl⟩
            obtain ⟨bg, hbg⟩ : ∃ bg, b.g = bg := ⟨_, rfl⟩
            obtain ⟨bu, hbu⟩ : ∃ bu, b.u = bu := ⟨_, rfl⟩
            rw [hbq, hbg, hbu] at HBC
            rw [hbq] at d0
            rw [hbg] at d1
            rw [hbu] at d2
            have HOA := Lib.hid (own_keep HOD2.out ((Keep.refl [] wr).alloc (.cells #[.int .i64 bq, .int .i64 bg, .int .i64 bu] 52)) (by simp))
            have HBA : Hid (w.heap.size ≤ (wr.alloc (.cells #[.int .i64 bq, .int .i64 bg, .int .i64 bu] 52)).heap.size) := Lib.hid (Nat.le_trans HK.out.size (Nat.le_trans HK2.out.size ((Keep.refl [] wr).alloc _).size))
            have HGL : Hid (g < wr.heap.size) := Lib.hid (Nat.lt_of_lt_of_le hgl HK2.out.size)
            obtain ⟨W5, hW5⟩ : ∃ W5, W5 = wr := ⟨_, rfl⟩
            subst hW5
            have HRM : Hid (rest.length = M) := HRL
            clear hb0 hj1 hj2 e1 hbq hbg hbu hK
            go_wp2_with (first | (with_reducible refine Txt.wp_region_text mixed quiet (by decide +kernel) ?_) | (with_reducible refine Txt.text_done (by kernel_rfl) ?_) | (at_builtin; refine wpList_append_lies _ rfl _ _ 44 rfl w.heap.size 52 i29 (.agg #[.int .i64 0, .int .i64 0, .int .i64 0]) 3 24 Tryd.underlying44 hi29 hz0 hz1 hz2 rfl (by decide) (.slice va L vc) L (lanesC dn) rfl HOA.out ⟨W5.heap.size, 0, none⟩ 1 1 [.int .i64 bq, .int .i64 bg, .int .i64 bu] rfl rfl (cells_new W5 [.int .i64 bq, .int .i64 bg, .int .i64 bu] 52 (0, 0)) one3 (by decide) (by unfold maxLen; omega) (by omega) HBA.out _ rfl ?_; intro g9 c9 w9 hown9 hgr9 hat9 hlt9; have hk9 : Keep (Value.slice va L vc).ownBlock.toList (W5.alloc (.cells #[.int .i64 bq, .int .i64 bg, .int .i64 bu] 52)) w9 := Keep.ofGrown hgr9 (fun x hx => by simp [hx]); have HK9 := Lib.hid hk9; have HO9 := Lib.hid hown9; have HA9 := Lib.hid hat9; have HR9 := Lib.hid (own_keep (own_keep HOR2.out ((Keep.refl [] W5).alloc (.cells #[.int .i64 bq, .int .i64 bg, .int .i64 bu] 52)) (by simp)) hk9 (fun g' hg' hm => HAP.out g' (by simpa using hm) hg')); have HD38 := Lib.hid (delete38_any (i := j) (l := rest) (by rw [HRM.out]; exact HR9.out) HJ1.out (by rw [HRM.out]; omega)); rw [HRM.out] at HD38; clear hown9 hgr9 hat9 hk9) | (go_at_call 30; (with_reducible refine HD38.out.mono ?_); rintro e10 w10 ⟨v10, rfl, hb10, hk10, ho10⟩; obtain ⟨a10, c10, rfl, hd1, hd2, -⟩ := ownSliceQ ho10; have HB10 := Lib.hid hb10; have HK10 := Lib.hid hk10; have HO10 := Lib.hid ho10; clear hb10 hk10 ho10))
            have hgg : g9 ≠ g := by
              have h9 := HGL.out
              rcases HA9.out with h | h
              · intro e
                exact HAP.out g9 h (by rw [e]; rfl)
              · simp only [World.alloc] at h
                intro e
                rw [e] at h
                simp at h
                omega
            have hob : (Value.slice (some ⟨g, 0, none⟩) M rc).ownBlock = some g := rfl
            refine ⟨⟨dn ++ [b], rest.eraseIdx j, some ⟨g9, 0, none⟩, a10, L + 1, c9, M - 1, c10, rfl, rfl, by omega, Lib.hid ?_, Lib.hid ?_, HO10, Lib.hid (fun g' h1 h2 => ?_), Lib.hid ?_, Lib.hid ?_⟩, by simp [sliceLen]; omega⟩
            · rw [List.length_eraseIdx, if_pos HJ1.out, HRM.out]
            · rw [lanesC_snoc, HBC.out]
              exact own_keep HO9.out HK10.out (fun g' h1 h2 => by
                simp [Value.ownBlock] at h1 h2
                exact hgg (by rw [h1, h2]))
            · rw [HB10.out, hob] at h2
              injection h2 with h2
              simp [Value.ownBlock] at h1
              exact hgg (by rw [h1, h2])
            · have h1 := HNM.out
              rw [HNN.out] at h1
              rw [show M - 1 = K by have := HKM.out; omega, ← h1]
              simp
            · refine (((HK.out.trans HK2.out).alloc _).call HK9.out (fun g' h1 => .inr (ownLtQ HOD.out g' (by simpa using h1)).1)).call HK10.out (fun g' h1 => .inr ?_)
              rw [hob] at h1
              simp at h1
              rw [h1]
              exact hgB
end Go.Proofs.YtfcellgjbbfobaaDoor
/- ExploreOrders: the rows that were seen, in memory. -/
namespace Go.Proofs.YtfcellgjbbfobaaDoor
open Go.RowKit Go.Ex Go.Bf
/-- Rows of steps of the call's own, that nobody writes. -/
structure SnV (w : World) (B : Nat) (v : Value) (vals : List Value) (rs : List (List Ln)) : Prop where
  len : vals.length = rs.length
  out : w.ownsRow B 44 1 v rs.length vals
  row : ∀ (r : Nat) (x : Value) (l : List Ln), vals[r]? = some x → rs[r]? = some l → w.ownsRow B 52 3 x l.length (lanesC l)
section
variable {w w' : World} {B : Nat} {v v' : Value} {vals : List Value} {rs : List (List Ln)} {S : List Nat}
theorem SnV.start (w : World) (B : Nat) : SnV w B (.slice none 0 0) [] [] :=
  ⟨rfl, World.ownsRow_nil _ _ _ _, fun r x l h => by simp at h⟩
theorem SnV.keepT (h : SnV w B v vals rs) (hk : Keep S w w') (h1 : ∀ g ∈ S, ∀ cs, w.heap[g]? ≠ some (.cells cs 44 (0, 0))) (h2 : ∀ g ∈ S, ∀ cs, w.heap[g]? ≠ some (.cells cs 52 (0, 0))) : SnV w' B v vals rs :=
  ⟨h.len, own_keepT h.out hk h1, fun r x l hx hl => own_keepT (h.row r x l hx hl) hk h2⟩
theorem SnV.keep (h : SnV w B v vals rs) (hk : Keep [] w w') : SnV w' B v vals rs :=
  h.keepT hk (fun g hg => by cases hg) (fun g hg => by cases hg)
theorem SnV.push (h : SnV w B v vals rs) (hk : Keep v.ownBlock.toList w w') {x : Value} {l : List Ln} (ho : w'.ownsRow B 44 1 v' (rs.length + 1) (vals ++ [x])) (hx : w.ownsRow B 52 3 x l.length (lanesC l)) : SnV w' B v' (vals ++ [x]) (rs ++ [l]) := by
  have n52 := not_own h.out (T := 52) (by decide)
  refine ⟨by simp [h.len], by rw [List.length_append]; exact ho, fun r y m hy hm => ?_⟩
  by_cases hr : r < vals.length
  · rw [List.getElem?_append_left hr] at hy
    rw [List.getElem?_append_left (by rw [← h.len]; exact hr)] at hm
    exact own_keepT (h.row r y m hy hm) hk n52
  · have h1 := (List.getElem?_eq_some_iff.1 hy).1
    rw [List.length_append, List.length_singleton] at h1
    rw [List.getElem?_append_right (by omega)] at hy
    rw [List.getElem?_append_right (by rw [← h.len]; omega)] at hm
    rw [show r - vals.length = 0 by omega] at hy
    rw [show r - rs.length = 0 by rw [← h.len]; omega] at hm
    simp at hy hm
    subst hy hm
    exact own_keepT hx hk n52
theorem SnV.rows (h : SnV w B v vals rs) : ∃ a c, v = .slice a rs.length c ∧ RowsL w a rs.length c rs := by
  obtain ⟨a, c, rfl, h1, h2, -⟩ := ownSliceQ h.out
  refine ⟨a, c, rfl, rfl, h1, h2, fun r l hl => ?_⟩
  have hr := (List.getElem?_eq_some_iff.1 hl).1
  obtain ⟨g, cap, hv, _, _, _, hc, _⟩ := own_cellQ h.out (by omega)
  injection hv with hv _ _
  obtain ⟨x, hx⟩ : ∃ x, vals[r]? = some x := ⟨_, List.getElem?_eq_getElem (by rw [h.len]; exact hr)⟩
  obtain ⟨ar, cr, rfl, hlv, _⟩ := LnsV.ofOwn (h.row r x l hx hl)
  exact ⟨g, 0, ar, cr, hv, by rw [Nat.zero_add]; exact hc r _ hx, hlv⟩
end
theorem info44 : (Tryd.prog.info? 44).map (fun i => (i.zero, i.size, i.bytes)) = some (some (.slice none 0 0), 1, 24) := by kernel_rfl
/-- The normal forms of the orders. -/
def nrms (out : List PF) : List (List Ln) := out.map fun p => Tr.normal dep Ln.q p.1
theorem nrms_next {out : List PF} {k : Nat} {p : PF} (h : out[k]? = some p) : nrms (out.take (k + 1)) = nrms (out.take k) ++ [Tr.normal dep Ln.q p.1] := by
  unfold nrms
  rw [List.take_add_one, h, Option.toList_some, List.map_append]; rfl
theorem nrms_len {out : List PF} {k : Nat} (hk : k ≤ out.length) : (nrms (out.take k)).length = k := by
  unfold nrms
  rw [List.length_map, List.length_take]; omega
theorem nrms_no {ps : List (List Ln)} {out : List PF} (ho : OutOk ps out) {k : Nat} {p : PF} (hk : out[k]? = some p) : Tr.normal dep Ln.q p.1 ∉ nrms (out.take k) := fun hm => by
  unfold nrms at hm
  obtain ⟨q, hq, he⟩ := List.mem_map.1 hm
  obtain ⟨j, hj, hje⟩ := List.getElem_of_mem hq
  rw [List.length_take] at hj
  rw [List.getElem_take] at hje
  have hj2 : out[j]? = some q := by rw [List.getElem?_eq_getElem (by omega), hje]
  exact norm_ne ho hj2 hk (by omega) he.symm
theorem comes_sok {ps : List (List Ln)} (hp : PsOk ps) {out : List PF} (ho : OutOk ps out) {k : Nat} : ∀ y ∈ comes (out.take k), KS.ok y := fun y hy => by
  obtain ⟨p, hpm, rfl⟩ := ((comes_ok _).2 y).1 hy
  exact sok_key hp ((ho.way p (List.mem_of_mem_take hpm)).1.ok hp (SOk.start ps)).1
theorem comes_few {ps : List (List Ln)} {out : List PF} (ho : OutOk ps out) {k : Nat} : (comes (out.take k)).length ≤ 218103808 := by
  have h1 := comes_le (out.take k)
  have h2 := ho.few
  rw [List.length_take] at h1
  omega
end Go.Proofs.YtfcellgjbbfobaaDoor
