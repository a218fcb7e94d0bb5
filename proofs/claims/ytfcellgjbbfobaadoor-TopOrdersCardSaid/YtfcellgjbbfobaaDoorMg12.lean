/- Texts laid together: DQ8 DQ9. -/
import Derived.Test.YtfcellgjbbfobaaDoorMg11
import Derived.Deep.CutRange
import Derived.Deep.DeepCutAuto
/- Part: Rounds. -/
namespace Go
open Go.RowKit
theorem ints_set {L : List Int} {i : Nat} {x : Int} : ((L.map (Value.int .i64)).toArray).setIfInBounds i (.int .i64 x) = ((L.set i x).map (Value.int .i64)).toArray := by
  rw [List.setIfInBounds_toArray, List.map_set]
theorem ints_cell {w : World} {b i : Nat} {L : List Int} {x : Int} (h : w.heap[b]? = some (.cells (L.map (Value.int .i64)).toArray 3 (0, 0))) (hx : L[i]? = some x) : w.cell? ⟨b, i, none⟩ = some (.int .i64 x) := by
  rw [cellAt h]
  simp [hx]
theorem RndAt.turn {w w' : World} {B r : Nat} {v x : Value} {vals : List Value} {rs : List (List Ln)} {l l9 : List Ln} (h : RndAt w B v vals rs) (hx : vals[r]? = some x) (hl : rs[r]? = some l) (hk : Keep x.ownBlock.toList w w') (ho : w'.ownsRow B 52 3 x l9.length (lanesC l9)) : RndAt w' B v vals (rs.set r l9) := by
  have hox := h.row r x l hx hl
  refine ⟨by rw [List.length_set]; exact h.len, ?_, fun j u m hu hm => ?_, h.apart⟩
  · rw [List.length_set]
    refine own_keep h.out hk (fun g hg hm => ?_)
    obtain ⟨_, _, cs, hc⟩ := ownLtQ h.out g hg
    obtain ⟨_, _, cs', hc'⟩ := ownLtQ hox g (by simpa using hm)
    exact neTypeQ hc hc' (by decide) rfl
  · by_cases hj : r = j
    · subst hj
      rw [hx] at hu
      injection hu with hu
      subst hu
      rw [List.getElem?_set_self (List.getElem?_eq_some_iff.1 hl).1] at hm
      injection hm with hm
      subst hm
      exact ho
    · rw [List.getElem?_set_ne hj] at hm
      exact own_keep (h.row j u m hu hm) hk (fun g hg hm2 => hj (h.apart r j x u g hx hu (by simpa using hm2) hg))
/-- The first r rounds sorted. -/
def rsS (l : List Ln) (r : Nat) : List (List Ln) := ((rsOf l).take r).map (Tr.sortQ Ln.q) ++ (rsOf l).drop r
theorem rsS_zero (l : List Ln) : rsS l 0 = rsOf l := by simp [rsS]
theorem rsS_len (l : List Ln) (r : Nat) : (rsS l r).length = Tr.nr dep l := by
  unfold rsS
  rw [List.length_append, List.length_map, List.length_take, List.length_drop, rsOf_len]; omega
theorem rsS_at {l : List Ln} {r : Nat} (h : r < Tr.nr dep l) : (rsS l r)[r]? = some (Tr.rnd dep l r) := by
  unfold rsS
  rw [List.getElem?_append_right (by rw [List.length_map, List.length_take, rsOf_len]; omega), List.length_map, List.length_take, rsOf_len, Nat.min_eq_left (by omega), Nat.sub_self, List.getElem?_drop, Nat.add_zero, rsOf_at h]
theorem rsS_next {l : List Ln} {r : Nat} (h : r < Tr.nr dep l) : (rsS l r).set r (Tr.sortQ Ln.q (Tr.rnd dep l r)) = rsS l (r + 1) := by
  unfold rsS
  rw [List.set_append_right _ _ (by rw [List.length_map, List.length_take, rsOf_len]; omega), List.length_map, List.length_take, rsOf_len, Nat.min_eq_left (by omega), Nat.sub_self, List.take_add_one, rsOf_at h, Option.toList_some, List.map_append, List.append_assoc]
  congr 1
  have h1 : (rsOf l).drop r = Tr.rnd dep l r :: (rsOf l).drop (r + 1) := by
    have hr : r < (rsOf l).length := by rw [rsOf_len]; exact h
    rw [List.drop_eq_getElem_cons hr]
    have := rsOf_at h
    rw [List.getElem?_eq_getElem hr] at this
    injection this with this
    rw [this]
  rw [h1]; rfl
theorem rsS_all (l : List Ln) : rsS l (Tr.nr dep l) = Tr.rnds dep Ln.q l := by
  unfold rsS
  rw [List.take_of_length_le (by rw [rsOf_len]; exact Nat.le_refl _), List.drop_eq_nil_of_le (by rw [rsOf_len]; exact Nat.le_refl _), List.append_nil, rsOf_rnds]
end Go
namespace Go.Proofs.YtfcellgjbbfobaaDoor
open Go.RowKit
theorem info24 : (Tryd.prog.info? 44).map (fun i => (i.zero, i.size, i.bytes)) = some (some (.slice none 0 0), 1, 24) := by kernel_rfl
theorem oneNil : ∀ u ∈ [Value.slice none 0 0], u.oneCell' = true := fun u hu => by
  rw [List.mem_singleton.1 hu]; rfl
theorem mk22 (n : Nat) (hn : n ≤ 40) (w : World) : (Instr.makeSlice 22 (.int .i64 (n : Int)) (.int .i64 (n : Int))).run Tryd.prog w = .ok (.slice (some ⟨w.heap.size, 0, none⟩) n n) (w.alloc (.cells (Array.replicate n (Value.int .i64 0)) 3)) := by
  obtain ⟨i3, hi, hz, hs, hb⟩ := infoQ info3
  have := run_make (P := Tryd.prog) w 22 3 i3 (.int .i64 0) Tryd.underlying22 hi hz .i64 .i64 n n (by omega) (by omega) (by rw [hb]; omega) (by omega)
  rw [this, hs]
  have hc : madeCells (Value.int .i64 0).cells ((n : Int).toNat * 1) = Array.replicate n (Value.int .i64 0) := by
    refine Array.ext (by simp [madeCells]) fun j h1 h2 => ?_
    have : (Value.int .i64 0).cells = #[Value.int .i64 0] := rfl
    simp [madeCells, this, Nat.mod_one]
  rw [hc]
  rfl
set_option maxRecDepth 100000 in
set_option maxHeartbeats 8000000 in
theorem rounds15_any {w : World} {a : Option Addr} {n c : Nat} {ls : List Ln} (hv : LnsV w a n c ls) (hn : n ≤ 40) (hok : ∀ x ∈ ls, StOk x) :
    Calls Tryd.prog 33 #[.slice a n c] w fun e w' => ∃ v vals, e = .returned (.tuple #[v, .int .i64 0]) ∧ RndAt w' w.heap.size v vals (Tr.rnds dep Ln.q ls) ∧ Keep [] w w' := by
  have HV := Lib.hid hv
  have HOK := Lib.hid hok
  have HC := Lib.hid (check30_ok hv hn hok)
  have HL := Lib.hid hv.len
  have hrm := hv.room
  have hms := hv.most
  rw [show maxLen = 9223372036854775807 from rfl] at hms
  have HMK := mk22 n hn
  obtain ⟨i24, hi24, hs0, hs1, hs2⟩ := infoQ info24
  obtain ⟨i29, hi29, hz0, hz1, hz2⟩ := infoQ info29
  clear hv hok
  go_enter Tryd.func33, Tryd.ntmps33
  go_wp2_with (first | (with_reducible refine Txt.wp_region_text mixed quiet (by decide +kernel) ?_) | (with_reducible refine Txt.text_done (by kernel_rfl) ?_) | (go_at_call 25; (with_reducible refine HC.out.mono ?_); rintro e1 w1 ⟨rfl, hk1⟩; have HK1 := Lib.hid hk1; clear hk1))
  clear HMK
  have HBL0 : Hid (0 < n → (w1.alloc (.cells (Array.replicate n (Value.int .i64 0)) 3)).heap[w1.heap.size]? = some (.cells ((LVx ls n 0 0).map (Value.int .i64)).toArray 3 (0, 0))) := Lib.hid (fun h => by
    rw [← LVx_zero h, List.map_replicate, List.map_replicate, ← List.toArray_replicate]
    exact blk_new w1 _)
  have HK0 : Hid (Keep [] w (w1.alloc (.cells (Array.replicate n (Value.int .i64 0)) 3))) := Lib.hid (HK1.out.alloc _)
  obtain ⟨bl, hbl⟩ : ∃ bl, w1.heap.size = bl := ⟨_, rfl⟩
  have HBE : Hid (w.heap.size ≤ bl) := Lib.hid (by have := HK1.out.size; omega)
  rw [hbl] at HBL0 ⊢
  clear hbl
  go_loopw [23, 5] (fun j v wr => ∃ (i : Nat) (vals : List Value) (va : Option Addr) (N vc : Nat), i ≤ n ∧ j = .int .i64 i ∧ v = .slice va N vc ∧ Hid (Tr.nr dep (ls.take i) = N) ∧ Hid (RndAt wr w.heap.size (.slice va N vc) vals (rsOf (ls.take i))) ∧ Hid (i < n → wr.heap[bl]? = some (.cells ((LVx ls n i 0).map (Value.int .i64)).toArray 3 (0, 0))) ∧ Hid (Keep [] w wr)) (fun j _ _ => n - (intOf j).toNat)
  case atStart => exact ⟨0, [], none, 0, 0, by omega, rfl, rfl, Lib.hid (by simp [Tr.nr, Tr.lv, Tr.lvFrom]), Lib.hid (by have := RndAt.start (w1.alloc (.cells (Array.replicate n (Value.int .i64 0)) 3)) w.heap.size; simpa [rsOf, Tr.nr, Tr.lv, Tr.lvFrom] using this), HBL0, HK0⟩
  case round =>
    clear HBL0 HK0
    obtain ⟨i, vals, va, N, vc, hi, rfl, rfl, HN, HR, HBL, HK⟩ := hrel
    have hN40 : N ≤ 40 := by rw [← HN.out]; have := nr_le (ls.take i); rw [List.length_take] at this; omega
    have hro := HR.out.out
    rw [rsOf_len, HN.out] at hro
    obtain ⟨hvc1, hvc2⟩ := ownRoomQ hro
    clear hro
    by_cases hlt : i < n
    · obtain ⟨x, hx⟩ : ∃ x, ls[i]? = some x := ⟨_, List.getElem?_eq_getElem (by rw [HL.out]; exact hlt)⟩
      obtain ⟨b, off, hab, c0, c1, c2⟩ := lnsAt (HV.out.keep HK.out (by simp)) hx
      have HX := Lib.hid hx
      have HB3 := Lib.hid (HBL.out hlt)
      have HDP : Hid (∀ (y : Ln) (w : World), Calls Tryd.prog 29 #[lnV x, lnV y] w fun e w' => e = .returned (.bool (dep x y)) ∧ Keep [] w w') := Lib.hid (fun y w => dep31 x y w)
      have HXC : Hid (x.cells = [.int .i64 x.q, .int .i64 x.g, .int .i64 x.u]) := Lib.hid rfl
      obtain ⟨f, hf⟩ : ∃ f : Ln → Bool, dep x = f := ⟨_, rfl⟩
      have HFE : Hid (∀ y, dep x y = f y) := Lib.hid (fun y => by rw [hf])
      obtain ⟨xq, hxq⟩ : ∃ xq, x.q = xq := ⟨_, rfl⟩
      obtain ⟨xg, hxg⟩ : ∃ xg, x.g = xg := ⟨_, rfl⟩
      obtain ⟨xu, hxu⟩ : ∃ xu, x.u = xu := ⟨_, rfl⟩
      unfold lnV at HDP
      rw [hxq, hxg, hxu] at HDP HXC
      rw [hxq] at c0
      rw [hxg] at c1
      rw [hxu] at c2
      subst hab
      have hdec : decide ((i : Int) < (n : Int)) = true := by simp; omega
      clear hx hf hxq hxg hxu
      go_wp2_with (first | (with_reducible refine Txt.wp_region_text mixed quiet (by decide +kernel) ?_) | (with_reducible refine Txt.text_done (by kernel_rfl) ?_))
      have HBX : Hid ((wr.alloc (.cells #[.int .i64 xq, .int .i64 xg, .int .i64 xu] 52)).heap[wr.heap.size]? = some (.cells #[.int .i64 xq, .int .i64 xg, .int .i64 xu] 52 (0, 0))) := Lib.hid (blk_new wr _)
      have HKA : Hid (Keep [] wr (wr.alloc (.cells #[.int .i64 xq, .int .i64 xg, .int .i64 xu] 52))) := Lib.hid ((Keep.refl [] wr).alloc _)
      have HB4 := Lib.hid (HKA.out.at HB3.out (by simp))
      have HNX : Hid (bl ≠ wr.heap.size) := Lib.hid (by have := lt_of_blk HB3.out; omega)
      have HR4 := Lib.hid (HR.out.keep0 HKA.out)
      have HK4 := Lib.hid (HK.out.trans HKA.out)
      have HXV : Hid (∀ (g r : Nat) (u : Value), vals[r]? = some u → u.ownBlock = some g → g < wr.heap.size) := Lib.hid (fun g r (u : Value) h1 h2 => (ownLtQ (HR.out.row r u _ h1 (List.getElem?_eq_getElem (by have := (List.getElem?_eq_some_iff.1 h1).1; rw [HR.out.len] at this; exact this))) g h2).2.1)
      obtain ⟨bx, hbx⟩ : ∃ bx, wr.heap.size = bx := ⟨_, rfl⟩
      rw [hbx] at HBX HNX HXV ⊢
      obtain ⟨WA, hWA⟩ : ∃ WA, wr.alloc (.cells #[.int .i64 xq, .int .i64 xg, .int .i64 xu] 52) = WA := ⟨_, rfl⟩
      rw [hWA] at HBX HKA HB4 HR4 HK4 ⊢
      clear hWA hbx
      go_loopw [32] (fun j wr2 => ∃ k : Nat, k ≤ i ∧ j = .int .i64 k ∧ Hid (wr2.heap[bl]? = some (.cells ((LVx ls n i (Tr.lvOf dep ((Tr.lv dep (ls.take i)).take k) x)).map (Value.int .i64)).toArray 3 (0, 0))) ∧ Hid (Keep [bl] WA wr2)) (fun j _ => i - (intOf j).toNat)
      case atStart => exact ⟨0, by omega, rfl, by rw [List.take_zero]; exact HB4, Lib.hid (Keep.refl _ _)⟩
      case round =>
        obtain ⟨k, hk, rfl, HB5, HK5⟩ := hrel
        by_cases hlt2 : k < i
        · obtain ⟨m, t, hm, ht, hp⟩ := LVx_lo (x := Tr.lvOf dep ((Tr.lv dep (ls.take i)).take k) x) HL.out hlt hlt2
          have hcm := ints_cell HB5.out hm
          have hci := ints_cell HB5.out (LVx_at HL.out hlt)
          have hzl := thaw HB5.out
          have hm40 : m < 40 := by have h1 := Tr.lt_nr (List.mem_of_getElem? hp); have h2 := nr_le (ls.take i); rw [List.length_take] at h2; simp only at h1; omega
          have HLO := Lib.hid (lvOf_take (s := x) hp)
          have hkw2 : Keep [] w wr := HK4.out.call HK5.out (fun g hg => .inr (by rw [List.mem_singleton.1 hg]; exact HBE.out))
          obtain ⟨b', off', hab', d0, d1, d2⟩ := lnsAt (HV.out.keep hkw2 (by simp)) ht
          obtain ⟨rfl, rfl⟩ : b = b' ∧ off = off' := by injection hab' with h; injection h with h1 h2 _; exact ⟨h1, h2⟩
          have HM := Lib.hid hm
          have HTS := Lib.hid ht
          have hbx := HK5.out.at HBX.out (by simp [HNX.out.symm])
          obtain ⟨e0, e1, e2, -⟩ := row3 hbx
          have hbxl := lt_of_blk hbx
          have hbll := lt_of_blk HB5.out
          have hne1 : ¬ bx = wr.heap.size := by omega
          have hne2 : ¬ bl = wr.heap.size := by omega
          obtain ⟨X, hX⟩ : ∃ X, Tr.lvOf dep ((Tr.lv dep (ls.take i)).take k) x = X := ⟨_, rfl⟩
          rw [hX] at HB5 hci HLO HM
          have HDY := Lib.hid (HDP.out t)
          rw [HFE.out] at HDY HLO
          obtain ⟨ft, hft⟩ : ∃ ft, f t = ft := ⟨_, rfl⟩
          rw [hft] at HDY HLO
          obtain ⟨tq, htq⟩ : ∃ tq, t.q = tq := ⟨_, rfl⟩
          obtain ⟨tg, htg⟩ : ∃ tg, t.g = tg := ⟨_, rfl⟩
          obtain ⟨tu, htu⟩ : ∃ tu, t.u = tu := ⟨_, rfl⟩
          rw [htq, htg, htu] at HDY
          rw [htq] at d0
          rw [htg] at d1
          rw [htu] at d2
          have hdec2 : decide ((k : Int) < (i : Int)) = true := by simp; omega
          have HB5A : Hid (∀ w', Keep [] wr w' → w'.heap[bl]? = some (.cells ((LVx ls n i X).map (Value.int .i64)).toArray 3 (0, 0))) := Lib.hid (fun w' hk => hk.at HB5.out (by simp))
          have HIL := Lib.hid (fun y => (LVx_at (x := y) HL.out hlt))
          have HST : Hid (∀ y : Nat, (LVx ls n i X).set i (y : Int) = LVx ls n i y) := Lib.hid (fun y => LVx_set HL.out hlt)
          clear hm ht hp hX hft htq htg htu hab' hkw2
          cases ft with
          | false =>
            simp only [Bool.false_eq_true, if_false] at HLO
            go_wp2_with (first | (with_reducible refine Txt.wp_region_text mixed quiet (by decide +kernel) ?_) | (with_reducible refine Txt.text_done (by kernel_rfl) ?_) | (go_at_call 29; (with_reducible refine (HDY.out _).mono ?_); rintro e2 w2 ⟨rfl, hk2⟩; have HK3 := Lib.hid (((Keep.refl [] wr).alloc _).trans hk2); clear hk2))
            exact ⟨⟨k + 1, hlt2, by go_num, Lib.hid (by rw [HLO.out]; exact HB5A.out _ HK3.out), Lib.hid (HK5.out.trans (HK3.out.more (by simp)))⟩, by simp [intOf]; omega⟩
          | true =>
            simp only [if_true] at HLO
            go_wp2_with (first | (with_reducible refine Txt.wp_region_text mixed quiet (by decide +kernel) ?_) | (with_reducible refine Txt.text_done (by kernel_rfl) ?_) | (go_at_call 29; (with_reducible refine (HDY.out _).mono ?_); rintro e2 w2 ⟨rfl, hk2⟩; have hk3 := ((Keep.refl [] wr).alloc (.cells #[.int .i64 tq, .int .i64 tg, .int .i64 tu] 52)).trans hk2; have hb6 := HB5A.out _ hk3; have hci6 := ints_cell hb6 (HIL.out X); have hcm6 := ints_cell hb6 HM.out; have hzl6 := thaw hb6; have HB6 := Lib.hid hb6; have HK3 := Lib.hid hk3; clear hk2 hk3 hb6))
            exact ⟨⟨k + 1, hlt2, by go_num, Lib.hid (by
              show (w2.setCell ⟨bl, i, none⟩ (.int .i64 (max (X : Int) ((m : Int) + 1)))).heap[bl]? = _
              rw [blk_setCell, if_pos rfl, HB6.out, Option.map_some, Obj.put_cells, ints_set, show max (X : Int) ((m : Int) + 1) = ((max X (m + 1) : Nat) : Int) by omega, HST.out, HLO.out]), Lib.hid (((HK5.out.trans (HK3.out.more (by simp))).setCell (.inl (by simp)) _).drew)⟩, by simp [intOf]; omega⟩
        · have hki : k = i := by omega
          subst hki
          have hdec2 : decide ((k : Int) < (k : Int)) = false := by simp
          obtain ⟨lev, hlev⟩ : ∃ lev, Tr.lvOf dep (Tr.lv dep (ls.take k)) x = lev := ⟨_, rfl⟩
          have hle : lev ≤ N := by rw [← hlev, ← HN.out]; exact Tr.lvOf_le_nr _ _
          have hb5 := HB5.out
          rw [List.take_of_length_le (by rw [Tr.lv_len, List.length_take]; omega), hlev] at hb5
          have HB6 := Lib.hid hb5
          have hci := ints_cell hb5 (LVx_at HL.out hlt)
          have hzl := thaw hb5
          have hts : ls.take (k + 1) = ls.take k ++ [x] := by rw [List.take_add_one, HX.out]; rfl
          have HR5 := Lib.hid (HR4.out.keep HK5.out (fun g hg cs T fr hc => by rw [List.mem_singleton.1 hg, HB4.out] at hc; injection hc with hc; injection hc with _ h2 _; rw [← h2]; exact ⟨by decide, by decide⟩))
          have hbx := HK5.out.at HBX.out (by simp [HNX.out.symm])
          have HBX5 := Lib.hid hbx
          have HK6 : Hid (Keep [] w wr) := Lib.hid (HK4.out.call HK5.out (fun g hg => .inr (by rw [List.mem_singleton.1 hg]; exact HBE.out)))
          have HLV := Lib.hid hlev
          have HTS := Lib.hid hts
          obtain ⟨W1, hW1⟩ : ∃ W1, W1 = wr := ⟨_, rfl⟩
          subst hW1
          clear hb5 hlev hts hbx HB5 HK5 HR4
          go_upto_if 60 with (first | (with_reducible refine Txt.wp_region_text mixed quiet (by decide +kernel) ?_) | (with_reducible refine Txt.text_done (by kernel_rfl) ?_))
          have HRO : Hid (W1.ownsRow w.heap.size 44 1 (.slice va N vc) N vals) := Lib.hid (by have h := HR5.out.out; rw [rsOf_len, HN.out] at h; exact h)
          have HBW : Hid (w.heap.size ≤ W1.heap.size) := Lib.hid HK6.out.size
          have HLK : Hid ((ls.take k).length ≤ 40) := Lib.hid (by rw [List.length_take]; omega)
          go_cut [5] (fun v wx => ∃ (va1 : Option Addr) (N1 vc1 : Nat) (vals1 : List Value) (rs1 : List (List Ln)) (l1 : List Ln), v = .slice va1 N1 vc1 ∧ N1 ≤ 41 ∧ lev < N1 ∧ Hid (rs1.length = N1) ∧ Hid (RndAt wx w.heap.size (.slice va1 N1 vc1) vals1 rs1) ∧ Hid (rs1[lev]? = some l1) ∧ l1.length ≤ 40 ∧ Hid (rs1.set lev (l1 ++ [x]) = rsOf (ls.take (k + 1))) ∧ Hid (Tr.nr dep (ls.take (k + 1)) = N1) ∧ Hid (Keep (Value.slice va N vc).ownBlock.toList W1 wx))
          case first =>
            by_cases he : lev = N
            · have hbe : ((lev : Int) == (N : Int)) = true := by simp; omega
              have HE := Lib.hid he
              have HOA : Hid ((W1.alloc (.cells #[.slice none 0 0] 44)).ownsRow w.heap.size 44 1 (.slice va N vc) N vals) := Lib.hid (own_keep HRO.out ((Keep.refl [] W1).alloc _) (by simp))
              have HBA : Hid (w.heap.size ≤ (W1.alloc (.cells #[.slice none 0 0] 44)).heap.size) := Lib.hid (Nat.le_trans HBW.out ((Keep.refl [] W1).alloc _).size)
              clear he
              go_wp2_with (at_builtin; refine wpList_append_lies _ rfl _ _ 38 rfl w.heap.size 44 i24 (.slice none 0 0) 1 24 Tryd.underlying38 hi24 hs0 hs1 hs2 rfl (by decide) (.slice va N vc) N vals rfl HOA.out ⟨W1.heap.size, 0, none⟩ 1 1 [.slice none 0 0] rfl rfl (cells_new W1 [.slice none 0 0] 44 (0, 0)) oneNil (by decide) (by unfold maxLen; omega) (by omega) HBA.out _ rfl ?_; intro g9 c9 w9 hown9 hgr9 hat9 hlt9; have HO9 := Lib.hid hown9; have HG9 := Lib.hid hgr9; clear hown9 hgr9 hat9 hlt9)
              go_meet
              have hk9 : Keep (Value.slice va N vc).ownBlock.toList (W1.alloc (.cells #[.slice none 0 0] 44)) w9 := Keep.ofGrown HG9.out (fun x hx => by simp [hx])
              have hr9 := (HR5.out.keep0 ((Keep.refl [] W1).alloc (.cells #[.slice none 0 0] 44))).more hk9 (by rw [rsOf_len, HN.out]; exact HO9.out)
              refine ⟨some ⟨g9, 0, none⟩, N + 1, c9, vals ++ [.slice none 0 0], rsOf (ls.take k) ++ [[]], [], rfl, by omega, by have := HE.out; omega, Lib.hid (by rw [List.length_append, rsOf_len, HN.out]; rfl), Lib.hid hr9, Lib.hid ?_, by simp, Lib.hid ?_, Lib.hid ?_, Lib.hid ((((Keep.refl [] W1).alloc _).more (by simp)).trans hk9)⟩
              · rw [List.getElem?_append_right (by rw [rsOf_len, HN.out, HE.out]; exact Nat.le_refl _), rsOf_len, HN.out, HE.out, Nat.sub_self]; rfl
              · rw [HTS.out, rsOf_new (by rw [HLV.out, HN.out, HE.out]), HN.out, HE.out]
              · rw [HTS.out, Tr.nr_snoc, HLV.out, HN.out, HE.out]; omega
            · have hbe : ((lev : Int) == (N : Int)) = false := by simp; omega
              have HE : Hid (lev < N) := Lib.hid (by omega)
              clear he
              go_wp2_with fail
              go_meet
              have hlt3 : lev < Tr.nr dep (ls.take k) := by rw [HN.out]; exact HE.out
              refine ⟨va, N, vc, vals, rsOf (ls.take k), Tr.rnd dep (ls.take k) lev, rfl, by omega, HE.out, Lib.hid (by rw [rsOf_len, HN.out]), HR5, Lib.hid (rsOf_at hlt3), Nat.le_trans (rnd_len _ _) HLK.out, Lib.hid ?_, Lib.hid ?_, Lib.hid (Keep.refl _ _)⟩
              · rw [HTS.out, rsOf_old (by rw [HLV.out]; exact hlt3), HLV.out]
              · have := HE.out; rw [HTS.out, Tr.nr_snoc, HLV.out, HN.out]; omega
          case rest =>
            obtain ⟨va1, N1, vc1, vals1, rs1, l1, rfl, hN41, hlevN, HRL, HR6, HL1, hl40, HRS, HNR, HK7⟩ := hcut
            have hro := HR6.out.out
            rw [HRL.out] at hro
            obtain ⟨go, co, hve, hgoB, hgol, ⟨cgo, hgob⟩, hcell, hfo⟩ := own_cellQ hro (by omega)
            injection hve with hve _ hcc
            subst hve
            subst hcc
            obtain ⟨x1, l1', hx1, hl1', hox⟩ := HR6.out.rowSl (r := lev) (by rw [HRL.out]; exact hlevN)
            obtain rfl : l1' = l1 := by have h := HL1.out; rw [hl1'] at h; injection h
            obtain ⟨ax, cx, rfl, hcx1, hcx2, -⟩ := ownSliceQ hox
            obtain ⟨L, hL⟩ : ∃ L, l1'.length = L := ⟨_, rfl⟩
            rw [hL] at hox hx1 hl40 hcx1
            have hco := hcell lev _ hx1
            have hno : ∀ g, (Value.slice va N vc).ownBlock = some g → ∃ cs, W1.heap[g]? = some (.cells cs 44 (0, 0)) := fun g hg => (ownLtQ HRO.out g hg).2.2
            have hbl7 := HK7.out.at HB6.out (fun hm => by obtain ⟨cs, hc⟩ := hno bl (by simpa using hm); exact neTypeQ hc HB6.out (by decide) rfl)
            have hbx7 := HK7.out.at HBX5.out (fun hm => by obtain ⟨cs, hc⟩ := hno bx (by simpa using hm); exact neTypeQ hc HBX5.out (by decide) rfl)
            have hci7 := ints_cell hbl7 (LVx_at HL.out hlt)
            obtain ⟨e0, e1, e2, hzx⟩ := row3 hbx7
            have HLX := Lib.hid (LVx_at (x := lev) HL.out hlt)
            have HX1 := Lib.hid hx1
            have HLE := Lib.hid hL
            have HGO := Lib.hid hgob
            have HBL7 := Lib.hid hbl7
            have HOX := Lib.hid hox
            have hbxl := lt_of_blk hbx7
            have hbll := lt_of_blk hbl7
            have hne1 : ¬ bx = wc.heap.size := by omega
            have hne2 : ¬ bl = wc.heap.size := by omega
            have hne3 : ¬ go = wc.heap.size := by omega
            have HOA : Hid ((wc.alloc (.cells #[.int .i64 xq, .int .i64 xg, .int .i64 xu] 52)).drew.ownsRow w.heap.size 52 3 (.slice ax L cx) L (lanesC l1')) := Lib.hid (own_keep hox (((Keep.refl [] wc).alloc _).drew) (by simp))
            have HBA : Hid (w.heap.size ≤ (wc.alloc (.cells #[.int .i64 xq, .int .i64 xg, .int .i64 xu] 52)).drew.heap.size) := Lib.hid (Nat.le_trans HBW.out (Nat.le_trans HK7.out.size (((Keep.refl [] wc).alloc _).drew).size))
            have HNG : Hid (go ∉ (Value.slice ax L cx).ownBlock.toList) := Lib.hid (fun hm => by obtain ⟨_, _, cs, hc⟩ := ownLtQ hox go (by simpa using hm); exact neTypeQ hc hgob (by decide) rfl)
            have HNL : Hid (bl ∉ (Value.slice ax L cx).ownBlock.toList) := Lib.hid (fun hm => by obtain ⟨_, _, cs, hc⟩ := ownLtQ hox bl (by simpa using hm); exact neTypeQ hc hbl7 (by decide) rfl)
            have hcA : (wc.alloc (.cells #[.int .i64 xq, .int .i64 xg, .int .i64 xu] 52)).cell? ⟨go, lev, none⟩ = some (.slice ax L cx) := ((Keep.refl [] wc).alloc _).cell hco (by simp)
            have hlA : (wc.alloc (.cells #[.int .i64 xq, .int .i64 xg, .int .i64 xu] 52)).cell? ⟨bl, k, none⟩ = some (.int .i64 lev) := ((Keep.refl [] wc).alloc _).cell hci7 (by simp)
            clear hcell hl1' hx1 hL hox hno hbl7 hbx7 hgob hro
            go_wp2_with fail
            go_region_law (first | (refine step_append_lies _ rfl (.tmp 75) (.tmp 77) 44 rfl w.heap.size 52 i29 (.agg #[.int .i64 0, .int .i64 0, .int .i64 0]) 3 24 Tryd.underlying44 hi29 hz0 hz1 hz2 rfl (by decide) (.slice ax L cx) L (lanesC l1') (by simp [Act.eval]) HOA.out ⟨wc.heap.size, 0, none⟩ 1 1 [.int .i64 xq, .int .i64 xg, .int .i64 xu] (by simp [Act.eval]) rfl (cells_new wc [.int .i64 xq, .int .i64 xg, .int .i64 xu] 52 (0, 0)) one3 (by decide) (by unfold maxLen; omega) (by omega) HBA.out _ rfl ?_; intro g9 c9 w9 hown9 hgr9 hat9 hlt9; have hk9 : Keep (Value.slice ax L cx).ownBlock.toList (wc.alloc (.cells #[.int .i64 xq, .int .i64 xg, .int .i64 xu] 52)).drew w9 := Keep.ofGrown hgr9 (fun x hx => by simp [hx]); have HK9 := Lib.hid hk9; have HO9 := Lib.hid hown9; have HA9 := Lib.hid hat9; have hgo9 := hk9.at ((((Keep.refl [] wc).alloc _).drew).at HGO.out (by simp)) HNG.out; have hfo9 := thaw hgo9; have hbl9 := hk9.at ((((Keep.refl [] wc).alloc _).drew).at HBL7.out (by simp)) HNL.out; have hco9 := hk9.cell ((((Keep.refl [] wc).alloc (.cells #[.int .i64 xq, .int .i64 xg, .int .i64 xu] 52)).drew).cell hco (by simp)) HNG.out; have hl9 := ints_cell hbl9 HLX.out; have HBL9 := Lib.hid hbl9; have HGO9 := Lib.hid hgo9; clear hown9 hgr9 hat9 hk9 hbl9 hgo9))
            all_goals as_aux_lemma =>
              have hput := HR6.out.put (l9 := l1' ++ [x]) (x9 := .slice (some ⟨g9, 0, none⟩) (L + 1) c9) HRL.out HX1.out HL1.out (((Keep.refl [] wc).alloc (.cells #[.int .i64 xq, .int .i64 xg, .int .i64 xu] 52)).drew) HK9.out (by rw [List.length_append, HLE.out, lanesC_snoc, HXC.out]; exact HO9.out) (HA9.out.imp (fun h => h.symm) (fun h => by rw [h]; rfl))
              rw [HRS.out] at hput
              have hkall : Keep (bl :: go :: ((Value.slice va N vc).ownBlock.toList ++ (Value.slice ax L cx).ownBlock.toList)) W1 (w9.setCell ⟨go, lev, none⟩ (.slice (some ⟨g9, 0, none⟩) (L + 1) c9)) := (((HK7.out.more (by intro g hg; simp at hg ⊢; simp [hg])).trans ((((Keep.refl [] wc).alloc (.cells #[.int .i64 xq, .int .i64 xg, .int .i64 xu] 52)).drew).more (by simp))).trans (HK9.out.more (by intro g hg; simp at hg ⊢; simp [hg]))).setCell (.inl (by simp)) _
              have HP := Lib.hid hput
              have HKL := Lib.hid hkall
              clear hput hkall
              have HBN : Hid (k + 1 < n → (w9.setCell ⟨go, lev, none⟩ (.slice (some ⟨g9, 0, none⟩) (L + 1) c9)).heap[bl]? = some (.cells ((LVx ls n (k + 1) 0).map (Value.int .i64)).toArray 3 (0, 0))) := Lib.hid (fun h => by
                have h1 := LVx_next h HX.out
                rw [HLV.out] at h1
                rw [← h1]
                rw [blk_setCell, if_neg (fun e => neTypeQ HGO9.out (e ▸ HBL9.out) (by decide) rfl)]
                exact HBL9.out)
              have HKN : Hid (Keep [] w (w9.setCell ⟨go, lev, none⟩ (.slice (some ⟨g9, 0, none⟩) (L + 1) c9))) := Lib.hid (HK6.out.call HKL.out (fun g hg => .inr (by
                simp only [List.mem_cons, List.mem_append, Option.mem_toList] at hg
                rcases hg with rfl | rfl | hg | hg
                · exact HBE.out
                · exact hgoB
                · exact (ownLtQ HRO.out g hg).1
                · exact (ownLtQ HOX.out g hg).1)))
              go_wp2_with (first | (with_reducible refine Txt.wp_region_text mixed quiet (by decide +kernel) ?_) | (with_reducible refine Txt.text_done (by kernel_rfl) ?_))
              exact ⟨⟨k + 1, _, _, _, _, hlt, by go_num, rfl, HNR, HP, HBN, HKN⟩, by simp [intOf]; omega⟩
    · obtain rfl : i = n := by omega
      have htk : ls.take i = ls := List.take_of_length_le (by rw [HL.out]; exact Nat.le_refl _)
      rw [htk] at HN HR
      have hdec : decide ((i : Int) < (i : Int)) = false := by simp
      have HR0 : Hid (RndAt wr w.heap.size (.slice va N vc) vals (rsS ls 0)) := Lib.hid (by rw [rsS_zero]; exact HR.out)
      obtain ⟨W1, hW1⟩ : ∃ W1, W1 = wr := ⟨_, rfl⟩
      subst hW1
      clear HR HBL htk
      go_wp2_with (first | (with_reducible refine Txt.wp_region_text mixed quiet (by decide +kernel) ?_) | (with_reducible refine Txt.text_done (by kernel_rfl) ?_))
      go_loopw [83] (fun j wr => ∃ r : Nat, r ≤ N ∧ j = .int .i64 r ∧ Hid (RndAt wr w.heap.size (.slice va N vc) vals (rsS ls r)) ∧ Hid (Keep [] w wr)) (fun j _ => N - (intOf j).toNat)
      case atStart => exact ⟨0, by omega, rfl, HR0, HK⟩
      case round =>
        clear HR0
        obtain ⟨r, hr, rfl, HR, HK2⟩ := hrel
        by_cases hlt2 : r < N
        · have hrn : r < Tr.nr dep ls := by rw [HN.out]; exact hlt2
          have hro := HR.out.out
          rw [rsS_len, HN.out] at hro
          obtain ⟨go, co, hve, hgoB, hgol, -, hcell, hfo⟩ := own_cellQ hro (by omega)
          injection hve with hve _ hcc
          subst hve
          subst hcc
          obtain ⟨x1, l1, hx1, hl1, hox⟩ := HR.out.rowSl (r := r) (by rw [rsS_len]; exact hrn)
          obtain rfl : l1 = Tr.rnd dep ls r := by rw [rsS_at hrn] at hl1; injection hl1 with h; exact h.symm
          have hc1 := hcell r x1 hx1
          obtain ⟨ax, cx, rfl, hcx1, hcx2, -⟩ := ownSliceQ hox
          have hH := sort33_own hox (List.length_pos_iff.2 (Tr.rnd_pos hrn)) (Tr.rnd_apart dep_symm ls r) (fun y hy => HOK.out y (rnd_sub hy)) (by have := rnd_len ls r; have := HL.out; omega)
          have HS := Lib.hid hH
          have HX1 := Lib.hid hx1
          have HL1 := Lib.hid hl1
          have HB1 := Lib.hid (fun g (hg : (Value.slice ax (Tr.rnd dep ls r).length cx).ownBlock = some g) => (ownLtQ hox g hg).1)
          have HNX := Lib.hid (rsS_next hrn)
          have HLS : Hid ((Tr.sortQ Ln.q (Tr.rnd dep ls r)).length = (Tr.rnd dep ls r).length) := Lib.hid (Tr.sortQ_perm Ln.q _).length_eq
          have hdec2 : decide ((r : Int) < (N : Int)) = true := by simp; omega
          clear hcell hx1 hl1 hox hH hro
          go_wp2_with (first | (with_reducible refine Txt.wp_region_text mixed quiet (by decide +kernel) ?_) | (with_reducible refine Txt.text_done (by kernel_rfl) ?_) | (go_at_call 42; (with_reducible refine HS.out.mono ?_); rintro e2 w2 ⟨rfl, ho2, hk2⟩; have HO2 := Lib.hid ho2; have HK3 := Lib.hid hk2; clear ho2 hk2))
          have ht := HR.out.turn HX1.out HL1.out HK3.out (by rw [HLS.out]; exact HO2.out)
          rw [HNX.out] at ht
          exact ⟨⟨r + 1, hlt2, by go_num, Lib.hid ht, Lib.hid (HK2.out.call HK3.out (fun g hg => .inr (HB1.out g (by simpa using hg))))⟩, by simp [intOf]; omega⟩
        · obtain rfl : r = N := by omega
          have hdec2 : decide ((r : Int) < (r : Int)) = false := by simp
          have HRF : Hid (RndAt wr w.heap.size (.slice va r vc) vals (Tr.rnds dep Ln.q ls)) := Lib.hid (by rw [← rsS_all, HN.out]; exact HR.out)
          go_wp2_with (first | (with_reducible refine Txt.wp_region_text mixed quiet (by decide +kernel) ?_) | (with_reducible refine Txt.text_done (by kernel_rfl) ?_))
          go_ret2
          exact ⟨_, vals, rfl, HRF.out, HK2.out⟩
end Go.Proofs.YtfcellgjbbfobaaDoor
/- Part: Same. -/
namespace Go
open Go.RowKit
theorem RndAt.rows {w : World} {B : Nat} {v : Value} {vals : List Value} {rs : List (List Ln)} (h : RndAt w B v vals rs) : ∃ a c, v = .slice a rs.length c ∧ RowsL w a rs.length c rs := by
  obtain ⟨a, c, rfl, h1, h2, -⟩ := ownSliceQ h.out
  refine ⟨a, c, rfl, rfl, h1, h2, fun r l hl => ?_⟩
  have hr := (List.getElem?_eq_some_iff.1 hl).1
  obtain ⟨g, cap, hv, _, _, _, hc, _⟩ := own_cellQ h.out (by omega)
  injection hv with hv _ _
  obtain ⟨x, l', hx, hl', hox⟩ := h.rowSl hr
  rw [hl] at hl'
  injection hl' with hl'
  subst hl'
  obtain ⟨ar, cr, rfl, hlv, _⟩ := LnsV.ofOwn hox
  exact ⟨g, 0, ar, cr, hv, by rw [Nat.zero_add]; exact hc r _ hx, hlv⟩
end Go
namespace Go.Proofs.YtfcellgjbbfobaaDoor
open Go.RowKit
set_option maxRecDepth 100000 in
set_option maxHeartbeats 2000000 in
theorem equalF32_any {w : World} {a1 a2 : Option Addr} {n c1 m c2 : Nat} {xs ys : List (List Ln)} (h1 : RowsL w a1 n c1 xs) (h2 : RowsL w a2 m c2 ys) :
    Calls Tryd.prog 34 #[.slice a1 n c1, .slice a2 m c2, .func (.func 16) #[] #[]] w fun e w' => e = .returned (.bool (decide (xs = ys))) ∧ Keep [] w w' := by
  have HX := Lib.hid h1
  have HY := Lib.hid h2
  have HL1 := Lib.hid h1.len
  have HL2 := Lib.hid h2.len
  have r1 := h1.room
  have m1 := h1.most
  have r2 := h2.room
  have m2 := h2.most
  by_cases hnm : n = m
  · subst hnm
    clear h1 h2
    go_enter Tryd.func34, Tryd.ntmps34
    go_wp2_with (first | (with_reducible refine Txt.wp_region_text mixed quiet (by decide +kernel) ?_) | (with_reducible refine Txt.text_done (by kernel_rfl) ?_))
    go_loopw [17] (fun i wr => ∃ k : Nat, k ≤ n ∧ i = .int .i64 k ∧ Hid (xs.take k = ys.take k) ∧ Hid (Keep [] w wr)) (fun i _ => n - (intOf i).toNat)
    case atStart => exact ⟨0, by omega, rfl, Lib.hid (by simp), Lib.hid (Keep.refl _ _)⟩
    case round =>
      obtain ⟨k, hk, rfl, HT, HK⟩ := hrel
      by_cases hlt : k < n
      · obtain ⟨x, hx⟩ : ∃ x, xs[k]? = some x := ⟨_, List.getElem?_eq_getElem (by rw [HL1.out]; exact hlt)⟩
        obtain ⟨y, hy⟩ : ∃ y, ys[k]? = some y := ⟨_, List.getElem?_eq_getElem (by rw [HL2.out]; exact hlt)⟩
        obtain ⟨b, off, ar, cr, rfl, d1, hl1⟩ := (HX.out.keep HK.out).at_ k x hx
        obtain ⟨b', off', ar', cr', rfl, d2, hl2⟩ := (HY.out.keep HK.out).at_ k y hy
        have HE := Lib.hid (equal23_any hl1 hl2)
        obtain ⟨bb, hbb⟩ : ∃ bb, decide (x = y) = bb := ⟨_, rfl⟩
        rw [hbb] at HE
        obtain ⟨nx, hnx⟩ : ∃ nx, x.length = nx := ⟨_, rfl⟩
        obtain ⟨ny, hny⟩ : ∃ ny, y.length = ny := ⟨_, rfl⟩
        rw [hnx] at d1 HE
        rw [hny] at d2 HE
        have hdec : decide ((k : Int) < (n : Int)) = true := by simp; omega
        cases bb with
        | true =>
          have hxy : x = y := of_decide_eq_true hbb
          have HT2 : Hid (xs.take (k + 1) = ys.take (k + 1)) := Lib.hid (by rw [List.take_add_one, List.take_add_one, HT.out, hx, hy, hxy])
          clear hx hy hbb hnx hny hxy hl1 hl2
          go_wp2_with (first | (with_reducible refine Txt.wp_region_text mixed quiet (by decide +kernel) ?_) | (with_reducible refine Txt.text_done (by kernel_rfl) ?_) | (go_at_call 16; (with_reducible refine HE.out.mono ?_); rintro e2 w2 ⟨rfl, hk2⟩; have HK2 := Lib.hid hk2; clear hk2))
          exact ⟨⟨k + 1, hlt, by go_num, HT2, Lib.hid (HK.out.trans HK2.out)⟩, by simp [intOf]; omega⟩
        | false =>
          have hne : decide (xs = ys) = false := decide_eq_false (fun e => by
            rw [e, hy] at hx
            injection hx with hx
            rw [hx] at hbb
            simp at hbb)
          have HNE := Lib.hid hne
          clear hx hy hbb hnx hny hl1 hl2 hne
          go_wp2_with (first | (with_reducible refine Txt.wp_region_text mixed quiet (by decide +kernel) ?_) | (with_reducible refine Txt.text_done (by kernel_rfl) ?_) | (go_at_call 16; (with_reducible refine HE.out.mono ?_); rintro e2 w2 ⟨rfl, hk2⟩; have HK2 := Lib.hid hk2; clear hk2))
          go_ret
          exact ⟨ret_bool HNE.out.symm, HK.out.trans HK2.out⟩
      · obtain rfl : k = n := by omega
        have HE : Hid (decide (xs = ys) = true) := Lib.hid (decide_eq_true (by have h := HT.out; rw [List.take_of_length_le (by rw [HL1.out]; exact Nat.le_refl _), List.take_of_length_le (by rw [HL2.out]; exact Nat.le_refl _)] at h; exact h))
        have hdec : decide ((k : Int) < (k : Int)) = false := by simp
        go_wp2_with (first | (with_reducible refine Txt.wp_region_text mixed quiet (by decide +kernel) ?_) | (with_reducible refine Txt.text_done (by kernel_rfl) ?_))
        go_ret
        exact ⟨ret_bool HE.out.symm, HK.out⟩
  · have HE : Hid (decide (xs = ys) = false) := Lib.hid (decide_eq_false (fun e => hnm (by rw [← HL1.out, ← HL2.out, e])))
    have hne : ((n : Int) != (m : Int)) = true := by simp; omega
    clear h1 h2
    go_enter Tryd.func34, Tryd.ntmps34
    go_wp2_with (first | (with_reducible refine Txt.wp_region_text mixed quiet (by decide +kernel) ?_) | (with_reducible refine Txt.text_done (by kernel_rfl) ?_))
    go_ret
    exact ⟨ret_bool HE.out.symm, Keep.refl _ _⟩
set_option maxHeartbeats 1000000 in
theorem same14_any {w : World} {a1 a2 : Option Addr} {n c1 m c2 : Nat} {xs ys : List Ln} (h1 : LnsV w a1 n c1 xs) (h2 : LnsV w a2 m c2 ys) (hn : n ≤ 40) (hm : m ≤ 40) (hx : ∀ x ∈ xs, StOk x) (hy : ∀ x ∈ ys, StOk x) :
    Calls Tryd.prog 18 #[.slice a1 n c1, .slice a2 m c2] w fun e w' => e = .returned (.tuple #[.bool (decide (Tr.rnds dep Ln.q xs = Tr.rnds dep Ln.q ys)), .int .i64 0]) ∧ Keep [] w w' := by
  have H1 := Lib.hid (rounds15_any h1 hn hx)
  have H2 : Hid (∀ w', Keep [] w w' → LnsV w' a2 m c2 ys) := Lib.hid (fun w' hk => h2.keep hk (by simp))
  have HY := Lib.hid hy
  obtain ⟨bb, hbb⟩ : ∃ bb, decide (Tr.rnds dep Ln.q xs = Tr.rnds dep Ln.q ys) = bb := ⟨_, rfl⟩
  have HB := Lib.hid hbb
  rw [hbb]
  clear h1 h2 hx hy hbb
  go_enter Tryd.func18, Tryd.ntmps18
  have tok1 : True := trivial
  go_wp2_with (first | (with_reducible refine Txt.wp_region_text mixed quiet (by decide +kernel) ?_) | (with_reducible refine Txt.text_done (by kernel_rfl) ?_) | (go_at_call 33; have _t := tok1; (with_reducible refine H1.out.mono ?_); rintro e1 w1 ⟨v1, vals1, rfl, hr1, hk1⟩; obtain ⟨ax, cx, rfl, hrx⟩ := hr1.rows; have HR1 := Lib.hid hrx; have HK1 := Lib.hid hk1; clear tok1 _t hr1 hk1 hrx) | (go_at_call 33; (with_reducible refine (rounds15_any (H2.out _ HK1.out) hm HY.out).mono ?_); rintro e2 w2 ⟨v2, vals2, rfl, hr2, hk2⟩; obtain ⟨ay, cy, rfl, hry⟩ := hr2.rows; have HR2 := Lib.hid hry; have HR3 := Lib.hid (HR1.out.keep hk2); have HK2 := Lib.hid (HK1.out.trans hk2); clear hr2 hk2 hry) | (go_at_call 34; (with_reducible refine (equalF32_any HR3.out HR2.out).mono ?_); rintro e3 w3 ⟨rfl, hk3⟩; rw [HB.out]; have HK3 := Lib.hid (HK2.out.trans hk3); clear hk3))
  go_ret2
  exact ⟨rfl, HK3.out⟩
end Go.Proofs.YtfcellgjbbfobaaDoor
