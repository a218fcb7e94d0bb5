/- Texts laid together: DA2 DQ5 DQS1 EP3. -/
import Derived.Test.YtfcellgjbbfobaaDoorMg9
import Derived.Shelf.SlSortCmp.WholeK
import Derived.Ground.SlsfProg
/- Explore: Steps. -/
namespace Go.Proofs.YtfcellgjbbfobaaDoor
open Go.RowKit Go.Ex
set_option maxRecDepth 100000 in
set_option maxHeartbeats 4000000 in
theorem steps11_any {w : World} {a : Option Addr} {n c : Nat} {ps : List (List Ln)} (hv : RowsL w a n c ps) (hp : PsOk ps) {ao : Option Addr} {m co : Nat} {l : List Ln} {t : List Int} (hw : Ex.Way ps s0 l t) (ho : IntsV w ao m co ((who l).map fun k : Nat => (k : Int))) :
    Calls Tryd.prog 11 #[.slice a n c, .slice ao m co] w fun e w' => ∃ v, e = .returned (.tuple #[v, .int .i64 0]) ∧ w'.ownsRow w.heap.size 52 3 v l.length (lanesC l) ∧ Keep [] w w' := by
  have hm : l.length = m := by have := ho.len; simpa [who] using this
  have hroom := ho.room
  have hmost := ho.most
  rw [show maxLen = 9223372036854775807 from rfl] at hmost
  have hroom2 := hv.room
  have hmost2 := hv.most
  have hm12 : m ≤ 12 := by
    obtain ⟨h1, h2⟩ := hw.ok hp (SOk.start ps)
    have h3 := steps_le hp h1
    have h4 := hp.tot
    have h5 : steps s0 = 0 := by decide
    omega
  have HV := Lib.hid hv
  have HP := Lib.hid hp
  have HW := Lib.hid hw
  have HO := Lib.hid ho
  have HM := Lib.hid hm
  obtain ⟨i29, hi29, hz0, hz1, hz2⟩ := infoQ info29
  have HCK := Lib.hid (check39_ok hv hp)
  clear hv hp hw ho hm
  go_enter Tryd.func11, Tryd.ntmps11
  go_wp2_with (first | (with_reducible refine Txt.wp_region_text mixed quiet (by decide +kernel) ?_) | (with_reducible refine Txt.text_done (by kernel_rfl) ?_) | (go_at_call 19; (with_reducible refine HCK.out.mono ?_); rintro e1 w1 ⟨rfl, hk1⟩; have HK1 := Lib.hid hk1; clear hk1))
  obtain ⟨b8, hb8⟩ : ∃ b8, w1.heap.size = b8 := ⟨_, rfl⟩
  have HB8 : Hid (w.heap.size ≤ b8) := Lib.hid (by have := HK1.out.size; omega)
  have HA0 : Hid (ArrAt 39 (w1.alloc (.cells #[.int .i64 0, .int .i64 0, .int .i64 0, .int .i64 0] 39)) b8 (s0.drop 8)) := Lib.hid (by rw [← hb8]; exact ArrAt.new 39 w1 (s0.drop 8))
  have HKA := Lib.hid (HK1.out.alloc (.cells #[.int .i64 0, .int .i64 0, .int .i64 0, .int .i64 0] 39))
  obtain ⟨W0, hW0⟩ : ∃ W0, w1.alloc (.cells #[.int .i64 0, .int .i64 0, .int .i64 0, .int .i64 0] 39) = W0 := ⟨_, rfl⟩
  rw [hW0] at HA0 HKA ⊢
  rw [hb8]
  clear hW0 hb8 HK1
  go_loopw [20, 7] (fun jv ov wr => ∃ (i : Nat) (S : List Int), i ≤ m ∧ jv = .int .i64 i ∧ Hid (Ex.Way ps s0 (l.take i) S) ∧ Hid (ArrAt 39 wr b8 (S.drop 8)) ∧ Hid (wr.ownsRow w.heap.size 52 3 ov i (lanesC (l.take i))) ∧ Hid (Keep [] w wr)) (fun jv _ _ => m - (intOf jv).toNat)
  case atStart => exact ⟨0, s0, by omega, rfl, Lib.hid (.nil _), HA0, Lib.hid (World.ownsRow_nil _ _ _ _), HKA⟩
  case round =>
    obtain ⟨i, S, hi, rfl, HWS, HAT, HOW, HK⟩ := hrel
    by_cases hlt : i < m
    · obtain ⟨x, hx⟩ : ∃ x, l[i]? = some x := ⟨_, List.getElem?_eq_getElem (by rw [HM.out]; exact hlt)⟩
      obtain ⟨j, ⟨q, g0, u⟩, S', hop, hnx, hxe, hws'⟩ := HW.out.at_ hx HWS.out
      have hso := (HWS.out.ok HP.out (SOk.start ps)).1
      obtain ⟨hdo, hj4⟩ := opAt_ok HP.out hop
      obtain ⟨hjn, -, -, hyl⟩ := opAt_lt hop
      rw [HV.out.len] at hjn
      have HCT := Lib.hid (ctr_next HP.out hso hop hnx)
      obtain ⟨⟨hq1, hq2⟩, ⟨hg1, hg2⟩, hu1, hu2⟩ := hdo
      simp only at hq1 hq2 hg1 hg2 hu1 hu2
      obtain ⟨g, rfl⟩ : ∃ g : Nat, g0 = g := ⟨g0.toNat, by omega⟩
      obtain ⟨r, hr⟩ : ∃ r, ps[j]? = some r := ⟨_, List.getElem?_eq_getElem (by rw [HV.out.len]; exact hjn)⟩
      obtain ⟨b, off, ar, cr, rfl, hc, hlv⟩ := (HV.out.keep HK.out).at_ j r hr
      have hgd : ps.getD j [] = r := by rw [List.getD_eq_getElem?_getD, hr]; rfl
      have hat := hso.at_ j hj4
      rw [hgd] at hat hyl
      have hdr : (S.drop 8).length = 4 := by rw [List.length_drop, hso.len]
      have hc8 := HAT.out.cell (i := j) (by omega)
      rw [ctr_at] at hc8
      have hop2 : r[(S.getD (8 + j) 0).toNat]? = some ⟨q, g, u⟩ := by unfold opAt at hop; rw [hgd] at hop; exact hop
      obtain ⟨y0, hy0⟩ : ∃ y, S.getD (8 + j) 0 = y := ⟨_, rfl⟩
      rw [hy0] at hat hyl hc8 hop2 HCT
      obtain ⟨y, rfl⟩ : ∃ y : Nat, y0 = y := ⟨y0.toNat, by omega⟩
      obtain ⟨mr, hmr⟩ : ∃ mr, r.length = mr := ⟨_, rfl⟩
      rw [hmr] at hat hyl hlv hc
      rw [Int.toNat_natCast] at hyl hop2
      obtain ⟨ba, oa, rfl, e0, e1, e2⟩ := hlv.at_ hyl
      have hlat : lat r y = ⟨q, g, u⟩ := by rw [lat, List.getD_eq_getElem?_getD, hop2]; rfl
      rw [hlat] at e0 e1 e2
      simp only at e0 e1 e2
      have hcr := hlv.room
      have hcm := hlv.most
      rw [show maxLen = 9223372036854775807 from rfl] at hcm
      obtain ⟨b1, off1, hab, hcc⟩ := (HO.out.keep HK.out (by simp)).cells (by omega)
      have hcx := hcc i (by omega)
      have hgj : ((who l).map fun k : Nat => (k : Int)).getD i 0 = (j : Int) := by
        rw [List.getD_eq_getElem?_getD, List.getElem?_map]
        unfold who
        rw [List.getElem?_map, hx, hxe]
        simp [stepOf]
      rw [hgj] at hcx
      subst hab
      have hn1 : b8 < wr.heap.size := HAT.out.lt
      have hn3 : b < wr.heap.size := block_lt_of_cell hc
      have hn4 : ba < wr.heap.size := block_lt_of_cell e0
      have hne1 : ¬ b8 = wr.heap.size := by omega
      have hne2 : ¬ b8 = wr.heap.size + 1 := by omega
      have hth := thaw HAT.out
      have hdec : decide ((i : Int) < (m : Int)) = true := by simp; omega
      have hd0 : decide ((j : Int) < 0) = false := by simp
      have hd1 : decide ((j : Int) ≥ (n : Int)) = false := by simp; omega
      have hbe : ((y : Int) == (mr : Int)) = false := by rw [beq_eq_false_iff_ne]; omega
      obtain ⟨av, cv, rfl, hcv1, hcv2, -⟩ := ownSliceQ HOW.out
      have HXE := Lib.hid hxe
      have HX := Lib.hid hx
      have HWS2 := Lib.hid hws'
      clear hop hnx hxe hws' hso hr hlv hgd hop2 hlat hcc hgj hx hmr
      have hq : q = 1 ∨ q = 2 ∨ q = 3 ∨ q = 4 := by omega
      obtain rfl | rfl | rfl | rfl := hq
      · have HXC : Hid (x.cells = [.int .i64 (j : Int), .int .i64 (wrap64 (2 ^ g)), .int .i64 0]) := Lib.hid (by rw [HXE.out]; obtain rfl | rfl | rfl | rfl : g = 0 ∨ g = 1 ∨ g = 2 ∨ g = 3 := (by omega) <;> simp [stepOf, Ln.cells, wrap64])
        have HKX := Lib.hid (show Keep [b8] wr (((((wr.setCell ⟨b8, j, none⟩ (.int .i64 ((y : Int) + 1))).alloc (.cells #[.int .i64 1, .int .i64 (g : Int), .int .i64 u] 29)).alloc (.cells #[.int .i64 (j : Int), .int .i64 (wrap64 (2 ^ g)), .int .i64 0] 52)).alloc (.cells #[.int .i64 (j : Int), .int .i64 (wrap64 (2 ^ g)), .int .i64 0] 52)).drew.drew) from ((((((Keep.refl [b8] wr).setCell (.inl (by simp)) _).alloc _).alloc _).alloc _).drew).drew)
        have HOA := Lib.hid (own_keep HOW.out HKX.out (fun b hb hm => by rw [List.mem_singleton] at hm; exact own_ne HOW.out HAT.out (by decide) b hb hm))
        have HAX := Lib.hid (show ArrAt 39 (((((wr.setCell ⟨b8, j, none⟩ (.int .i64 ((y : Int) + 1))).alloc (.cells #[.int .i64 1, .int .i64 (g : Int), .int .i64 u] 29)).alloc (.cells #[.int .i64 (j : Int), .int .i64 (wrap64 (2 ^ g)), .int .i64 0] 52)).alloc (.cells #[.int .i64 (j : Int), .int .i64 (wrap64 (2 ^ g)), .int .i64 0] 52)).drew.drew) b8 ((S.drop 8).set j ((y : Int) + 1)) from (HAT.out.put j ((y : Int) + 1)).keep (S := []) ((((((Keep.refl [] _).alloc _).alloc _).alloc _).drew).drew) (by simp))
        have HNW : Hid (∀ (k : Nat) (v9 : Value), ([.int .i64 (j : Int), .int .i64 (wrap64 (2 ^ g)), .int .i64 0] : List Value)[k]? = some v9 → (((((wr.setCell ⟨b8, j, none⟩ (.int .i64 ((y : Int) + 1))).alloc (.cells #[.int .i64 1, .int .i64 (g : Int), .int .i64 u] 29)).alloc (.cells #[.int .i64 (j : Int), .int .i64 (wrap64 (2 ^ g)), .int .i64 0] 52)).alloc (.cells #[.int .i64 (j : Int), .int .i64 (wrap64 (2 ^ g)), .int .i64 0] 52)).drew.drew).cell? ((⟨wr.heap.size + 2, 0, none⟩ : Addr).add k) = some v9) := Lib.hid (by
          have h := cells_new (((wr.setCell ⟨b8, j, none⟩ (.int .i64 ((y : Int) + 1))).alloc (.cells #[.int .i64 1, .int .i64 (g : Int), .int .i64 u] 29)).alloc (.cells #[.int .i64 (j : Int), .int .i64 (wrap64 (2 ^ g)), .int .i64 0] 52)) [.int .i64 (j : Int), .int .i64 (wrap64 (2 ^ g)), .int .i64 0] 52 (0, 0)
          rw [show (((wr.setCell ⟨b8, j, none⟩ (.int .i64 ((y : Int) + 1))).alloc (.cells #[.int .i64 1, .int .i64 (g : Int), .int .i64 u] 29)).alloc (.cells #[.int .i64 (j : Int), .int .i64 (wrap64 (2 ^ g)), .int .i64 0] 52)).heap.size = wr.heap.size + 2 by simp] at h
          exact h)
        have HKW := Lib.hid (show Keep [] w (((((wr.setCell ⟨b8, j, none⟩ (.int .i64 ((y : Int) + 1))).alloc (.cells #[.int .i64 1, .int .i64 (g : Int), .int .i64 u] 29)).alloc (.cells #[.int .i64 (j : Int), .int .i64 (wrap64 (2 ^ g)), .int .i64 0] 52)).alloc (.cells #[.int .i64 (j : Int), .int .i64 (wrap64 (2 ^ g)), .int .i64 0] 52)).drew.drew) from ((((((HK.out).setCell (.inr HB8.out) _).alloc _).alloc _).alloc _).drew).drew)
        have H63 : Hid (i + 1 ≤ maxLen) := Lib.hid (by unfold maxLen; omega)
        have HBY : Hid ((i + 1) * 24 ≤ 140737488355328) := Lib.hid (by omega)
        go_upto_region 11 with (first | (with_reducible refine Txt.wp_region_text mixed quiet (by decide +kernel) ?_) | (with_reducible refine Txt.text_done (by kernel_rfl) ?_))
        go_region
        go_upto_region 13 with (first | (with_reducible refine Txt.wp_region_text mixed quiet (by decide +kernel) ?_) | (with_reducible refine Txt.text_done (by kernel_rfl) ?_))
        go_region
        go_wp2_with (first | (with_reducible refine Txt.wp_region_text mixed quiet (by decide +kernel) ?_) | (with_reducible refine Txt.text_done (by kernel_rfl) ?_) | (at_builtin; refine wpList_append_lies _ rfl _ _ 44 rfl w.heap.size 52 i29 (.agg #[.int .i64 0, .int .i64 0, .int .i64 0]) 3 24 Tryd.underlying44 hi29 hz0 hz1 hz2 rfl (by decide) (.slice av i cv) i (lanesC (l.take i)) rfl HOA.out ⟨wr.heap.size + 2, 0, none⟩ 1 1 [.int .i64 (j : Int), .int .i64 (wrap64 (2 ^ g)), .int .i64 0] rfl rfl HNW.out one3 (by decide) H63.out HBY.out HKW.out.size _ rfl ?_; intro g9 c9 w9 hown9 hgr9 hat9 hlt9; have HO9 := Lib.hid hown9; have HG9 := Lib.hid hgr9; clear hown9 hgr9 hat9))
        have hk9 := Keep.ofGrown (S := (Value.slice av i cv).ownBlock.toList) HG9.out (fun x hx => by simp [hx])
        refine ⟨⟨i + 1, S', hlt, by go_num, HWS2, Lib.hid (by rw [HCT.out]; exact HAX.out.keep hk9 (fun hm => own_ne HOW.out HAT.out (by decide) b8 (by simpa using hm) rfl)), Lib.hid (by rw [List.take_add_one, HX.out, Option.toList_some, lanesC_snoc, HXC.out]; exact HO9.out), Lib.hid (HKW.out.call hk9 (fun g hg => .inr (ownLtQ HOW.out g (by simpa using hg)).1))⟩, by simp [intOf]; omega⟩
      · have HXC : Hid (x.cells = [.int .i64 (j : Int), .int .i64 0, .int .i64 (wrap64 (2 ^ g))]) := Lib.hid (by rw [HXE.out]; obtain rfl | rfl | rfl | rfl : g = 0 ∨ g = 1 ∨ g = 2 ∨ g = 3 := (by omega) <;> simp [stepOf, Ln.cells, wrap64])
        have HKX := Lib.hid (show Keep [b8] wr (((((wr.setCell ⟨b8, j, none⟩ (.int .i64 ((y : Int) + 1))).alloc (.cells #[.int .i64 2, .int .i64 (g : Int), .int .i64 u] 29)).alloc (.cells #[.int .i64 (j : Int), .int .i64 0, .int .i64 (wrap64 (2 ^ g))] 52)).alloc (.cells #[.int .i64 (j : Int), .int .i64 0, .int .i64 (wrap64 (2 ^ g))] 52)).drew.drew) from ((((((Keep.refl [b8] wr).setCell (.inl (by simp)) _).alloc _).alloc _).alloc _).drew).drew)
        have HOA := Lib.hid (own_keep HOW.out HKX.out (fun b hb hm => by rw [List.mem_singleton] at hm; exact own_ne HOW.out HAT.out (by decide) b hb hm))
        have HAX := Lib.hid (show ArrAt 39 (((((wr.setCell ⟨b8, j, none⟩ (.int .i64 ((y : Int) + 1))).alloc (.cells #[.int .i64 2, .int .i64 (g : Int), .int .i64 u] 29)).alloc (.cells #[.int .i64 (j : Int), .int .i64 0, .int .i64 (wrap64 (2 ^ g))] 52)).alloc (.cells #[.int .i64 (j : Int), .int .i64 0, .int .i64 (wrap64 (2 ^ g))] 52)).drew.drew) b8 ((S.drop 8).set j ((y : Int) + 1)) from (HAT.out.put j ((y : Int) + 1)).keep (S := []) ((((((Keep.refl [] _).alloc _).alloc _).alloc _).drew).drew) (by simp))
        have HNW : Hid (∀ (k : Nat) (v9 : Value), ([.int .i64 (j : Int), .int .i64 0, .int .i64 (wrap64 (2 ^ g))] : List Value)[k]? = some v9 → (((((wr.setCell ⟨b8, j, none⟩ (.int .i64 ((y : Int) + 1))).alloc (.cells #[.int .i64 2, .int .i64 (g : Int), .int .i64 u] 29)).alloc (.cells #[.int .i64 (j : Int), .int .i64 0, .int .i64 (wrap64 (2 ^ g))] 52)).alloc (.cells #[.int .i64 (j : Int), .int .i64 0, .int .i64 (wrap64 (2 ^ g))] 52)).drew.drew).cell? ((⟨wr.heap.size + 2, 0, none⟩ : Addr).add k) = some v9) := Lib.hid (by
          have h := cells_new (((wr.setCell ⟨b8, j, none⟩ (.int .i64 ((y : Int) + 1))).alloc (.cells #[.int .i64 2, .int .i64 (g : Int), .int .i64 u] 29)).alloc (.cells #[.int .i64 (j : Int), .int .i64 0, .int .i64 (wrap64 (2 ^ g))] 52)) [.int .i64 (j : Int), .int .i64 0, .int .i64 (wrap64 (2 ^ g))] 52 (0, 0)
          rw [show (((wr.setCell ⟨b8, j, none⟩ (.int .i64 ((y : Int) + 1))).alloc (.cells #[.int .i64 2, .int .i64 (g : Int), .int .i64 u] 29)).alloc (.cells #[.int .i64 (j : Int), .int .i64 0, .int .i64 (wrap64 (2 ^ g))] 52)).heap.size = wr.heap.size + 2 by simp] at h
          exact h)
        have HKW := Lib.hid (show Keep [] w (((((wr.setCell ⟨b8, j, none⟩ (.int .i64 ((y : Int) + 1))).alloc (.cells #[.int .i64 2, .int .i64 (g : Int), .int .i64 u] 29)).alloc (.cells #[.int .i64 (j : Int), .int .i64 0, .int .i64 (wrap64 (2 ^ g))] 52)).alloc (.cells #[.int .i64 (j : Int), .int .i64 0, .int .i64 (wrap64 (2 ^ g))] 52)).drew.drew) from ((((((HK.out).setCell (.inr HB8.out) _).alloc _).alloc _).alloc _).drew).drew)
        have H63 : Hid (i + 1 ≤ maxLen) := Lib.hid (by unfold maxLen; omega)
        have HBY : Hid ((i + 1) * 24 ≤ 140737488355328) := Lib.hid (by omega)
        go_upto_region 11 with (first | (with_reducible refine Txt.wp_region_text mixed quiet (by decide +kernel) ?_) | (with_reducible refine Txt.text_done (by kernel_rfl) ?_))
        go_region
        go_upto_region 13 with (first | (with_reducible refine Txt.wp_region_text mixed quiet (by decide +kernel) ?_) | (with_reducible refine Txt.text_done (by kernel_rfl) ?_))
        go_region
        go_wp2_with (first | (with_reducible refine Txt.wp_region_text mixed quiet (by decide +kernel) ?_) | (with_reducible refine Txt.text_done (by kernel_rfl) ?_) | (at_builtin; refine wpList_append_lies _ rfl _ _ 44 rfl w.heap.size 52 i29 (.agg #[.int .i64 0, .int .i64 0, .int .i64 0]) 3 24 Tryd.underlying44 hi29 hz0 hz1 hz2 rfl (by decide) (.slice av i cv) i (lanesC (l.take i)) rfl HOA.out ⟨wr.heap.size + 2, 0, none⟩ 1 1 [.int .i64 (j : Int), .int .i64 0, .int .i64 (wrap64 (2 ^ g))] rfl rfl HNW.out one3 (by decide) H63.out HBY.out HKW.out.size _ rfl ?_; intro g9 c9 w9 hown9 hgr9 hat9 hlt9; have HO9 := Lib.hid hown9; have HG9 := Lib.hid hgr9; clear hown9 hgr9 hat9))
        have hk9 := Keep.ofGrown (S := (Value.slice av i cv).ownBlock.toList) HG9.out (fun x hx => by simp [hx])
        refine ⟨⟨i + 1, S', hlt, by go_num, HWS2, Lib.hid (by rw [HCT.out]; exact HAX.out.keep hk9 (fun hm => own_ne HOW.out HAT.out (by decide) b8 (by simpa using hm) rfl)), Lib.hid (by rw [List.take_add_one, HX.out, Option.toList_some, lanesC_snoc, HXC.out]; exact HO9.out), Lib.hid (HKW.out.call hk9 (fun g hg => .inr (ownLtQ HOW.out g (by simpa using hg)).1))⟩, by simp [intOf]; omega⟩
      · have HXC : Hid (x.cells = [.int .i64 (j : Int), .int .i64 (wrap64 (2 ^ g)), .int .i64 (wrap64 (2 ^ g))]) := Lib.hid (by rw [HXE.out]; obtain rfl | rfl | rfl | rfl : g = 0 ∨ g = 1 ∨ g = 2 ∨ g = 3 := (by omega) <;> simp [stepOf, Ln.cells, wrap64])
        have HKX := Lib.hid (show Keep [b8] wr (((((wr.setCell ⟨b8, j, none⟩ (.int .i64 ((y : Int) + 1))).alloc (.cells #[.int .i64 3, .int .i64 (g : Int), .int .i64 u] 29)).alloc (.cells #[.int .i64 (j : Int), .int .i64 (wrap64 (2 ^ g)), .int .i64 (wrap64 (2 ^ g))] 52)).alloc (.cells #[.int .i64 (j : Int), .int .i64 (wrap64 (2 ^ g)), .int .i64 (wrap64 (2 ^ g))] 52)).drew.drew) from ((((((Keep.refl [b8] wr).setCell (.inl (by simp)) _).alloc _).alloc _).alloc _).drew).drew)
        have HOA := Lib.hid (own_keep HOW.out HKX.out (fun b hb hm => by rw [List.mem_singleton] at hm; exact own_ne HOW.out HAT.out (by decide) b hb hm))
        have HAX := Lib.hid (show ArrAt 39 (((((wr.setCell ⟨b8, j, none⟩ (.int .i64 ((y : Int) + 1))).alloc (.cells #[.int .i64 3, .int .i64 (g : Int), .int .i64 u] 29)).alloc (.cells #[.int .i64 (j : Int), .int .i64 (wrap64 (2 ^ g)), .int .i64 (wrap64 (2 ^ g))] 52)).alloc (.cells #[.int .i64 (j : Int), .int .i64 (wrap64 (2 ^ g)), .int .i64 (wrap64 (2 ^ g))] 52)).drew.drew) b8 ((S.drop 8).set j ((y : Int) + 1)) from (HAT.out.put j ((y : Int) + 1)).keep (S := []) ((((((Keep.refl [] _).alloc _).alloc _).alloc _).drew).drew) (by simp))
        have HNW : Hid (∀ (k : Nat) (v9 : Value), ([.int .i64 (j : Int), .int .i64 (wrap64 (2 ^ g)), .int .i64 (wrap64 (2 ^ g))] : List Value)[k]? = some v9 → (((((wr.setCell ⟨b8, j, none⟩ (.int .i64 ((y : Int) + 1))).alloc (.cells #[.int .i64 3, .int .i64 (g : Int), .int .i64 u] 29)).alloc (.cells #[.int .i64 (j : Int), .int .i64 (wrap64 (2 ^ g)), .int .i64 (wrap64 (2 ^ g))] 52)).alloc (.cells #[.int .i64 (j : Int), .int .i64 (wrap64 (2 ^ g)), .int .i64 (wrap64 (2 ^ g))] 52)).drew.drew).cell? ((⟨wr.heap.size + 2, 0, none⟩ : Addr).add k) = some v9) := Lib.hid (by
          have h := cells_new (((wr.setCell ⟨b8, j, none⟩ (.int .i64 ((y : Int) + 1))).alloc (.cells #[.int .i64 3, .int .i64 (g : Int), .int .i64 u] 29)).alloc (.cells #[.int .i64 (j : Int), .int .i64 (wrap64 (2 ^ g)), .int .i64 (wrap64 (2 ^ g))] 52)) [.int .i64 (j : Int), .int .i64 (wrap64 (2 ^ g)), .int .i64 (wrap64 (2 ^ g))] 52 (0, 0)
          rw [show (((wr.setCell ⟨b8, j, none⟩ (.int .i64 ((y : Int) + 1))).alloc (.cells #[.int .i64 3, .int .i64 (g : Int), .int .i64 u] 29)).alloc (.cells #[.int .i64 (j : Int), .int .i64 (wrap64 (2 ^ g)), .int .i64 (wrap64 (2 ^ g))] 52)).heap.size = wr.heap.size + 2 by simp] at h
          exact h)
        have HKW := Lib.hid (show Keep [] w (((((wr.setCell ⟨b8, j, none⟩ (.int .i64 ((y : Int) + 1))).alloc (.cells #[.int .i64 3, .int .i64 (g : Int), .int .i64 u] 29)).alloc (.cells #[.int .i64 (j : Int), .int .i64 (wrap64 (2 ^ g)), .int .i64 (wrap64 (2 ^ g))] 52)).alloc (.cells #[.int .i64 (j : Int), .int .i64 (wrap64 (2 ^ g)), .int .i64 (wrap64 (2 ^ g))] 52)).drew.drew) from ((((((HK.out).setCell (.inr HB8.out) _).alloc _).alloc _).alloc _).drew).drew)
        have H63 : Hid (i + 1 ≤ maxLen) := Lib.hid (by unfold maxLen; omega)
        have HBY : Hid ((i + 1) * 24 ≤ 140737488355328) := Lib.hid (by omega)
        go_upto_region 11 with (first | (with_reducible refine Txt.wp_region_text mixed quiet (by decide +kernel) ?_) | (with_reducible refine Txt.text_done (by kernel_rfl) ?_))
        go_region
        go_upto_region 13 with (first | (with_reducible refine Txt.wp_region_text mixed quiet (by decide +kernel) ?_) | (with_reducible refine Txt.text_done (by kernel_rfl) ?_))
        go_region
        go_wp2_with (first | (with_reducible refine Txt.wp_region_text mixed quiet (by decide +kernel) ?_) | (with_reducible refine Txt.text_done (by kernel_rfl) ?_) | (at_builtin; refine wpList_append_lies _ rfl _ _ 44 rfl w.heap.size 52 i29 (.agg #[.int .i64 0, .int .i64 0, .int .i64 0]) 3 24 Tryd.underlying44 hi29 hz0 hz1 hz2 rfl (by decide) (.slice av i cv) i (lanesC (l.take i)) rfl HOA.out ⟨wr.heap.size + 2, 0, none⟩ 1 1 [.int .i64 (j : Int), .int .i64 (wrap64 (2 ^ g)), .int .i64 (wrap64 (2 ^ g))] rfl rfl HNW.out one3 (by decide) H63.out HBY.out HKW.out.size _ rfl ?_; intro g9 c9 w9 hown9 hgr9 hat9 hlt9; have HO9 := Lib.hid hown9; have HG9 := Lib.hid hgr9; clear hown9 hgr9 hat9))
        have hk9 := Keep.ofGrown (S := (Value.slice av i cv).ownBlock.toList) HG9.out (fun x hx => by simp [hx])
        refine ⟨⟨i + 1, S', hlt, by go_num, HWS2, Lib.hid (by rw [HCT.out]; exact HAX.out.keep hk9 (fun hm => own_ne HOW.out HAT.out (by decide) b8 (by simpa using hm) rfl)), Lib.hid (by rw [List.take_add_one, HX.out, Option.toList_some, lanesC_snoc, HXC.out]; exact HO9.out), Lib.hid (HKW.out.call hk9 (fun g hg => .inr (ownLtQ HOW.out g (by simpa using hg)).1))⟩, by simp [intOf]; omega⟩
      · have HXC : Hid (x.cells = [.int .i64 (j : Int), .int .i64 (wrap64 (2 ^ g)), .int .i64 0]) := Lib.hid (by rw [HXE.out]; obtain rfl | rfl | rfl | rfl : g = 0 ∨ g = 1 ∨ g = 2 ∨ g = 3 := (by omega) <;> simp [stepOf, Ln.cells, wrap64])
        have HKX := Lib.hid (show Keep [b8] wr (((((wr.setCell ⟨b8, j, none⟩ (.int .i64 ((y : Int) + 1))).alloc (.cells #[.int .i64 4, .int .i64 (g : Int), .int .i64 u] 29)).alloc (.cells #[.int .i64 (j : Int), .int .i64 (wrap64 (2 ^ g)), .int .i64 0] 52)).alloc (.cells #[.int .i64 (j : Int), .int .i64 (wrap64 (2 ^ g)), .int .i64 0] 52)).drew.drew) from ((((((Keep.refl [b8] wr).setCell (.inl (by simp)) _).alloc _).alloc _).alloc _).drew).drew)
        have HOA := Lib.hid (own_keep HOW.out HKX.out (fun b hb hm => by rw [List.mem_singleton] at hm; exact own_ne HOW.out HAT.out (by decide) b hb hm))
        have HAX := Lib.hid (show ArrAt 39 (((((wr.setCell ⟨b8, j, none⟩ (.int .i64 ((y : Int) + 1))).alloc (.cells #[.int .i64 4, .int .i64 (g : Int), .int .i64 u] 29)).alloc (.cells #[.int .i64 (j : Int), .int .i64 (wrap64 (2 ^ g)), .int .i64 0] 52)).alloc (.cells #[.int .i64 (j : Int), .int .i64 (wrap64 (2 ^ g)), .int .i64 0] 52)).drew.drew) b8 ((S.drop 8).set j ((y : Int) + 1)) from (HAT.out.put j ((y : Int) + 1)).keep (S := []) ((((((Keep.refl [] _).alloc _).alloc _).alloc _).drew).drew) (by simp))
        have HNW : Hid (∀ (k : Nat) (v9 : Value), ([.int .i64 (j : Int), .int .i64 (wrap64 (2 ^ g)), .int .i64 0] : List Value)[k]? = some v9 → (((((wr.setCell ⟨b8, j, none⟩ (.int .i64 ((y : Int) + 1))).alloc (.cells #[.int .i64 4, .int .i64 (g : Int), .int .i64 u] 29)).alloc (.cells #[.int .i64 (j : Int), .int .i64 (wrap64 (2 ^ g)), .int .i64 0] 52)).alloc (.cells #[.int .i64 (j : Int), .int .i64 (wrap64 (2 ^ g)), .int .i64 0] 52)).drew.drew).cell? ((⟨wr.heap.size + 2, 0, none⟩ : Addr).add k) = some v9) := Lib.hid (by
          have h := cells_new (((wr.setCell ⟨b8, j, none⟩ (.int .i64 ((y : Int) + 1))).alloc (.cells #[.int .i64 4, .int .i64 (g : Int), .int .i64 u] 29)).alloc (.cells #[.int .i64 (j : Int), .int .i64 (wrap64 (2 ^ g)), .int .i64 0] 52)) [.int .i64 (j : Int), .int .i64 (wrap64 (2 ^ g)), .int .i64 0] 52 (0, 0)
          rw [show (((wr.setCell ⟨b8, j, none⟩ (.int .i64 ((y : Int) + 1))).alloc (.cells #[.int .i64 4, .int .i64 (g : Int), .int .i64 u] 29)).alloc (.cells #[.int .i64 (j : Int), .int .i64 (wrap64 (2 ^ g)), .int .i64 0] 52)).heap.size = wr.heap.size + 2 by simp] at h
          exact h)
        have HKW := Lib.hid (show Keep [] w (((((wr.setCell ⟨b8, j, none⟩ (.int .i64 ((y : Int) + 1))).alloc (.cells #[.int .i64 4, .int .i64 (g : Int), .int .i64 u] 29)).alloc (.cells #[.int .i64 (j : Int), .int .i64 (wrap64 (2 ^ g)), .int .i64 0] 52)).alloc (.cells #[.int .i64 (j : Int), .int .i64 (wrap64 (2 ^ g)), .int .i64 0] 52)).drew.drew) from ((((((HK.out).setCell (.inr HB8.out) _).alloc _).alloc _).alloc _).drew).drew)
        have H63 : Hid (i + 1 ≤ maxLen) := Lib.hid (by unfold maxLen; omega)
        have HBY : Hid ((i + 1) * 24 ≤ 140737488355328) := Lib.hid (by omega)
        go_upto_region 11 with (first | (with_reducible refine Txt.wp_region_text mixed quiet (by decide +kernel) ?_) | (with_reducible refine Txt.text_done (by kernel_rfl) ?_))
        go_region
        go_upto_region 13 with (first | (with_reducible refine Txt.wp_region_text mixed quiet (by decide +kernel) ?_) | (with_reducible refine Txt.text_done (by kernel_rfl) ?_))
        go_region
        go_wp2_with (first | (with_reducible refine Txt.wp_region_text mixed quiet (by decide +kernel) ?_) | (with_reducible refine Txt.text_done (by kernel_rfl) ?_) | (at_builtin; refine wpList_append_lies _ rfl _ _ 44 rfl w.heap.size 52 i29 (.agg #[.int .i64 0, .int .i64 0, .int .i64 0]) 3 24 Tryd.underlying44 hi29 hz0 hz1 hz2 rfl (by decide) (.slice av i cv) i (lanesC (l.take i)) rfl HOA.out ⟨wr.heap.size + 2, 0, none⟩ 1 1 [.int .i64 (j : Int), .int .i64 (wrap64 (2 ^ g)), .int .i64 0] rfl rfl HNW.out one3 (by decide) H63.out HBY.out HKW.out.size _ rfl ?_; intro g9 c9 w9 hown9 hgr9 hat9 hlt9; have HO9 := Lib.hid hown9; have HG9 := Lib.hid hgr9; clear hown9 hgr9 hat9))
        have hk9 := Keep.ofGrown (S := (Value.slice av i cv).ownBlock.toList) HG9.out (fun x hx => by simp [hx])
        refine ⟨⟨i + 1, S', hlt, by go_num, HWS2, Lib.hid (by rw [HCT.out]; exact HAX.out.keep hk9 (fun hm => own_ne HOW.out HAT.out (by decide) b8 (by simpa using hm) rfl)), Lib.hid (by rw [List.take_add_one, HX.out, Option.toList_some, lanesC_snoc, HXC.out]; exact HO9.out), Lib.hid (HKW.out.call hk9 (fun g hg => .inr (ownLtQ HOW.out g (by simpa using hg)).1))⟩, by simp [intOf]; omega⟩
    · obtain rfl : i = m := by omega
      have hdec : decide ((i : Int) < (i : Int)) = false := by simp
      have HTK : Hid (l.take i = l) := Lib.hid (by rw [← HM.out, List.take_length])
      go_wp2_with (first | (with_reducible refine Txt.wp_region_text mixed quiet (by decide +kernel) ?_) | (with_reducible refine Txt.text_done (by kernel_rfl) ?_))
      go_ret2
      exact ⟨_, rfl, by have := HOW.out; rw [HTK.out] at this; rw [HM.out]; exact this, HK.out⟩
end Go.Proofs.YtfcellgjbbfobaaDoor
/- Part: slices.ContainsFunc with the closures of Normal and of PartRounds. -/
namespace Go.Proofs.YtfcellgjbbfobaaDoor
open Go.RowKit
theorem free37 {w : World} {g : Nat} {x : Ln} (hb : w.heap[g]? = some (.cells x.cells.toArray 52 (0, 0))) (y : Ln) : Calls Tryd.prog 28 #[lnV y, .pointer (some ⟨g, 0, none⟩)] w fun e w' => e = .returned (.bool (dep x y)) ∧ Keep [] w w' := by
  have HD : Hid (∀ w, Calls Tryd.prog 29 #[lnV x, lnV y] w fun e w' => e = .returned (.bool (dep x y)) ∧ Keep [] w w') := Lib.hid (dep31 x y)
  obtain ⟨b, hbd⟩ : ∃ b, dep x y = b := ⟨_, rfl⟩
  rw [hbd] at HD ⊢
  clear hbd
  obtain ⟨q, h, u⟩ := x
  obtain ⟨q2, h2, u2⟩ := y
  unfold lnV at HD ⊢
  simp only [Ln.cells] at hb HD ⊢
  obtain ⟨c0, c1, c2, -⟩ := row3 hb
  have hlt := lt_of_blk hb
  have hne : ¬ g = w.heap.size := by omega
  clear hb
  go_enter Tryd.func28, Tryd.ntmps28
  go_wp2_with (first | (with_reducible refine Txt.wp_region_text mixed quiet (by decide +kernel) ?_) | (with_reducible refine Txt.text_done (by kernel_rfl) ?_) | (go_at_call 29; (with_reducible refine (HD.out _).mono ?_); rintro e2 w2 ⟨rfl, hk2⟩; have HK2 := Lib.hid hk2; clear hk2))
  go_ret
  exact ⟨rfl, ((Keep.refl [] w).alloc _).trans HK2.out⟩
set_option maxRecDepth 100000 in
set_option maxHeartbeats 1000000 in
theorem index35_37 {w : World} {g n2 c2 : Nat} {a2 : Option Addr} {p : Ln → Bool} {l : List Ln} (hcl : ∀ x ∈ l, ∀ w', Keep [] w w' → Calls Tryd.prog 28 #[lnV x, .pointer (some ⟨g, 0, none⟩)] w' fun e w2 => e = .returned (.bool (p x)) ∧ Keep [] w' w2) (hh : LnsV w a2 n2 c2 l) :
    Calls Tryd.prog 41 #[.slice a2 n2 c2, .func (.func 28) #[] #[.pointer (some ⟨g, 0, none⟩)]] w fun e w' => Keep [] w w' ∧ ((e = .returned (.int .i64 (-1)) ∧ l.any p = false) ∨ ∃ i : Nat, e = .returned (.int .i64 (i : Nat)) ∧ l.any p = true) := by
  have HC := Lib.hid hcl
  have HH := Lib.hid hh
  have hcc := hh.room
  have hcm := hh.most
  rw [show maxLen = 9223372036854775807 from rfl] at hcm
  clear hcl hh
  go_enter Tryd.func41, Tryd.ntmps41
  go_wp2_with (first | (with_reducible refine Txt.wp_region_text mixed quiet (by decide +kernel) ?_) | (with_reducible refine Txt.text_done (by kernel_rfl) ?_))
  go_loopw [8] (fun j wr => ∃ i : Nat, i ≤ n2 ∧ j = .int .i64 i ∧ Hid (Keep [] w wr) ∧ Hid (∀ x ∈ l.take i, p x = false)) (fun j _ => n2 - (intOf j).toNat)
  case atStart => exact ⟨0, by omega, rfl, Lib.hid (Keep.refl _ _), Lib.hid (fun x hx => by simp at hx)⟩
  case round =>
    obtain ⟨i, hi, rfl, HK, HNO⟩ := hrel
    by_cases hlt : i < n2
    · obtain ⟨x, hxi⟩ : ∃ x, l[i]? = some x := ⟨_, List.getElem?_eq_getElem (by have := HH.out.len; omega)⟩
      obtain ⟨b1, off, hab, c0, c1, c2'⟩ := lnsAt (HH.out.keep HK.out (by simp)) hxi
      have HXI := Lib.hid hxi
      have HCX : Hid (∀ w', Keep [] w w' → Calls Tryd.prog 28 #[lnV x, .pointer (some ⟨g, 0, none⟩)] w' fun e w2 => e = .returned (.bool (p x)) ∧ Keep [] w' w2) := Lib.hid (HC.out x (List.mem_of_getElem? hxi))
      obtain ⟨px, hpx⟩ : ∃ px, p x = px := ⟨_, rfl⟩
      have HPX := Lib.hid hpx
      have HXM := Lib.hid (List.mem_of_getElem? hxi)
      rw [hpx] at HCX
      obtain ⟨xq, xg, xu⟩ := x
      simp only at c0 c1 c2'
      unfold lnV at HCX
      simp only at HCX
      have hdec : decide ((i : Int) < (n2 : Int)) = true := by simp; omega
      subst hab
      clear hxi hpx
      cases px with
      | true =>
        go_wp2_with (first | (with_reducible refine Txt.wp_region_text mixed quiet (by decide +kernel) ?_) | (with_reducible refine Txt.text_done (by kernel_rfl) ?_) | (go_at_call 28; (with_reducible refine (HCX.out _ HK.out).mono ?_); rintro e w5 ⟨rfl, hk5⟩))
        go_ret
        exact ⟨HK.out.trans hk5, .inr ⟨i, rfl, List.any_eq_true.2 ⟨_, HXM.out, HPX.out⟩⟩⟩
      | false =>
        go_wp2_with (first | (with_reducible refine Txt.wp_region_text mixed quiet (by decide +kernel) ?_) | (with_reducible refine Txt.text_done (by kernel_rfl) ?_) | (go_at_call 28; (with_reducible refine (HCX.out _ HK.out).mono ?_); rintro e w5 ⟨rfl, hk5⟩; have HK5 := Lib.hid (HK.out.trans hk5)))
        refine ⟨⟨i + 1, hlt, by go_num, HK5, Lib.hid (fun y hy => ?_)⟩, by simp [intOf]; omega⟩
        rw [List.take_add_one, HXI.out, Option.toList_some] at hy
        rcases List.mem_append.1 hy with hy | hy
        · exact HNO.out y hy
        · rw [List.mem_singleton.1 hy]; exact HPX.out
    · obtain rfl : i = n2 := by omega
      have hdec : decide ((i : Int) < (i : Int)) = false := by simp
      go_wp2_with (first | (with_reducible refine Txt.wp_region_text mixed quiet (by decide +kernel) ?_) | (with_reducible refine Txt.text_done (by kernel_rfl) ?_))
      go_ret
      refine ⟨HK.out, .inl ⟨rfl, List.any_eq_false.2 fun x hx => ?_⟩⟩
      rw [HNO.out x (by rw [List.take_of_length_le (by rw [HH.out.len]; exact Nat.le_refl _)]; exact hx)]
      decide
theorem contains16_37 {w : World} {g n2 c2 : Nat} {a2 : Option Addr} {p : Ln → Bool} {l : List Ln} (hcl : ∀ x ∈ l, ∀ w', Keep [] w w' → Calls Tryd.prog 28 #[lnV x, .pointer (some ⟨g, 0, none⟩)] w' fun e w2 => e = .returned (.bool (p x)) ∧ Keep [] w' w2) (hh : LnsV w a2 n2 c2 l) :
    Calls Tryd.prog 27 #[.slice a2 n2 c2, .func (.func 28) #[] #[.pointer (some ⟨g, 0, none⟩)]] w fun e w' => e = .returned (.bool (l.any p)) ∧ Keep [] w w' := by
  have H0 := index35_37 hcl hh
  cases hb : l.any p with
  | true =>
    have HC : Hid (Calls Tryd.prog 41 #[.slice a2 n2 c2, .func (.func 28) #[] #[.pointer (some ⟨g, 0, none⟩)]] w fun e w' => ∃ i : Nat, e = .returned (.int .i64 i) ∧ Keep [] w w') := Lib.hid (H0.mono (by
      rintro e w' ⟨hk, ⟨rfl, h⟩ | ⟨i, rfl, h⟩⟩
      · rw [hb] at h; cases h
      · exact ⟨i, rfl, hk⟩))
    clear H0 hb hcl hh
    go_enter Tryd.func27, Tryd.ntmps27
    go_wp2_with (first | (with_reducible refine Txt.wp_region_text mixed quiet (by decide +kernel) ?_) | (with_reducible refine Txt.text_done (by kernel_rfl) ?_) | (go_at_call 41; (with_reducible refine HC.out.mono ?_); rintro e w5 ⟨i, rfl, hk5⟩))
    go_ret
    exact ⟨by first | rfl | (simp; done), hk5⟩
  | false =>
    have HC : Hid (Calls Tryd.prog 41 #[.slice a2 n2 c2, .func (.func 28) #[] #[.pointer (some ⟨g, 0, none⟩)]] w fun e w' => e = .returned (.int .i64 (-1)) ∧ Keep [] w w') := Lib.hid (H0.mono (by
      rintro e w' ⟨hk, ⟨rfl, h⟩ | ⟨i, rfl, h⟩⟩
      · exact ⟨rfl, hk⟩
      · rw [hb] at h; cases h))
    clear H0 hb hcl hh
    go_enter Tryd.func27, Tryd.ntmps27
    go_wp2_with (first | (with_reducible refine Txt.wp_region_text mixed quiet (by decide +kernel) ?_) | (with_reducible refine Txt.text_done (by kernel_rfl) ?_) | (go_at_call 41; (with_reducible refine HC.out.mono ?_); rintro e w5 ⟨rfl, hk5⟩))
    go_ret
    exact ⟨by first | rfl | (simp; done), hk5⟩
end Go.Proofs.YtfcellgjbbfobaaDoor
/- The shelf: slices.SortFunc. -/
namespace Go.Proofs
open Go.Shelf
def Tryd.sort33_ren : Go.Shelf.Ren := ⟨fun | 6 => 42 | 15 => 36 | 14 => 56 | 28 => 52 | 29 => 53 | 20 => 64 | 21 => 65 | 22 => 66 | 23 => 67 | 24 => 68 | 25 => 69 | 26 => 70 | 27 => 71 | 46 => 77 | 47 => 58 | 48 => 59 | 49 => 78 | 50 => 79 | 57 => 84 | n => n, fun | 22 => 44 | 24 => 52 | 25 => 91 | 3 => 3 | 39 => 84 | 0 => 0 | 53 => 101 | 55 => 78 | 4 => 4 | 46 => 94 | 45 => 93 | 50 => 98 | 5 => 5 | 9 => 9 | 66 => 104 | 70 => 108 | 76 => 116 | 77 => 117 | n => n, fun | n => n⟩
theorem Tryd.sort33 : Go.Proofs.SlLaysF0.n6 Tryd.prog Tryd.sort33_ren := {
  mixed := by kernel_rfl
  f6 := ⟨Tryd.f42.name, by decide, Tryd.func42.trans (congrArg some (by kernel_rfl))⟩
  f14 := ⟨Tryd.f56.name, by decide, Tryd.func56.trans (congrArg some (by kernel_rfl))⟩
  f15 := Tryd.func36.trans (congrArg some (by kernel_rfl))
  f20 := ⟨Tryd.f64.name, by decide, Tryd.func64.trans (congrArg some (by kernel_rfl))⟩
  f21 := ⟨Tryd.f65.name, by decide, Tryd.func65.trans (congrArg some (by kernel_rfl))⟩
  f22 := ⟨Tryd.f66.name, by decide, Tryd.func66.trans (congrArg some (by kernel_rfl))⟩
  f23 := ⟨Tryd.f67.name, by decide, Tryd.func67.trans (congrArg some (by kernel_rfl))⟩
  f24 := ⟨Tryd.f68.name, by decide, Tryd.func68.trans (congrArg some (by kernel_rfl))⟩
  f25 := ⟨Tryd.f69.name, by decide, Tryd.func69.trans (congrArg some (by kernel_rfl))⟩
  f26 := ⟨Tryd.f70.name, by decide, Tryd.func70.trans (congrArg some (by kernel_rfl))⟩
  f27 := ⟨Tryd.f71.name, by decide, Tryd.func71.trans (congrArg some (by kernel_rfl))⟩
  f28 := Tryd.func52.trans (congrArg some (by kernel_rfl))
  f29 := Tryd.func53.trans (congrArg some (by kernel_rfl))
  f46 := ⟨Tryd.f77.name, by decide, Tryd.func77.trans (congrArg some (by kernel_rfl))⟩
  f47 := Tryd.func58.trans (congrArg some (by kernel_rfl))
  f48 := Tryd.func59.trans (congrArg some (by kernel_rfl))
  f49 := ⟨Tryd.f78.name, by decide, Tryd.func78.trans (congrArg some (by kernel_rfl))⟩
  f50 := ⟨Tryd.f79.name, by decide, Tryd.func79.trans (congrArg some (by kernel_rfl))⟩
  f57 := ⟨Tryd.f84.name, by decide, Tryd.func84.trans (congrArg some (by kernel_rfl))⟩
  t0 := Tryd.underlying0
  a0 := Tryd.isAgg0
  z0 := Tryd.sizeOf0
  v0 := Tryd.zeroValue0
  t3 := Tryd.underlying3
  a3 := Tryd.isAgg3
  z3 := Tryd.sizeOf3
  v3 := Tryd.zeroValue3
  t4 := Tryd.underlying4
  a4 := Tryd.isAgg4
  z4 := Tryd.sizeOf4
  v4 := Tryd.zeroValue4
  t5 := Tryd.underlying5
  a5 := Tryd.isAgg5
  z5 := Tryd.sizeOf5
  v5 := Tryd.zeroValue5
  t9 := Tryd.underlying9
  a9 := Tryd.isAgg9
  z9 := Tryd.sizeOf9
  v9 := Tryd.zeroValue9
  t22 := Tryd.underlying44
  a22 := Tryd.isAgg44
  z22 := Tryd.sizeOf44
  v22 := Tryd.zeroValue44
  t25 := Tryd.underlying91
  a25 := Tryd.isAgg91
  z25 := Tryd.sizeOf91
  v25 := Tryd.zeroValue91
  t39 := Tryd.underlying84
  a39 := Tryd.isAgg84
  z39 := Tryd.sizeOf84
  v39 := Tryd.zeroValue84
  t45 := Tryd.underlying93
  a45 := Tryd.isAgg93
  z45 := Tryd.sizeOf93
  v45 := Tryd.zeroValue93
  t46 := Tryd.underlying94
  a46 := Tryd.isAgg94
  z46 := Tryd.sizeOf94
  v46 := Tryd.zeroValue94
  t50 := Tryd.underlying98
  a50 := Tryd.isAgg98
  z50 := Tryd.sizeOf98
  v50 := Tryd.zeroValue98
  t53 := Tryd.underlying101
  a53 := Tryd.isAgg101
  z53 := Tryd.sizeOf101
  v53 := Tryd.zeroValue101
  t55 := Tryd.underlying78
  a55 := Tryd.isAgg78
  z55 := Tryd.sizeOf78
  v55 := Tryd.zeroValue78
  t66 := Tryd.underlying104
  a66 := Tryd.isAgg104
  z66 := Tryd.sizeOf104
  v66 := Tryd.zeroValue104
  t70 := Tryd.underlying108
  a70 := Tryd.isAgg108
  z70 := Tryd.sizeOf108
  v70 := Tryd.zeroValue108
  t76 := Tryd.underlying116
  a76 := Tryd.isAgg116
  z76 := Tryd.sizeOf116
  v76 := Tryd.zeroValue116
  t77 := Tryd.underlying117
  a77 := Tryd.isAgg117
  z77 := Tryd.sizeOf117
  v77 := Tryd.zeroValue117 }
end Go.Proofs
/- Lists of numbers, compared place by place; plain. -/
namespace Go.Ex
def cmp1 (x y : Int) : Int := if x < y then -1 else if x > y then 1 else 0
def cmpL : List Int → List Int → Int
  | x :: xs, y :: ys => if cmp1 x y ≠ 0 then cmp1 x y else cmpL xs ys
  | _, _ => 0
theorem cmp1_self (x : Int) : cmp1 x x = 0 := by simp [cmp1]
theorem cmpL_self : ∀ x : List Int, cmpL x x = 0
  | [] => rfl
  | x :: xs => by simp [cmpL, cmp1_self, cmpL_self xs]
theorem cmp1_swap (x y : Int) : cmp1 x y = - cmp1 y x := by
  unfold cmp1
  by_cases h1 : x < y
  · rw [if_pos h1, if_neg (by omega), if_pos (by omega)]
  · rw [if_neg h1]
    by_cases h2 : x > y
    · rw [if_pos h2, if_pos (by omega)]; rfl
    · rw [if_neg h2, if_neg (by omega), if_neg (by omega)]; rfl
theorem cmpL_swap : ∀ x y : List Int, cmpL x y = - cmpL y x
  | [], [] => rfl
  | [], _ :: _ => rfl
  | _ :: _, [] => rfl
  | x :: xs, y :: ys => by
    unfold cmpL
    rw [cmp1_swap x y, cmpL_swap xs ys]
    by_cases h : cmp1 y x = 0
    · rw [if_neg (by omega), if_neg (by omega)]
    · rw [if_pos (by omega), if_pos h]
theorem cmp1_le (x y : Int) : cmp1 x y ≤ 0 ↔ x ≤ y := by
  unfold cmp1
  split
  · omega
  · split <;> omega
theorem cmp1_zero (x y : Int) : cmp1 x y = 0 ↔ x = y := by
  unfold cmp1
  split
  · omega
  · split <;> omega
theorem cmpL_trans : ∀ {x y z : List Int}, x.length = y.length → y.length = z.length → cmpL x y ≤ 0 → cmpL y z ≤ 0 → cmpL x z ≤ 0
  | [], [], [], _, _, _, _ => by decide
  | x :: xs, y :: ys, z :: zs, h1, h2, h3, h4 => by
    have ih := @cmpL_trans xs ys zs (by simpa using h1) (by simpa using h2)
    unfold cmpL at h3 h4 ⊢
    have a1 := cmp1_le x y
    have a2 := cmp1_le y z
    have a3 := cmp1_le x z
    have b1 := cmp1_zero x y
    have b2 := cmp1_zero y z
    have b3 := cmp1_zero x z
    by_cases e1 : cmp1 x y = 0
    · rw [if_neg (by omega)] at h3
      by_cases e2 : cmp1 y z = 0
      · rw [if_neg (by omega)] at h4
        rw [if_neg (by have := b1.1 e1; have := b2.1 e2; have := b3.2 (by omega); omega)]
        exact ih h3 h4
      · rw [if_pos e2] at h4
        have := b1.1 e1
        have := a2.1 h4
        have h9 : ¬ cmp1 x z = 0 := fun e => e2 (b2.2 (by have := b3.1 e; omega))
        rw [if_pos h9]
        exact a3.2 (by omega)
    · rw [if_pos e1] at h3
      have c1 := a1.1 h3
      have c2 : ¬ x = y := fun e => e1 (b1.2 e)
      have c3 : y ≤ z := by
        by_cases e2 : cmp1 y z = 0
        · have := b2.1 e2; omega
        · rw [if_pos e2] at h4; exact a2.1 h4
      have h9 : ¬ cmp1 x z = 0 := fun e => c2 (by have := b3.1 e; omega)
      rw [if_pos h9]
      exact a3.2 (by omega)
theorem cmpL_app : ∀ {a b c d : List Int}, a.length = c.length → cmpL (a ++ b) (c ++ d) = if cmpL a c ≠ 0 then cmpL a c else cmpL b d
  | [], b, [], d, _ => by simp [cmpL]
  | x :: a, b, y :: c, d, h => by
    have ih := @cmpL_app a b c d (by simpa using h)
    simp only [List.cons_append, cmpL]
    rw [ih]
    by_cases e : cmp1 x y = 0
    · simp [e]
    · simp [e]
theorem cmp1_small (x y : Int) : -1 ≤ cmp1 x y ∧ cmp1 x y ≤ 1 := by
  unfold cmp1
  split
  · omega
  · split <;> omega
end Go.Ex
