/- Texts laid together: H23 HP13. -/
import Derived.Test.YtkhchfjhmplaiaaMg8
import Derived.StillTailTactics
namespace Go.Proofs.Ytkhchfjhmplaiaa
open Go.RowKit
/-- Two rows of one's own that share no block. -/
def Sep2 (x y : Value) : Prop := ∀ g, x.ownBlock = some g → y.ownBlock ≠ some g
theorem Sep2.sym {x y : Value} (h : Sep2 x y) : Sep2 y x := fun g h1 h2 => h g h2 h1
theorem Sep2.or {x y : Value} (h : Sep2 x y) : x.ownBlock = none ∨ x.ownBlock ≠ y.ownBlock := by
  cases hx : x.ownBlock with
  | none => exact .inl rfl
  | some g => exact .inr fun e => h g hx e.symm
theorem Sep2.grow {W : World} {x x' y : Value} {B n : Nat} {xs : List Value} (h : Sep2 x y) (hat : x'.ownBlock = x.ownBlock ∨ x'.ownBlock = some W.heap.size) (hy : W.ownsRow B 22 1 y n xs) : Sep2 x' y := fun g h1 h2 => by
  rcases hat with e | e
  · exact h g (by rw [← e]; exact h1) h2
  · rw [h1] at e
    have := (hy.lt g h2).2
    cases e
    omega
theorem wrap_small {n : Int} (h0 : 0 ≤ n) (h1 : n ≤ 1000000) : IntKind.i64.wrap n = n := by
  have hm : n % (2 ^ IntKind.i64.bits : Int) = n := Int.emod_eq_of_lt h0 (by have : (2 ^ IntKind.i64.bits : Int) = 18446744073709551616 := by decide
                                                                             omega)
  have hb : ¬ (n ≥ (2 ^ (IntKind.i64.bits - 1) : Int)) := by
    have : (2 ^ (IntKind.i64.bits - 1) : Int) = 9223372036854775808 := by decide
    omega
  unfold IntKind.wrap
  rw [hm]
  simp [hb]
set_option maxRecDepth 100000 in
set_option maxHeartbeats 8000000 in
theorem traceSame_walk (a : Option Addr) (len cap : Nat) (zs : List Int) (b : Option Addr) (lenb capb : Nat) (ss : List Int) (w : World) (hv : IntsV w a len cap zs) (hvb : IntsV w b lenb capb ss) :
    Calls Try.prog 15 #[.slice a len cap, .slice b lenb capb] w fun e w' => e = .returned (.bool true) ∧ Keep [] w w' := by
  obtain ⟨N, hN⟩ : ∃ N, (hist zs).length = N := ⟨_, rfl⟩
  have hok : HOk (hist zs) := (hist_inv zs).ok
  have hN60 := hist_len zs
  rw [hN] at hN60
  have hNle : N ≤ 60 := by omega
  obtain ⟨M, hM, hMl, hM1⟩ : ∃ M : Nat, min (lenb : Int) 80 = (M : Int) ∧ M ≤ lenb ∧ M ≤ 80 :=
    ⟨min 80 lenb, by omega, by omega, by omega⟩
  have hrb := hvb.room
  have hmb := hvb.most
  unfold maxLen at hmb
  have HV := Lib.hid hv
  have HVB := Lib.hid hvb
  have HOK := Lib.hid hok
  have HN := Lib.hid hN
  clear hv hvb hok hN hN60
  go_enter Try.func15, Try.ntmps15
  go_upto_block 0 with (first | (go_at_call 35; refine (tbegun_any _).mono ?_; rintro e w0 ⟨rfl, hk0⟩) | (go_at_call 22; refine (begun_any _).mono ?_; rintro e w1 ⟨rfl, hk1⟩) | (go_at_call 20; refine (history_at (HV.out.keep (hk0.trans hk1) (by simp)) HN).mono ?_; rintro e w2 ⟨a2, c2, rfl, hk2, hv2⟩; have HV2 := Lib.hid hv2; clear hv2) | (go_at_call 39; refine (clone_gen HV2.out (by omega)).mono ?_; rintro e w3 ⟨v3, rfl, hk3, ho3⟩; have HV3 := Lib.hid (HV2.out.keep hk3 (by simp)); obtain ⟨a3, c3, rfl, hl3, _⟩ := LnsV.ofOwn ho3; have HL3 := Lib.hid hl3; clear ho3 hl3))
  have hkw3 := ((hk0.trans hk1).trans hk2).trans hk3
  clear hM hk0 hk1 HV2
  go_cut [6, 8, 9, 10] (fun v _ _ _ wx => ∃ (a9 : Option Addr) (c9 : Nat) (G : List Ln), v = .slice a9 N c9 ∧ Keep [] w3 wx ∧ Hid (LnsV wx a9 N c9 G) ∧ Hid (HOk G) ∧ Hid (SameAt (hist zs) G))
  case first =>
    go_wp2_with fail
    go_loopw [6, 8, 9, 10, 37] (fun v _ _ _ j wr => ∃ (k : Nat) (a9 : Option Addr) (c9 : Nat) (G : List Ln), k ≤ M ∧ j = .int .i64 k ∧ v = .slice a9 N c9 ∧ Keep [] w3 wr ∧ Hid (LnsV wr a9 N c9 G) ∧ Hid (HOk G) ∧ Hid (SameAt (hist zs) G)) (fun _ _ _ _ j _ => M - (intOf j).toNat)
    case atStart => exact ⟨0, a3, c3, hist zs, by omega, rfl, rfl, Keep.refl _ _, HL3, HOK, Lib.hid (SameAt.refl _)⟩
    case round =>
      obtain ⟨k, a9, c9, G, hk, rfl, rfl, hkw, HG, HGK, HSA⟩ := hrel
      by_cases hlt : k < M
      · obtain ⟨bb, ob, rfl, hcb⟩ := HVB.out.cells (by omega)
        have hck := (hkw3.trans hkw).cell (hcb k (by omega)) (by simp)
        clear hcb
        obtain ⟨z, hz⟩ : ∃ z, ss.getD k 0 = z := ⟨_, rfl⟩
        rw [hz] at hck
        clear hz
        by_cases hN2 : N < 2
        · have hd2 : decide ((N : Int) < 2) = true := by simp; omega
          go_wp2_with fail
          go_meet
          exact ⟨a9, c9, G, rfl, hkw, HG, HGK, HSA⟩
        · have hd2 : decide ((N : Int) < 2) = false := by simp; omega
          obtain ⟨i, hi, hi1⟩ := at_nat z (show 0 < N - 1 by omega)
          rw [show ((N - 1 : Nat) : Int) = (N : Int) - 1 by omega] at hi
          have HI := Lib.hid hi
          have hi2 : i + 1 < N := by omega
          clear hi
          go_upto_region 11 with (first | (go_at_call 21; (with_reducible refine (rest_at HI (by omega) (by omega)).mono ?_); rintro e w' ⟨rfl, rfl⟩) | (go_at_call 39; refine (clone_any HG.out (by omega) (by omega)).mono ?_; rintro e w4 ⟨g, cg, rfl, hk4, ho4⟩; have HG4 := Lib.hid (HG.out.keep hk4 (by simp)); have HO4 := Lib.hid ho4; obtain ⟨p0, p1, p2⟩ := own3_at ho4 (show i < N by omega); obtain ⟨q0, q1, q2⟩ := own3_at ho4 hi2; have hth := fun j => (own_thaw ho4 j).1; obtain ⟨_, hgc, hgm, hgb, hgl⟩ := own_thaw ho4 0; unfold maxLen at hgm; clear ho4))
          have hIc : (i : Int) + 1 < (N : Int) := by omega
          have hHlen := Lib.hid (show i + 1 < G.length by have := HG.out.len; omega)
          obtain ⟨⟨x0, x1, x2⟩, hL⟩ : ∃ L, lat G i = L := ⟨_, rfl⟩
          obtain ⟨⟨y0, y1, y2⟩, hM⟩ : ∃ L, lat G (i + 1) = L := ⟨_, rfl⟩
          have HL := Lib.hid hL
          have HM := Lib.hid hM
          rw [hL] at p0 p1 p2
          rw [hM] at q0 q1 q2
          dsimp only at p0 p1 p2 q0 q1 q2
          clear hL hM
          have hsw : World.ownsRow ((((((w4.setCell ⟨g, i * 3, none⟩ (.int .i64 y0)).setCell ⟨g, i * 3 + 1, none⟩ (.int .i64 y1)).setCell ⟨g, i * 3 + 2, none⟩ (.int .i64 y2)).setCell ⟨g, (i + 1) * 3, none⟩ (.int .i64 x0)).setCell ⟨g, (i + 1) * 3 + 1, none⟩ (.int .i64 x1)).setCell ⟨g, (i + 1) * 3 + 2, none⟩ (.int .i64 x2)) wr.heap.size 27 3 (.slice (some ⟨g, 0, none⟩) N cg) N (lanesC (swapL G i)) := by
            have h9 := own_put3 (own_put3 HO4.out (i := i) (by have := hHlen.out; omega) y0 y1 y2) (i := i + 1) (by simpa using hHlen.out) x0 x1 x2
            rw [← HL.out, ← HM.out] at h9
            exact h9
          have hks : Keep [g] w4 ((((((w4.setCell ⟨g, i * 3, none⟩ (.int .i64 y0)).setCell ⟨g, i * 3 + 1, none⟩ (.int .i64 y1)).setCell ⟨g, i * 3 + 2, none⟩ (.int .i64 y2)).setCell ⟨g, (i + 1) * 3, none⟩ (.int .i64 x0)).setCell ⟨g, (i + 1) * 3 + 1, none⟩ (.int .i64 x1)).setCell ⟨g, (i + 1) * 3 + 2, none⟩ (.int .i64 x2)).drew := by
            refine Keep.drew ?_
            iterate 6 refine Keep.setCell ?_ (.inl (by simp)) _
            exact Keep.refl _ _
          obtain ⟨ae, ce, hee, hsv, _⟩ := LnsV.ofOwn hsw
          cases hee
          obtain ⟨b9, o9, rfl, hb90, _⟩ := HG.out.at_ (show i < N by omega)
          have hb9 := World.block_lt_of_cell? _ _ hb90
          have HSV := Lib.hid hsv.drew
          have HG5 := Lib.hid (HG4.out.keep hks (fun x hx => by cases hx; simp; dsimp only at hb9 ⊢; omega))
          clear hsw hsv hb90
          go_region
          obtain ⟨w5, hw5⟩ : ∃ w5, ((((((w4.setCell ⟨g, i * 3, none⟩ (.int .i64 y0)).setCell ⟨g, i * 3 + 1, none⟩ (.int .i64 y1)).setCell ⟨g, i * 3 + 2, none⟩ (.int .i64 y2)).setCell ⟨g, (i + 1) * 3, none⟩ (.int .i64 x0)).setCell ⟨g, (i + 1) * 3 + 1, none⟩ (.int .i64 x1)).setCell ⟨g, (i + 1) * 3 + 2, none⟩ (.int .i64 x2)).drew = w5 := ⟨_, rfl⟩
          rw [hw5] at hks HSV HG5 ⊢
          clear hw5 p0 p1 p2 q0 q1 q2 hth
          have hkr5 : Keep [] wr w5 := Keep.call hk4 hks (fun z hz => .inr (by simp at hz; omega))
          obtain ⟨_, _, he1, d0, _⟩ := HG5.out.at_ (show i < N by omega)
          cases he1
          obtain ⟨_, _, he1, d1, _⟩ := HG5.out.at_ hi2
          cases he1
          rw [HL.out] at d0
          rw [HM.out] at d1
          dsimp only at d0 d1
          clear hks
          go_upto_region 12 with fail
          by_cases hq : x0 = y0
          · have hqb : (x0 == y0) = true := by rw [hq]; exact beq_self_eq_true _
            have hqc : (x0 != y0) = false := by rw [hq]; simp
            clear hq
            go_region
            go_wp2_with fail
            go_roundw
            case measure => simp [intOf]; omega
            case rel => exact ⟨k + 1, some ⟨b9, o9, none⟩, c9, G, by omega, by go_num, rfl, (hkw.trans hkr5).drew, Lib.hid HG5.out.drew, HGK, HSA⟩
          · have hqb : (x0 == y0) = false := beq_eq_false_iff_ne.2 hq
            have hqc : (x0 != y0) = true := by simpa using hq
            have f1 : (i : Int) < (N : Int) := by omega
            have f0 : (0 : Int) ≤ (i : Int) := by omega
            have f2 : (0 : Int) ≤ (i : Int) + 1 := by omega
            have hnt : ((i : Int) + 1).toNat = i + 1 := by omega
            have hwr : IntKind.i64.wrap ((i : Int) + 1) = (i : Int) + 1 := wrap_small (by omega) (by omega)
            go_still_tail 14, (by kernel_rfl)
            change wpList _ _ _ _ _ w5.drew
            obtain ⟨w6, hw6⟩ : ∃ w6, w5.drew = w6 := ⟨_, rfl⟩
            have hk56 : Keep [] w5 w5.drew := (Keep.refl _ _).drew
            rw [hw6] at hk56 ⊢
            have hkr6 := hkr5.trans hk56
            have HS6 := Lib.hid (HSV.out.keep hk56 (by simp))
            have HG6 := Lib.hid (HG5.out.keep hk56 (by simp))
            have HLOC : Hid (∀ j, j < N → (lat (swapL G i) j).g = 1 → 0 ≤ (lat (swapL G i) j).u ∧ (lat (swapL G i) j).u ≤ 999) := Lib.hid (fun j hj _ => by
              have hl := HG.out.len
              rw [lat_swap hHlen.out]
              have := HGK.out.ev (sw i j) (by rw [hl]; exact sw_lt hi2 hj)
              omega)
            have HFR : Hid (HOk (swapL G i) → Free G i) := Lib.hid (fun hs => free_sound HGK.out hHlen.out (by rw [HL.out, HM.out]; exact hq) hs)
            clear hw6 d0 d1 HG HG4 HO4 HSV HG5 hb9
            go_wp2_with (first | (go_at_call 51; refine (check_gen HS6.out HLOC.out).mono ?_; rintro e w7 ⟨xe, rfl, hk7, hxe⟩; have HXE := Lib.hid hxe; have HS7 := Lib.hid (HS6.out.keep hk7 (by simp)); have HG7 := Lib.hid (HG6.out.keep hk7 (by simp)); clear hxe))
            all_goals rename_i hx0
            all_goals refine ⟨?_, by simp [intOf]; omega⟩
            · have hx1 : xe = 0 := by simpa using hx0
              have hok2 := HXE.out hx1
              exact ⟨k + 1, some ⟨g, 0, none⟩, cg, swapL G i, by omega, by go_num, rfl, hkw.trans (hkr6.trans hk7), HS7, Lib.hid hok2, Lib.hid (HSA.out.swap HGK.out (HFR.out hok2))⟩
            · exact ⟨k + 1, some ⟨b9, o9, none⟩, c9, G, by omega, by go_num, rfl, hkw.trans (hkr6.trans hk7), HG7, HGK, HSA⟩
      · go_wp2_with fail
        go_meet
        exact ⟨a9, c9, G, rfl, hkw, HG, HGK, HSA⟩
  case rest =>
    obtain ⟨a9, c9, G, rfl, hkc, HG, HGK, HSA⟩ := hcut
    have HV5 := Lib.hid (HV3.out.keep hkc (by simp))
    obtain ⟨i1, hi1, hx0, hx1, hx2⟩ := info_parts info22
    clear HL3 HV HVB
    go_wp2_with (first | (go_at_call 40; refine (same40_any (R := true) HV5.out HG.out HOK.out HGK.out (same_part HSA.out) rfl).mono ?_; rintro e wd ⟨rfl, hkd⟩; have HVd := Lib.hid (HV5.out.keep hkd (by simp)); have HGd := Lib.hid (HG.out.keep hkd (by simp))) | (go_at_call 25; (with_reducible refine (clocks_at3 HVd.out HOK.out).mono ?_); rintro e we ⟨aa, ca, Va, rfl, hke, hca, hcam, hra⟩; have HGe := Lib.hid (HGd.out.keep hke (by simp)); have HVe := Lib.hid (HVd.out.keep hke (by simp)); have HRA := Lib.hid hra; unfold maxLen at hcam; clear hra) | (go_at_call 25; (with_reducible refine (clocks_at3 HGe.out HGK.out).mono ?_); rintro e wf ⟨ab, cb, Vb, rfl, hkf, hcb, hcbm, hrb2⟩; have HGf := Lib.hid (HGe.out.keep hkf (by simp)); have HVf := Lib.hid (HVe.out.keep hkf (by simp)); have HRAf := Lib.hid (HRA.out.keep hkf); have HRBf := Lib.hid hrb2; unfold maxLen at hcbm; clear hrb2))
    have hkwf : Keep [] w wf := (((hkw3.trans hkc).trans hkd).trans hke).trans hkf
    clear HRA HVe HGe HVd HGd HV5 HG HV3 hkw3 hkc hkd hke hkf hk2 hk3
    go_loopw [17, 18, 19, 20, 130] (fun _ _ _ _ j wr => ∃ p : Nat, p ≤ 8 ∧ j = .int .i64 p ∧ Keep [] wf wr) (fun _ _ _ _ j _ => 8 - (intOf j).toNat)
    case atStart => exact ⟨0, by omega, rfl, Keep.refl _ _⟩
    case round =>
      obtain ⟨p, hp, rfl, hkp⟩ := hrel
      by_cases hlp : p < 8
      · have hdec : decide ((p : Int) < 8) = true := by simp; omega
        go_wp2_with fail
        obtain ⟨wo, hwo⟩ : ∃ wo : World, wr = wo := ⟨_, rfl⟩
        have HRo := Lib.hid (HRAf.out.keep hkp)
        have HSo := Lib.hid (HRBf.out.keep hkp)
        have HVo := Lib.hid (HVf.out.keep hkp (by simp))
        have HGo := Lib.hid (HGf.out.keep hkp (by simp))
        rw [hwo] at hkp HRo HSo HVo HGo ⊢
        clear hwo
        go_loopw [18, 19, 20, 135] (fun vx vy _ j wr => ∃ (k mx my : Nat), k ≤ N ∧ j = .int .i64 k ∧ Keep [] wo wr ∧ Hid (wr.ownsRow wo.heap.size 22 1 vx mx (pick (plQ (hist zs) p) Va k)) ∧ Hid (wr.ownsRow wo.heap.size 22 1 vy my (pick (plQ G p) Vb k)) ∧ Hid (Sep2 vx vy)) (fun _ _ _ j _ => N - (intOf j).toNat)
        case atStart => exact ⟨0, 0, 0, by omega, rfl, Keep.refl _ _, Lib.hid (World.ownsRow_nil _ _ _ _), Lib.hid (World.ownsRow_nil _ _ _ _), Lib.hid (fun g h => by cases h)⟩
        case round =>
          obtain ⟨k, mx, my, hk, rfl, hkx, HOX, HOY, HSP⟩ := hrel
          by_cases hlt : k < N
          · have hsx := hkx.size
            have hmx : mx ≤ k := by have h1 := HOX.out.1; rw [pick_len] at h1; have h2 := rk_le (plQ (hist zs) p) k; omega
            have hmy : my ≤ k := by have h1 := HOY.out.1; rw [pick_len] at h1; have h2 := rk_le (plQ G p) k; omega
            obtain ⟨b1, o1, rfl, d0, _⟩ := HVo.out.at_ hlt
            obtain ⟨b3, o3, rfl, e0, _⟩ := HGo.out.at_ hlt
            obtain ⟨ga, gi, ci, rfl, a0, hva, _⟩ := HRo.out k hlt
            obtain ⟨gb, gj, cj, rfl, b0, hvb, _⟩ := HSo.out k hlt
            have hpx := pick_succ (plQ (hist zs) p) Va k
            have hpy := pick_succ (plQ G p) Vb k
            have hqx : plQ (hist zs) p k = decide ((lat (hist zs) k).q = p) := rfl
            have hqy : plQ G p k = decide ((lat G k).q = p) := rfl
            rw [hqx, hva] at hpx
            rw [hqy, hvb] at hpy
            rw [hva] at a0
            rw [hvb] at b0
            clear hqx hqy hva hvb
            obtain ⟨q1, hq1⟩ : ∃ q, (lat (hist zs) k).q = q := ⟨_, rfl⟩
            obtain ⟨q2, hq2⟩ : ∃ q, (lat G k).q = q := ⟨_, rfl⟩
            rw [hq1] at hpx d0
            rw [hq2] at hpy e0
            clear hq1 hq2
            have D0 := Lib.hid d0
            have E0 := Lib.hid e0
            have A0 := Lib.hid a0
            have B0 := Lib.hid b0
            clear d0 e0 a0 b0
            have d1 := hkx.cell D0.out (by simp)
            have e1 := hkx.cell E0.out (by simp)
            have a1 := hkx.cell A0.out (by simp)
            have b1' := hkx.cell B0.out (by simp)
            by_cases hqa : q1 = p
            · have hqa1 : (q1 == (p : Int)) = true := by rw [hqa]; exact beq_self_eq_true _
              have HPX := Lib.hid (show pick (plQ (hist zs) p) Va (k + 1) = pick (plQ (hist zs) p) Va k ++ [.slice (some ⟨gi, 0, none⟩) 8 ci] by rw [hpx, decide_eq_true hqa, if_pos rfl])
              clear hqa hpx
              by_cases hqc : q2 = p
              · have hqc1 : (q2 == (p : Int)) = true := by rw [hqc]; exact beq_self_eq_true _
                have HPY := Lib.hid (show pick (plQ G p) Vb (k + 1) = pick (plQ G p) Vb k ++ [.slice (some ⟨gj, 0, none⟩) 8 cj] by rw [hpy, decide_eq_true hqc, if_pos rfl])
                clear hqc hpy
                go_wp2_with (first | (with_reducible refine Txt.wp_region_text mixed quiet (by decide +kernel) ?_) | (with_reducible refine Txt.text_done (by kernel_rfl) ?_) | (at_builtin; refine wpList_append_own_at _ rfl _ _ 37 rfl wo.heap.size 22 i1 (.slice none 0 0) 1 24 Try.underlying37 hi1 hx0 hx1 hx2 rfl (by decide) _ _ _ rfl (HOX.out.alloc _) ⟨wr.heap.size, 0, none⟩ 1 1 [.slice (some ⟨gi, 0, none⟩) 8 ci] rfl rfl (cell_one_at rfl _ _) (by intro u hu; simp at hu; subst hu; rfl) (by unfold maxLen; omega) (by omega) (by simp; omega) ?_; intro v6 w6 hown6 hgr6 _ hat6; have hgx : (wr.alloc (.cells #[.slice (some ⟨gi, 0, none⟩) 8 ci] 22)).grownBy w6 u18.ownBlock := hgr6; have hax : v6.ownBlock = u18.ownBlock ∨ v6.ownBlock = some (wr.alloc (.cells #[.slice (some ⟨gi, 0, none⟩) 8 ci] 22)).heap.size := hat6; have HX6 := Lib.hid hown6; have hk6 : Keep [] wo w6 := (hkx.alloc _).grown hgx (fun g hg => .inr (HOX.out.lt g hg).1); have HY6 := Lib.hid ((HOY.out.alloc _).kept hgx HSP.out.sym.or); have HS6 := Lib.hid (HSP.out.grow hax (HOY.out.alloc _)); have e0' := hk6.cell E0.out (by simp); have b0' := hk6.cell B0.out (by simp); have hs6 := hk6.size; clear hown6 hgr6 hat6 hgx hax) | (at_builtin; refine wpList_append_own_at _ rfl _ _ 37 rfl wo.heap.size 22 i1 (.slice none 0 0) 1 24 Try.underlying37 hi1 hx0 hx1 hx2 rfl (by decide) _ _ _ rfl (HY6.out.alloc _) ⟨w6.heap.size, 0, none⟩ 1 1 [.slice (some ⟨gj, 0, none⟩) 8 cj] rfl rfl (cell_one_at rfl _ _) (by intro u hu; simp at hu; subst hu; rfl) (by unfold maxLen; omega) (by omega) (by simp; omega) ?_; intro v7 w7 hown7 hgr7 _ hat7; have hgy : (w6.alloc (.cells #[.slice (some ⟨gj, 0, none⟩) 8 cj] 22)).grownBy w7 u19.ownBlock := hgr7; have hay : v7.ownBlock = u19.ownBlock ∨ v7.ownBlock = some (w6.alloc (.cells #[.slice (some ⟨gj, 0, none⟩) 8 cj] 22)).heap.size := hat7; have HY7 := Lib.hid hown7; have hk7 : Keep [] wo w7 := (hk6.alloc _).grown hgy (fun g hg => .inr (HY6.out.lt g hg).1); have HX7 := Lib.hid ((HX6.out.alloc _).kept hgy HS6.out.or); have HS7 := Lib.hid ((HS6.out.sym.grow hay (HX6.out.alloc _)).sym); clear hown7 hgr7 hat7 hgy hay))
                go_roundw
                case measure => simp [intOf]; omega
                case rel => exact ⟨k + 1, mx + 1, my + 1, by omega, by go_num, hk7, Lib.hid (by rw [HPX.out]; exact HX7.out), Lib.hid (by rw [HPY.out]; exact HY7.out), HS7⟩
              · have hqc1 : (q2 == (p : Int)) = false := beq_eq_false_iff_ne.2 hqc
                have HPY := Lib.hid (show pick (plQ G p) Vb (k + 1) = pick (plQ G p) Vb k by rw [hpy, decide_eq_false hqc]; simp)
                clear hqc hpy
                go_wp2_with (first | (with_reducible refine Txt.wp_region_text mixed quiet (by decide +kernel) ?_) | (with_reducible refine Txt.text_done (by kernel_rfl) ?_) | (at_builtin; refine wpList_append_own_at _ rfl _ _ 37 rfl wo.heap.size 22 i1 (.slice none 0 0) 1 24 Try.underlying37 hi1 hx0 hx1 hx2 rfl (by decide) _ _ _ rfl (HOX.out.alloc _) ⟨wr.heap.size, 0, none⟩ 1 1 [.slice (some ⟨gi, 0, none⟩) 8 ci] rfl rfl (cell_one_at rfl _ _) (by intro u hu; simp at hu; subst hu; rfl) (by unfold maxLen; omega) (by omega) (by simp; omega) ?_; intro v6 w6 hown6 hgr6 _ hat6; have hgx : (wr.alloc (.cells #[.slice (some ⟨gi, 0, none⟩) 8 ci] 22)).grownBy w6 u18.ownBlock := hgr6; have hax : v6.ownBlock = u18.ownBlock ∨ v6.ownBlock = some (wr.alloc (.cells #[.slice (some ⟨gi, 0, none⟩) 8 ci] 22)).heap.size := hat6; have HX6 := Lib.hid hown6; have hk6 : Keep [] wo w6 := (hkx.alloc _).grown hgx (fun g hg => .inr (HOX.out.lt g hg).1); have HY6 := Lib.hid ((HOY.out.alloc _).kept hgx HSP.out.sym.or); have HS6 := Lib.hid (HSP.out.grow hax (HOY.out.alloc _)); have e0' := hk6.cell E0.out (by simp); have b0' := hk6.cell B0.out (by simp); have hs6 := hk6.size; clear hown6 hgr6 hat6 hgx hax))
                go_roundw
                case measure => simp [intOf]; omega
                case rel => exact ⟨k + 1, mx + 1, my, by omega, by go_num, hk6, Lib.hid (by rw [HPX.out]; exact HX6.out), Lib.hid (by rw [HPY.out]; exact HY6.out), HS6⟩
            · have hqa1 : (q1 == (p : Int)) = false := beq_eq_false_iff_ne.2 hqa
              have HPX := Lib.hid (show pick (plQ (hist zs) p) Va (k + 1) = pick (plQ (hist zs) p) Va k by rw [hpx, decide_eq_false hqa]; simp)
              clear hqa hpx
              by_cases hqc : q2 = p
              · have hqc1 : (q2 == (p : Int)) = true := by rw [hqc]; exact beq_self_eq_true _
                have HPY := Lib.hid (show pick (plQ G p) Vb (k + 1) = pick (plQ G p) Vb k ++ [.slice (some ⟨gj, 0, none⟩) 8 cj] by rw [hpy, decide_eq_true hqc, if_pos rfl])
                clear hqc hpy
                go_wp2_with (first | (with_reducible refine Txt.wp_region_text mixed quiet (by decide +kernel) ?_) | (with_reducible refine Txt.text_done (by kernel_rfl) ?_) | (at_builtin; refine wpList_append_own_at _ rfl _ _ 37 rfl wo.heap.size 22 i1 (.slice none 0 0) 1 24 Try.underlying37 hi1 hx0 hx1 hx2 rfl (by decide) _ _ _ rfl (HOY.out.alloc _) ⟨wr.heap.size, 0, none⟩ 1 1 [.slice (some ⟨gj, 0, none⟩) 8 cj] rfl rfl (cell_one_at rfl _ _) (by intro u hu; simp at hu; subst hu; rfl) (by unfold maxLen; omega) (by omega) (by simp; omega) ?_; intro v7 w7 hown7 hgr7 _ hat7; have hgy : (wr.alloc (.cells #[.slice (some ⟨gj, 0, none⟩) 8 cj] 22)).grownBy w7 u19.ownBlock := hgr7; have hay : v7.ownBlock = u19.ownBlock ∨ v7.ownBlock = some (wr.alloc (.cells #[.slice (some ⟨gj, 0, none⟩) 8 cj] 22)).heap.size := hat7; have HY7 := Lib.hid hown7; have hk7 : Keep [] wo w7 := (hkx.alloc _).grown hgy (fun g hg => .inr (HOY.out.lt g hg).1); have HX7 := Lib.hid ((HOX.out.alloc _).kept hgy HSP.out.or); have HS7 := Lib.hid ((HSP.out.sym.grow hay (HOX.out.alloc _)).sym); clear hown7 hgr7 hat7 hgy hay))
                go_roundw
                case measure => simp [intOf]; omega
                case rel => exact ⟨k + 1, mx, my + 1, by omega, by go_num, hk7, Lib.hid (by rw [HPX.out]; exact HX7.out), Lib.hid (by rw [HPY.out]; exact HY7.out), HS7⟩
              · have hqc1 : (q2 == (p : Int)) = false := beq_eq_false_iff_ne.2 hqc
                have HPY := Lib.hid (show pick (plQ G p) Vb (k + 1) = pick (plQ G p) Vb k by rw [hpy, decide_eq_false hqc]; simp)
                clear hqc hpy
                go_wp2_with (fail)
                go_roundw
                case measure => simp [intOf]; omega
                case rel => exact ⟨k + 1, mx, my, by omega, by go_num, hkx, Lib.hid (by rw [HPX.out]; exact HOX.out), Lib.hid (by rw [HPY.out]; exact HOY.out), HSP⟩
          · have hkn : k = N := by omega
            have hhl := HN.out
            have hgl := HSA.out.len
            have hck := HSA.out.ck (p : Int)
            have h1 := HOX.out
            have h2 := HOY.out
            rw [hkn] at h1 h2
            obtain ⟨ax, cx, rfl, hcx, hcxm, hrx⟩ := rows_pick (HRo.out.keep hkx) h1
            obtain ⟨ay, cy, rfl, hcy, hcym, hry⟩ := rows_pick (HSo.out.keep hkx) h2
            unfold clkAt at hck
            rw [hgl, hhl] at hck
            have hmm : my = mx := by
              have e1 := h1.1
              have e2 := h2.1
              have e3 := congrArg List.length hck
              rw [pick_len] at e1 e2
              rw [pick_len, pick_len] at e3
              omega
            subst hmm
            rw [hck] at hry
            have HRX := Lib.hid hrx
            have HRY := Lib.hid hry
            unfold maxLen at hcxm hcym
            clear h1 h2 hck hrx hry hhl hgl
            go_wp2_with (first | (go_at_call 41; refine (eqf52_any HRX.out HRY.out (by omega) (by unfold maxLen; omega)).mono ?_; rintro e wz ⟨rfl, hkz⟩))
            go_roundw
            case measure => simp [intOf]; omega
            case rel => exact ⟨p + 1, by omega, by go_num, (hkp.trans hkx).trans hkz⟩
      · go_wp2_with fail
        go_ret
        exact ⟨rfl, hkwf.trans hkp⟩
end Go.Proofs.Ytkhchfjhmplaiaa
namespace Go
open Go.RowKit
/-- The last event of a kind with a message, of the first k. -/
def kindIx (h : List Ln) (g u : Int) (k : Nat) : Option Nat := lastB (fun j => decide ((lat h j).g = g ∧ (lat h j).u = u)) k
/-- An event's number at its place. -/
def posN (h : List Ln) (j : Nat) : Nat := rk (plQ h (lat h j).q) j
def spotV (h : List Ln) (j : Nat) : Value := .agg #[.int .i64 (lat h j).q, .int .i64 (posN h j)]
def FG (h : List Ln) (g : Int) (k : Nat) (x : Int) : Option Value := (kindIx h g x k).map (spotV h)
theorem FG_zero (h : List Ln) (g : Int) : FG h g 0 = fun _ => none := rfl
theorem FG_put {h : List Ln} {g : Int} {k : Nat} (hg : (lat h k).g = g) : FG h g (k + 1) = fun y => if y = (lat h k).u then some (spotV h k) else FG h g k y := by
  funext y
  unfold FG kindIx
  rw [lastB]
  by_cases e : y = (lat h k).u
  · rw [if_pos (by simp only [decide_eq_true_eq]; exact ⟨hg, e.symm⟩), if_pos e]; rfl
  · rw [if_neg (by simp only [decide_eq_true_eq]; exact fun h => e h.2.symm), if_neg e]
theorem FG_same {h : List Ln} {g : Int} {k : Nat} (hg : (lat h k).g ≠ g) : FG h g (k + 1) = FG h g k := by
  funext y
  unfold FG kindIx
  rw [lastB, if_neg (by simp only [decide_eq_true_eq]; exact fun h => hg h.1)]
theorem kindIx_some {h : List Ln} {g u : Int} {k j : Nat} (hj : kindIx h g u k = some j) : j < k ∧ (lat h j).g = g ∧ (lat h j).u = u := by
  obtain ⟨h1, h2⟩ := lastB_lt hj
  exact ⟨h1, (of_decide_eq_true h2).1, (of_decide_eq_true h2).2⟩
theorem kindIx_none {h : List Ln} {g u : Int} {k : Nat} (hj : kindIx h g u k = none) : ∀ j, j < k → ¬ ((lat h j).g = g ∧ (lat h j).u = u) := fun j hjk => by
  have := lastB_none hj j hjk
  simpa using this
theorem kindIx_eq {h : List Ln} {g : Int} {k j : Nat} (hu : ∀ x y, x < y → y < k → (lat h x).g = g → (lat h y).g = g → (lat h x).u ≠ (lat h y).u) (hj : j < k) (hg : (lat h j).g = g) : kindIx h g (lat h j).u k = some j := by
  cases hx : kindIx h g (lat h j).u k with
  | none => exact absurd ⟨hg, rfl⟩ (kindIx_none hx j hj)
  | some i =>
    obtain ⟨h1, h2, h3⟩ := kindIx_some hx
    by_cases e : i = j
    · rw [e]
    · by_cases e2 : i < j
      · exact absurd h3 (hu i j e2 hj h2 hg)
      · exact absurd h3.symm (hu j i (by omega) h1 hg h2)
end Go
