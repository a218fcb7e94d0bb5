import Derived.Test.YtmkdppbnmogmlaaG14
import Derived.Test.YtmkdppbnmogmlaaGP9
namespace Go.Proofs.Ytmkdppbnmogmlaa
open Go.RowKit
theorem lives_one (q t : Int) (w : World) : Calls Try.prog 23 #[.agg #[.int .i64 q, .int .i64 t, .int .i64 1]] w fun e w' => e = .returned (.bool false) ∧ Keep [] w w' := by
  go_enter Try.func23, Try.ntmps23
  go_wp2_with (first | (with_reducible refine Txt.wp_region_text mixed quiet (by decide +kernel) ?_) | (with_reducible refine Txt.text_done (by kernel_rfl) ?_))
  go_ret
  exact ⟨rfl, by repeat (first | exact Keep.refl _ _ | apply Keep.drew | apply Keep.alloc)⟩
set_option maxHeartbeats 1000000 in
theorem index_none {a : Option Addr} {n c : Nat} {ls : List Ln} {w : World} (h : LnsV w a n c ls) (hu : ∀ l ∈ ls, l.u = 1) :
    Calls Try.prog 29 #[.slice a n c, .func (.func 23) #[] #[]] w fun e w' => e = .returned (.int .i64 (-1)) ∧ Keep [] w w' := by
  have hr := h.room
  have hm := h.most
  unfold maxLen at hm
  have HV := Lib.hid h
  have HU := Lib.hid hu
  clear h hu
  go_enter Try.func29, Try.ntmps29
  go_wp2_with fail
  go_loopw [8] (fun i wr => ∃ k : Nat, k ≤ n ∧ i = .int .i64 k ∧ Keep [] w wr) (fun i _ => n - (intOf i).toNat)
  case atStart => exact ⟨0, by omega, rfl, Keep.refl _ _⟩
  case round =>
    obtain ⟨k, hk, rfl, hkw⟩ := hrel
    by_cases hlt : k < n
    · obtain ⟨b, off, rfl, c0, c1, c2⟩ := (HV.out.keep hkw (by simp)).at_ hlt
      have hu1 := HU.out (lat ls k) (lat_mem (by rw [HV.out.len]; exact hlt))
      rw [hu1] at c2
      generalize (lat ls k).q = q at *
      generalize (lat ls k).g = t at *
      clear hu1
      go_wp2_with (first | (go_at_call 23; refine (lives_one _ _ _).mono ?_; rintro e w2 ⟨rfl, hk2⟩) | (with_reducible refine Txt.wp_region_text mixed quiet (by decide +kernel) ?_) | (with_reducible refine Txt.text_done (by kernel_rfl) ?_))
      go_roundw
      case rel => exact ⟨k + 1, by omega, by go_num, hkw.trans hk2⟩
      case measure => simp [intOf]; omega
    · go_wp2_with fail
      go_ret
      exact ⟨rfl, hkw⟩
theorem contains_none {a : Option Addr} {n c : Nat} {ls : List Ln} {w : World} (h : LnsV w a n c ls) (hu : ∀ l ∈ ls, l.u = 1) :
    Calls Try.prog 22 #[.slice a n c, .func (.func 23) #[] #[]] w fun e w' => e = .returned (.bool false) ∧ Keep [] w w' := by
  have HI := Lib.hid (index_none h hu)
  clear h hu
  go_enter Try.func22, Try.ntmps22
  go_wp2_with (first | (go_at_call 29; refine HI.out.mono ?_; rintro e w2 ⟨rfl, hk2⟩) | (with_reducible refine Txt.wp_region_text mixed quiet (by decide +kernel) ?_) | (with_reducible refine Txt.text_done (by kernel_rfl) ?_))
  go_ret
  exact ⟨rfl, hk2⟩
set_option maxRecDepth 100000 in
set_option maxHeartbeats 4000000 in
theorem gossipAgree_walk (pa : Option Addr) (len cap : Nat) (zs : List Int) (w : World) (hv : IntsV w pa len cap zs) :
    Calls Try.prog 8 #[.slice pa len cap] w fun e w' => e = .returned (.bool true) ∧ Keep [] w w' := by
  have HV := Lib.hid hv
  have HN4 : Hid ((4 : Int) = ((4 : Nat) : Int)) := Lib.hid rfl
  clear hv
  go_enter Try.func8, Try.ntmps8
  go_wp2_with (first | (go_at_call 9; refine (begun_any _).mono ?_; rintro e w0 ⟨rfl, hk0⟩) | (go_at_call 11; refine (net_any HN4 _ (by omega) (by omega) (by omega) (by omega)).mono ?_; rintro e w1 ⟨a, c, bs, rfl, hk1, hnet⟩; have HN := Lib.hid hnet; clear hnet; have HLO := Lib.hid HN.out.lo; have hkw1 : Keep [] w w1 := hk0.call hk1 (by simp); have HPB : Hid (0 < len → ∀ x, pa = some x → x.block ∉ bs) := Lib.hid (fun h0 x hx hm => by { have h1 := HLO.out _ hm; obtain ⟨b2, off2, he, hc2⟩ := HV.out.cells h0; have h2 := World.block_lt_of_cell? w _ (hc2 0 h0); have h3 := hk0.size; rw [hx] at he; cases he; dsimp only at h1 h2; omega })) | (go_at_call 16; refine (chatter_any HN.out (starts_net 4 3 (by omega) (by omega) (by omega)) (by omega) (by omega) (HV.out.keep hkw1 (by simp)) HPB.out).mono ?_; rintro e w2 ⟨rfl, hk2, hn2⟩; have HN2 := Lib.hid hn2; clear hn2) | (with_reducible refine Txt.wp_region_text mixed quiet (by decide +kernel) ?_) | (with_reducible refine Txt.text_done (by kernel_rfl) ?_))
  obtain ⟨b, off, rfl, _⟩ := HN.out.p.cells (by omega)
  have hkb : Keep [] w w2 := hkw1.call hk2 (fun x hx => .inr (by have := HLO.out x hx; have := hk0.size; omega))
  have HF : Hid (∀ x ∈ bs, x ∈ ([] : List Nat) ∨ w.heap.size ≤ x) := Lib.hid (fun x hx => .inr (by have := HLO.out x hx; have := hk0.size; omega))
  have HOKN := Lib.hid (chatL_ok (by omega) (zs.take 150) (starts_net 4 3 (by omega) (by omega) (by omega)) (by simp; omega))
  have hB : (0 : Int) + ((zs.take 150).length : Int) ≤ 150 := by simp; omega
  clear hk0 hk1 hk2 HN hkw1 HPB
  generalize chatL (starts 4 3) (zs.take 150) = gs0 at *
  generalize (0 : Int) + ((zs.take 150).length : Int) = B0 at *
  have HOK := Lib.hid (HOKN.out.more (B' := 150) hB (by omega))
  go_loopw [25] (fun i wr => ∃ (r : Nat) (gs : List Gs), r ≤ 3 ∧ i = .int .i64 r ∧ Keep [] w wr ∧ Hid (NetAt wr (some ⟨b, off, none⟩) 4 c bs gs w0.heap.size) ∧ Hid (Exch r 0 0 (150 + 16 * (r : Int)) gs)) (fun i _ => 3 - (intOf i).toNat)
  case atStart => exact ⟨0, gs0, by omega, rfl, hkb, HN2, exch_start HOK.out⟩
  case round =>
    obtain ⟨r, gs, hr, rfl, hkw, HN3, HE⟩ := hrel
    by_cases hlt : r < 3
    · have hdec : decide ((r : Int) < 3) = true := by simp; omega
      go_wp2_with fail
      go_loopw [29] (fun i wr => ∃ (k : Nat) (gs : List Gs), k ≤ 4 ∧ i = .int .i64 k ∧ Keep [] w wr ∧ Hid (NetAt wr (some ⟨b, off, none⟩) 4 c bs gs w0.heap.size) ∧ Hid (Exch r k 0 (150 + 16 * (r : Int) + 4 * (k : Int)) gs)) (fun i _ => 4 - (intOf i).toNat)
      case atStart => exact ⟨0, gs, by omega, rfl, hkw, HN3, Lib.hid (by have h9 := HE.out; rwa [show 150 + 16 * (r : Int) + 4 * ((0 : Nat) : Int) = 150 + 16 * (r : Int) by omega])⟩
      case round =>
        obtain ⟨k, gs1, hk, rfl, hkw1, HN4', HE1⟩ := hrel
        by_cases hlk : k < 4
        · have hdeck : decide ((k : Int) < 4) = true := by simp; omega
          obtain ⟨_, _, he1, hcs⟩ := HN4'.out.p.cells (by omega)
          cases he1
          have hck := hcs k hlk
          clear hcs
          obtain ⟨bk, hbk⟩ : ∃ bk, bs.getD k 0 = bk := ⟨_, rfl⟩
          rw [hbk] at hck
          have HBK := Lib.hid hbk
          clear hbk
          go_wp2_with fail
          go_loopw [35] (fun i wr => ∃ (j : Nat) (gs : List Gs), j ≤ 4 ∧ i = .int .i64 j ∧ Keep [] w wr ∧ Hid (NetAt wr (some ⟨b, off, none⟩) 4 c bs gs w0.heap.size) ∧ Hid (Exch r k j (150 + 16 * (r : Int) + 4 * (k : Int) + (j : Int)) gs)) (fun i _ => 4 - (intOf i).toNat)
          case atStart => exact ⟨0, gs1, by omega, rfl, hkw1, HN4', Lib.hid (by have h9 := HE1.out; rwa [show 150 + 16 * (r : Int) + 4 * (k : Int) + ((0 : Nat) : Int) = 150 + 16 * (r : Int) + 4 * (k : Int) by omega])⟩
          case round =>
            obtain ⟨j, gs2, hj, rfl, hkw2, HN5, HE2⟩ := hrel
            by_cases hlj : j < 4
            · obtain ⟨_, _, he1, hcs⟩ := HN5.out.p.cells (by omega)
              cases he1
              have hcj := hcs j hlj
              obtain ⟨bj, hbj⟩ : ∃ bj, bs.getD j 0 = bj := ⟨_, rfl⟩
              have hgj := HN5.out.at_ j hlj
              have hgk := HN5.out.at_ k hlk
              have hmk := HN5.out.mem hlk
              rw [HBK.out] at hgk hmk
              rw [hbj] at hcj hgj
              have HBJ := Lib.hid hbj
              have HGJ := Lib.hid hgj
              have HGK := Lib.hid hgk
              have HM := Lib.hid hmk
              have HOJ := Lib.hid (HE2.out.ok.ok j hlj)
              clear hcs hgj hgk hmk hbj hck
              go_wp2_with (first | (go_at_call 15; refine (state_full (by first | exact HGJ.out | exact HGJ.out.drew) HOJ.out.2 (by omega)).mono ?_; rintro e w5 ⟨sa, sc, rfl, hk5d, hls, hsb⟩; have hk5 : Keep [] wr w5 := (by first | exact hk5d | exact (Keep.refl _ _).drew.trans hk5d); clear hk5d; have HLS := Lib.hid hls; have HSB : Hid (∀ x, sa = some x → x.block ≠ bk) := Lib.hid (fun x hx => by have h9 : wr.heap.size ≤ x.block := hsb x hx; have := HGK.out.lt; omega); clear hls hsb) | (go_at_call 18; refine (merge_any (HGK.out.keep hk5 (by simp)) HLS.out (rows_ok HOJ.out.1) HSB.out).mono ?_; rintro e w6 ⟨rfl, hk6, hg6⟩; have HG6 := Lib.hid hg6; clear hg6) | (with_reducible refine Txt.wp_region_text mixed quiet (by decide +kernel) ?_) | (with_reducible refine Txt.text_done (by kernel_rfl) ?_))
              go_roundw
              case measure => simp [intOf]; omega
              case rel =>
                have hk56 : Keep [bk] wr w6 := (hk5.more (by simp)).trans hk6
                refine ⟨j + 1, mergeAt gs2 k j, by omega, by go_num, hkw2.call hk56 (fun x hx => by simp at hx; exact HF.out x (hx ▸ HM.out)), Lib.hid (HN5.out.put hlk (by rw [HBK.out]; exact hk56) (by rw [HBK.out]; exact HG6.out)), Lib.hid ?_⟩
                have h9 := exch_step HE2.out hlk hlj (by omega)
                rwa [show 150 + 16 * (r : Int) + 4 * (k : Int) + ((j + 1 : Nat) : Int) = 150 + 16 * (r : Int) + 4 * (k : Int) + (j : Int) + 1 by omega]
            · obtain rfl : j = 4 := by omega
              go_wp2_with fail
              go_roundw
              case measure => simp [intOf]; omega
              case rel => exact ⟨k + 1, gs2, by omega, by go_num, hkw2, HN5, Lib.hid (by have h9 := exch_j HE2.out; rwa [show 150 + 16 * (r : Int) + 4 * ((k + 1 : Nat) : Int) = 150 + 16 * (r : Int) + 4 * (k : Int) + ((4 : Nat) : Int) by omega])⟩
        · obtain rfl : k = 4 := by omega
          go_wp2_with fail
          go_roundw
          case measure => simp [intOf]; omega
          case rel => exact ⟨r + 1, gs1, by omega, by go_num, hkw1, HN4', Lib.hid (by have h9 := exch_i HE1.out; rwa [show 150 + 16 * ((r + 1 : Nat) : Int) = 150 + 16 * (r : Int) + 4 * ((4 : Nat) : Int) by omega])⟩
    · go_wp2_with fail
      obtain ⟨wo, rfl⟩ : ∃ wo : World, wo = wr := ⟨_, rfl⟩
      go_loopw [49] (fun i wr => ∃ k : Nat, k ≤ 4 ∧ i = .int .i64 k ∧ Keep [] wo wr) (fun i _ => 4 - (intOf i).toNat)
      case atStart => exact ⟨0, by omega, rfl, Keep.refl _ _⟩
      case round =>
        obtain ⟨k, hk, rfl, hko⟩ := hrel
        by_cases hlk : k < 4
        · have hnet := HN3.out.keep hko
          obtain ⟨_, _, he1, hcs⟩ := hnet.p.cells (by omega)
          cases he1
          have hck := hcs k hlk
          have hc0 := hcs 0 (by omega)
          rw [Nat.add_zero] at hc0
          have HGK := Lib.hid (hnet.at_ k hlk)
          have HG0 := Lib.hid (hnet.at_ 0 (by omega))
          have HOKK := Lib.hid (HE.out.ok.ok k hlk)
          have HOK0 := Lib.hid (HE.out.ok.ok 0 (by omega))
          have HSE := Lib.hid (exch_end HE.out (by omega) k hlk)
          generalize bs.getD k 0 = bk at *
          generalize hb0 : bs.getD 0 0 = b0 at *
          have HB0 := Lib.hid hb0
          clear hcs hnet hb0
          have tok1 : True := trivial
          go_wp2_with fail
          go_region_held3 (fun w' => w'.cell? ⟨b, off, none⟩ = some (.pointer (some ⟨b0, 0, none⟩))) (go_keep) (first | (go_at_call 15; have _t := tok1; refine (state_full (by first | exact HGK.out | exact HGK.out.drew) (HOKK.out.2) (by omega)).mono ?_; rintro e w5 ⟨sa5, sc5, rfl, hk5d, hls5, _⟩; have hk5 : Keep [] wr w5 := (by first | exact hk5d | exact (Keep.refl _ _).drew.trans hk5d); clear hk5d; have HLS5 := Lib.hid hls5; have hc05 := hk5.cell hc0 (by simp); have tok2 : True := trivial; clear tok1 _t hls5) | (go_at_call 15; have _t := tok2; refine (state_full (HG0.out.keep hk5 (by simp)) (HOK0.out.2) (by omega)).mono ?_; rintro e w6 ⟨sa6, sc6, rfl, hk6d, hls6, _⟩; have hk6 : Keep [] w5 w6 := (by first | exact hk6d | exact (Keep.refl _ _).drew.trans hk6d); clear hk6d; have HLS6 := Lib.hid hls6; have hc06 := hk6.cell hc05 (by simp); have tok3 : True := trivial; clear tok2 _t hls6) | (go_at_call 19; have _t := tok3; refine (equal_any' (HLS5.out.keep hk6 (by simp)) HLS6.out HSE.out.1).mono ?_; rintro e w7 ⟨rfl, hk7⟩; have hc07 := hk7.cell hc06 (by simp); have tok4 : True := trivial; clear tok3 _t) | (go_at_call 15; have _t := tok4; refine (state_full ((((HGK.out.keep hk5 (by simp)).keep hk6 (by simp)).keep hk7 (by simp))) (HOKK.out.2) (by omega)).mono ?_; rintro e w8 ⟨sa8, sc8, rfl, hk8d, hls8, _⟩; have hk8 : Keep [] w7 w8 := (by first | exact hk8d | exact (Keep.refl _ _).drew.trans hk8d); clear hk8d; have HLS8 := Lib.hid hls8; have hc08 := hk8.cell hc07 (by simp); have tok5 : True := trivial; clear tok4 _t hls8) | (go_at_call 22; have _t := tok5; refine (contains_none HLS8.out HSE.out.2).mono ?_; rintro e w9 ⟨rfl, hk9⟩; have hc09 := hk9.cell hc08 (by simp); clear tok5 _t))
          go_wp2_with fail
          go_roundw
          case measure => simp [intOf]; omega
          case rel => exact ⟨k + 1, by omega, by go_num, hko.trans ((((hk5.trans hk6).trans hk7).trans hk8).trans hk9)⟩
        · go_wp2_with fail
          go_ret
          exact ⟨rfl, hkw.trans hko⟩
end Go.Proofs.Ytmkdppbnmogmlaa
