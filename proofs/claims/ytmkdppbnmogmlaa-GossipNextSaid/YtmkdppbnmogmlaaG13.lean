import Derived.Test.YtmkdppbnmogmlaaG12
namespace Go.Proofs.Ytmkdppbnmogmlaa
open Go.RowKit
/-- Two nodes in memory. -/
structure Pair (w : World) (b off b0 b1 : Nat) (g h : Gs) : Prop where
  p0 : w.cell? ⟨b, off, none⟩ = some (.pointer (some ⟨b0, 0, none⟩))
  p1 : w.cell? ⟨b, off + 1, none⟩ = some (.pointer (some ⟨b1, 0, none⟩))
  g0 : GAt 55 w b0 g
  g1 : GAt 55 w b1 h
  ne : b0 ≠ b1
  n0 : b ≠ b0
  n1 : b ≠ b1
theorem Pair.keep {w w' : World} {b off b0 b1 : Nat} {g h : Gs} (p : Pair w b off b0 b1 g h) (k : Keep [] w w') : Pair w' b off b0 b1 g h :=
  ⟨k.cell p.p0 (by simp), k.cell p.p1 (by simp), p.g0.keep k (by simp), p.g1.keep k (by simp), p.ne, p.n0, p.n1⟩
theorem Pair.put0 {w w' : World} {b off b0 b1 : Nat} {g g' h : Gs} (p : Pair w b off b0 b1 g h) (k : Keep [b0] w w') (hg : GAt 55 w' b0 g') : Pair w' b off b0 b1 g' h :=
  ⟨k.cell p.p0 (by simpa using p.n0), k.cell p.p1 (by simpa using p.n0), hg, p.g1.keep k (by simpa using p.ne.symm), p.ne, p.n0, p.n1⟩
theorem Pair.put1 {w w' : World} {b off b0 b1 : Nat} {g h h' : Gs} (p : Pair w b off b0 b1 g h) (k : Keep [b1] w w') (hg : GAt 55 w' b1 h') : Pair w' b off b0 b1 g h' :=
  ⟨k.cell p.p0 (by simpa using p.n1), k.cell p.p1 (by simpa using p.n1), p.g0.keep k (by simpa using p.ne), hg, p.ne, p.n0, p.n1⟩
theorem Pair.ofNet {w : World} {a : Option Addr} {c lo : Nat} {bs : List Nat} {gs : List Gs} (h : NetAt w a 2 c bs gs lo) : ∃ b off b0 b1, a = some ⟨b, off, none⟩ ∧ Pair w b off b0 b1 (gat gs 0) (gat gs 1) ∧ lo ≤ b0 ∧ lo ≤ b1 := by
  obtain ⟨b, off, rfl, hc⟩ := h.p.cells (by omega)
  have hpa := (h.pa ⟨b, off, none⟩ rfl).2
  have m0 := h.mem (show 0 < 2 by omega)
  have m1 := h.mem (show 1 < 2 by omega)
  exact ⟨b, off, bs.getD 0 0, bs.getD 1 0, rfl, ⟨hc 0 (by omega), hc 1 (by omega), h.at_ 0 (by omega), h.at_ 1 (by omega), h.ne (by omega) (by omega) (by omega), fun e => hpa (by rw [show (⟨b, off, none⟩ : Addr).block = b from rfl, e]; exact m0), fun e => hpa (by rw [show (⟨b, off, none⟩ : Addr).block = b from rfl, e]; exact m1)⟩, h.lo _ m0, h.lo _ m1⟩
theorem tm100 {i : Nat} {B : Int} {g : Gs} (h : GOk i B g) : ∀ x, x < 9 → 0 ≤ g.ts.getD x 0 ∧ g.ts.getD x 0 ≤ 100 := fun x hx => ⟨(h.tm x hx).1, (h.tm x hx).2.1⟩
theorem LnsV.lit (w : World) (T : TypeId) (ls : List Ln) (n : Nat) (hn : ls.length = n) (hm : n ≤ maxLen) : LnsV (w.alloc (.cells (lanesC ls).toArray T)) (some ⟨w.heap.size, 0, none⟩) n n ls :=
  ⟨hn, Nat.le_refl _, hm, fun _ => ⟨w.heap.size, 0, rfl, fun j _ => by rw [cellAt (blk_new _ _), Nat.zero_add, List.getElem?_toArray]⟩⟩
theorem doubt_two {b : Nat} {g : Gs} {w : World} {k : Int} (h : GAt 55 w b g) (ht : Two 1 k 1 g) :
    Calls Try.prog 13 #[.pointer (some ⟨b, 0, none⟩), .int .i64 2] w fun e w' => e = .returned (.int .i64 0) ∧ Keep [b] w w' ∧ GAt 55 w' b (doubtG g 2) := by
  have hno : ¬ (((2 : Nat) : Int) = g.me ∨ (lat g.rs 2).u ≠ 1) := by rw [ht.ok.mine, ht.r2]; simp
  unfold doubtG
  rw [if_neg hno]
  exact (doubt_ok h (n := 2) (Lib.hid rfl) (by omega) (by omega) (by rw [ht.r2]; simp) (by rw [ht.ok.mine]; decide) (q := (lat g.rs 2).q) (t := (lat g.rs 2).g) (by rw [ht.r2])).mono fun e w' h => h
set_option maxRecDepth 100000 in
set_option maxHeartbeats 4000000 in
theorem gossipTurns_walk (x y : Int) (w : World) :
    Calls Try.prog 6 #[.int .i64 x, .int .i64 y] w fun e w' => e = .returned (.bool true) ∧ Keep [] w w' := by
  obtain ⟨q, hq, hq1⟩ := rest_nat x 20 (by omega)
  obtain ⟨r, hr, hr1⟩ := rest_nat y 5 (by omega)
  have HQ := Lib.hid hq
  have HR := Lib.hid hr
  have HN2 : Hid ((2 : Int) = ((2 : Nat) : Int)) := Lib.hid rfl
  clear hq hr
  go_enter Try.func6, Try.ntmps6
  go_wp2_with (first | (go_at_call 9; refine (begun_any _).mono ?_; rintro e w0 ⟨rfl, hk0⟩) | (go_at_call 10; (with_reducible refine (rest_at HQ (by omega) (by omega)).mono ?_); rintro e w' ⟨rfl, rfl⟩) | (go_at_call 11; refine (net_any HN2 _ (by omega) (by omega) (by omega) (by omega)).mono ?_; rintro e w1 ⟨a, c, bs, rfl, hk1, hnet⟩; obtain ⟨b, off, b0, b1, rfl, hp, hl0, hl1⟩ := Pair.ofNet hnet; have HP := Lib.hid hp; clear hnet hp) | (with_reducible refine Txt.wp_region_text mixed quiet (by decide +kernel) ?_) | (with_reducible refine Txt.text_done (by kernel_rfl) ?_))
  have hkw : Keep [] w w1 := hk0.call hk1 (by simp)
  have hf0 : ∀ z ∈ [b0], z ∈ ([] : List Nat) ∨ w.heap.size ≤ z := by have := hk0.size; intro z hz; simp at hz; omega
  have hf1 : ∀ z ∈ [b1], z ∈ ([] : List Nat) ∨ w.heap.size ≤ z := by have := hk0.size; intro z hz; simp at hz; omega
  have HF0 := Lib.hid hf0
  have HF1 := Lib.hid hf1
  clear hf0 hf1 hk0 hk1 hl0 hl1
  go_loopw [18] (fun i wr => ∃ (k : Nat) (g h : Gs), k ≤ q ∧ i = .int .i64 k ∧ Keep [] w wr ∧ Hid (Pair wr b off b0 b1 g h) ∧ Hid (Two 1 k 1 g) ∧ Hid (Two 2 k 1 h)) (fun i _ => q - (intOf i).toNat)
  case atStart => exact ⟨0, gat (starts 2 3) 0, gat (starts 2 3) 1, by omega, rfl, hkw, HP, two_start 0 (by omega), two_start 1 (by omega)⟩
  case round =>
    obtain ⟨k, g, h, hk, rfl, hkw1, HP1, HG, HH⟩ := hrel
    by_cases hlt : k < q
    · have hdec : decide ((k : Int) < (q : Int)) = true := by simp; omega
      have hp0 := HP1.out.p0
      have hp1 := HP1.out.p1
      go_wp2_with (first | (go_at_call 13; refine (doubt_two HP1.out.g0 HG.out).mono ?_; rintro e w2 ⟨rfl, hk2, hg2⟩; have HP2 := Lib.hid (HP1.out.put0 hk2 hg2); clear hg2) | (go_at_call 10; (with_reducible refine (rest_at HR (by omega) (by omega)).mono ?_); rintro e w' ⟨rfl, rfl⟩) | (with_reducible refine Txt.wp_region_text mixed quiet (by decide +kernel) ?_) | (with_reducible refine Txt.text_done (by kernel_rfl) ?_))
      have HG2 := Lib.hid (two_doubt HG.out)
      have hkw2 : Keep [] w w2 := hkw1.call hk2 HF0.out
      clear hp0 hp1 hk2 HP1 hkw1 HG
      generalize doubtG g 2 = g2 at *
      go_loopw [28] (fun i wr => ∃ (j : Nat) (g' : Gs) (u : Int), j ≤ r ∧ i = .int .i64 j ∧ Keep [] w wr ∧ Hid (Pair wr b off b0 b1 g' h) ∧ Hid (Two 1 k u g') ∧ Hid (u = 2 ∨ u = 3)) (fun i _ => r - (intOf i).toNat)
      case atStart => exact ⟨0, g2, 2, by omega, rfl, hkw2, HP2, HG2, .inl rfl⟩
      case round =>
        obtain ⟨j, g3, u, hj, rfl, hkw3, HP3, HG3, HU⟩ := hrel
        have hp0 := HP3.out.p0
        have hp1 := HP3.out.p1
        by_cases hlj : j < r
        · have HTK := Lib.hid (two_tick HG3.out HU.out)
          go_wp2_with (first | (go_at_call 12; refine (tick_any HP3.out.g0 (tm100 HG3.out.ok)).mono ?_; rintro e w4 ⟨rfl, hk4, hg4⟩; have HG4 := Lib.hid hg4; clear hg4) | (with_reducible refine Txt.wp_region_text mixed quiet (by decide +kernel) ?_) | (with_reducible refine Txt.text_done (by kernel_rfl) ?_))
          go_roundw
          case measure => simp [intOf]; omega
          case rel =>
            obtain ⟨u', hu', ht'⟩ := HTK.out
            exact ⟨j + 1, _, u', by omega, by go_num, hkw3.call hk4 HF0.out, Lib.hid (HP3.out.put0 hk4 HG4.out), Lib.hid ht', Lib.hid hu'⟩
        · have H5 := Lib.hid (two_hear HH.out HG3.out HU.out (by omega))
          have H6 := Lib.hid (two_end HG3.out H5.out (by omega))
          have HG0 := Lib.hid HP3.out.g0.drew
          have HR3 := Lib.hid (rows_ok HG3.out.ok)
          have HR5 := Lib.hid (rows_ok H5.out.ok)
          go_wp2_with (first | (with_reducible refine Txt.wp_region_text mixed quiet (by decide +kernel) ?_) | (with_reducible refine Txt.text_done (by kernel_rfl) ?_))
          go_region_held3 (fun w' => w'.cell? ⟨b, off, none⟩ = some (.pointer (some ⟨b0, 0, none⟩)) ∧ w'.cell? ⟨b, off + 1, none⟩ = some (.pointer (some ⟨b1, 0, none⟩))) (go_keep) (first | (go_at_call 15; (with_reducible refine (state_full HG0.out HG3.out.full (by omega)).mono ?_); rintro e w4 ⟨sa, sc, rfl, hk4d, hls, hsb⟩; have hk4 : Keep [] wr w4 := (by first | exact hk4d | exact (Keep.refl _ _).drew.trans hk4d); clear hk4d; have HP4 := Lib.hid (HP3.out.keep hk4); have HSB4 : Hid (∀ x, sa = some x → x.block ≠ b1) := Lib.hid (fun x hx => by have h9 : wr.heap.size ≤ x.block := hsb x hx; have := HP3.out.g1.lt; omega); have h40 := HP4.out.p0; have h41 := HP4.out.p1) | (go_at_call 18; (with_reducible refine (merge_any HP4.out.g1 hls HR3.out HSB4.out).mono ?_); rintro e w5 ⟨rfl, hk5, hg5⟩; have HP5 := Lib.hid (HP4.out.put1 hk5 hg5); have h50 := HP5.out.p0; have h51 := HP5.out.p1) | (go_at_call 15; (with_reducible refine (state_full HP5.out.g1 H5.out.full (by omega)).mono ?_); rintro e w6 ⟨sa6, sc6, rfl, hk6, hls6, hsb6⟩; have HP6 := Lib.hid (HP5.out.keep hk6); have HSB6 : Hid (∀ x, sa6 = some x → x.block ≠ b0) := Lib.hid (fun x hx => by have h9 : w5.heap.size ≤ x.block := hsb6 x hx; have := HP5.out.g0.lt; omega); have h60 := HP6.out.p0; have h61 := HP6.out.p1) | (go_at_call 18; (with_reducible refine (merge_any HP6.out.g0 hls6 HR5.out HSB6.out).mono ?_); rintro e w7 ⟨rfl, hk7, hg7⟩; have HP7 := Lib.hid (HP6.out.put0 hk7 hg7); have h70 := HP7.out.p0; have h71 := HP7.out.p1))
          have HST := Lib.hid (two_state H6.out)
          have hkw7 : Keep [] w w7 := (((hkw3.trans hk4).call hk5 HF1.out).trans hk6).call hk7 HF0.out
          clear hkw3 hk4 hk5 hk6 hk7 hp0 hp1 h40 h41 h50 h51 h60 h61 HP3 HP4 HP5 HP6 hls hls6 hsb hsb6 HSB4 HSB6
          go_wp2_with (first | (go_at_call 15; (with_reducible refine (state_full HP7.out.g0 H6.out.full (by omega)).mono ?_); rintro e w8 ⟨sa8, sc8, rfl, hk8, hls8, hsb8⟩; rw [HST.out] at hls8; have HLS8 := Lib.hid hls8; clear hls8) | (with_reducible refine Txt.wp_region_text mixed quiet (by decide +kernel) ?_) | (with_reducible refine Txt.text_done (by kernel_rfl) ?_) | (go_at_call 19; refine (equal_same (HLS8.out.keep ((Keep.refl [] _).alloc (.cells #[.int .i64 1, .int .i64 0, .int .i64 1, .int .i64 2, .int .i64 (k + 1), .int .i64 1] 39)) (by simp)) (LnsV.lit w8 39 [⟨1, 0, 1⟩, ⟨2, k + 1, 1⟩] 2 rfl (by decide))).mono ?_; rintro e w9 ⟨rfl, hk9⟩))
          go_roundw
          case measure => simp [intOf]; omega
          case rel =>
            have hk89 : Keep [] w7 w9 := Keep.trans (hk8.alloc _) hk9
            exact ⟨k + 1, _, _, by omega, by go_num, hkw7.trans hk89, Lib.hid (HP7.out.keep hk89), by have h9 := H6; rwa [show ((k + 1 : Nat) : Int) = (k : Int) + 1 by omega], by have h9 := H5; rwa [show ((k + 1 : Nat) : Int) = (k : Int) + 1 by omega]⟩
    · go_wp2_with fail
      go_ret
      exact ⟨rfl, hkw1⟩
end Go.Proofs.Ytmkdppbnmogmlaa
