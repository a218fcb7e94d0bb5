/- Texts laid together: L7a L7z. -/
import Derived.Test.YtfgipbjaaciiiaaMg4
namespace Go.Proofs.Ytfgipbjaaciiiaa
open Go.RowKit
set_option maxRecDepth 100000 in
set_option maxHeartbeats 2000000 in
theorem come15_an {w : World} {B b seq ack win : Nat} {has : Bool} {d : Bd} {E : En} {vo vi : Value} (h : EnAt w B b E vo vi) (hok : EnOk E) (hd : d.ok w) (hdl : d.bs.length ≤ 1000) (_hs : seq ≤ 1000000) (_ha : ack ≤ 1000000) (hwn : win ≤ 16)
    (hk : E.base < ack ∧ ack ≤ E.base + E.out.length) (hh : has = false) :
    Calls Try.prog 15 #[.pointer (some ⟨b, 0, none⟩), .agg #[.int .u32 seq, .int .u32 ack, .bool has, .int .i64 win, .slice d.a d.bs.length d.c]] w fun e w' => e = .returned (.int .i64 0) ∧ ComeTo w w' B b (gotE (ackE E ack win) has seq) d.bs vo vi := by
  have hE : ∀ y, gotE (ackE E ack win) has seq y = { E with out := E.out.drop (ack - E.base), base := ack, lim := win } := by
    intro y
    have hA : ackE E ack win = { E with out := E.out.drop (ack - E.base), base := ack, lim := win } := by unfold ackE; rw [if_pos hk]
    rw [hA]; unfold gotE
    rw [if_neg (by rw [hh]; decide)]
  have HE := Lib.hid hE
  clear hE
  have hin := h.out
  obtain ⟨a1, p1, rfl, hp1, hp2, -⟩ := ownAny h.out
  obtain ⟨a2, p2, rfl, hp3, hp4, -⟩ := ownAny h.inn
  have hlt := lt_of_blk h.blk
  have hl := hok.out
  have hl2 := hok.inn
  have hw := hok.win
  have hb := hok.base
  have hwt := hok.want
  have hli := hok.lim
  obtain ⟨g, c, he, hcl, hcm, hgl, hgz, cur, hgb, hgt, -⟩ := h.vo (by omega)
  have hag : a1 = some ⟨g, 0, none⟩ := by injection he
  have hpc : p1 = c := by injection he
  subst hag
  clear he hgz hcl hcm hpc
  have HGB := Lib.hid hgb
  have HGT := Lib.hid hgt
  clear hgb hgt
  have H := Lib.hid h
  have HD := Lib.hid hd
  have HNB : Hid (NoB [b] w) := Lib.hid (fun x hx cs f hc => by
    obtain rfl : x = b := by simpa using hx
    exact neType h.blk hc (by decide) rfl)
  unfold maxLen at hp2 hp4
  obtain ⟨c0, c1, c2, c3, c4, c5, c6, hz⟩ := row7 h.blk
  obtain ⟨L, hL⟩ : ∃ L, E.out.length = L := ⟨_, rfl⟩
  obtain ⟨M, hM⟩ : ∃ M, E.inn.length = M := ⟨_, rfl⟩
  obtain ⟨W, hW⟩ : ∃ W, E.win = W := ⟨_, rfl⟩
  obtain ⟨Z, hZ⟩ : ∃ Z, E.base = Z := ⟨_, rfl⟩
  obtain ⟨Y, hY⟩ : ∃ Y, E.want = Y := ⟨_, rfl⟩
  obtain ⟨I, hI⟩ : ∃ I, E.lim = I := ⟨_, rfl⟩
  obtain ⟨N, hN⟩ : ∃ N, d.bs.length = N := ⟨_, rfl⟩
  obtain ⟨D, hD⟩ : ∃ D, E.due = D := ⟨_, rfl⟩
  rw [hL] at c4 hl hp1
  rw [hM] at c5 hl2 hp3
  rw [hW] at c0 hw hl hl2
  rw [hZ] at c2 hb
  rw [hY] at c3 hwt
  rw [hI] at c1 hli
  rw [hD] at c6
  rw [hN] at hdl ⊢
  rw [hL, hZ] at hk
  have HL := Lib.hid hL
  have HM := Lib.hid hM
  have HW := Lib.hid hW
  have HZ := Lib.hid hZ
  have HY := Lib.hid hY
  have HI := Lib.hid hI
  have HN := Lib.hid hN
  have HD' := Lib.hid hD
  clear hin h hd hok hL hM hW hZ hY hI hN hD
  obtain ⟨k, hkk⟩ : ∃ k : Nat, ack = Z + k := ⟨ack - Z, by omega⟩
  subst hkk hh
  have hk1 : 1 ≤ k := by omega
  have hk2 : k ≤ L := by omega
  clear hk
  have HKL : Hid (k ≤ E.out.length) := Lib.hid (by rw [HL.out]; exact hk2)
  have HLK : Hid (E.out.length ≤ 1000) := Lib.hid (by rw [HL.out]; omega)
  have HNL : Hid (L - k = E.out.length - k) := Lib.hid (by rw [HL.out])
  have HGA : Hid (∀ o, ((w.alloc o).drew).heap[g]? = some (.cells cur 78 (0, 0))) := Lib.hid (fun o => (((Keep.refl [] w).alloc o).drew).at HGB.out (by simp))
  have HBX : Hid (∀ o, ((w.alloc o).drew).heap[w.heap.size]? = some o) := Lib.hid (fun o => blk_new w o)
  have HK0 : Hid (∀ o, Keep [] w ((w.alloc o).drew)) := Lib.hid (fun o => ((Keep.refl [] w).alloc o).drew)
  go_enter Try.func15, Try.ntmps15
  go_wp2_with (first | (with_reducible refine Txt.wp_region_text mixed quiet (by decide +kernel) ?_) | (with_reducible refine Txt.text_done (by kernel_rfl) ?_) | (go_at_call 40; (with_reducible refine (clone40_any (k := k) (l := E.out) (HGA.out _) HGT.out HKL.out HLK.out HNL.out (by first | exact .inl rfl | (right; omega))).mono ?_); rintro e w1 ⟨v1, rfl, hk1', ho1⟩; have hkw0 := (HK0.out _).trans hk1'; have hkw1 : Keep [b] w w1 := hkw0.more (by simp); have hb1 := hkw0.at H.out.blk (by simp); obtain ⟨d0, d1, d2, d3, d4, d5, d6, dz⟩ := row7 hb1; obtain ⟨a3, p3, rfl, -, -, -⟩ := ownAny ho1; have HB1 := Lib.hid hb1; have HO1 := Lib.hid ho1; have HKW0 := Lib.hid hkw0; have HK1 := Lib.hid hk1'; have hbx := hk1'.at (HBX.out _) (by simp); obtain ⟨x0, x1, x2, x3, x4, xz⟩ := row5 hbx; have HBX1 := Lib.hid hbx; clear hb1 ho1 hk1' hbx; rw [HW.out] at d0; rw [HI.out] at d1; rw [HZ.out] at d2; rw [HY.out] at d3; rw [HM.out] at d5))
  all_goals
    go_region
    go_wp2_with (first | (with_reducible refine Txt.wp_region_text mixed quiet (by decide +kernel) ?_) | (with_reducible refine Txt.text_done (by kernel_rfl) ?_) | (go_at_call 40; (with_reducible refine (clone40_any (k := k) (l := E.out) (HGA.out _) HGT.out HKL.out HLK.out HNL.out (by first | exact .inl rfl | (right; omega))).mono ?_); rintro e w1 ⟨v1, rfl, hk1', ho1⟩; have hkw0 := (HK0.out _).trans hk1'; have hkw1 : Keep [b] w w1 := hkw0.more (by simp); have hb1 := hkw0.at H.out.blk (by simp); obtain ⟨d0, d1, d2, d3, d4, d5, d6, dz⟩ := row7 hb1; obtain ⟨a3, p3, rfl, -, -, -⟩ := ownAny ho1; have HB1 := Lib.hid hb1; have HO1 := Lib.hid ho1; have HKW0 := Lib.hid hkw0; have HK1 := Lib.hid hk1'; have hbx := hk1'.at (HBX.out _) (by simp); obtain ⟨x0, x1, x2, x3, x4, xz⟩ := row5 hbx; have HBX1 := Lib.hid hbx; clear hb1 ho1 hk1' hbx; rw [HW.out] at d0; rw [HI.out] at d1; rw [HZ.out] at d2; rw [HY.out] at d3; rw [HM.out] at d5))
  all_goals
    go_ret
    refine ⟨rfl, ?_⟩
    refine ⟨(.slice a3 (L - k) p3), (.slice a2 E.inn.length p2), none, 0, fun x hx => (by cases hx), ?_⟩
    rw [HE.out]
    rw [HZ.out, Nat.add_sub_cancel_left]
    exact EnTo.head (H.out.dropTo (k := k) (HK0.out _) HK1.out (by rw [HL.out]; exact HO1.out)) (by repeat (first | exact Keep.refl _ _ | apply Keep.drew | refine Keep.setCell ?_ (.inl (by simp)) _)) rfl rfl (by simp [blk_setCell, HB1.out, HI.out])
set_option maxRecDepth 100000 in
set_option maxHeartbeats 2000000 in
theorem come15_as {w : World} {B b seq ack win : Nat} {has : Bool} {d : Bd} {E : En} {vo vi : Value} (h : EnAt w B b E vo vi) (hok : EnOk E) (hd : d.ok w) (hdl : d.bs.length ≤ 1000) (_hs : seq ≤ 1000000) (_ha : ack ≤ 1000000) (hwn : win ≤ 16)
    (hk : E.base < ack ∧ ack ≤ E.base + E.out.length) (hh : has = true) (hq : seq ≠ E.want) :
    Calls Try.prog 15 #[.pointer (some ⟨b, 0, none⟩), .agg #[.int .u32 seq, .int .u32 ack, .bool has, .int .i64 win, .slice d.a d.bs.length d.c]] w fun e w' => e = .returned (.int .i64 0) ∧ ComeTo w w' B b (gotE (ackE E ack win) has seq) d.bs vo vi := by
  have hE : ∀ y, gotE (ackE E ack win) has seq y = { E with out := E.out.drop (ack - E.base), base := ack, lim := win, due := true } := by
    intro y
    have hA : ackE E ack win = { E with out := E.out.drop (ack - E.base), base := ack, lim := win } := by unfold ackE; rw [if_pos hk]
    rw [hA]; unfold gotE
    rw [if_pos hh, if_neg (fun h => hq h.1)]
  have HE := Lib.hid hE
  clear hE
  have hin := h.out
  obtain ⟨a1, p1, rfl, hp1, hp2, -⟩ := ownAny h.out
  obtain ⟨a2, p2, rfl, hp3, hp4, -⟩ := ownAny h.inn
  have hlt := lt_of_blk h.blk
  have hl := hok.out
  have hl2 := hok.inn
  have hw := hok.win
  have hb := hok.base
  have hwt := hok.want
  have hli := hok.lim
  obtain ⟨g, c, he, hcl, hcm, hgl, hgz, cur, hgb, hgt, -⟩ := h.vo (by omega)
  have hag : a1 = some ⟨g, 0, none⟩ := by injection he
  have hpc : p1 = c := by injection he
  subst hag
  clear he hgz hcl hcm hpc
  have HGB := Lib.hid hgb
  have HGT := Lib.hid hgt
  clear hgb hgt
  have H := Lib.hid h
  have HD := Lib.hid hd
  have HNB : Hid (NoB [b] w) := Lib.hid (fun x hx cs f hc => by
    obtain rfl : x = b := by simpa using hx
    exact neType h.blk hc (by decide) rfl)
  unfold maxLen at hp2 hp4
  obtain ⟨c0, c1, c2, c3, c4, c5, c6, hz⟩ := row7 h.blk
  obtain ⟨L, hL⟩ : ∃ L, E.out.length = L := ⟨_, rfl⟩
  obtain ⟨M, hM⟩ : ∃ M, E.inn.length = M := ⟨_, rfl⟩
  obtain ⟨W, hW⟩ : ∃ W, E.win = W := ⟨_, rfl⟩
  obtain ⟨Z, hZ⟩ : ∃ Z, E.base = Z := ⟨_, rfl⟩
  obtain ⟨Y, hY⟩ : ∃ Y, E.want = Y := ⟨_, rfl⟩
  obtain ⟨I, hI⟩ : ∃ I, E.lim = I := ⟨_, rfl⟩
  obtain ⟨N, hN⟩ : ∃ N, d.bs.length = N := ⟨_, rfl⟩
  obtain ⟨D, hD⟩ : ∃ D, E.due = D := ⟨_, rfl⟩
  rw [hL] at c4 hl hp1
  rw [hM] at c5 hl2 hp3
  rw [hW] at c0 hw hl hl2
  rw [hZ] at c2 hb
  rw [hY] at c3 hwt
  rw [hI] at c1 hli
  rw [hD] at c6
  rw [hN] at hdl ⊢
  rw [hL, hZ] at hk
  rw [hY] at hq
  have HL := Lib.hid hL
  have HM := Lib.hid hM
  have HW := Lib.hid hW
  have HZ := Lib.hid hZ
  have HY := Lib.hid hY
  have HI := Lib.hid hI
  have HN := Lib.hid hN
  have HD' := Lib.hid hD
  clear hin h hd hok hL hM hW hZ hY hI hN hD
  obtain ⟨k, hkk⟩ : ∃ k : Nat, ack = Z + k := ⟨ack - Z, by omega⟩
  subst hkk hh
  have hk1 : 1 ≤ k := by omega
  have hk2 : k ≤ L := by omega
  clear hk
  have hqb : ((seq : Int) == (Y : Int)) = false := beq_eq_false_iff_ne.2 (by omega)
  have HKL : Hid (k ≤ E.out.length) := Lib.hid (by rw [HL.out]; exact hk2)
  have HLK : Hid (E.out.length ≤ 1000) := Lib.hid (by rw [HL.out]; omega)
  have HNL : Hid (L - k = E.out.length - k) := Lib.hid (by rw [HL.out])
  have HGA : Hid (∀ o, ((w.alloc o).drew).heap[g]? = some (.cells cur 78 (0, 0))) := Lib.hid (fun o => (((Keep.refl [] w).alloc o).drew).at HGB.out (by simp))
  have HBX : Hid (∀ o, ((w.alloc o).drew).heap[w.heap.size]? = some o) := Lib.hid (fun o => blk_new w o)
  have HK0 : Hid (∀ o, Keep [] w ((w.alloc o).drew)) := Lib.hid (fun o => ((Keep.refl [] w).alloc o).drew)
  go_enter Try.func15, Try.ntmps15
  go_wp2_with (first | (with_reducible refine Txt.wp_region_text mixed quiet (by decide +kernel) ?_) | (with_reducible refine Txt.text_done (by kernel_rfl) ?_) | (go_at_call 40; (with_reducible refine (clone40_any (k := k) (l := E.out) (HGA.out _) HGT.out HKL.out HLK.out HNL.out (by first | exact .inl rfl | (right; omega))).mono ?_); rintro e w1 ⟨v1, rfl, hk1', ho1⟩; have hkw0 := (HK0.out _).trans hk1'; have hkw1 : Keep [b] w w1 := hkw0.more (by simp); have hb1 := hkw0.at H.out.blk (by simp); obtain ⟨d0, d1, d2, d3, d4, d5, d6, dz⟩ := row7 hb1; obtain ⟨a3, p3, rfl, -, -, -⟩ := ownAny ho1; have HB1 := Lib.hid hb1; have HO1 := Lib.hid ho1; have HKW0 := Lib.hid hkw0; have HK1 := Lib.hid hk1'; have hbx := hk1'.at (HBX.out _) (by simp); obtain ⟨x0, x1, x2, x3, x4, xz⟩ := row5 hbx; have HBX1 := Lib.hid hbx; clear hb1 ho1 hk1' hbx; rw [HW.out] at d0; rw [HI.out] at d1; rw [HZ.out] at d2; rw [HY.out] at d3; rw [HM.out] at d5))
  all_goals
    go_region
    go_wp2_with (first | (with_reducible refine Txt.wp_region_text mixed quiet (by decide +kernel) ?_) | (with_reducible refine Txt.text_done (by kernel_rfl) ?_) | (go_at_call 40; (with_reducible refine (clone40_any (k := k) (l := E.out) (HGA.out _) HGT.out HKL.out HLK.out HNL.out (by first | exact .inl rfl | (right; omega))).mono ?_); rintro e w1 ⟨v1, rfl, hk1', ho1⟩; have hkw0 := (HK0.out _).trans hk1'; have hkw1 : Keep [b] w w1 := hkw0.more (by simp); have hb1 := hkw0.at H.out.blk (by simp); obtain ⟨d0, d1, d2, d3, d4, d5, d6, dz⟩ := row7 hb1; obtain ⟨a3, p3, rfl, -, -, -⟩ := ownAny ho1; have HB1 := Lib.hid hb1; have HO1 := Lib.hid ho1; have HKW0 := Lib.hid hkw0; have HK1 := Lib.hid hk1'; have hbx := hk1'.at (HBX.out _) (by simp); obtain ⟨x0, x1, x2, x3, x4, xz⟩ := row5 hbx; have HBX1 := Lib.hid hbx; clear hb1 ho1 hk1' hbx; rw [HW.out] at d0; rw [HI.out] at d1; rw [HZ.out] at d2; rw [HY.out] at d3; rw [HM.out] at d5))
  all_goals
    go_ret
    refine ⟨rfl, ?_⟩
    refine ⟨(.slice a3 (L - k) p3), (.slice a2 E.inn.length p2), none, 0, fun x hx => (by cases hx), ?_⟩
    rw [HE.out]
    rw [HZ.out, Nat.add_sub_cancel_left]
    exact EnTo.head (H.out.dropTo (k := k) (HK0.out _) HK1.out (by rw [HL.out]; exact HO1.out)) (by repeat (first | exact Keep.refl _ _ | apply Keep.drew | refine Keep.setCell ?_ (.inl (by simp)) _)) rfl rfl (by simp [blk_setCell, HB1.out, HI.out])
set_option maxRecDepth 100000 in
set_option maxHeartbeats 2000000 in
theorem come15_af {w : World} {B b seq ack win : Nat} {has : Bool} {d : Bd} {E : En} {vo vi : Value} (h : EnAt w B b E vo vi) (hok : EnOk E) (hd : d.ok w) (hdl : d.bs.length ≤ 1000) (_hs : seq ≤ 1000000) (_ha : ack ≤ 1000000) (hwn : win ≤ 16)
    (hk : E.base < ack ∧ ack ≤ E.base + E.out.length) (hh : has = true) (hq : seq = E.want) (hf : E.win ≤ E.inn.length) :
    Calls Try.prog 15 #[.pointer (some ⟨b, 0, none⟩), .agg #[.int .u32 seq, .int .u32 ack, .bool has, .int .i64 win, .slice d.a d.bs.length d.c]] w fun e w' => e = .returned (.int .i64 0) ∧ ComeTo w w' B b (gotE (ackE E ack win) has seq) d.bs vo vi := by
  have hE : ∀ y, gotE (ackE E ack win) has seq y = { E with out := E.out.drop (ack - E.base), base := ack, lim := win, due := true } := by
    intro y
    have hA : ackE E ack win = { E with out := E.out.drop (ack - E.base), base := ack, lim := win } := by unfold ackE; rw [if_pos hk]
    rw [hA]; unfold gotE
    rw [if_pos hh, if_neg (fun h => by have := h.2; (try dsimp only at this); omega)]
  have HE := Lib.hid hE
  clear hE
  have hin := h.out
  obtain ⟨a1, p1, rfl, hp1, hp2, -⟩ := ownAny h.out
  obtain ⟨a2, p2, rfl, hp3, hp4, -⟩ := ownAny h.inn
  have hlt := lt_of_blk h.blk
  have hl := hok.out
  have hl2 := hok.inn
  have hw := hok.win
  have hb := hok.base
  have hwt := hok.want
  have hli := hok.lim
  obtain ⟨g, c, he, hcl, hcm, hgl, hgz, cur, hgb, hgt, -⟩ := h.vo (by omega)
  have hag : a1 = some ⟨g, 0, none⟩ := by injection he
  have hpc : p1 = c := by injection he
  subst hag
  clear he hgz hcl hcm hpc
  have HGB := Lib.hid hgb
  have HGT := Lib.hid hgt
  clear hgb hgt
  have H := Lib.hid h
  have HD := Lib.hid hd
  have HNB : Hid (NoB [b] w) := Lib.hid (fun x hx cs f hc => by
    obtain rfl : x = b := by simpa using hx
    exact neType h.blk hc (by decide) rfl)
  unfold maxLen at hp2 hp4
  obtain ⟨c0, c1, c2, c3, c4, c5, c6, hz⟩ := row7 h.blk
  obtain ⟨L, hL⟩ : ∃ L, E.out.length = L := ⟨_, rfl⟩
  obtain ⟨M, hM⟩ : ∃ M, E.inn.length = M := ⟨_, rfl⟩
  obtain ⟨W, hW⟩ : ∃ W, E.win = W := ⟨_, rfl⟩
  obtain ⟨Z, hZ⟩ : ∃ Z, E.base = Z := ⟨_, rfl⟩
  obtain ⟨Y, hY⟩ : ∃ Y, E.want = Y := ⟨_, rfl⟩
  obtain ⟨I, hI⟩ : ∃ I, E.lim = I := ⟨_, rfl⟩
  obtain ⟨N, hN⟩ : ∃ N, d.bs.length = N := ⟨_, rfl⟩
  obtain ⟨D, hD⟩ : ∃ D, E.due = D := ⟨_, rfl⟩
  rw [hL] at c4 hl hp1
  rw [hM] at c5 hl2 hp3
  rw [hW] at c0 hw hl hl2
  rw [hZ] at c2 hb
  rw [hY] at c3 hwt
  rw [hI] at c1 hli
  rw [hD] at c6
  rw [hN] at hdl ⊢
  rw [hL, hZ] at hk
  rw [hY] at hq
  rw [hW, hM] at hf
  have HL := Lib.hid hL
  have HM := Lib.hid hM
  have HW := Lib.hid hW
  have HZ := Lib.hid hZ
  have HY := Lib.hid hY
  have HI := Lib.hid hI
  have HN := Lib.hid hN
  have HD' := Lib.hid hD
  clear hin h hd hok hL hM hW hZ hY hI hN hD
  obtain ⟨k, hkk⟩ : ∃ k : Nat, ack = Z + k := ⟨ack - Z, by omega⟩
  subst hkk hh
  have hk1 : 1 ≤ k := by omega
  have hk2 : k ≤ L := by omega
  clear hk
  subst hq
  have HKL : Hid (k ≤ E.out.length) := Lib.hid (by rw [HL.out]; exact hk2)
  have HLK : Hid (E.out.length ≤ 1000) := Lib.hid (by rw [HL.out]; omega)
  have HNL : Hid (L - k = E.out.length - k) := Lib.hid (by rw [HL.out])
  have HGA : Hid (∀ o, ((w.alloc o).drew).heap[g]? = some (.cells cur 78 (0, 0))) := Lib.hid (fun o => (((Keep.refl [] w).alloc o).drew).at HGB.out (by simp))
  have HBX : Hid (∀ o, ((w.alloc o).drew).heap[w.heap.size]? = some o) := Lib.hid (fun o => blk_new w o)
  have HK0 : Hid (∀ o, Keep [] w ((w.alloc o).drew)) := Lib.hid (fun o => ((Keep.refl [] w).alloc o).drew)
  go_enter Try.func15, Try.ntmps15
  go_wp2_with (first | (with_reducible refine Txt.wp_region_text mixed quiet (by decide +kernel) ?_) | (with_reducible refine Txt.text_done (by kernel_rfl) ?_) | (go_at_call 40; (with_reducible refine (clone40_any (k := k) (l := E.out) (HGA.out _) HGT.out HKL.out HLK.out HNL.out (by first | exact .inl rfl | (right; omega))).mono ?_); rintro e w1 ⟨v1, rfl, hk1', ho1⟩; have hkw0 := (HK0.out _).trans hk1'; have hkw1 : Keep [b] w w1 := hkw0.more (by simp); have hb1 := hkw0.at H.out.blk (by simp); obtain ⟨d0, d1, d2, d3, d4, d5, d6, dz⟩ := row7 hb1; obtain ⟨a3, p3, rfl, -, -, -⟩ := ownAny ho1; have HB1 := Lib.hid hb1; have HO1 := Lib.hid ho1; have HKW0 := Lib.hid hkw0; have HK1 := Lib.hid hk1'; have hbx := hk1'.at (HBX.out _) (by simp); obtain ⟨x0, x1, x2, x3, x4, xz⟩ := row5 hbx; have HBX1 := Lib.hid hbx; clear hb1 ho1 hk1' hbx; rw [HW.out] at d0; rw [HI.out] at d1; rw [HZ.out] at d2; rw [HY.out] at d3; rw [HM.out] at d5))
  all_goals
    go_region
    go_wp2_with (first | (with_reducible refine Txt.wp_region_text mixed quiet (by decide +kernel) ?_) | (with_reducible refine Txt.text_done (by kernel_rfl) ?_) | (go_at_call 40; (with_reducible refine (clone40_any (k := k) (l := E.out) (HGA.out _) HGT.out HKL.out HLK.out HNL.out (by first | exact .inl rfl | (right; omega))).mono ?_); rintro e w1 ⟨v1, rfl, hk1', ho1⟩; have hkw0 := (HK0.out _).trans hk1'; have hkw1 : Keep [b] w w1 := hkw0.more (by simp); have hb1 := hkw0.at H.out.blk (by simp); obtain ⟨d0, d1, d2, d3, d4, d5, d6, dz⟩ := row7 hb1; obtain ⟨a3, p3, rfl, -, -, -⟩ := ownAny ho1; have HB1 := Lib.hid hb1; have HO1 := Lib.hid ho1; have HKW0 := Lib.hid hkw0; have HK1 := Lib.hid hk1'; have hbx := hk1'.at (HBX.out _) (by simp); obtain ⟨x0, x1, x2, x3, x4, xz⟩ := row5 hbx; have HBX1 := Lib.hid hbx; clear hb1 ho1 hk1' hbx; rw [HW.out] at d0; rw [HI.out] at d1; rw [HZ.out] at d2; rw [HY.out] at d3; rw [HM.out] at d5))
  all_goals
    go_ret
    refine ⟨rfl, ?_⟩
    refine ⟨(.slice a3 (L - k) p3), (.slice a2 E.inn.length p2), none, 0, fun x hx => (by cases hx), ?_⟩
    rw [HE.out]
    rw [HZ.out, Nat.add_sub_cancel_left]
    exact EnTo.head (H.out.dropTo (k := k) (HK0.out _) HK1.out (by rw [HL.out]; exact HO1.out)) (by repeat (first | exact Keep.refl _ _ | apply Keep.drew | refine Keep.setCell ?_ (.inl (by simp)) _)) rfl rfl (by simp [blk_setCell, HB1.out, HI.out])
set_option maxRecDepth 100000 in
set_option maxHeartbeats 2000000 in
theorem come15_ay {w : World} {B b seq ack win : Nat} {has : Bool} {d : Bd} {E : En} {vo vi : Value} (h : EnAt w B b E vo vi) (hok : EnOk E) (hd : d.ok w) (hdl : d.bs.length ≤ 1000) (_hs : seq ≤ 1000000) (_ha : ack ≤ 1000000) (hwn : win ≤ 16)
    (hk : E.base < ack ∧ ack ≤ E.base + E.out.length) (hh : has = true) (hq : seq = E.want) (hf : E.inn.length < E.win) :
    Calls Try.prog 15 #[.pointer (some ⟨b, 0, none⟩), .agg #[.int .u32 seq, .int .u32 ack, .bool has, .int .i64 win, .slice d.a d.bs.length d.c]] w fun e w' => e = .returned (.int .i64 0) ∧ ComeTo w w' B b (gotE (ackE E ack win) has seq) d.bs vo vi := by
  have hE : ∀ y, gotE (ackE E ack win) has seq y = { E with out := E.out.drop (ack - E.base), base := ack, lim := win, due := true, inn := E.inn ++ [y], want := E.want + 1 } := by
    intro y
    have hA : ackE E ack win = { E with out := E.out.drop (ack - E.base), base := ack, lim := win } := by unfold ackE; rw [if_pos hk]
    rw [hA]; unfold gotE
    rw [if_pos hh, if_pos ⟨hq, hf⟩]
  have HE := Lib.hid hE
  clear hE
  have hin := h.out
  obtain ⟨a1, p1, rfl, hp1, hp2, -⟩ := ownAny h.out
  obtain ⟨a2, p2, rfl, hp3, hp4, -⟩ := ownAny h.inn
  have hlt := lt_of_blk h.blk
  have hl := hok.out
  have hl2 := hok.inn
  have hw := hok.win
  have hb := hok.base
  have hwt := hok.want
  have hli := hok.lim
  obtain ⟨g, c, he, hcl, hcm, hgl, hgz, cur, hgb, hgt, -⟩ := h.vo (by omega)
  have hag : a1 = some ⟨g, 0, none⟩ := by injection he
  have hpc : p1 = c := by injection he
  subst hag
  clear he hgz hcl hcm hpc
  have HGB := Lib.hid hgb
  have HGT := Lib.hid hgt
  clear hgb hgt
  have H := Lib.hid h
  have HD := Lib.hid hd
  have HNB : Hid (NoB [b] w) := Lib.hid (fun x hx cs f hc => by
    obtain rfl : x = b := by simpa using hx
    exact neType h.blk hc (by decide) rfl)
  unfold maxLen at hp2 hp4
  obtain ⟨c0, c1, c2, c3, c4, c5, c6, hz⟩ := row7 h.blk
  obtain ⟨L, hL⟩ : ∃ L, E.out.length = L := ⟨_, rfl⟩
  obtain ⟨M, hM⟩ : ∃ M, E.inn.length = M := ⟨_, rfl⟩
  obtain ⟨W, hW⟩ : ∃ W, E.win = W := ⟨_, rfl⟩
  obtain ⟨Z, hZ⟩ : ∃ Z, E.base = Z := ⟨_, rfl⟩
  obtain ⟨Y, hY⟩ : ∃ Y, E.want = Y := ⟨_, rfl⟩
  obtain ⟨I, hI⟩ : ∃ I, E.lim = I := ⟨_, rfl⟩
  obtain ⟨N, hN⟩ : ∃ N, d.bs.length = N := ⟨_, rfl⟩
  obtain ⟨D, hD⟩ : ∃ D, E.due = D := ⟨_, rfl⟩
  rw [hL] at c4 hl hp1
  rw [hM] at c5 hl2 hp3
  rw [hW] at c0 hw hl hl2
  rw [hZ] at c2 hb
  rw [hY] at c3 hwt
  rw [hI] at c1 hli
  rw [hD] at c6
  rw [hN] at hdl ⊢
  rw [hL, hZ] at hk
  rw [hY] at hq
  rw [hW, hM] at hf
  have HL := Lib.hid hL
  have HM := Lib.hid hM
  have HW := Lib.hid hW
  have HZ := Lib.hid hZ
  have HY := Lib.hid hY
  have HI := Lib.hid hI
  have HN := Lib.hid hN
  have HD' := Lib.hid hD
  clear hin h hd hok hL hM hW hZ hY hI hN hD
  obtain ⟨k, hkk⟩ : ∃ k : Nat, ack = Z + k := ⟨ack - Z, by omega⟩
  subst hkk hh
  have hk1 : 1 ≤ k := by omega
  have hk2 : k ≤ L := by omega
  clear hk
  subst hq
  have HKL : Hid (k ≤ E.out.length) := Lib.hid (by rw [HL.out]; exact hk2)
  have HLK : Hid (E.out.length ≤ 1000) := Lib.hid (by rw [HL.out]; omega)
  have HNL : Hid (L - k = E.out.length - k) := Lib.hid (by rw [HL.out])
  have HGA : Hid (∀ o, ((w.alloc o).drew).heap[g]? = some (.cells cur 78 (0, 0))) := Lib.hid (fun o => (((Keep.refl [] w).alloc o).drew).at HGB.out (by simp))
  have HBX : Hid (∀ o, ((w.alloc o).drew).heap[w.heap.size]? = some o) := Lib.hid (fun o => blk_new w o)
  have HK0 : Hid (∀ o, Keep [] w ((w.alloc o).drew)) := Lib.hid (fun o => ((Keep.refl [] w).alloc o).drew)
  obtain ⟨i0, hi0, hz0, hz1, hz2⟩ := info_parts2 info29
  have HB7 : Hid (M + 1 ≤ maxLen) := Lib.hid (by unfold maxLen; omega)
  have HB8 : Hid ((M + 1) * 24 ≤ 140737488355328) := Lib.hid (by omega)
  have HOB : Hid ((Value.slice a2 E.inn.length p2).ownBlock = (Value.slice a2 M p2).ownBlock) := Lib.hid (by cases a2 <;> rfl)
  go_enter Try.func15, Try.ntmps15
  go_wp2_with (first | (with_reducible refine Txt.wp_region_text mixed quiet (by decide +kernel) ?_) | (with_reducible refine Txt.text_done (by kernel_rfl) ?_) | (go_at_call 40; (with_reducible refine (clone40_any (k := k) (l := E.out) (HGA.out _) HGT.out HKL.out HLK.out HNL.out (by first | exact .inl rfl | (right; omega))).mono ?_); rintro e w1 ⟨v1, rfl, hk1', ho1⟩; have hkw0 := (HK0.out _).trans hk1'; have hkw1 : Keep [b] w w1 := hkw0.more (by simp); have hb1 := hkw0.at H.out.blk (by simp); obtain ⟨d0, d1, d2, d3, d4, d5, d6, dz⟩ := row7 hb1; obtain ⟨a3, p3, rfl, -, -, -⟩ := ownAny ho1; have HB1 := Lib.hid hb1; have HO1 := Lib.hid ho1; have HKW0 := Lib.hid hkw0; have HK1 := Lib.hid hk1'; have hbx := hk1'.at (HBX.out _) (by simp); obtain ⟨x0, x1, x2, x3, x4, xz⟩ := row5 hbx; have HBX1 := Lib.hid hbx; clear hb1 ho1 hk1' hbx; rw [HW.out] at d0; rw [HI.out] at d1; rw [HZ.out] at d2; rw [HY.out] at d3; rw [HM.out] at d5))
  all_goals
    go_region
    go_wp2_with (first | (with_reducible refine Txt.wp_region_text mixed quiet (by decide +kernel) ?_) | (with_reducible refine Txt.text_done (by kernel_rfl) ?_) | (go_at_call 40; (with_reducible refine (clone40_any (k := k) (l := E.out) (HGA.out _) HGT.out HKL.out HLK.out HNL.out (by first | exact .inl rfl | (right; omega))).mono ?_); rintro e w1 ⟨v1, rfl, hk1', ho1⟩; have hkw0 := (HK0.out _).trans hk1'; have hkw1 : Keep [b] w w1 := hkw0.more (by simp); have hb1 := hkw0.at H.out.blk (by simp); obtain ⟨d0, d1, d2, d3, d4, d5, d6, dz⟩ := row7 hb1; obtain ⟨a3, p3, rfl, -, -, -⟩ := ownAny ho1; have HB1 := Lib.hid hb1; have HO1 := Lib.hid ho1; have HKW0 := Lib.hid hkw0; have HK1 := Lib.hid hk1'; have hbx := hk1'.at (HBX.out _) (by simp); obtain ⟨x0, x1, x2, x3, x4, xz⟩ := row5 hbx; have HBX1 := Lib.hid hbx; clear hb1 ho1 hk1' hbx; rw [HW.out] at d0; rw [HI.out] at d1; rw [HZ.out] at d2; rw [HY.out] at d3; rw [HM.out] at d5))
  all_goals
    go_region_law (first | (refine step_append_lies _ rfl (.tmp 103) (.tmp 107) 37 rfl B 29 i0 (.slice none 0 0) 1 24 Try.underlying37 hi0 hz0 hz1 hz2 rfl (by decide) (.slice a2 M p2) M (E.inn.map Bd.val) (by simp [Act.eval]) HXD.out ⟨w2.heap.size, 0, none⟩ 1 1 [.slice a' N c'] (by simp [Act.eval]) rfl (cells_new w2 [.slice a' N c'] 29 (0, 0)) HOC.out (by decide) HB7.out HB8.out HB5.out _ rfl ?_; intro gz cz w6 hown6 hgr6 hat6 hlt6; have hk6 : Keep (Value.slice a2 M p2).ownBlock.toList (w2.alloc (.cells #[.slice a' N c'] 29)) w6 := Keep.ofGrown hgr6 (fun x hx => by simp [hx]); have hb6 := hk6.at HBQ.out (notIn_inn HEQ.out (fun g hg => .inl (by rw [HOB.out]; simpa using hg)) HBQ.out (by decide)); obtain ⟨m0, m1, m2, m3, m4, m5, m6, mz⟩ := row7 hb6; rw [HY.out] at m3; have HK6 := Lib.hid hk6; have HO6 := Lib.hid hown6; have HA6 := Lib.hid hat6; clear hk6 hb6 hown6 hgr6 hat6) | (go_simp; go_at_call 17; (with_reducible refine (clone17_k (S := [b]) HD.out (by (repeat (first | exact hkw1 | exact Keep.refl _ _ | apply Keep.drew | apply Keep.alloc | refine Keep.setCell ?_ (.inl (by simp)) _))) HNB.out HN.out hdl).mono ?_); rintro e w2 ⟨a', c', rfl, hk2, hok2, hfr2⟩; have HE2 := Lib.hid (EnTo.keep0 (EnTo.head (E' := { E with out := E.out.drop k, base := Z + k, lim := win, due := true }) (H.out.dropTo (k := k) (HK0.out _) HK1.out (by rw [HL.out]; exact HO1.out)) (by repeat (first | exact Keep.refl _ _ | apply Keep.drew | refine Keep.setCell ?_ (.inl (by simp)) _)) rfl rfl (by simp [blk_setCell, HB1.out, HI.out])) hk2); have hb2 := HE2.out.at_.blk; obtain ⟨f0, f1, f2, f3, f4, f5, f6, fz⟩ := row7 hb2; rw [HM.out] at f5; rw [HY.out] at f3; have hlt2 := lt_of_blk hb2; have HEQ := Lib.hid (HE2.out.at_.keep0 ((Keep.refl [] w2).alloc (.cells #[.slice a' N c'] 29))); have HBQ := Lib.hid HEQ.out.blk; have HXD : Hid ((w2.alloc (.cells #[.slice a' N c'] 29)).ownsRow B 29 1 (.slice a2 M p2) M (E.inn.map Bd.val)) := Lib.hid (by have h9 := HEQ.out.inn; dsimp only at h9; rw [HM.out] at h9; exact h9); have HOC : Hid (∀ v ∈ [Value.slice a' N c'], v.oneCell' = true) := Lib.hid (by intro v hv; simp at hv; subst hv; rfl); have HB5 : Hid (B ≤ (w2.alloc (.cells #[.slice a' N c'] 29)).heap.size) := Lib.hid (by have := HEQ.out.hB; have := lt_of_blk HEQ.out.blk; omega); have HOK2 := Lib.hid hok2; have HFR2 := Lib.hid hfr2; clear hb2 hk2 hok2 hfr2))
  all_goals
    go_wp2_with (first | (with_reducible refine Txt.wp_region_text mixed quiet (by decide +kernel) ?_) | (with_reducible refine Txt.text_done (by kernel_rfl) ?_))
    go_ret
    refine ⟨rfl, ?_⟩
    have hI9 := HEQ.out.newInn (S := (Value.slice a2 M p2).ownBlock.toList) (l := E.inn ++ [⟨a', c', d.bs⟩]) (vi' := .slice (some ⟨gz, 0, none⟩) (M + 1) cz) HK6.out (fun g hg => .inl (by rw [HOB.out]; simpa using hg)) (by rw [List.length_append, List.length_singleton, HM.out, List.map_append]; simp only [List.map_cons, List.map_nil, Bd.val]; rw [HN.out]; exact HO6.out) ?hbo ?hnw
    case hbo =>
      intro p hp
      have hkk := HK6.out
      have hNB6 : NoB (Value.slice a2 M p2).ownBlock.toList (w2.alloc (.cells #[.slice a' N c'] 29)) := fun g hg cs f hc => notIn_inn HEQ.out (S := [g]) (fun x hx => .inl (by rw [HOB.out]; simp at hx; subst hx; simpa using hg)) hc (by decide) (by simp)
      rcases List.mem_append.1 hp with hp | hp
      · exact (HEQ.out.bi p hp).keep hkk hNB6
      · obtain rfl := List.mem_singleton.1 hp
        exact (HOK2.out.keep ((Keep.refl [] w2).alloc _) (NoB.nil _)).keep hkk hNB6
    case hnw =>
      intro g hg
      rcases HA6.out with h9 | h9
      · left; rw [HOB.out, h9]; simpa [Value.ownBlock] using hg
      · right
        have h8 : gz = g := by simpa [Value.ownBlock] using hg
        rw [← h8, h9]
        exact Nat.le_refl _
    have hT := (HE2.out.keep0 ((Keep.refl [] w2).alloc _)).then hI9
    refine ⟨(.slice a3 (L - k) p3), (.slice (some ⟨gz, 0, none⟩) (M + 1) cz), a', c', HFR2.out, ?_⟩
    rw [HE.out]
    rw [HZ.out, Nat.add_sub_cancel_left]
    (first | (have hpk : p1 = k := (by omega); subst hpk) | skip)
    refine EnTo.head hT (by repeat (first | exact Keep.refl _ _ | apply Keep.drew | refine Keep.setCell ?_ (.inl (by simp)) _)) rfl rfl ?_
    simp [blk_setCell, hI9.at_.blk, HY.out]
end Go.Proofs.Ytfgipbjaaciiiaa
namespace Go.Proofs.Ytfgipbjaaciiiaa
open Go.RowKit
set_option maxRecDepth 100000 in
set_option maxHeartbeats 2000000 in
theorem come15_zn {w : World} {B b seq ack win : Nat} {has : Bool} {d : Bd} {E : En} {vo vi : Value} (h : EnAt w B b E vo vi) (hok : EnOk E) (hd : d.ok w) (hdl : d.bs.length ≤ 1000) (_hs : seq ≤ 1000000) (_ha : ack ≤ 1000000) (hwn : win ≤ 16)
    (hk : ack = E.base) (hh : has = false) :
    Calls Try.prog 15 #[.pointer (some ⟨b, 0, none⟩), .agg #[.int .u32 seq, .int .u32 ack, .bool has, .int .i64 win, .slice d.a d.bs.length d.c]] w fun e w' => e = .returned (.int .i64 0) ∧ ComeTo w w' B b (gotE (ackE E ack win) has seq) d.bs vo vi := by
  have hE : ∀ y, gotE (ackE E ack win) has seq y = { E with lim := max E.lim win } := by
    intro y
    have hA : ackE E ack win = { E with lim := max E.lim win } := by unfold ackE; rw [if_neg (by omega), if_pos hk]
    rw [hA]; unfold gotE
    rw [if_neg (by rw [hh]; decide)]
  have HE := Lib.hid hE
  clear hE
  have hin := h.out
  obtain ⟨a1, p1, rfl, hp1, hp2, -⟩ := ownAny h.out
  obtain ⟨a2, p2, rfl, hp3, hp4, -⟩ := ownAny h.inn
  have hlt := lt_of_blk h.blk
  have hl := hok.out
  have hl2 := hok.inn
  have hw := hok.win
  have hb := hok.base
  have hwt := hok.want
  have hli := hok.lim
  have H := Lib.hid h
  have HD := Lib.hid hd
  have HNB : Hid (NoB [b] w) := Lib.hid (fun x hx cs f hc => by
    obtain rfl : x = b := by simpa using hx
    exact neType h.blk hc (by decide) rfl)
  unfold maxLen at hp2 hp4
  obtain ⟨c0, c1, c2, c3, c4, c5, c6, hz⟩ := row7 h.blk
  obtain ⟨L, hL⟩ : ∃ L, E.out.length = L := ⟨_, rfl⟩
  obtain ⟨M, hM⟩ : ∃ M, E.inn.length = M := ⟨_, rfl⟩
  obtain ⟨W, hW⟩ : ∃ W, E.win = W := ⟨_, rfl⟩
  obtain ⟨Z, hZ⟩ : ∃ Z, E.base = Z := ⟨_, rfl⟩
  obtain ⟨Y, hY⟩ : ∃ Y, E.want = Y := ⟨_, rfl⟩
  obtain ⟨I, hI⟩ : ∃ I, E.lim = I := ⟨_, rfl⟩
  obtain ⟨N, hN⟩ : ∃ N, d.bs.length = N := ⟨_, rfl⟩
  obtain ⟨D, hD⟩ : ∃ D, E.due = D := ⟨_, rfl⟩
  rw [hL] at c4 hl hp1
  rw [hM] at c5 hl2 hp3
  rw [hW] at c0 hw hl hl2
  rw [hZ] at c2 hb
  rw [hY] at c3 hwt
  rw [hI] at c1 hli
  rw [hD] at c6
  rw [hN] at hdl ⊢
  rw [hZ] at hk
  have HL := Lib.hid hL
  have HM := Lib.hid hM
  have HW := Lib.hid hW
  have HZ := Lib.hid hZ
  have HY := Lib.hid hY
  have HI := Lib.hid hI
  have HN := Lib.hid hN
  have HD' := Lib.hid hD
  clear hin h hd hok hL hM hW hZ hY hI hN hD
  subst hk hh
  have HBL := Lib.hid H.out.blk
  have HNE : Hid (¬ b = w.heap.size) := Lib.hid (by omega)
  have HMX : Hid (((max I win : Nat) : Int) = max (I : Int) (win : Int)) := Lib.hid (by omega)
  go_enter Try.func15, Try.ntmps15
  go_wp2_with (first | (with_reducible refine Txt.wp_region_text mixed quiet (by decide +kernel) ?_) | (with_reducible refine Txt.text_done (by kernel_rfl) ?_))
  all_goals
    go_ret
    refine ⟨rfl, ?_⟩
    refine ⟨(.slice a1 E.out.length p1), (.slice a2 E.inn.length p2), none, 0, fun x hx => (by cases hx), ?_⟩
    rw [HE.out]
    exact EnTo.head H.out.to (by repeat (first | exact Keep.refl _ _ | apply Keep.drew | apply Keep.alloc | refine Keep.setCell ?_ (.inl (by simp)) _)) rfl rfl (by simp [blk_setCell, blk_alloc, HBL.out, HI.out, HNE.out, HMX.out])
set_option maxRecDepth 100000 in
set_option maxHeartbeats 2000000 in
theorem come15_zs {w : World} {B b seq ack win : Nat} {has : Bool} {d : Bd} {E : En} {vo vi : Value} (h : EnAt w B b E vo vi) (hok : EnOk E) (hd : d.ok w) (hdl : d.bs.length ≤ 1000) (_hs : seq ≤ 1000000) (_ha : ack ≤ 1000000) (hwn : win ≤ 16)
    (hk : ack = E.base) (hh : has = true) (hq : seq ≠ E.want) :
    Calls Try.prog 15 #[.pointer (some ⟨b, 0, none⟩), .agg #[.int .u32 seq, .int .u32 ack, .bool has, .int .i64 win, .slice d.a d.bs.length d.c]] w fun e w' => e = .returned (.int .i64 0) ∧ ComeTo w w' B b (gotE (ackE E ack win) has seq) d.bs vo vi := by
  have hE : ∀ y, gotE (ackE E ack win) has seq y = { E with lim := max E.lim win, due := true } := by
    intro y
    have hA : ackE E ack win = { E with lim := max E.lim win } := by unfold ackE; rw [if_neg (by omega), if_pos hk]
    rw [hA]; unfold gotE
    rw [if_pos hh, if_neg (fun h => hq h.1)]
  have HE := Lib.hid hE
  clear hE
  have hin := h.out
  obtain ⟨a1, p1, rfl, hp1, hp2, -⟩ := ownAny h.out
  obtain ⟨a2, p2, rfl, hp3, hp4, -⟩ := ownAny h.inn
  have hlt := lt_of_blk h.blk
  have hl := hok.out
  have hl2 := hok.inn
  have hw := hok.win
  have hb := hok.base
  have hwt := hok.want
  have hli := hok.lim
  have H := Lib.hid h
  have HD := Lib.hid hd
  have HNB : Hid (NoB [b] w) := Lib.hid (fun x hx cs f hc => by
    obtain rfl : x = b := by simpa using hx
    exact neType h.blk hc (by decide) rfl)
  unfold maxLen at hp2 hp4
  obtain ⟨c0, c1, c2, c3, c4, c5, c6, hz⟩ := row7 h.blk
  obtain ⟨L, hL⟩ : ∃ L, E.out.length = L := ⟨_, rfl⟩
  obtain ⟨M, hM⟩ : ∃ M, E.inn.length = M := ⟨_, rfl⟩
  obtain ⟨W, hW⟩ : ∃ W, E.win = W := ⟨_, rfl⟩
  obtain ⟨Z, hZ⟩ : ∃ Z, E.base = Z := ⟨_, rfl⟩
  obtain ⟨Y, hY⟩ : ∃ Y, E.want = Y := ⟨_, rfl⟩
  obtain ⟨I, hI⟩ : ∃ I, E.lim = I := ⟨_, rfl⟩
  obtain ⟨N, hN⟩ : ∃ N, d.bs.length = N := ⟨_, rfl⟩
  obtain ⟨D, hD⟩ : ∃ D, E.due = D := ⟨_, rfl⟩
  rw [hL] at c4 hl hp1
  rw [hM] at c5 hl2 hp3
  rw [hW] at c0 hw hl hl2
  rw [hZ] at c2 hb
  rw [hY] at c3 hwt
  rw [hI] at c1 hli
  rw [hD] at c6
  rw [hN] at hdl ⊢
  rw [hZ] at hk
  rw [hY] at hq
  have HL := Lib.hid hL
  have HM := Lib.hid hM
  have HW := Lib.hid hW
  have HZ := Lib.hid hZ
  have HY := Lib.hid hY
  have HI := Lib.hid hI
  have HN := Lib.hid hN
  have HD' := Lib.hid hD
  clear hin h hd hok hL hM hW hZ hY hI hN hD
  subst hk hh
  have hqb : ((seq : Int) == (Y : Int)) = false := beq_eq_false_iff_ne.2 (by omega)
  have HBL := Lib.hid H.out.blk
  have HNE : Hid (¬ b = w.heap.size) := Lib.hid (by omega)
  have HMX : Hid (((max I win : Nat) : Int) = max (I : Int) (win : Int)) := Lib.hid (by omega)
  go_enter Try.func15, Try.ntmps15
  go_wp2_with (first | (with_reducible refine Txt.wp_region_text mixed quiet (by decide +kernel) ?_) | (with_reducible refine Txt.text_done (by kernel_rfl) ?_))
  all_goals
    go_ret
    refine ⟨rfl, ?_⟩
    refine ⟨(.slice a1 E.out.length p1), (.slice a2 E.inn.length p2), none, 0, fun x hx => (by cases hx), ?_⟩
    rw [HE.out]
    exact EnTo.head H.out.to (by repeat (first | exact Keep.refl _ _ | apply Keep.drew | apply Keep.alloc | refine Keep.setCell ?_ (.inl (by simp)) _)) rfl rfl (by simp [blk_setCell, blk_alloc, HBL.out, HI.out, HNE.out, HMX.out])
set_option maxRecDepth 100000 in
set_option maxHeartbeats 2000000 in
theorem come15_zf {w : World} {B b seq ack win : Nat} {has : Bool} {d : Bd} {E : En} {vo vi : Value} (h : EnAt w B b E vo vi) (hok : EnOk E) (hd : d.ok w) (hdl : d.bs.length ≤ 1000) (_hs : seq ≤ 1000000) (_ha : ack ≤ 1000000) (hwn : win ≤ 16)
    (hk : ack = E.base) (hh : has = true) (hq : seq = E.want) (hf : E.win ≤ E.inn.length) :
    Calls Try.prog 15 #[.pointer (some ⟨b, 0, none⟩), .agg #[.int .u32 seq, .int .u32 ack, .bool has, .int .i64 win, .slice d.a d.bs.length d.c]] w fun e w' => e = .returned (.int .i64 0) ∧ ComeTo w w' B b (gotE (ackE E ack win) has seq) d.bs vo vi := by
  have hE : ∀ y, gotE (ackE E ack win) has seq y = { E with lim := max E.lim win, due := true } := by
    intro y
    have hA : ackE E ack win = { E with lim := max E.lim win } := by unfold ackE; rw [if_neg (by omega), if_pos hk]
    rw [hA]; unfold gotE
    rw [if_pos hh, if_neg (fun h => by have := h.2; (try dsimp only at this); omega)]
  have HE := Lib.hid hE
  clear hE
  have hin := h.out
  obtain ⟨a1, p1, rfl, hp1, hp2, -⟩ := ownAny h.out
  obtain ⟨a2, p2, rfl, hp3, hp4, -⟩ := ownAny h.inn
  have hlt := lt_of_blk h.blk
  have hl := hok.out
  have hl2 := hok.inn
  have hw := hok.win
  have hb := hok.base
  have hwt := hok.want
  have hli := hok.lim
  have H := Lib.hid h
  have HD := Lib.hid hd
  have HNB : Hid (NoB [b] w) := Lib.hid (fun x hx cs f hc => by
    obtain rfl : x = b := by simpa using hx
    exact neType h.blk hc (by decide) rfl)
  unfold maxLen at hp2 hp4
  obtain ⟨c0, c1, c2, c3, c4, c5, c6, hz⟩ := row7 h.blk
  obtain ⟨L, hL⟩ : ∃ L, E.out.length = L := ⟨_, rfl⟩
  obtain ⟨M, hM⟩ : ∃ M, E.inn.length = M := ⟨_, rfl⟩
  obtain ⟨W, hW⟩ : ∃ W, E.win = W := ⟨_, rfl⟩
  obtain ⟨Z, hZ⟩ : ∃ Z, E.base = Z := ⟨_, rfl⟩
  obtain ⟨Y, hY⟩ : ∃ Y, E.want = Y := ⟨_, rfl⟩
  obtain ⟨I, hI⟩ : ∃ I, E.lim = I := ⟨_, rfl⟩
  obtain ⟨N, hN⟩ : ∃ N, d.bs.length = N := ⟨_, rfl⟩
  obtain ⟨D, hD⟩ : ∃ D, E.due = D := ⟨_, rfl⟩
  rw [hL] at c4 hl hp1
  rw [hM] at c5 hl2 hp3
  rw [hW] at c0 hw hl hl2
  rw [hZ] at c2 hb
  rw [hY] at c3 hwt
  rw [hI] at c1 hli
  rw [hD] at c6
  rw [hN] at hdl ⊢
  rw [hZ] at hk
  rw [hY] at hq
  rw [hW, hM] at hf
  have HL := Lib.hid hL
  have HM := Lib.hid hM
  have HW := Lib.hid hW
  have HZ := Lib.hid hZ
  have HY := Lib.hid hY
  have HI := Lib.hid hI
  have HN := Lib.hid hN
  have HD' := Lib.hid hD
  clear hin h hd hok hL hM hW hZ hY hI hN hD
  subst hk hh
  subst hq
  have HBL := Lib.hid H.out.blk
  have HNE : Hid (¬ b = w.heap.size) := Lib.hid (by omega)
  have HMX : Hid (((max I win : Nat) : Int) = max (I : Int) (win : Int)) := Lib.hid (by omega)
  go_enter Try.func15, Try.ntmps15
  go_wp2_with (first | (with_reducible refine Txt.wp_region_text mixed quiet (by decide +kernel) ?_) | (with_reducible refine Txt.text_done (by kernel_rfl) ?_))
  all_goals
    go_ret
    refine ⟨rfl, ?_⟩
    refine ⟨(.slice a1 E.out.length p1), (.slice a2 E.inn.length p2), none, 0, fun x hx => (by cases hx), ?_⟩
    rw [HE.out]
    exact EnTo.head H.out.to (by repeat (first | exact Keep.refl _ _ | apply Keep.drew | apply Keep.alloc | refine Keep.setCell ?_ (.inl (by simp)) _)) rfl rfl (by simp [blk_setCell, blk_alloc, HBL.out, HI.out, HNE.out, HMX.out])
set_option maxRecDepth 100000 in
set_option maxHeartbeats 2000000 in
theorem come15_zy {w : World} {B b seq ack win : Nat} {has : Bool} {d : Bd} {E : En} {vo vi : Value} (h : EnAt w B b E vo vi) (hok : EnOk E) (hd : d.ok w) (hdl : d.bs.length ≤ 1000) (_hs : seq ≤ 1000000) (_ha : ack ≤ 1000000) (hwn : win ≤ 16)
    (hk : ack = E.base) (hh : has = true) (hq : seq = E.want) (hf : E.inn.length < E.win) :
    Calls Try.prog 15 #[.pointer (some ⟨b, 0, none⟩), .agg #[.int .u32 seq, .int .u32 ack, .bool has, .int .i64 win, .slice d.a d.bs.length d.c]] w fun e w' => e = .returned (.int .i64 0) ∧ ComeTo w w' B b (gotE (ackE E ack win) has seq) d.bs vo vi := by
  have hE : ∀ y, gotE (ackE E ack win) has seq y = { E with lim := max E.lim win, due := true, inn := E.inn ++ [y], want := E.want + 1 } := by
    intro y
    have hA : ackE E ack win = { E with lim := max E.lim win } := by unfold ackE; rw [if_neg (by omega), if_pos hk]
    rw [hA]; unfold gotE
    rw [if_pos hh, if_pos ⟨hq, hf⟩]
  have HE := Lib.hid hE
  clear hE
  have hin := h.out
  obtain ⟨a1, p1, rfl, hp1, hp2, -⟩ := ownAny h.out
  obtain ⟨a2, p2, rfl, hp3, hp4, -⟩ := ownAny h.inn
  have hlt := lt_of_blk h.blk
  have hl := hok.out
  have hl2 := hok.inn
  have hw := hok.win
  have hb := hok.base
  have hwt := hok.want
  have hli := hok.lim
  have H := Lib.hid h
  have HD := Lib.hid hd
  have HNB : Hid (NoB [b] w) := Lib.hid (fun x hx cs f hc => by
    obtain rfl : x = b := by simpa using hx
    exact neType h.blk hc (by decide) rfl)
  unfold maxLen at hp2 hp4
  obtain ⟨c0, c1, c2, c3, c4, c5, c6, hz⟩ := row7 h.blk
  obtain ⟨L, hL⟩ : ∃ L, E.out.length = L := ⟨_, rfl⟩
  obtain ⟨M, hM⟩ : ∃ M, E.inn.length = M := ⟨_, rfl⟩
  obtain ⟨W, hW⟩ : ∃ W, E.win = W := ⟨_, rfl⟩
  obtain ⟨Z, hZ⟩ : ∃ Z, E.base = Z := ⟨_, rfl⟩
  obtain ⟨Y, hY⟩ : ∃ Y, E.want = Y := ⟨_, rfl⟩
  obtain ⟨I, hI⟩ : ∃ I, E.lim = I := ⟨_, rfl⟩
  obtain ⟨N, hN⟩ : ∃ N, d.bs.length = N := ⟨_, rfl⟩
  obtain ⟨D, hD⟩ : ∃ D, E.due = D := ⟨_, rfl⟩
  rw [hL] at c4 hl hp1
  rw [hM] at c5 hl2 hp3
  rw [hW] at c0 hw hl hl2
  rw [hZ] at c2 hb
  rw [hY] at c3 hwt
  rw [hI] at c1 hli
  rw [hD] at c6
  rw [hN] at hdl ⊢
  rw [hZ] at hk
  rw [hY] at hq
  rw [hW, hM] at hf
  have HL := Lib.hid hL
  have HM := Lib.hid hM
  have HW := Lib.hid hW
  have HZ := Lib.hid hZ
  have HY := Lib.hid hY
  have HI := Lib.hid hI
  have HN := Lib.hid hN
  have HD' := Lib.hid hD
  clear hin h hd hok hL hM hW hZ hY hI hN hD
  subst hk hh
  subst hq
  have HBL := Lib.hid H.out.blk
  have HNE : Hid (¬ b = w.heap.size) := Lib.hid (by omega)
  have HMX : Hid (((max I win : Nat) : Int) = max (I : Int) (win : Int)) := Lib.hid (by omega)
  obtain ⟨i0, hi0, hz0, hz1, hz2⟩ := info_parts2 info29
  have HB7 : Hid (M + 1 ≤ maxLen) := Lib.hid (by unfold maxLen; omega)
  have HB8 : Hid ((M + 1) * 24 ≤ 140737488355328) := Lib.hid (by omega)
  have HOB : Hid ((Value.slice a2 E.inn.length p2).ownBlock = (Value.slice a2 M p2).ownBlock) := Lib.hid (by cases a2 <;> rfl)
  go_enter Try.func15, Try.ntmps15
  go_wp2_with (first | (with_reducible refine Txt.wp_region_text mixed quiet (by decide +kernel) ?_) | (with_reducible refine Txt.text_done (by kernel_rfl) ?_))
  all_goals
    go_region_law (first | (refine step_append_lies _ rfl (.tmp 103) (.tmp 107) 37 rfl B 29 i0 (.slice none 0 0) 1 24 Try.underlying37 hi0 hz0 hz1 hz2 rfl (by decide) (.slice a2 M p2) M (E.inn.map Bd.val) (by simp [Act.eval]) HXD.out ⟨w2.heap.size, 0, none⟩ 1 1 [.slice a' N c'] (by simp [Act.eval]) rfl (cells_new w2 [.slice a' N c'] 29 (0, 0)) HOC.out (by decide) HB7.out HB8.out HB5.out _ rfl ?_; intro gz cz w6 hown6 hgr6 hat6 hlt6; have hk6 : Keep (Value.slice a2 M p2).ownBlock.toList (w2.alloc (.cells #[.slice a' N c'] 29)) w6 := Keep.ofGrown hgr6 (fun x hx => by simp [hx]); have hb6 := hk6.at HBQ.out (notIn_inn HEQ.out (fun g hg => .inl (by rw [HOB.out]; simpa using hg)) HBQ.out (by decide)); obtain ⟨m0, m1, m2, m3, m4, m5, m6, mz⟩ := row7 hb6; rw [HY.out] at m3; have HK6 := Lib.hid hk6; have HO6 := Lib.hid hown6; have HA6 := Lib.hid hat6; clear hk6 hb6 hown6 hgr6 hat6) | (go_simp; go_at_call 17; (with_reducible refine (clone17_k (S := [b]) HD.out (by (repeat (first | exact hkw1 | exact Keep.refl _ _ | apply Keep.drew | apply Keep.alloc | refine Keep.setCell ?_ (.inl (by simp)) _))) HNB.out HN.out hdl).mono ?_); rintro e w2 ⟨a', c', rfl, hk2, hok2, hfr2⟩; have HE2 := Lib.hid (EnTo.keep0 (EnTo.head (E' := { E with lim := max E.lim win, due := true }) H.out.to (by repeat (first | exact Keep.refl _ _ | apply Keep.drew | apply Keep.alloc | refine Keep.setCell ?_ (.inl (by simp)) _)) rfl rfl (by simp [blk_setCell, blk_alloc, HBL.out, HI.out, HNE.out, HMX.out])) hk2); have hb2 := HE2.out.at_.blk; obtain ⟨f0, f1, f2, f3, f4, f5, f6, fz⟩ := row7 hb2; rw [HM.out] at f5; rw [HY.out] at f3; have hlt2 := lt_of_blk hb2; have HEQ := Lib.hid (HE2.out.at_.keep0 ((Keep.refl [] w2).alloc (.cells #[.slice a' N c'] 29))); have HBQ := Lib.hid HEQ.out.blk; have HXD : Hid ((w2.alloc (.cells #[.slice a' N c'] 29)).ownsRow B 29 1 (.slice a2 M p2) M (E.inn.map Bd.val)) := Lib.hid (by have h9 := HEQ.out.inn; dsimp only at h9; rw [HM.out] at h9; exact h9); have HOC : Hid (∀ v ∈ [Value.slice a' N c'], v.oneCell' = true) := Lib.hid (by intro v hv; simp at hv; subst hv; rfl); have HB5 : Hid (B ≤ (w2.alloc (.cells #[.slice a' N c'] 29)).heap.size) := Lib.hid (by have := HEQ.out.hB; have := lt_of_blk HEQ.out.blk; omega); have HOK2 := Lib.hid hok2; have HFR2 := Lib.hid hfr2; clear hb2 hk2 hok2 hfr2))
  all_goals
    go_wp2_with (first | (with_reducible refine Txt.wp_region_text mixed quiet (by decide +kernel) ?_) | (with_reducible refine Txt.text_done (by kernel_rfl) ?_))
    go_ret
    refine ⟨rfl, ?_⟩
    have hI9 := HEQ.out.newInn (S := (Value.slice a2 M p2).ownBlock.toList) (l := E.inn ++ [⟨a', c', d.bs⟩]) (vi' := .slice (some ⟨gz, 0, none⟩) (M + 1) cz) HK6.out (fun g hg => .inl (by rw [HOB.out]; simpa using hg)) (by rw [List.length_append, List.length_singleton, HM.out, List.map_append]; simp only [List.map_cons, List.map_nil, Bd.val]; rw [HN.out]; exact HO6.out) ?hbo ?hnw
    case hbo =>
      intro p hp
      have hkk := HK6.out
      have hNB6 : NoB (Value.slice a2 M p2).ownBlock.toList (w2.alloc (.cells #[.slice a' N c'] 29)) := fun g hg cs f hc => notIn_inn HEQ.out (S := [g]) (fun x hx => .inl (by rw [HOB.out]; simp at hx; subst hx; simpa using hg)) hc (by decide) (by simp)
      rcases List.mem_append.1 hp with hp | hp
      · exact (HEQ.out.bi p hp).keep hkk hNB6
      · obtain rfl := List.mem_singleton.1 hp
        exact (HOK2.out.keep ((Keep.refl [] w2).alloc _) (NoB.nil _)).keep hkk hNB6
    case hnw =>
      intro g hg
      rcases HA6.out with h9 | h9
      · left; rw [HOB.out, h9]; simpa [Value.ownBlock] using hg
      · right
        have h8 : gz = g := by simpa [Value.ownBlock] using hg
        rw [← h8, h9]
        exact Nat.le_refl _
    have hT := (HE2.out.keep0 ((Keep.refl [] w2).alloc _)).then hI9
    refine ⟨(.slice a1 E.out.length p1), (.slice (some ⟨gz, 0, none⟩) (M + 1) cz), a', c', HFR2.out, ?_⟩
    rw [HE.out]
    
    skip
    refine EnTo.head hT (by repeat (first | exact Keep.refl _ _ | apply Keep.drew | apply Keep.alloc | refine Keep.setCell ?_ (.inl (by simp)) _)) rfl rfl ?_
    simp [blk_setCell, hI9.at_.blk, HY.out]
end Go.Proofs.Ytfgipbjaaciiiaa
