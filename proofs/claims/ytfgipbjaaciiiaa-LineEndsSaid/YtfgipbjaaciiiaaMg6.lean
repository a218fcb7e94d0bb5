/- Texts laid together: L7l L7g L7 L8. -/
import Derived.Test.YtfgipbjaaciiiaaMg5
namespace Go.Proofs.Ytfgipbjaaciiiaa
open Go.RowKit
set_option maxRecDepth 100000 in
set_option maxHeartbeats 2000000 in
theorem come15_ln {w : World} {B b seq ack win : Nat} {has : Bool} {d : Bd} {E : En} {vo vi : Value} (h : EnAt w B b E vo vi) (hok : EnOk E) (hd : d.ok w) (hdl : d.bs.length ≤ 1000) (_hs : seq ≤ 1000000) (_ha : ack ≤ 1000000) (hwn : win ≤ 16)
    (hk : ack < E.base) (hh : has = false) :
    Calls Try.prog 15 #[.pointer (some ⟨b, 0, none⟩), .agg #[.int .u32 seq, .int .u32 ack, .bool has, .int .i64 win, .slice d.a d.bs.length d.c]] w fun e w' => e = .returned (.int .i64 0) ∧ ComeTo w w' B b (gotE (ackE E ack win) has seq) d.bs vo vi := by
  have hE : ∀ y, gotE (ackE E ack win) has seq y = { E with lim := E.lim } := by
    intro y
    have hA : ackE E ack win = E := by unfold ackE; rw [if_neg (by omega), if_neg (by omega)]
    rw [hA]; unfold gotE
    rw [if_neg (by rw [hh]; decide)]
  have HE := Lib.hid hE
  clear hE
  have hin := h.out
  obtain ⟨a1, p1, rfl, hp1, hp2, -⟩ := ownAny h.out
  obtain ⟨a2, p2, rfl, hp3, hp4, -⟩ := ownAny h.inn
  have hlt := lt_of_blk h.blk
  have hl := hok.out
  have hl2 := hok.inn
  have hw := hok.win
  have hb := hok.base
  have hwt := hok.want
  have hli := hok.lim
  have H := Lib.hid h
  have HD := Lib.hid hd
  have HNB : Hid (NoB [b] w) := Lib.hid (fun x hx cs f hc => by
    obtain rfl : x = b := by simpa using hx
    exact neType h.blk hc (by decide) rfl)
  unfold maxLen at hp2 hp4
  obtain ⟨c0, c1, c2, c3, c4, c5, c6, hz⟩ := row7 h.blk
  obtain ⟨L, hL⟩ : ∃ L, E.out.length = L := ⟨_, rfl⟩
  obtain ⟨M, hM⟩ : ∃ M, E.inn.length = M := ⟨_, rfl⟩
  obtain ⟨W, hW⟩ : ∃ W, E.win = W := ⟨_, rfl⟩
  obtain ⟨Z, hZ⟩ : ∃ Z, E.base = Z := ⟨_, rfl⟩
  obtain ⟨Y, hY⟩ : ∃ Y, E.want = Y := ⟨_, rfl⟩
  obtain ⟨I, hI⟩ : ∃ I, E.lim = I := ⟨_, rfl⟩
  obtain ⟨N, hN⟩ : ∃ N, d.bs.length = N := ⟨_, rfl⟩
  obtain ⟨D, hD⟩ : ∃ D, E.due = D := ⟨_, rfl⟩
  rw [hL] at c4 hl hp1
  rw [hM] at c5 hl2 hp3
  rw [hW] at c0 hw hl hl2
  rw [hZ] at c2 hb
  rw [hY] at c3 hwt
  rw [hI] at c1 hli
  rw [hD] at c6
  rw [hN] at hdl ⊢
  rw [hZ] at hk
  have HL := Lib.hid hL
  have HM := Lib.hid hM
  have HW := Lib.hid hW
  have HZ := Lib.hid hZ
  have HY := Lib.hid hY
  have HI := Lib.hid hI
  have HN := Lib.hid hN
  have HD' := Lib.hid hD
  clear hin h hd hok hL hM hW hZ hY hI hN hD
  subst hh
  have hwrap : wrap64 (wrap32 (((ack : Int) - (Z : Int)) % 4294967296)) = (ack : Int) - (Z : Int) := by unfold wrap64 wrap32; omega
  have HBL := Lib.hid H.out.blk
  have HNE : Hid (¬ b = w.heap.size) := Lib.hid (by omega)
  go_enter Try.func15, Try.ntmps15
  go_wp2_with (first | (with_reducible refine Txt.wp_region_text mixed quiet (by decide +kernel) ?_) | (with_reducible refine Txt.text_done (by kernel_rfl) ?_))
  all_goals
    go_ret
    refine ⟨rfl, ?_⟩
    refine ⟨(.slice a1 E.out.length p1), (.slice a2 E.inn.length p2), none, 0, fun x hx => (by cases hx), ?_⟩
    rw [HE.out]
    exact EnTo.head H.out.to (by repeat (first | exact Keep.refl _ _ | apply Keep.drew | apply Keep.alloc | refine Keep.setCell ?_ (.inl (by simp)) _)) rfl rfl (by simp [blk_alloc, HBL.out, HI.out, HNE.out])
set_option maxRecDepth 100000 in
set_option maxHeartbeats 2000000 in
theorem come15_ls {w : World} {B b seq ack win : Nat} {has : Bool} {d : Bd} {E : En} {vo vi : Value} (h : EnAt w B b E vo vi) (hok : EnOk E) (hd : d.ok w) (hdl : d.bs.length ≤ 1000) (_hs : seq ≤ 1000000) (_ha : ack ≤ 1000000) (hwn : win ≤ 16)
    (hk : ack < E.base) (hh : has = true) (hq : seq ≠ E.want) :
    Calls Try.prog 15 #[.pointer (some ⟨b, 0, none⟩), .agg #[.int .u32 seq, .int .u32 ack, .bool has, .int .i64 win, .slice d.a d.bs.length d.c]] w fun e w' => e = .returned (.int .i64 0) ∧ ComeTo w w' B b (gotE (ackE E ack win) has seq) d.bs vo vi := by
  have hE : ∀ y, gotE (ackE E ack win) has seq y = { E with lim := E.lim, due := true } := by
    intro y
    have hA : ackE E ack win = E := by unfold ackE; rw [if_neg (by omega), if_neg (by omega)]
    rw [hA]; unfold gotE
    rw [if_pos hh, if_neg (fun h => hq h.1)]
  have HE := Lib.hid hE
  clear hE
  have hin := h.out
  obtain ⟨a1, p1, rfl, hp1, hp2, -⟩ := ownAny h.out
  obtain ⟨a2, p2, rfl, hp3, hp4, -⟩ := ownAny h.inn
  have hlt := lt_of_blk h.blk
  have hl := hok.out
  have hl2 := hok.inn
  have hw := hok.win
  have hb := hok.base
  have hwt := hok.want
  have hli := hok.lim
  have H := Lib.hid h
  have HD := Lib.hid hd
  have HNB : Hid (NoB [b] w) := Lib.hid (fun x hx cs f hc => by
    obtain rfl : x = b := by simpa using hx
    exact neType h.blk hc (by decide) rfl)
  unfold maxLen at hp2 hp4
  obtain ⟨c0, c1, c2, c3, c4, c5, c6, hz⟩ := row7 h.blk
  obtain ⟨L, hL⟩ : ∃ L, E.out.length = L := ⟨_, rfl⟩
  obtain ⟨M, hM⟩ : ∃ M, E.inn.length = M := ⟨_, rfl⟩
  obtain ⟨W, hW⟩ : ∃ W, E.win = W := ⟨_, rfl⟩
  obtain ⟨Z, hZ⟩ : ∃ Z, E.base = Z := ⟨_, rfl⟩
  obtain ⟨Y, hY⟩ : ∃ Y, E.want = Y := ⟨_, rfl⟩
  obtain ⟨I, hI⟩ : ∃ I, E.lim = I := ⟨_, rfl⟩
  obtain ⟨N, hN⟩ : ∃ N, d.bs.length = N := ⟨_, rfl⟩
  obtain ⟨D, hD⟩ : ∃ D, E.due = D := ⟨_, rfl⟩
  rw [hL] at c4 hl hp1
  rw [hM] at c5 hl2 hp3
  rw [hW] at c0 hw hl hl2
  rw [hZ] at c2 hb
  rw [hY] at c3 hwt
  rw [hI] at c1 hli
  rw [hD] at c6
  rw [hN] at hdl ⊢
  rw [hZ] at hk
  rw [hY] at hq
  have HL := Lib.hid hL
  have HM := Lib.hid hM
  have HW := Lib.hid hW
  have HZ := Lib.hid hZ
  have HY := Lib.hid hY
  have HI := Lib.hid hI
  have HN := Lib.hid hN
  have HD' := Lib.hid hD
  clear hin h hd hok hL hM hW hZ hY hI hN hD
  subst hh
  have hwrap : wrap64 (wrap32 (((ack : Int) - (Z : Int)) % 4294967296)) = (ack : Int) - (Z : Int) := by unfold wrap64 wrap32; omega
  have hqb : ((seq : Int) == (Y : Int)) = false := beq_eq_false_iff_ne.2 (by omega)
  have HBL := Lib.hid H.out.blk
  have HNE : Hid (¬ b = w.heap.size) := Lib.hid (by omega)
  go_enter Try.func15, Try.ntmps15
  go_wp2_with (first | (with_reducible refine Txt.wp_region_text mixed quiet (by decide +kernel) ?_) | (with_reducible refine Txt.text_done (by kernel_rfl) ?_))
  all_goals
    go_ret
    refine ⟨rfl, ?_⟩
    refine ⟨(.slice a1 E.out.length p1), (.slice a2 E.inn.length p2), none, 0, fun x hx => (by cases hx), ?_⟩
    rw [HE.out]
    exact EnTo.head H.out.to (by repeat (first | exact Keep.refl _ _ | apply Keep.drew | apply Keep.alloc | refine Keep.setCell ?_ (.inl (by simp)) _)) rfl rfl (by simp [blk_setCell, blk_alloc, HBL.out, HI.out, HNE.out])
set_option maxRecDepth 100000 in
set_option maxHeartbeats 2000000 in
theorem come15_lf {w : World} {B b seq ack win : Nat} {has : Bool} {d : Bd} {E : En} {vo vi : Value} (h : EnAt w B b E vo vi) (hok : EnOk E) (hd : d.ok w) (hdl : d.bs.length ≤ 1000) (_hs : seq ≤ 1000000) (_ha : ack ≤ 1000000) (hwn : win ≤ 16)
    (hk : ack < E.base) (hh : has = true) (hq : seq = E.want) (hf : E.win ≤ E.inn.length) :
    Calls Try.prog 15 #[.pointer (some ⟨b, 0, none⟩), .agg #[.int .u32 seq, .int .u32 ack, .bool has, .int .i64 win, .slice d.a d.bs.length d.c]] w fun e w' => e = .returned (.int .i64 0) ∧ ComeTo w w' B b (gotE (ackE E ack win) has seq) d.bs vo vi := by
  have hE : ∀ y, gotE (ackE E ack win) has seq y = { E with lim := E.lim, due := true } := by
    intro y
    have hA : ackE E ack win = E := by unfold ackE; rw [if_neg (by omega), if_neg (by omega)]
    rw [hA]; unfold gotE
    rw [if_pos hh, if_neg (fun h => by have := h.2; (try dsimp only at this); omega)]
  have HE := Lib.hid hE
  clear hE
  have hin := h.out
  obtain ⟨a1, p1, rfl, hp1, hp2, -⟩ := ownAny h.out
  obtain ⟨a2, p2, rfl, hp3, hp4, -⟩ := ownAny h.inn
  have hlt := lt_of_blk h.blk
  have hl := hok.out
  have hl2 := hok.inn
  have hw := hok.win
  have hb := hok.base
  have hwt := hok.want
  have hli := hok.lim
  have H := Lib.hid h
  have HD := Lib.hid hd
  have HNB : Hid (NoB [b] w) := Lib.hid (fun x hx cs f hc => by
    obtain rfl : x = b := by simpa using hx
    exact neType h.blk hc (by decide) rfl)
  unfold maxLen at hp2 hp4
  obtain ⟨c0, c1, c2, c3, c4, c5, c6, hz⟩ := row7 h.blk
  obtain ⟨L, hL⟩ : ∃ L, E.out.length = L := ⟨_, rfl⟩
  obtain ⟨M, hM⟩ : ∃ M, E.inn.length = M := ⟨_, rfl⟩
  obtain ⟨W, hW⟩ : ∃ W, E.win = W := ⟨_, rfl⟩
  obtain ⟨Z, hZ⟩ : ∃ Z, E.base = Z := ⟨_, rfl⟩
  obtain ⟨Y, hY⟩ : ∃ Y, E.want = Y := ⟨_, rfl⟩
  obtain ⟨I, hI⟩ : ∃ I, E.lim = I := ⟨_, rfl⟩
  obtain ⟨N, hN⟩ : ∃ N, d.bs.length = N := ⟨_, rfl⟩
  obtain ⟨D, hD⟩ : ∃ D, E.due = D := ⟨_, rfl⟩
  rw [hL] at c4 hl hp1
  rw [hM] at c5 hl2 hp3
  rw [hW] at c0 hw hl hl2
  rw [hZ] at c2 hb
  rw [hY] at c3 hwt
  rw [hI] at c1 hli
  rw [hD] at c6
  rw [hN] at hdl ⊢
  rw [hZ] at hk
  rw [hY] at hq
  rw [hW, hM] at hf
  have HL := Lib.hid hL
  have HM := Lib.hid hM
  have HW := Lib.hid hW
  have HZ := Lib.hid hZ
  have HY := Lib.hid hY
  have HI := Lib.hid hI
  have HN := Lib.hid hN
  have HD' := Lib.hid hD
  clear hin h hd hok hL hM hW hZ hY hI hN hD
  subst hh
  have hwrap : wrap64 (wrap32 (((ack : Int) - (Z : Int)) % 4294967296)) = (ack : Int) - (Z : Int) := by unfold wrap64 wrap32; omega
  subst hq
  have HBL := Lib.hid H.out.blk
  have HNE : Hid (¬ b = w.heap.size) := Lib.hid (by omega)
  go_enter Try.func15, Try.ntmps15
  go_wp2_with (first | (with_reducible refine Txt.wp_region_text mixed quiet (by decide +kernel) ?_) | (with_reducible refine Txt.text_done (by kernel_rfl) ?_))
  all_goals
    go_ret
    refine ⟨rfl, ?_⟩
    refine ⟨(.slice a1 E.out.length p1), (.slice a2 E.inn.length p2), none, 0, fun x hx => (by cases hx), ?_⟩
    rw [HE.out]
    exact EnTo.head H.out.to (by repeat (first | exact Keep.refl _ _ | apply Keep.drew | apply Keep.alloc | refine Keep.setCell ?_ (.inl (by simp)) _)) rfl rfl (by simp [blk_setCell, blk_alloc, HBL.out, HI.out, HNE.out])
set_option maxRecDepth 100000 in
set_option maxHeartbeats 2000000 in
theorem come15_ly {w : World} {B b seq ack win : Nat} {has : Bool} {d : Bd} {E : En} {vo vi : Value} (h : EnAt w B b E vo vi) (hok : EnOk E) (hd : d.ok w) (hdl : d.bs.length ≤ 1000) (_hs : seq ≤ 1000000) (_ha : ack ≤ 1000000) (hwn : win ≤ 16)
    (hk : ack < E.base) (hh : has = true) (hq : seq = E.want) (hf : E.inn.length < E.win) :
    Calls Try.prog 15 #[.pointer (some ⟨b, 0, none⟩), .agg #[.int .u32 seq, .int .u32 ack, .bool has, .int .i64 win, .slice d.a d.bs.length d.c]] w fun e w' => e = .returned (.int .i64 0) ∧ ComeTo w w' B b (gotE (ackE E ack win) has seq) d.bs vo vi := by
  have hE : ∀ y, gotE (ackE E ack win) has seq y = { E with lim := E.lim, due := true, inn := E.inn ++ [y], want := E.want + 1 } := by
    intro y
    have hA : ackE E ack win = E := by unfold ackE; rw [if_neg (by omega), if_neg (by omega)]
    rw [hA]; unfold gotE
    rw [if_pos hh, if_pos ⟨hq, hf⟩]
  have HE := Lib.hid hE
  clear hE
  have hin := h.out
  obtain ⟨a1, p1, rfl, hp1, hp2, -⟩ := ownAny h.out
  obtain ⟨a2, p2, rfl, hp3, hp4, -⟩ := ownAny h.inn
  have hlt := lt_of_blk h.blk
  have hl := hok.out
  have hl2 := hok.inn
  have hw := hok.win
  have hb := hok.base
  have hwt := hok.want
  have hli := hok.lim
  have H := Lib.hid h
  have HD := Lib.hid hd
  have HNB : Hid (NoB [b] w) := Lib.hid (fun x hx cs f hc => by
    obtain rfl : x = b := by simpa using hx
    exact neType h.blk hc (by decide) rfl)
  unfold maxLen at hp2 hp4
  obtain ⟨c0, c1, c2, c3, c4, c5, c6, hz⟩ := row7 h.blk
  obtain ⟨L, hL⟩ : ∃ L, E.out.length = L := ⟨_, rfl⟩
  obtain ⟨M, hM⟩ : ∃ M, E.inn.length = M := ⟨_, rfl⟩
  obtain ⟨W, hW⟩ : ∃ W, E.win = W := ⟨_, rfl⟩
  obtain ⟨Z, hZ⟩ : ∃ Z, E.base = Z := ⟨_, rfl⟩
  obtain ⟨Y, hY⟩ : ∃ Y, E.want = Y := ⟨_, rfl⟩
  obtain ⟨I, hI⟩ : ∃ I, E.lim = I := ⟨_, rfl⟩
  obtain ⟨N, hN⟩ : ∃ N, d.bs.length = N := ⟨_, rfl⟩
  obtain ⟨D, hD⟩ : ∃ D, E.due = D := ⟨_, rfl⟩
  rw [hL] at c4 hl hp1
  rw [hM] at c5 hl2 hp3
  rw [hW] at c0 hw hl hl2
  rw [hZ] at c2 hb
  rw [hY] at c3 hwt
  rw [hI] at c1 hli
  rw [hD] at c6
  rw [hN] at hdl ⊢
  rw [hZ] at hk
  rw [hY] at hq
  rw [hW, hM] at hf
  have HL := Lib.hid hL
  have HM := Lib.hid hM
  have HW := Lib.hid hW
  have HZ := Lib.hid hZ
  have HY := Lib.hid hY
  have HI := Lib.hid hI
  have HN := Lib.hid hN
  have HD' := Lib.hid hD
  clear hin h hd hok hL hM hW hZ hY hI hN hD
  subst hh
  have hwrap : wrap64 (wrap32 (((ack : Int) - (Z : Int)) % 4294967296)) = (ack : Int) - (Z : Int) := by unfold wrap64 wrap32; omega
  subst hq
  have HBL := Lib.hid H.out.blk
  have HNE : Hid (¬ b = w.heap.size) := Lib.hid (by omega)
  obtain ⟨i0, hi0, hz0, hz1, hz2⟩ := info_parts2 info29
  have HB7 : Hid (M + 1 ≤ maxLen) := Lib.hid (by unfold maxLen; omega)
  have HB8 : Hid ((M + 1) * 24 ≤ 140737488355328) := Lib.hid (by omega)
  have HOB : Hid ((Value.slice a2 E.inn.length p2).ownBlock = (Value.slice a2 M p2).ownBlock) := Lib.hid (by cases a2 <;> rfl)
  go_enter Try.func15, Try.ntmps15
  go_wp2_with (first | (with_reducible refine Txt.wp_region_text mixed quiet (by decide +kernel) ?_) | (with_reducible refine Txt.text_done (by kernel_rfl) ?_))
  all_goals
    go_region_law (first | (refine step_append_lies _ rfl (.tmp 103) (.tmp 107) 37 rfl B 29 i0 (.slice none 0 0) 1 24 Try.underlying37 hi0 hz0 hz1 hz2 rfl (by decide) (.slice a2 M p2) M (E.inn.map Bd.val) (by simp [Act.eval]) HXD.out ⟨w2.heap.size, 0, none⟩ 1 1 [.slice a' N c'] (by simp [Act.eval]) rfl (cells_new w2 [.slice a' N c'] 29 (0, 0)) HOC.out (by decide) HB7.out HB8.out HB5.out _ rfl ?_; intro gz cz w6 hown6 hgr6 hat6 hlt6; have hk6 : Keep (Value.slice a2 M p2).ownBlock.toList (w2.alloc (.cells #[.slice a' N c'] 29)) w6 := Keep.ofGrown hgr6 (fun x hx => by simp [hx]); have hb6 := hk6.at HBQ.out (notIn_inn HEQ.out (fun g hg => .inl (by rw [HOB.out]; simpa using hg)) HBQ.out (by decide)); obtain ⟨m0, m1, m2, m3, m4, m5, m6, mz⟩ := row7 hb6; rw [HY.out] at m3; have HK6 := Lib.hid hk6; have HO6 := Lib.hid hown6; have HA6 := Lib.hid hat6; clear hk6 hb6 hown6 hgr6 hat6) | (go_simp; go_at_call 17; (with_reducible refine (clone17_k (S := [b]) HD.out (by (repeat (first | exact hkw1 | exact Keep.refl _ _ | apply Keep.drew | apply Keep.alloc | refine Keep.setCell ?_ (.inl (by simp)) _))) HNB.out HN.out hdl).mono ?_); rintro e w2 ⟨a', c', rfl, hk2, hok2, hfr2⟩; have HE2 := Lib.hid (EnTo.keep0 (EnTo.head (E' := { E with lim := E.lim, due := true }) H.out.to (by repeat (first | exact Keep.refl _ _ | apply Keep.drew | apply Keep.alloc | refine Keep.setCell ?_ (.inl (by simp)) _)) rfl rfl (by simp [blk_setCell, blk_alloc, HBL.out, HI.out, HNE.out])) hk2); have hb2 := HE2.out.at_.blk; obtain ⟨f0, f1, f2, f3, f4, f5, f6, fz⟩ := row7 hb2; rw [HM.out] at f5; rw [HY.out] at f3; have hlt2 := lt_of_blk hb2; have HEQ := Lib.hid (HE2.out.at_.keep0 ((Keep.refl [] w2).alloc (.cells #[.slice a' N c'] 29))); have HBQ := Lib.hid HEQ.out.blk; have HXD : Hid ((w2.alloc (.cells #[.slice a' N c'] 29)).ownsRow B 29 1 (.slice a2 M p2) M (E.inn.map Bd.val)) := Lib.hid (by have h9 := HEQ.out.inn; dsimp only at h9; rw [HM.out] at h9; exact h9); have HOC : Hid (∀ v ∈ [Value.slice a' N c'], v.oneCell' = true) := Lib.hid (by intro v hv; simp at hv; subst hv; rfl); have HB5 : Hid (B ≤ (w2.alloc (.cells #[.slice a' N c'] 29)).heap.size) := Lib.hid (by have := HEQ.out.hB; have := lt_of_blk HEQ.out.blk; omega); have HOK2 := Lib.hid hok2; have HFR2 := Lib.hid hfr2; clear hb2 hk2 hok2 hfr2))
  all_goals
    go_wp2_with (first | (with_reducible refine Txt.wp_region_text mixed quiet (by decide +kernel) ?_) | (with_reducible refine Txt.text_done (by kernel_rfl) ?_))
    go_ret
    refine ⟨rfl, ?_⟩
    have hI9 := HEQ.out.newInn (S := (Value.slice a2 M p2).ownBlock.toList) (l := E.inn ++ [⟨a', c', d.bs⟩]) (vi' := .slice (some ⟨gz, 0, none⟩) (M + 1) cz) HK6.out (fun g hg => .inl (by rw [HOB.out]; simpa using hg)) (by rw [List.length_append, List.length_singleton, HM.out, List.map_append]; simp only [List.map_cons, List.map_nil, Bd.val]; rw [HN.out]; exact HO6.out) ?hbo ?hnw
    case hbo =>
      intro p hp
      have hkk := HK6.out
      have hNB6 : NoB (Value.slice a2 M p2).ownBlock.toList (w2.alloc (.cells #[.slice a' N c'] 29)) := fun g hg cs f hc => notIn_inn HEQ.out (S := [g]) (fun x hx => .inl (by rw [HOB.out]; simp at hx; subst hx; simpa using hg)) hc (by decide) (by simp)
      rcases List.mem_append.1 hp with hp | hp
      · exact (HEQ.out.bi p hp).keep hkk hNB6
      · obtain rfl := List.mem_singleton.1 hp
        exact (HOK2.out.keep ((Keep.refl [] w2).alloc _) (NoB.nil _)).keep hkk hNB6
    case hnw =>
      intro g hg
      rcases HA6.out with h9 | h9
      · left; rw [HOB.out, h9]; simpa [Value.ownBlock] using hg
      · right
        have h8 : gz = g := by simpa [Value.ownBlock] using hg
        rw [← h8, h9]
        exact Nat.le_refl _
    have hT := (HE2.out.keep0 ((Keep.refl [] w2).alloc _)).then hI9
    refine ⟨(.slice a1 E.out.length p1), (.slice (some ⟨gz, 0, none⟩) (M + 1) cz), a', c', HFR2.out, ?_⟩
    rw [HE.out]
    
    skip
    refine EnTo.head hT (by repeat (first | exact Keep.refl _ _ | apply Keep.drew | apply Keep.alloc | refine Keep.setCell ?_ (.inl (by simp)) _)) rfl rfl ?_
    simp [blk_setCell, hI9.at_.blk, HY.out]
end Go.Proofs.Ytfgipbjaaciiiaa
namespace Go.Proofs.Ytfgipbjaaciiiaa
open Go.RowKit
set_option maxRecDepth 100000 in
set_option maxHeartbeats 2000000 in
theorem come15_gn {w : World} {B b seq ack win : Nat} {has : Bool} {d : Bd} {E : En} {vo vi : Value} (h : EnAt w B b E vo vi) (hok : EnOk E) (hd : d.ok w) (hdl : d.bs.length ≤ 1000) (_hs : seq ≤ 1000000) (_ha : ack ≤ 1000000) (hwn : win ≤ 16)
    (hk : E.base + E.out.length < ack) (hh : has = false) :
    Calls Try.prog 15 #[.pointer (some ⟨b, 0, none⟩), .agg #[.int .u32 seq, .int .u32 ack, .bool has, .int .i64 win, .slice d.a d.bs.length d.c]] w fun e w' => e = .returned (.int .i64 0) ∧ ComeTo w w' B b (gotE (ackE E ack win) has seq) d.bs vo vi := by
  have hE : ∀ y, gotE (ackE E ack win) has seq y = { E with lim := E.lim } := by
    intro y
    have hA : ackE E ack win = E := by unfold ackE; rw [if_neg (by omega), if_neg (by omega)]
    rw [hA]; unfold gotE
    rw [if_neg (by rw [hh]; decide)]
  have HE := Lib.hid hE
  clear hE
  have hin := h.out
  obtain ⟨a1, p1, rfl, hp1, hp2, -⟩ := ownAny h.out
  obtain ⟨a2, p2, rfl, hp3, hp4, -⟩ := ownAny h.inn
  have hlt := lt_of_blk h.blk
  have hl := hok.out
  have hl2 := hok.inn
  have hw := hok.win
  have hb := hok.base
  have hwt := hok.want
  have hli := hok.lim
  have H := Lib.hid h
  have HD := Lib.hid hd
  have HNB : Hid (NoB [b] w) := Lib.hid (fun x hx cs f hc => by
    obtain rfl : x = b := by simpa using hx
    exact neType h.blk hc (by decide) rfl)
  unfold maxLen at hp2 hp4
  obtain ⟨c0, c1, c2, c3, c4, c5, c6, hz⟩ := row7 h.blk
  obtain ⟨L, hL⟩ : ∃ L, E.out.length = L := ⟨_, rfl⟩
  obtain ⟨M, hM⟩ : ∃ M, E.inn.length = M := ⟨_, rfl⟩
  obtain ⟨W, hW⟩ : ∃ W, E.win = W := ⟨_, rfl⟩
  obtain ⟨Z, hZ⟩ : ∃ Z, E.base = Z := ⟨_, rfl⟩
  obtain ⟨Y, hY⟩ : ∃ Y, E.want = Y := ⟨_, rfl⟩
  obtain ⟨I, hI⟩ : ∃ I, E.lim = I := ⟨_, rfl⟩
  obtain ⟨N, hN⟩ : ∃ N, d.bs.length = N := ⟨_, rfl⟩
  obtain ⟨D, hD⟩ : ∃ D, E.due = D := ⟨_, rfl⟩
  rw [hL] at c4 hl hp1
  rw [hM] at c5 hl2 hp3
  rw [hW] at c0 hw hl hl2
  rw [hZ] at c2 hb
  rw [hY] at c3 hwt
  rw [hI] at c1 hli
  rw [hD] at c6
  rw [hN] at hdl ⊢
  rw [hL, hZ] at hk
  have HL := Lib.hid hL
  have HM := Lib.hid hM
  have HW := Lib.hid hW
  have HZ := Lib.hid hZ
  have HY := Lib.hid hY
  have HI := Lib.hid hI
  have HN := Lib.hid hN
  have HD' := Lib.hid hD
  clear hin h hd hok hL hM hW hZ hY hI hN hD
  obtain ⟨k, hkk⟩ : ∃ k : Nat, ack = Z + k := ⟨ack - Z, by omega⟩
  subst hkk hh
  have hk1 : L < k := by omega
  clear hk
  have HBL := Lib.hid H.out.blk
  have HNE : Hid (¬ b = w.heap.size) := Lib.hid (by omega)
  go_enter Try.func15, Try.ntmps15
  go_wp2_with (first | (with_reducible refine Txt.wp_region_text mixed quiet (by decide +kernel) ?_) | (with_reducible refine Txt.text_done (by kernel_rfl) ?_))
  all_goals
    go_ret
    refine ⟨rfl, ?_⟩
    refine ⟨(.slice a1 E.out.length p1), (.slice a2 E.inn.length p2), none, 0, fun x hx => (by cases hx), ?_⟩
    rw [HE.out]
    exact EnTo.head H.out.to (by repeat (first | exact Keep.refl _ _ | apply Keep.drew | apply Keep.alloc | refine Keep.setCell ?_ (.inl (by simp)) _)) rfl rfl (by simp [blk_alloc, HBL.out, HI.out, HNE.out])
set_option maxRecDepth 100000 in
set_option maxHeartbeats 2000000 in
theorem come15_gs {w : World} {B b seq ack win : Nat} {has : Bool} {d : Bd} {E : En} {vo vi : Value} (h : EnAt w B b E vo vi) (hok : EnOk E) (hd : d.ok w) (hdl : d.bs.length ≤ 1000) (_hs : seq ≤ 1000000) (_ha : ack ≤ 1000000) (hwn : win ≤ 16)
    (hk : E.base + E.out.length < ack) (hh : has = true) (hq : seq ≠ E.want) :
    Calls Try.prog 15 #[.pointer (some ⟨b, 0, none⟩), .agg #[.int .u32 seq, .int .u32 ack, .bool has, .int .i64 win, .slice d.a d.bs.length d.c]] w fun e w' => e = .returned (.int .i64 0) ∧ ComeTo w w' B b (gotE (ackE E ack win) has seq) d.bs vo vi := by
  have hE : ∀ y, gotE (ackE E ack win) has seq y = { E with lim := E.lim, due := true } := by
    intro y
    have hA : ackE E ack win = E := by unfold ackE; rw [if_neg (by omega), if_neg (by omega)]
    rw [hA]; unfold gotE
    rw [if_pos hh, if_neg (fun h => hq h.1)]
  have HE := Lib.hid hE
  clear hE
  have hin := h.out
  obtain ⟨a1, p1, rfl, hp1, hp2, -⟩ := ownAny h.out
  obtain ⟨a2, p2, rfl, hp3, hp4, -⟩ := ownAny h.inn
  have hlt := lt_of_blk h.blk
  have hl := hok.out
  have hl2 := hok.inn
  have hw := hok.win
  have hb := hok.base
  have hwt := hok.want
  have hli := hok.lim
  have H := Lib.hid h
  have HD := Lib.hid hd
  have HNB : Hid (NoB [b] w) := Lib.hid (fun x hx cs f hc => by
    obtain rfl : x = b := by simpa using hx
    exact neType h.blk hc (by decide) rfl)
  unfold maxLen at hp2 hp4
  obtain ⟨c0, c1, c2, c3, c4, c5, c6, hz⟩ := row7 h.blk
  obtain ⟨L, hL⟩ : ∃ L, E.out.length = L := ⟨_, rfl⟩
  obtain ⟨M, hM⟩ : ∃ M, E.inn.length = M := ⟨_, rfl⟩
  obtain ⟨W, hW⟩ : ∃ W, E.win = W := ⟨_, rfl⟩
  obtain ⟨Z, hZ⟩ : ∃ Z, E.base = Z := ⟨_, rfl⟩
  obtain ⟨Y, hY⟩ : ∃ Y, E.want = Y := ⟨_, rfl⟩
  obtain ⟨I, hI⟩ : ∃ I, E.lim = I := ⟨_, rfl⟩
  obtain ⟨N, hN⟩ : ∃ N, d.bs.length = N := ⟨_, rfl⟩
  obtain ⟨D, hD⟩ : ∃ D, E.due = D := ⟨_, rfl⟩
  rw [hL] at c4 hl hp1
  rw [hM] at c5 hl2 hp3
  rw [hW] at c0 hw hl hl2
  rw [hZ] at c2 hb
  rw [hY] at c3 hwt
  rw [hI] at c1 hli
  rw [hD] at c6
  rw [hN] at hdl ⊢
  rw [hL, hZ] at hk
  rw [hY] at hq
  have HL := Lib.hid hL
  have HM := Lib.hid hM
  have HW := Lib.hid hW
  have HZ := Lib.hid hZ
  have HY := Lib.hid hY
  have HI := Lib.hid hI
  have HN := Lib.hid hN
  have HD' := Lib.hid hD
  clear hin h hd hok hL hM hW hZ hY hI hN hD
  obtain ⟨k, hkk⟩ : ∃ k : Nat, ack = Z + k := ⟨ack - Z, by omega⟩
  subst hkk hh
  have hk1 : L < k := by omega
  clear hk
  have hqb : ((seq : Int) == (Y : Int)) = false := beq_eq_false_iff_ne.2 (by omega)
  have HBL := Lib.hid H.out.blk
  have HNE : Hid (¬ b = w.heap.size) := Lib.hid (by omega)
  go_enter Try.func15, Try.ntmps15
  go_wp2_with (first | (with_reducible refine Txt.wp_region_text mixed quiet (by decide +kernel) ?_) | (with_reducible refine Txt.text_done (by kernel_rfl) ?_))
  all_goals
    go_ret
    refine ⟨rfl, ?_⟩
    refine ⟨(.slice a1 E.out.length p1), (.slice a2 E.inn.length p2), none, 0, fun x hx => (by cases hx), ?_⟩
    rw [HE.out]
    exact EnTo.head H.out.to (by repeat (first | exact Keep.refl _ _ | apply Keep.drew | apply Keep.alloc | refine Keep.setCell ?_ (.inl (by simp)) _)) rfl rfl (by simp [blk_setCell, blk_alloc, HBL.out, HI.out, HNE.out])
set_option maxRecDepth 100000 in
set_option maxHeartbeats 2000000 in
theorem come15_gf {w : World} {B b seq ack win : Nat} {has : Bool} {d : Bd} {E : En} {vo vi : Value} (h : EnAt w B b E vo vi) (hok : EnOk E) (hd : d.ok w) (hdl : d.bs.length ≤ 1000) (_hs : seq ≤ 1000000) (_ha : ack ≤ 1000000) (hwn : win ≤ 16)
    (hk : E.base + E.out.length < ack) (hh : has = true) (hq : seq = E.want) (hf : E.win ≤ E.inn.length) :
    Calls Try.prog 15 #[.pointer (some ⟨b, 0, none⟩), .agg #[.int .u32 seq, .int .u32 ack, .bool has, .int .i64 win, .slice d.a d.bs.length d.c]] w fun e w' => e = .returned (.int .i64 0) ∧ ComeTo w w' B b (gotE (ackE E ack win) has seq) d.bs vo vi := by
  have hE : ∀ y, gotE (ackE E ack win) has seq y = { E with lim := E.lim, due := true } := by
    intro y
    have hA : ackE E ack win = E := by unfold ackE; rw [if_neg (by omega), if_neg (by omega)]
    rw [hA]; unfold gotE
    rw [if_pos hh, if_neg (fun h => by have := h.2; (try dsimp only at this); omega)]
  have HE := Lib.hid hE
  clear hE
  have hin := h.out
  obtain ⟨a1, p1, rfl, hp1, hp2, -⟩ := ownAny h.out
  obtain ⟨a2, p2, rfl, hp3, hp4, -⟩ := ownAny h.inn
  have hlt := lt_of_blk h.blk
  have hl := hok.out
  have hl2 := hok.inn
  have hw := hok.win
  have hb := hok.base
  have hwt := hok.want
  have hli := hok.lim
  have H := Lib.hid h
  have HD := Lib.hid hd
  have HNB : Hid (NoB [b] w) := Lib.hid (fun x hx cs f hc => by
    obtain rfl : x = b := by simpa using hx
    exact neType h.blk hc (by decide) rfl)
  unfold maxLen at hp2 hp4
  obtain ⟨c0, c1, c2, c3, c4, c5, c6, hz⟩ := row7 h.blk
  obtain ⟨L, hL⟩ : ∃ L, E.out.length = L := ⟨_, rfl⟩
  obtain ⟨M, hM⟩ : ∃ M, E.inn.length = M := ⟨_, rfl⟩
  obtain ⟨W, hW⟩ : ∃ W, E.win = W := ⟨_, rfl⟩
  obtain ⟨Z, hZ⟩ : ∃ Z, E.base = Z := ⟨_, rfl⟩
  obtain ⟨Y, hY⟩ : ∃ Y, E.want = Y := ⟨_, rfl⟩
  obtain ⟨I, hI⟩ : ∃ I, E.lim = I := ⟨_, rfl⟩
  obtain ⟨N, hN⟩ : ∃ N, d.bs.length = N := ⟨_, rfl⟩
  obtain ⟨D, hD⟩ : ∃ D, E.due = D := ⟨_, rfl⟩
  rw [hL] at c4 hl hp1
  rw [hM] at c5 hl2 hp3
  rw [hW] at c0 hw hl hl2
  rw [hZ] at c2 hb
  rw [hY] at c3 hwt
  rw [hI] at c1 hli
  rw [hD] at c6
  rw [hN] at hdl ⊢
  rw [hL, hZ] at hk
  rw [hY] at hq
  rw [hW, hM] at hf
  have HL := Lib.hid hL
  have HM := Lib.hid hM
  have HW := Lib.hid hW
  have HZ := Lib.hid hZ
  have HY := Lib.hid hY
  have HI := Lib.hid hI
  have HN := Lib.hid hN
  have HD' := Lib.hid hD
  clear hin h hd hok hL hM hW hZ hY hI hN hD
  obtain ⟨k, hkk⟩ : ∃ k : Nat, ack = Z + k := ⟨ack - Z, by omega⟩
  subst hkk hh
  have hk1 : L < k := by omega
  clear hk
  subst hq
  have HBL := Lib.hid H.out.blk
  have HNE : Hid (¬ b = w.heap.size) := Lib.hid (by omega)
  go_enter Try.func15, Try.ntmps15
  go_wp2_with (first | (with_reducible refine Txt.wp_region_text mixed quiet (by decide +kernel) ?_) | (with_reducible refine Txt.text_done (by kernel_rfl) ?_))
  all_goals
    go_ret
    refine ⟨rfl, ?_⟩
    refine ⟨(.slice a1 E.out.length p1), (.slice a2 E.inn.length p2), none, 0, fun x hx => (by cases hx), ?_⟩
    rw [HE.out]
    exact EnTo.head H.out.to (by repeat (first | exact Keep.refl _ _ | apply Keep.drew | apply Keep.alloc | refine Keep.setCell ?_ (.inl (by simp)) _)) rfl rfl (by simp [blk_setCell, blk_alloc, HBL.out, HI.out, HNE.out])
set_option maxRecDepth 100000 in
set_option maxHeartbeats 2000000 in
theorem come15_gy {w : World} {B b seq ack win : Nat} {has : Bool} {d : Bd} {E : En} {vo vi : Value} (h : EnAt w B b E vo vi) (hok : EnOk E) (hd : d.ok w) (hdl : d.bs.length ≤ 1000) (_hs : seq ≤ 1000000) (_ha : ack ≤ 1000000) (hwn : win ≤ 16)
    (hk : E.base + E.out.length < ack) (hh : has = true) (hq : seq = E.want) (hf : E.inn.length < E.win) :
    Calls Try.prog 15 #[.pointer (some ⟨b, 0, none⟩), .agg #[.int .u32 seq, .int .u32 ack, .bool has, .int .i64 win, .slice d.a d.bs.length d.c]] w fun e w' => e = .returned (.int .i64 0) ∧ ComeTo w w' B b (gotE (ackE E ack win) has seq) d.bs vo vi := by
  have hE : ∀ y, gotE (ackE E ack win) has seq y = { E with lim := E.lim, due := true, inn := E.inn ++ [y], want := E.want + 1 } := by
    intro y
    have hA : ackE E ack win = E := by unfold ackE; rw [if_neg (by omega), if_neg (by omega)]
    rw [hA]; unfold gotE
    rw [if_pos hh, if_pos ⟨hq, hf⟩]
  have HE := Lib.hid hE
  clear hE
  have hin := h.out
  obtain ⟨a1, p1, rfl, hp1, hp2, -⟩ := ownAny h.out
  obtain ⟨a2, p2, rfl, hp3, hp4, -⟩ := ownAny h.inn
  have hlt := lt_of_blk h.blk
  have hl := hok.out
  have hl2 := hok.inn
  have hw := hok.win
  have hb := hok.base
  have hwt := hok.want
  have hli := hok.lim
  have H := Lib.hid h
  have HD := Lib.hid hd
  have HNB : Hid (NoB [b] w) := Lib.hid (fun x hx cs f hc => by
    obtain rfl : x = b := by simpa using hx
    exact neType h.blk hc (by decide) rfl)
  unfold maxLen at hp2 hp4
  obtain ⟨c0, c1, c2, c3, c4, c5, c6, hz⟩ := row7 h.blk
  obtain ⟨L, hL⟩ : ∃ L, E.out.length = L := ⟨_, rfl⟩
  obtain ⟨M, hM⟩ : ∃ M, E.inn.length = M := ⟨_, rfl⟩
  obtain ⟨W, hW⟩ : ∃ W, E.win = W := ⟨_, rfl⟩
  obtain ⟨Z, hZ⟩ : ∃ Z, E.base = Z := ⟨_, rfl⟩
  obtain ⟨Y, hY⟩ : ∃ Y, E.want = Y := ⟨_, rfl⟩
  obtain ⟨I, hI⟩ : ∃ I, E.lim = I := ⟨_, rfl⟩
  obtain ⟨N, hN⟩ : ∃ N, d.bs.length = N := ⟨_, rfl⟩
  obtain ⟨D, hD⟩ : ∃ D, E.due = D := ⟨_, rfl⟩
  rw [hL] at c4 hl hp1
  rw [hM] at c5 hl2 hp3
  rw [hW] at c0 hw hl hl2
  rw [hZ] at c2 hb
  rw [hY] at c3 hwt
  rw [hI] at c1 hli
  rw [hD] at c6
  rw [hN] at hdl ⊢
  rw [hL, hZ] at hk
  rw [hY] at hq
  rw [hW, hM] at hf
  have HL := Lib.hid hL
  have HM := Lib.hid hM
  have HW := Lib.hid hW
  have HZ := Lib.hid hZ
  have HY := Lib.hid hY
  have HI := Lib.hid hI
  have HN := Lib.hid hN
  have HD' := Lib.hid hD
  clear hin h hd hok hL hM hW hZ hY hI hN hD
  obtain ⟨k, hkk⟩ : ∃ k : Nat, ack = Z + k := ⟨ack - Z, by omega⟩
  subst hkk hh
  have hk1 : L < k := by omega
  clear hk
  subst hq
  have HBL := Lib.hid H.out.blk
  have HNE : Hid (¬ b = w.heap.size) := Lib.hid (by omega)
  obtain ⟨i0, hi0, hz0, hz1, hz2⟩ := info_parts2 info29
  have HB7 : Hid (M + 1 ≤ maxLen) := Lib.hid (by unfold maxLen; omega)
  have HB8 : Hid ((M + 1) * 24 ≤ 140737488355328) := Lib.hid (by omega)
  have HOB : Hid ((Value.slice a2 E.inn.length p2).ownBlock = (Value.slice a2 M p2).ownBlock) := Lib.hid (by cases a2 <;> rfl)
  go_enter Try.func15, Try.ntmps15
  go_wp2_with (first | (with_reducible refine Txt.wp_region_text mixed quiet (by decide +kernel) ?_) | (with_reducible refine Txt.text_done (by kernel_rfl) ?_))
  all_goals
    go_region_law (first | (refine step_append_lies _ rfl (.tmp 103) (.tmp 107) 37 rfl B 29 i0 (.slice none 0 0) 1 24 Try.underlying37 hi0 hz0 hz1 hz2 rfl (by decide) (.slice a2 M p2) M (E.inn.map Bd.val) (by simp [Act.eval]) HXD.out ⟨w2.heap.size, 0, none⟩ 1 1 [.slice a' N c'] (by simp [Act.eval]) rfl (cells_new w2 [.slice a' N c'] 29 (0, 0)) HOC.out (by decide) HB7.out HB8.out HB5.out _ rfl ?_; intro gz cz w6 hown6 hgr6 hat6 hlt6; have hk6 : Keep (Value.slice a2 M p2).ownBlock.toList (w2.alloc (.cells #[.slice a' N c'] 29)) w6 := Keep.ofGrown hgr6 (fun x hx => by simp [hx]); have hb6 := hk6.at HBQ.out (notIn_inn HEQ.out (fun g hg => .inl (by rw [HOB.out]; simpa using hg)) HBQ.out (by decide)); obtain ⟨m0, m1, m2, m3, m4, m5, m6, mz⟩ := row7 hb6; rw [HY.out] at m3; have HK6 := Lib.hid hk6; have HO6 := Lib.hid hown6; have HA6 := Lib.hid hat6; clear hk6 hb6 hown6 hgr6 hat6) | (go_simp; go_at_call 17; (with_reducible refine (clone17_k (S := [b]) HD.out (by (repeat (first | exact hkw1 | exact Keep.refl _ _ | apply Keep.drew | apply Keep.alloc | refine Keep.setCell ?_ (.inl (by simp)) _))) HNB.out HN.out hdl).mono ?_); rintro e w2 ⟨a', c', rfl, hk2, hok2, hfr2⟩; have HE2 := Lib.hid (EnTo.keep0 (EnTo.head (E' := { E with lim := E.lim, due := true }) H.out.to (by repeat (first | exact Keep.refl _ _ | apply Keep.drew | apply Keep.alloc | refine Keep.setCell ?_ (.inl (by simp)) _)) rfl rfl (by simp [blk_setCell, blk_alloc, HBL.out, HI.out, HNE.out])) hk2); have hb2 := HE2.out.at_.blk; obtain ⟨f0, f1, f2, f3, f4, f5, f6, fz⟩ := row7 hb2; rw [HM.out] at f5; rw [HY.out] at f3; have hlt2 := lt_of_blk hb2; have HEQ := Lib.hid (HE2.out.at_.keep0 ((Keep.refl [] w2).alloc (.cells #[.slice a' N c'] 29))); have HBQ := Lib.hid HEQ.out.blk; have HXD : Hid ((w2.alloc (.cells #[.slice a' N c'] 29)).ownsRow B 29 1 (.slice a2 M p2) M (E.inn.map Bd.val)) := Lib.hid (by have h9 := HEQ.out.inn; dsimp only at h9; rw [HM.out] at h9; exact h9); have HOC : Hid (∀ v ∈ [Value.slice a' N c'], v.oneCell' = true) := Lib.hid (by intro v hv; simp at hv; subst hv; rfl); have HB5 : Hid (B ≤ (w2.alloc (.cells #[.slice a' N c'] 29)).heap.size) := Lib.hid (by have := HEQ.out.hB; have := lt_of_blk HEQ.out.blk; omega); have HOK2 := Lib.hid hok2; have HFR2 := Lib.hid hfr2; clear hb2 hk2 hok2 hfr2))
  all_goals
    go_wp2_with (first | (with_reducible refine Txt.wp_region_text mixed quiet (by decide +kernel) ?_) | (with_reducible refine Txt.text_done (by kernel_rfl) ?_))
    go_ret
    refine ⟨rfl, ?_⟩
    have hI9 := HEQ.out.newInn (S := (Value.slice a2 M p2).ownBlock.toList) (l := E.inn ++ [⟨a', c', d.bs⟩]) (vi' := .slice (some ⟨gz, 0, none⟩) (M + 1) cz) HK6.out (fun g hg => .inl (by rw [HOB.out]; simpa using hg)) (by rw [List.length_append, List.length_singleton, HM.out, List.map_append]; simp only [List.map_cons, List.map_nil, Bd.val]; rw [HN.out]; exact HO6.out) ?hbo ?hnw
    case hbo =>
      intro p hp
      have hkk := HK6.out
      have hNB6 : NoB (Value.slice a2 M p2).ownBlock.toList (w2.alloc (.cells #[.slice a' N c'] 29)) := fun g hg cs f hc => notIn_inn HEQ.out (S := [g]) (fun x hx => .inl (by rw [HOB.out]; simp at hx; subst hx; simpa using hg)) hc (by decide) (by simp)
      rcases List.mem_append.1 hp with hp | hp
      · exact (HEQ.out.bi p hp).keep hkk hNB6
      · obtain rfl := List.mem_singleton.1 hp
        exact (HOK2.out.keep ((Keep.refl [] w2).alloc _) (NoB.nil _)).keep hkk hNB6
    case hnw =>
      intro g hg
      rcases HA6.out with h9 | h9
      · left; rw [HOB.out, h9]; simpa [Value.ownBlock] using hg
      · right
        have h8 : gz = g := by simpa [Value.ownBlock] using hg
        rw [← h8, h9]
        exact Nat.le_refl _
    have hT := (HE2.out.keep0 ((Keep.refl [] w2).alloc _)).then hI9
    refine ⟨(.slice a1 E.out.length p1), (.slice (some ⟨gz, 0, none⟩) (M + 1) cz), a', c', HFR2.out, ?_⟩
    rw [HE.out]
    
    skip
    refine EnTo.head hT (by repeat (first | exact Keep.refl _ _ | apply Keep.drew | apply Keep.alloc | refine Keep.setCell ?_ (.inl (by simp)) _)) rfl rfl ?_
    simp [blk_setCell, hI9.at_.blk, HY.out]
end Go.Proofs.Ytfgipbjaaciiiaa
namespace Go.Proofs.Ytfgipbjaaciiiaa
open Go.RowKit
theorem come15_any {w : World} {B b seq ack win : Nat} {has : Bool} {d : Bd} {E : En} {vo vi : Value} (h : EnAt w B b E vo vi) (hok : EnOk E) (hd : d.ok w) (hdl : d.bs.length ≤ 1000) (hs : seq ≤ 1000000) (ha : ack ≤ 1000000) (hwn : win ≤ 16) :
    Calls Try.prog 15 #[.pointer (some ⟨b, 0, none⟩), .agg #[.int .u32 seq, .int .u32 ack, .bool has, .int .i64 win, .slice d.a d.bs.length d.c]] w fun e w' => e = .returned (.int .i64 0) ∧ ComeTo w w' B b (gotE (ackE E ack win) has seq) d.bs vo vi := by
  have hr : has = false ∨ (has = true ∧ seq ≠ E.want) ∨ (has = true ∧ seq = E.want ∧ E.win ≤ E.inn.length) ∨ (has = true ∧ seq = E.want ∧ E.inn.length < E.win) := by
    cases has
    · exact .inl rfl
    · by_cases h1 : seq = E.want
      · by_cases h2 : E.inn.length < E.win
        · exact .inr (.inr (.inr ⟨rfl, h1, h2⟩))
        · exact .inr (.inr (.inl ⟨rfl, h1, by omega⟩))
      · exact .inr (.inl ⟨rfl, h1⟩)
  by_cases hca : E.base < ack ∧ ack ≤ E.base + E.out.length
  · rcases hr with h1 | ⟨h1, h2⟩ | ⟨h1, h2, h3⟩ | ⟨h1, h2, h3⟩
    · exact come15_an h hok hd hdl hs ha hwn hca h1
    · exact come15_as h hok hd hdl hs ha hwn hca h1 h2
    · exact come15_af h hok hd hdl hs ha hwn hca h1 h2 h3
    · exact come15_ay h hok hd hdl hs ha hwn hca h1 h2 h3
  by_cases hcz : ack = E.base
  · rcases hr with h1 | ⟨h1, h2⟩ | ⟨h1, h2, h3⟩ | ⟨h1, h2, h3⟩
    · exact come15_zn h hok hd hdl hs ha hwn hcz h1
    · exact come15_zs h hok hd hdl hs ha hwn hcz h1 h2
    · exact come15_zf h hok hd hdl hs ha hwn hcz h1 h2 h3
    · exact come15_zy h hok hd hdl hs ha hwn hcz h1 h2 h3
  by_cases hcl : ack < E.base
  · rcases hr with h1 | ⟨h1, h2⟩ | ⟨h1, h2, h3⟩ | ⟨h1, h2, h3⟩
    · exact come15_ln h hok hd hdl hs ha hwn hcl h1
    · exact come15_ls h hok hd hdl hs ha hwn hcl h1 h2
    · exact come15_lf h hok hd hdl hs ha hwn hcl h1 h2 h3
    · exact come15_ly h hok hd hdl hs ha hwn hcl h1 h2 h3
  have hg : E.base + E.out.length < ack := by omega
  rcases hr with h1 | ⟨h1, h2⟩ | ⟨h1, h2, h3⟩ | ⟨h1, h2, h3⟩
  · exact come15_gn h hok hd hdl hs ha hwn hg h1
  · exact come15_gs h hok hd hdl hs ha hwn hg h1 h2
  · exact come15_gf h hok hd hdl hs ha hwn hg h1 h2 h3
  · exact come15_gy h hok hd hdl hs ha hwn hg h1 h2 h3
end Go.Proofs.Ytfgipbjaaciiiaa
namespace Go
/-- A packet, as a value. -/
def Pk.val (q : Pk) : Value := .agg #[.int .u32 q.seq, .int .u32 q.ack, .bool q.has, .int .i64 q.win, q.body.val]
/-- What Out sends of the first k. -/
def outL (E : En) (ds : Nat → Bd) : Nat → List Pk
  | 0 => []
  | k + 1 => outL E ds k ++ (match E.out[k]? with
    | some p => if p.sent then [] else [⟨E.base + k, E.want, true, E.win - E.inn.length, ds k⟩]
    | none => [])
/-- The first k are sent. -/
def sentL (l : List Pd) (k : Nat) : List Pd := (l.take k).map (fun p => ⟨p.b, true⟩) ++ l.drop k
theorem sentL_len (l : List Pd) (k : Nat) : (sentL l k).length = l.length := by simp [sentL]; omega
theorem sentL_zero (l : List Pd) : sentL l 0 = l := by simp [sentL]
theorem sentL_at {l : List Pd} {k : Nat} (hk : k < l.length) : (sentL l k)[k]? = some l[k] := by
  unfold sentL
  rw [List.getElem?_append_right (by simp; omega)]
  simp
  rw [Nat.min_eq_left (by omega)]
  simp [hk]
theorem sentL_succ {l : List Pd} {k : Nat} (hk : k < l.length) : (sentL l k).set k ⟨l[k].b, true⟩ = sentL l (k + 1) := by
  unfold sentL
  rw [List.take_add_one, List.getElem?_eq_getElem hk, List.map_append, List.set_append_right _ _ (by simp; omega)]
  simp only [List.length_map, List.length_take]
  have h1 : (l.drop k).set 0 ⟨l[k].b, true⟩ = (⟨l[k].b, true⟩ : Pd) :: l.drop (k + 1) := by rw [List.drop_eq_getElem_cons hk]; rfl
  rw [Nat.min_eq_left (by omega), Nat.sub_self, h1]
  simp
theorem sentL_now {l : List Pd} {k : Nat} {p : Pd} (h : l[k]? = some p) : (sentL l (k + 1))[k]? = some ⟨p.b, true⟩ := by
  obtain ⟨hk, rfl⟩ := List.getElem?_eq_some_iff.1 h
  rw [← sentL_succ hk, List.getElem?_set, if_pos rfl, if_pos (by rw [sentL_len]; exact hk)]
theorem sentL_skip {l : List Pd} {k : Nat} (hk : k < l.length) (hs : l[k].sent = true) : sentL l (k + 1) = sentL l k := by
  rw [← sentL_succ hk]
  have h1 : (⟨l[k].b, true⟩ : Pd) = l[k] := by rw [← hs]
  rw [h1]
  have h2 := sentL_at hk
  exact List.ext_getElem? fun i => by
    rw [List.getElem?_set]
    split
    · rename_i he
      subst he
      rw [if_pos (by rw [sentL_len]; exact hk), h2]
    · rfl
theorem outL_len (E : En) (ds : Nat → Bd) (k : Nat) : (outL E ds k).length ≤ k := by
  induction k with
  | zero => simp [outL]
  | succ k ih =>
    rw [outL, List.length_append]
    have : (match E.out[k]? with
      | some p => if p.sent then [] else [(⟨E.base + k, E.want, true, E.win - E.inn.length, ds k⟩ : Pk)]
      | none => []).length ≤ 1 := by
      split
      · split <;> simp
      · simp
    omega
theorem outL_congr {E : En} {ds ds' : Nat → Bd} {k : Nat} (h : ∀ i, i < k → ds i = ds' i) : outL E ds k = outL E ds' k := by
  induction k with
  | zero => rfl
  | succ k ih => rw [outL, outL, ih (fun i hi => h i (by omega)), h k (by omega)]
end Go
