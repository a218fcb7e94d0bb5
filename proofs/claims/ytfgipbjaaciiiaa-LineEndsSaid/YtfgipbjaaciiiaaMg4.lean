/- Texts laid together: L5 L6 L7p. -/
import Derived.Test.YtfgipbjaaciiiaaMg3
import Derived.Deep.RegionHeldLaw
import Derived.Deep.RegionLaw
import Derived.BigRegion
namespace Go.Proofs.Ytfgipbjaaciiiaa
open Go.RowKit
theorem clone17_p {a : Option Addr} {n c : Nat} {bs : List Int} {w : World} (hv : BytesV w a n c bs) (hn : n ≤ 1000000) :
    Calls Try.prog 17 #[.slice a n c] w fun e w' => ∃ a' c', e = .returned (.slice a' n c') ∧ Keep [] w w' ∧ (Bd.mk a' c' bs).ok w' ∧ ∀ x, a' = some x → w.heap.size ≤ x.block := by
  have hl := hv.len
  refine (clone17_any hv hn).mono ?_
  rintro e w' ⟨⟨a', c', bs'⟩, rfl, rfl, hk, hok, hf⟩
  exact ⟨a', c', by subst hl; rfl, hk, hok, hf⟩
theorem cells_newS (w : World) (xs : List Value) (t : TypeId) : ∀ j u, xs[j]? = some u → ((w.alloc (.cells xs.toArray t)).drew).cell? ((⟨w.heap.size, 0, none⟩ : Addr).add j) = some u := cells_new w xs t (0, 0)
theorem put_ok {w w1 w6 : World} {B b : Nat} {E : En} {vo vi : Value} {o : Obj} {y : Pd} {r : Option Nat} (h : EnAt w B b E vo vi) (hk1 : Keep [] w (w1.alloc o)) (hy : y.b.ok w1) (hg : (w1.alloc o).grownBy w6 r) (hr : vo.ownBlock = r) : ∀ p ∈ E.out ++ [y], p.b.ok w6 := by
  have hkg : Keep r.toList (w1.alloc o) w6 := Keep.ofGrown hg (fun k hk => by simp [hk])
  have hNB : NoB r.toList (w1.alloc o) := fun g hgm cs f hc => by
    obtain ⟨c, h1⟩ := ownCells h.out (hr.trans (by simpa using hgm))
    exact neType (hk1.at h1 (by simp)) hc (by decide) rfl
  intro p hp
  rcases List.mem_append.1 hp with hp | hp
  · exact ((h.bo p hp).keep hk1 (NoB.nil w)).keep hkg hNB
  · obtain rfl : p = y := by simpa using hp
    exact (hy.keep ((Keep.refl [] w1).alloc o) (NoB.nil w1)).keep hkg hNB
set_option maxRecDepth 100000 in
set_option maxHeartbeats 2000000 in
theorem put13_any {w : World} {B b : Nat} {E : En} {vo vi : Value} {a : Option Addr} {n c : Nat} {bs : List Int} (h : EnAt w B b E vo vi) (hok : EnOk E) (hv : BytesV w a n c bs) (hn : n ≤ 1000) (hfull : E.out.length < E.win) :
    Calls Try.prog 13 #[.pointer (some ⟨b, 0, none⟩), .slice a n c] w fun e w' => e = .returned (.int .i64 0) ∧ ∃ vo' a' c', (∀ x, a' = some x → w.heap.size ≤ x.block) ∧ EnTo w w' B b { E with out := E.out ++ [⟨⟨a', c', bs⟩, false⟩] } vo vi vo' vi := by
  obtain ⟨c0, c1, c2, c3, c4, c5, c6, hz⟩ := row7 h.blk
  obtain ⟨a1, p1, rfl, hp1, hp2, hp3⟩ := ownAny h.out
  obtain ⟨i0, hi0, hz0, hz1, hz2⟩ := info_parts2 info78
  have H := Lib.hid h
  have HV := Lib.hid hv
  unfold maxLen at hp2
  have hl := hok.out
  have hw := hok.win
  have hlt := lt_of_blk h.blk
  obtain ⟨L, hL⟩ : ∃ L, E.out.length = L := ⟨_, rfl⟩
  obtain ⟨W, hW⟩ : ∃ W, E.win = W := ⟨_, rfl⟩
  rw [hL] at c4 hl hp1 hfull
  rw [hW] at c0 hl hw hfull
  have hne : ((L : Int) == (W : Int)) = false := beq_eq_false_iff_ne.2 (by omega)
  have HO : Hid (w.ownsRow B 78 2 (.slice a1 L p1) L (pdsC E.out)) := Lib.hid (by have := h.out; rw [hL] at this; exact this)
  have HL := Lib.hid hL
  have hBs : B ≤ w.heap.size := by have := h.hB; omega
  have hvl : bs.length = n := hv.len
  have HDD : Hid (Keep [] w w.drew.drew) := Lib.hid ((Keep.refl [] w).drew.drew)
  have HOB : Hid ((Value.slice a1 E.out.length p1).ownBlock = (Value.slice a1 L p1).ownBlock) := Lib.hid (by cases a1 <;> rfl)
  have HB1 : Hid (L + 1 ≤ maxLen) := Lib.hid (by unfold maxLen; omega)
  have HB2 : Hid ((L + 1) * 32 ≤ 140737488355328) := Lib.hid (by omega)
  clear hp3 h hv hok hL hW
  go_enter Try.func13, Try.ntmps13
  go_wp2_with (first | (with_reducible refine Txt.wp_region_text mixed quiet (by decide +kernel) ?_) | (with_reducible refine Txt.text_done (by kernel_rfl) ?_))
  refine wp_region_held_drew (S := fun _ => True) (by kernel_rfl) ?_ (fun hHeld1 => ?_)
  · (try dsimp only)
    skip
  refine wpAnyH_take (i := 0) (v := ?_) rfl (by kernel_rfl) (by kernel_rfl) (by kernel_rfl) (fun _ _ _ h => h) (Or.inl ⟨by rfl, ?_⟩) (by assumption) ?_
  rotate_left
  · (intro w hSw; (try dsimp only at hSw); go_simp; (try with_reducible rfl))
  try simp only [Act.put]
  try simp only [List.setIfInBounds_toArray]
  try simp only [List.set_cons_succ]
  try simp only [List.set_cons_zero]
  refine wpAnyH_take (i := 1) (v := ?_) rfl (by kernel_rfl) (by kernel_rfl) (by kernel_rfl) (fun _ _ _ h => h) (Or.inl ⟨by rfl, ?_⟩) (by assumption) ?_
  rotate_left
  · (intro w hSw; (try dsimp only at hSw); go_simp; (try with_reducible rfl))
  try simp only [Act.put]
  try simp only [List.setIfInBounds_toArray]
  try simp only [List.set_cons_succ]
  try simp only [List.set_cons_zero]
  refine wpAnyH_take (i := 2) (v := ?_) rfl (by kernel_rfl) (by kernel_rfl) (by kernel_rfl) (fun _ _ _ h => h) (Or.inl ⟨by rfl, ?_⟩) (by assumption) ?_
  rotate_left
  · (intro w hSw; (try dsimp only at hSw); go_simp; (try with_reducible rfl))
  try simp only [Act.put]
  try simp only [List.setIfInBounds_toArray]
  try simp only [List.set_cons_succ]
  try simp only [List.set_cons_zero]
  refine wpAnyH_take (i := 3) (v := ?_) rfl (by kernel_rfl) (by kernel_rfl) (by kernel_rfl) (fun _ _ _ h => h) (Or.inl ⟨by rfl, ?_⟩) (by assumption) ?_
  rotate_left
  · (intro w hSw; (try dsimp only at hSw); go_simp; (try with_reducible rfl))
  try simp only [Act.put]
  try simp only [List.setIfInBounds_toArray]
  try simp only [List.set_cons_succ]
  try simp only [List.set_cons_zero]
  refine wpAnyH_take (i := 5) (v := ?_) rfl (by kernel_rfl) (by kernel_rfl) (by kernel_rfl) (fun _ _ _ h => h) (Or.inl ⟨by rfl, ?_⟩) (by assumption) ?_
  rotate_left
  · (intro w hSw; (try dsimp only at hSw); go_simp; (try with_reducible rfl))
  try simp only [Act.put]
  try simp only [List.setIfInBounds_toArray]
  try simp only [List.set_cons_succ]
  try simp only [List.set_cons_zero]
  refine wpAnyH_ready (rs := [4, 6]) (by kernel_rfl) (by simp) ?_
  refine (AllReadyH.cons rfl (fun K hK => ?_) (AllReadyH.cons rfl (fun K hK => ?_) AllReadyH.nil))
  go_simp
  refine hK.out _ _ ?_ (fun hHeld2 => ?_)
  · (try dsimp only)
    skip
  clear hK K
  clear hHeld1
  refine wpAnyH_ready (rs := [6]) (by kernel_rfl) (by simp) ?_
  refine AllReadyH.cons rfl (fun K hK => ?_) AllReadyH.nil
  (first | (go_simp; go_at_call 17; (with_reducible refine (clone17_p (HV.out.keep HDD.out (by simp)) (by omega)).mono ?_); rintro e w1 ⟨a', c', rfl, hk0, hok1, hfr1⟩; have hk1 := HDD.out.trans hk0; have HK1 := Lib.hid hk1; have HOK1 := Lib.hid hok1; have HFR1 := Lib.hid hfr1; have d4 := hk1.cell c4 (by simp); have HKA : Hid (Keep [] w (w1.alloc (.cells #[.slice a' n c', .bool false] 78))) := Lib.hid (hk1.alloc _); have f4 := HKA.out.cell c4 (by simp); have HXD : Hid ((w1.alloc (.cells #[.slice a' n c', .bool false] 78)).ownsRow B 78 2 (.slice a1 L p1) L (pdsC E.out)) := Lib.hid (own_keep HO.out HKA.out (by simp)); have HOC : Hid (∀ v ∈ [Value.slice a' n c', .bool false], v.oneCell' = true) := Lib.hid (by intro v hv; simp at hv; rcases hv with hv | hv <;> (subst hv; rfl)); have HB5 : Hid (B ≤ (w1.alloc (.cells #[.slice a' n c', .bool false] 78)).heap.size) := Lib.hid (Nat.le_trans hBs HKA.out.size); clear hk1 hk0 hok1 hfr1) | (refine step_append_lies _ rfl (.tmp 24) (.tmp 28) 74 rfl B 78 i0 _ 2 32 Try.underlying74 hi0 hz0 hz1 hz2 rfl (by decide) (.slice a1 L p1) L (pdsC E.out) (by simp [Act.eval]) HXD.out ⟨w1.heap.size, 0, none⟩ 1 1 [.slice a' n c', .bool false] (by simp [Act.eval]) rfl (cells_new w1 [.slice a' n c', .bool false] 78 (0, 0)) HOC.out (by decide) HB1.out HB2.out HB5.out _ rfl ?_; intro gz cz w6 hown6 hgr6 hat6 hlt6; have hk6 : Keep (Value.slice a1 L p1).ownBlock.toList w w6 := (HKA.out.more (by simp)).grown hgr6 (fun x hx => .inl (by have h9 : (Value.slice a1 L p1).ownBlock = some x := hx; simp [h9])); have g4 := hk6.cell c4 (notIn_out H.out (fun g hg => .inl (by rw [HOB.out]; simpa using hg)) H.out.blk (by decide)); have hb6 := hk6.at H.out.blk (notIn_out H.out (fun g hg => .inl (by rw [HOB.out]; simpa using hg)) H.out.blk (by decide)); have z6 := thaw hb6; have HPB : Hid (∀ p ∈ E.out ++ [⟨⟨a', c', bs⟩, false⟩], p.b.ok w6) := Lib.hid (put_ok H.out HKA.out HOK1.out hgr6 (by rw [← HOB.out])); have HO6 := Lib.hid hown6; have HK6 := Lib.hid hk6; have HA6 := Lib.hid hat6; clear hb6 hown6 hgr6 hat6 hk6))
  refine hK.out _ _ ?_ (fun hHeld3 => ?_)
  · (try dsimp only)
    skip
  clear hK K
  clear hHeld2
  refine wpAnyH_take (i := 7) (v := ?_) rfl (by kernel_rfl) (by kernel_rfl) (by kernel_rfl) (fun _ _ _ h => h) (Or.inl ⟨by rfl, ?_⟩) (by assumption) ?_
  rotate_left
  · (intro w hSw; (try dsimp only at hSw); go_simp; (try with_reducible rfl))
  try simp only [Act.put]
  try simp only [List.setIfInBounds_toArray]
  try simp only [List.set_cons_succ]
  try simp only [List.set_cons_zero]
  refine wpAnyH_ready (rs := [8]) (by kernel_rfl) (by simp) ?_
  refine AllReadyH.cons rfl (fun K hK => ?_) AllReadyH.nil
  go_simp
  refine hK.out _ _ ?_ (fun hHeld4 => ?_)
  · (try dsimp only)
    skip
  clear hK K
  clear hHeld3
  refine wpAnyH_ready (rs := [9]) (by kernel_rfl) (by simp) ?_
  refine AllReadyH.cons rfl (fun K hK => ?_) AllReadyH.nil
  (first | (go_simp; go_at_call 17; (with_reducible refine (clone17_p (HV.out.keep HDD.out (by simp)) (by omega)).mono ?_); rintro e w1 ⟨a', c', rfl, hk0, hok1, hfr1⟩; have hk1 := HDD.out.trans hk0; have HK1 := Lib.hid hk1; have HOK1 := Lib.hid hok1; have HFR1 := Lib.hid hfr1; have d4 := hk1.cell c4 (by simp); have HKA : Hid (Keep [] w (w1.alloc (.cells #[.slice a' n c', .bool false] 78))) := Lib.hid (hk1.alloc _); have f4 := HKA.out.cell c4 (by simp); have HXD : Hid ((w1.alloc (.cells #[.slice a' n c', .bool false] 78)).ownsRow B 78 2 (.slice a1 L p1) L (pdsC E.out)) := Lib.hid (own_keep HO.out HKA.out (by simp)); have HOC : Hid (∀ v ∈ [Value.slice a' n c', .bool false], v.oneCell' = true) := Lib.hid (by intro v hv; simp at hv; rcases hv with hv | hv <;> (subst hv; rfl)); have HB5 : Hid (B ≤ (w1.alloc (.cells #[.slice a' n c', .bool false] 78)).heap.size) := Lib.hid (Nat.le_trans hBs HKA.out.size); clear hk1 hk0 hok1 hfr1) | (refine step_append_lies _ rfl (.tmp 24) (.tmp 28) 74 rfl B 78 i0 _ 2 32 Try.underlying74 hi0 hz0 hz1 hz2 rfl (by decide) (.slice a1 L p1) L (pdsC E.out) (by simp [Act.eval]) HXD.out ⟨w1.heap.size, 0, none⟩ 1 1 [.slice a' n c', .bool false] (by simp [Act.eval]) rfl (cells_new w1 [.slice a' n c', .bool false] 78 (0, 0)) HOC.out (by decide) HB1.out HB2.out HB5.out _ rfl ?_; intro gz cz w6 hown6 hgr6 hat6 hlt6; have hk6 : Keep (Value.slice a1 L p1).ownBlock.toList w w6 := (HKA.out.more (by simp)).grown hgr6 (fun x hx => .inl (by have h9 : (Value.slice a1 L p1).ownBlock = some x := hx; simp [h9])); have g4 := hk6.cell c4 (notIn_out H.out (fun g hg => .inl (by rw [HOB.out]; simpa using hg)) H.out.blk (by decide)); have hb6 := hk6.at H.out.blk (notIn_out H.out (fun g hg => .inl (by rw [HOB.out]; simpa using hg)) H.out.blk (by decide)); have z6 := thaw hb6; have HPB : Hid (∀ p ∈ E.out ++ [⟨⟨a', c', bs⟩, false⟩], p.b.ok w6) := Lib.hid (put_ok H.out HKA.out HOK1.out hgr6 (by rw [← HOB.out])); have HO6 := Lib.hid hown6; have HK6 := Lib.hid hk6; have HA6 := Lib.hid hat6; clear hb6 hown6 hgr6 hat6 hk6))
  refine hK.out _ _ ?_ (fun hHeld5 => ?_)
  · (try dsimp only)
    skip
  clear hK K
  clear hHeld4
  refine wpAnyH_take (i := 10) (v := ?_) rfl (by kernel_rfl) (by kernel_rfl) (by kernel_rfl) (fun _ _ _ h => h) (Or.inl ⟨by rfl, ?_⟩) (by assumption) ?_
  rotate_left
  · (intro w hSw; (try dsimp only at hSw); go_simp; (try with_reducible rfl))
  try simp only [Act.put]
  try simp only [List.setIfInBounds_toArray]
  try simp only [List.set_cons_succ]
  try simp only [List.set_cons_zero]
  refine wpAnyH_take (i := 11) (v := ?_) rfl (by kernel_rfl) (by kernel_rfl) (by kernel_rfl) (fun _ _ _ h => h) (Or.inl ⟨by rfl, ?_⟩) (by assumption) ?_
  rotate_left
  · (intro w hSw; (try dsimp only at hSw); go_simp; (try with_reducible rfl))
  try simp only [Act.put]
  try simp only [List.setIfInBounds_toArray]
  try simp only [List.set_cons_succ]
  try simp only [List.set_cons_zero]
  refine wpAnyH_ready (rs := [12]) (by kernel_rfl) (by simp) ?_
  refine AllReadyH.cons rfl (fun K hK => ?_) AllReadyH.nil
  go_simp
  refine hK.out _ _ ?_ (fun hHeld6 => ?_)
  · (try dsimp only)
    skip
  clear hK K
  clear hHeld5
  refine wpAnyH_done (by kernel_rfl) ?_ _
  rotate_left
  (first | (go_simp; go_at_call 17; (with_reducible refine (clone17_p (HV.out.keep HDD.out (by simp)) (by omega)).mono ?_); rintro e w1 ⟨a', c', rfl, hk0, hok1, hfr1⟩; have hk1 := HDD.out.trans hk0; have HK1 := Lib.hid hk1; have HOK1 := Lib.hid hok1; have HFR1 := Lib.hid hfr1; have d4 := hk1.cell c4 (by simp); have HKA : Hid (Keep [] w (w1.alloc (.cells #[.slice a' n c', .bool false] 78))) := Lib.hid (hk1.alloc _); have f4 := HKA.out.cell c4 (by simp); have HXD : Hid ((w1.alloc (.cells #[.slice a' n c', .bool false] 78)).ownsRow B 78 2 (.slice a1 L p1) L (pdsC E.out)) := Lib.hid (own_keep HO.out HKA.out (by simp)); have HOC : Hid (∀ v ∈ [Value.slice a' n c', .bool false], v.oneCell' = true) := Lib.hid (by intro v hv; simp at hv; rcases hv with hv | hv <;> (subst hv; rfl)); have HB5 : Hid (B ≤ (w1.alloc (.cells #[.slice a' n c', .bool false] 78)).heap.size) := Lib.hid (Nat.le_trans hBs HKA.out.size); clear hk1 hk0 hok1 hfr1) | (refine step_append_lies _ rfl (.tmp 24) (.tmp 28) 74 rfl B 78 i0 _ 2 32 Try.underlying74 hi0 hz0 hz1 hz2 rfl (by decide) (.slice a1 L p1) L (pdsC E.out) (by simp [Act.eval]) HXD.out ⟨w1.heap.size, 0, none⟩ 1 1 [.slice a' n c', .bool false] (by simp [Act.eval]) rfl (cells_new w1 [.slice a' n c', .bool false] 78 (0, 0)) HOC.out (by decide) HB1.out HB2.out HB5.out _ rfl ?_; intro gz cz w6 hown6 hgr6 hat6 hlt6; have hk6 : Keep (Value.slice a1 L p1).ownBlock.toList w w6 := (HKA.out.more (by simp)).grown hgr6 (fun x hx => .inl (by have h9 : (Value.slice a1 L p1).ownBlock = some x := hx; simp [h9])); have g4 := hk6.cell c4 (notIn_out H.out (fun g hg => .inl (by rw [HOB.out]; simpa using hg)) H.out.blk (by decide)); have hb6 := hk6.at H.out.blk (notIn_out H.out (fun g hg => .inl (by rw [HOB.out]; simpa using hg)) H.out.blk (by decide)); have z6 := thaw hb6; have HPB : Hid (∀ p ∈ E.out ++ [⟨⟨a', c', bs⟩, false⟩], p.b.ok w6) := Lib.hid (put_ok H.out HKA.out HOK1.out hgr6 (by rw [← HOB.out])); have HO6 := Lib.hid hown6; have HK6 := Lib.hid hk6; have HA6 := Lib.hid hat6; clear hb6 hown6 hgr6 hat6 hk6))
  refine hK.out _ _ ?_ (fun hHeld7 => ?_)
  · (try dsimp only)
    skip
  clear hK K
  clear hHeld1
  refine wpAnyH_take (i := 7) (v := ?_) rfl (by kernel_rfl) (by kernel_rfl) (by kernel_rfl) (fun _ _ _ h => h) (Or.inl ⟨by rfl, ?_⟩) (by assumption) ?_
  rotate_left
  · (intro w hSw; (try dsimp only at hSw); go_simp; (try with_reducible rfl))
  try simp only [Act.put]
  try simp only [List.setIfInBounds_toArray]
  try simp only [List.set_cons_succ]
  try simp only [List.set_cons_zero]
  refine wpAnyH_ready (rs := [4, 8]) (by kernel_rfl) (by simp) ?_
  refine (AllReadyH.cons rfl (fun K hK => ?_) (AllReadyH.cons rfl (fun K hK => ?_) AllReadyH.nil))
  go_simp
  refine hK.out _ _ ?_ (fun hHeld8 => ?_)
  · (try dsimp only)
    skip
  clear hK K
  clear hHeld7
  refine wpAnyH_ready (rs := [8]) (by kernel_rfl) (by simp) ?_
  refine AllReadyH.cons rfl (fun K hK => ?_) AllReadyH.nil
  go_simp
  refine hK.out _ _ ?_ (fun hHeld9 => ?_)
  · (try dsimp only)
    skip
  clear hK K
  clear hHeld8
  refine wpAnyH_ready (rs := [9]) (by kernel_rfl) (by simp) ?_
  refine AllReadyH.cons rfl (fun K hK => ?_) AllReadyH.nil
  (first | (go_simp; go_at_call 17; (with_reducible refine (clone17_p (HV.out.keep HDD.out (by simp)) (by omega)).mono ?_); rintro e w1 ⟨a', c', rfl, hk0, hok1, hfr1⟩; have hk1 := HDD.out.trans hk0; have HK1 := Lib.hid hk1; have HOK1 := Lib.hid hok1; have HFR1 := Lib.hid hfr1; have d4 := hk1.cell c4 (by simp); have HKA : Hid (Keep [] w (w1.alloc (.cells #[.slice a' n c', .bool false] 78))) := Lib.hid (hk1.alloc _); have f4 := HKA.out.cell c4 (by simp); have HXD : Hid ((w1.alloc (.cells #[.slice a' n c', .bool false] 78)).ownsRow B 78 2 (.slice a1 L p1) L (pdsC E.out)) := Lib.hid (own_keep HO.out HKA.out (by simp)); have HOC : Hid (∀ v ∈ [Value.slice a' n c', .bool false], v.oneCell' = true) := Lib.hid (by intro v hv; simp at hv; rcases hv with hv | hv <;> (subst hv; rfl)); have HB5 : Hid (B ≤ (w1.alloc (.cells #[.slice a' n c', .bool false] 78)).heap.size) := Lib.hid (Nat.le_trans hBs HKA.out.size); clear hk1 hk0 hok1 hfr1) | (refine step_append_lies _ rfl (.tmp 24) (.tmp 28) 74 rfl B 78 i0 _ 2 32 Try.underlying74 hi0 hz0 hz1 hz2 rfl (by decide) (.slice a1 L p1) L (pdsC E.out) (by simp [Act.eval]) HXD.out ⟨w1.heap.size, 0, none⟩ 1 1 [.slice a' n c', .bool false] (by simp [Act.eval]) rfl (cells_new w1 [.slice a' n c', .bool false] 78 (0, 0)) HOC.out (by decide) HB1.out HB2.out HB5.out _ rfl ?_; intro gz cz w6 hown6 hgr6 hat6 hlt6; have hk6 : Keep (Value.slice a1 L p1).ownBlock.toList w w6 := (HKA.out.more (by simp)).grown hgr6 (fun x hx => .inl (by have h9 : (Value.slice a1 L p1).ownBlock = some x := hx; simp [h9])); have g4 := hk6.cell c4 (notIn_out H.out (fun g hg => .inl (by rw [HOB.out]; simpa using hg)) H.out.blk (by decide)); have hb6 := hk6.at H.out.blk (notIn_out H.out (fun g hg => .inl (by rw [HOB.out]; simpa using hg)) H.out.blk (by decide)); have z6 := thaw hb6; have HPB : Hid (∀ p ∈ E.out ++ [⟨⟨a', c', bs⟩, false⟩], p.b.ok w6) := Lib.hid (put_ok H.out HKA.out HOK1.out hgr6 (by rw [← HOB.out])); have HO6 := Lib.hid hown6; have HK6 := Lib.hid hk6; have HA6 := Lib.hid hat6; clear hb6 hown6 hgr6 hat6 hk6))
  refine hK.out _ _ ?_ (fun hHeld10 => ?_)
  · (try dsimp only)
    skip
  clear hK K
  clear hHeld9
  refine wpAnyH_take (i := 10) (v := ?_) rfl (by kernel_rfl) (by kernel_rfl) (by kernel_rfl) (fun _ _ _ h => h) (Or.inl ⟨by rfl, ?_⟩) (by assumption) ?_
  rotate_left
  · (intro w hSw; (try dsimp only at hSw); go_simp; (try with_reducible rfl))
  try simp only [Act.put]
  try simp only [List.setIfInBounds_toArray]
  try simp only [List.set_cons_succ]
  try simp only [List.set_cons_zero]
  refine wpAnyH_take (i := 11) (v := ?_) rfl (by kernel_rfl) (by kernel_rfl) (by kernel_rfl) (fun _ _ _ h => h) (Or.inl ⟨by rfl, ?_⟩) (by assumption) ?_
  rotate_left
  · (intro w hSw; (try dsimp only at hSw); go_simp; (try with_reducible rfl))
  try simp only [Act.put]
  try simp only [List.setIfInBounds_toArray]
  try simp only [List.set_cons_succ]
  try simp only [List.set_cons_zero]
  refine wpAnyH_ready (rs := [12]) (by kernel_rfl) (by simp) ?_
  refine AllReadyH.cons rfl (fun K hK => ?_) AllReadyH.nil
  go_simp
  refine hK.out _ _ ?_ (fun hHeld11 => ?_)
  · (try dsimp only)
    skip
  clear hK K
  clear hHeld10
  refine wpAnyH_done (by kernel_rfl) ?_ _
  rotate_left
  go_simp
  refine hK.out _ _ ?_ (fun hHeld12 => ?_)
  · (try dsimp only)
    skip
  clear hK K
  clear hHeld7
  refine wpAnyH_ready (rs := [4]) (by kernel_rfl) (by simp) ?_
  refine AllReadyH.cons rfl (fun K hK => ?_) AllReadyH.nil
  go_simp
  refine hK.out _ _ ?_ (fun hHeld13 => ?_)
  · (try dsimp only)
    skip
  clear hK K
  clear hHeld12
  refine wpAnyH_ready (rs := [9]) (by kernel_rfl) (by simp) ?_
  refine AllReadyH.cons rfl (fun K hK => ?_) AllReadyH.nil
  (first | (go_simp; go_at_call 17; (with_reducible refine (clone17_p (HV.out.keep HDD.out (by simp)) (by omega)).mono ?_); rintro e w1 ⟨a', c', rfl, hk0, hok1, hfr1⟩; have hk1 := HDD.out.trans hk0; have HK1 := Lib.hid hk1; have HOK1 := Lib.hid hok1; have HFR1 := Lib.hid hfr1; have d4 := hk1.cell c4 (by simp); have HKA : Hid (Keep [] w (w1.alloc (.cells #[.slice a' n c', .bool false] 78))) := Lib.hid (hk1.alloc _); have f4 := HKA.out.cell c4 (by simp); have HXD : Hid ((w1.alloc (.cells #[.slice a' n c', .bool false] 78)).ownsRow B 78 2 (.slice a1 L p1) L (pdsC E.out)) := Lib.hid (own_keep HO.out HKA.out (by simp)); have HOC : Hid (∀ v ∈ [Value.slice a' n c', .bool false], v.oneCell' = true) := Lib.hid (by intro v hv; simp at hv; rcases hv with hv | hv <;> (subst hv; rfl)); have HB5 : Hid (B ≤ (w1.alloc (.cells #[.slice a' n c', .bool false] 78)).heap.size) := Lib.hid (Nat.le_trans hBs HKA.out.size); clear hk1 hk0 hok1 hfr1) | (refine step_append_lies _ rfl (.tmp 24) (.tmp 28) 74 rfl B 78 i0 _ 2 32 Try.underlying74 hi0 hz0 hz1 hz2 rfl (by decide) (.slice a1 L p1) L (pdsC E.out) (by simp [Act.eval]) HXD.out ⟨w1.heap.size, 0, none⟩ 1 1 [.slice a' n c', .bool false] (by simp [Act.eval]) rfl (cells_new w1 [.slice a' n c', .bool false] 78 (0, 0)) HOC.out (by decide) HB1.out HB2.out HB5.out _ rfl ?_; intro gz cz w6 hown6 hgr6 hat6 hlt6; have hk6 : Keep (Value.slice a1 L p1).ownBlock.toList w w6 := (HKA.out.more (by simp)).grown hgr6 (fun x hx => .inl (by have h9 : (Value.slice a1 L p1).ownBlock = some x := hx; simp [h9])); have g4 := hk6.cell c4 (notIn_out H.out (fun g hg => .inl (by rw [HOB.out]; simpa using hg)) H.out.blk (by decide)); have hb6 := hk6.at H.out.blk (notIn_out H.out (fun g hg => .inl (by rw [HOB.out]; simpa using hg)) H.out.blk (by decide)); have z6 := thaw hb6; have HPB : Hid (∀ p ∈ E.out ++ [⟨⟨a', c', bs⟩, false⟩], p.b.ok w6) := Lib.hid (put_ok H.out HKA.out HOK1.out hgr6 (by rw [← HOB.out])); have HO6 := Lib.hid hown6; have HK6 := Lib.hid hk6; have HA6 := Lib.hid hat6; clear hb6 hown6 hgr6 hat6 hk6))
  refine hK.out _ _ ?_ (fun hHeld14 => ?_)
  · (try dsimp only)
    skip
  clear hK K
  clear hHeld13
  refine wpAnyH_take (i := 10) (v := ?_) rfl (by kernel_rfl) (by kernel_rfl) (by kernel_rfl) (fun _ _ _ h => h) (Or.inl ⟨by rfl, ?_⟩) (by assumption) ?_
  rotate_left
  · (intro w hSw; (try dsimp only at hSw); go_simp; (try with_reducible rfl))
  try simp only [Act.put]
  try simp only [List.setIfInBounds_toArray]
  try simp only [List.set_cons_succ]
  try simp only [List.set_cons_zero]
  refine wpAnyH_take (i := 11) (v := ?_) rfl (by kernel_rfl) (by kernel_rfl) (by kernel_rfl) (fun _ _ _ h => h) (Or.inl ⟨by rfl, ?_⟩) (by assumption) ?_
  rotate_left
  · (intro w hSw; (try dsimp only at hSw); go_simp; (try with_reducible rfl))
  try simp only [Act.put]
  try simp only [List.setIfInBounds_toArray]
  try simp only [List.set_cons_succ]
  try simp only [List.set_cons_zero]
  refine wpAnyH_ready (rs := [12]) (by kernel_rfl) (by simp) ?_
  refine AllReadyH.cons rfl (fun K hK => ?_) AllReadyH.nil
  go_simp
  refine hK.out _ _ ?_ (fun hHeld15 => ?_)
  · (try dsimp only)
    skip
  clear hK K
  clear hHeld14
  refine wpAnyH_done (by kernel_rfl) ?_ _
  rotate_left
  rotate_left
  all_goals
    go_wp2_with (first | (with_reducible refine Txt.wp_region_text mixed quiet (by decide +kernel) ?_) | (with_reducible refine Txt.text_done (by kernel_rfl) ?_))
    go_ret
    have hr := H.out.newOut (S := (Value.slice a1 L p1).ownBlock.toList) (l := E.out ++ [⟨⟨a', c', bs⟩, false⟩]) (vo' := .slice (some ⟨gz, 0, none⟩) (L + 1) cz) HK6.out (fun g hg => .inl (by rw [HOB.out]; simpa using hg)) (by rw [List.length_append, List.length_singleton, HL.out, pdsC_app]; simp only [pdsC, List.flatMap_cons, List.flatMap_nil, List.append_nil, Pd.cells, Bd.val]; rw [hvl]; exact HO6.out) HPB.out (fun g hg => ?_)
    · exact ⟨rfl, _, a', c', HFR1.out, hr⟩
    · rcases HA6.out with h9 | h9
      · left; rw [HOB.out, h9]; simpa [Value.ownBlock] using hg
      · right
        have h8 : gz = g := by simpa [Value.ownBlock] using hg
        rw [← h8, h9]
        exact HKA.out.size
end Go.Proofs.Ytfgipbjaaciiiaa
namespace Go
theorem EnAt.vo {w : World} {B b : Nat} {E : En} {vo vi : Value} (h : EnAt w B b E vo vi) (hn : 0 < E.out.length) : ∃ g c, vo = .slice (some ⟨g, 0, none⟩) E.out.length c ∧ E.out.length ≤ c ∧ c ≤ maxLen ∧ g < w.heap.size ∧ (∀ i, w.frozen? ⟨g, i, none⟩ = false) ∧ ∃ cur, w.heap[g]? = some (.cells cur 78 (0, 0)) ∧ cur.toList.take (E.out.length * 2) = pdsC E.out ∧ ∀ i, i < E.out.length * 2 → w.cell? ⟨g, i, none⟩ = (pdsC E.out)[i]? := by
  rcases h.out.2 with ⟨rfl, h0⟩ | ⟨g, cap, cur, rfl, hb, hg, hnc, hcm, hcs, ht⟩
  · omega
  · refine ⟨g, cap, rfl, hnc, hcm, lt_of_blk hg, thaw hg, cur, hg, ht, fun i hi => ?_⟩
    rw [cell_of_row w g i cur 78 (0, 0) hg]
    have : (cur.toList.take (E.out.length * 2))[i]? = (pdsC E.out)[i]? := by rw [ht]
    rw [List.getElem?_take, if_pos hi] at this
    simpa using this
/-- The first k to be sent again. -/
def again (l : List Pd) (k : Nat) : List Pd := (l.take k).map (fun p => ⟨p.b, false⟩) ++ l.drop k
theorem again_len (l : List Pd) (k : Nat) : (again l k).length = l.length := by simp [again]; omega
theorem again_zero (l : List Pd) : again l 0 = l := by simp [again]
theorem again_at {l : List Pd} {k : Nat} (hk : k < l.length) : (again l k)[k]? = some l[k] := by
  unfold again
  rw [List.getElem?_append_right (by simp; omega)]
  simp
  rw [Nat.min_eq_left (by omega)]
  simp [hk]
theorem again_succ {l : List Pd} {k : Nat} (hk : k < l.length) : (again l k).set k ⟨l[k].b, false⟩ = again l (k + 1) := by
  unfold again
  rw [List.take_add_one, List.getElem?_eq_getElem hk, List.map_append, List.set_append_right _ _ (by simp; omega)]
  simp only [List.length_map, List.length_take]
  have h1 : (l.drop k).set 0 ⟨l[k].b, false⟩ = (⟨l[k].b, false⟩ : Pd) :: l.drop (k + 1) := by rw [List.drop_eq_getElem_cons hk]; rfl
  rw [Nat.min_eq_left (by omega), Nat.sub_self, h1]
  simp
theorem again_all (l : List Pd) : again l l.length = l.map (fun p => ⟨p.b, false⟩) := by simp [again]
end Go
namespace Go.Proofs.Ytfgipbjaaciiiaa
open Go.RowKit
theorem put13_full {w : World} {B b : Nat} {E : En} {vo vi : Value} {a : Option Addr} {n c : Nat} (h : EnAt w B b E vo vi) (hok : EnOk E) (hn : n ≤ 1000) (hfull : E.out.length = E.win) :
    Calls Try.prog 13 #[.pointer (some ⟨b, 0, none⟩), .slice a n c] w fun e w' => e = .returned (.int .i64 9) ∧ Keep [] w w' := by
  obtain ⟨c0, c1, c2, c3, c4, c5, c6, hz⟩ := row7 h.blk
  obtain ⟨a1, p1, rfl, hp1, hp2, hp3⟩ := ownAny h.out
  unfold maxLen at hp2
  have hw := hok.win
  rw [hfull] at c4 hp1
  obtain ⟨W, hW⟩ : ∃ W, E.win = W := ⟨_, rfl⟩
  rw [hW] at c0 c4 hw hp1
  clear hp3 h hok hW hfull
  go_enter Try.func13, Try.ntmps13
  go_wp2_with (first | (with_reducible refine Txt.wp_region_text mixed quiet (by decide +kernel) ?_) | (with_reducible refine Txt.text_done (by kernel_rfl) ?_))
  go_ret
  exact ⟨rfl, (Keep.refl _ _).drew⟩
set_option maxRecDepth 100000 in
set_option maxHeartbeats 2000000 in
theorem tick20_any {w : World} {B b : Nat} {E : En} {vo vi : Value} (h : EnAt w B b E vo vi) (hok : EnOk E) :
    Calls Try.prog 20 #[.pointer (some ⟨b, 0, none⟩)] w fun e w' => e = .returned (.tuple #[]) ∧ EnTo w w' B b { E with lim := if 0 < E.out.length then max E.lim 1 else E.lim, out := E.out.map (fun p => ⟨p.b, false⟩) } vo vi vo vi := by
  have hl := hok.out
  have hw := hok.win
  have hli := hok.lim
  obtain ⟨c0, c1, c2, c3, c4, c5, c6, hz⟩ := row7 h.blk
  by_cases hn : 0 < E.out.length
  · obtain ⟨g, c, rfl, hcl, hcm, hgl, hgz, cur, hgb, hgt, -⟩ := h.vo hn
    unfold maxLen at hcm
    have H := Lib.hid h
    rw [if_pos hn]
    obtain ⟨L, hL⟩ : ∃ L, E.out.length = L := ⟨_, rfl⟩
    obtain ⟨I, hI⟩ : ∃ I, E.lim = I := ⟨_, rfl⟩
    have HL := Lib.hid hL
    rw [hL] at c4 hl hn hcl H ⊢
    rw [hI] at c1 hli ⊢
    have HI := Lib.hid hI
    clear h hL hI hgb hgt cur
    have hlt := lt_of_blk H.out.blk
    go_enter Try.func20, Try.ntmps20
    go_wp2_with (first | (with_reducible refine Txt.wp_region_text mixed quiet (by decide +kernel) ?_) | (with_reducible refine Txt.text_done (by kernel_rfl) ?_))
    go_loopw [8] (fun j wr => ∃ k : Nat, k ≤ L ∧ j = .int .i64 k ∧ Hid (EnAt wr B b { E with out := again E.out k } (.slice (some ⟨g, 0, none⟩) L c) vi) ∧ Keep (enS b (.slice (some ⟨g, 0, none⟩) L c) vi) w wr) (fun j _ => L - (intOf j).toNat)
    case atStart => exact ⟨0, by omega, rfl, Lib.hid (by rw [again_zero]; exact H.out), Keep.refl _ _⟩
    case round =>
      obtain ⟨k, hk, rfl, HK, hkw⟩ := hrel
      obtain ⟨d0, d1, d2, d3, d4, d5, d6, dz⟩ := row7 HK.out.blk
      rw [HI.out] at d1
      obtain ⟨g', c', he, -, -, hgl', hgz', cur', hgb', -, hgc⟩ := HK.out.vo (by show 0 < (again E.out k).length; rw [again_len, HL.out]; omega)
      have hgg : g = g' := by simp at he; exact he.1
      subst hgg
      clear he
      by_cases hlt2 : k < L
      · have hkE : k < E.out.length := by rw [HL.out]; exact hlt2
        have hc1 := hgc (k * 2 + 1) (by simp only [again_len]; omega)
        rw [(pds_at (again_at hkE)).2] at hc1
        obtain ⟨sv, hsv⟩ : ∃ sv, wr.cell? ⟨g, k * 2 + 1, none⟩ = some (.bool sv) := ⟨_, hc1⟩
        clear hc1
        have HKE := Lib.hid hkE
        clear hkE hgc hgb'
        go_wp2_with (first | (with_reducible refine Txt.wp_region_text mixed quiet (by decide +kernel) ?_) | (with_reducible refine Txt.text_done (by kernel_rfl) ?_))
        have hkE := HKE.out
        have hm := EnAt.mark (E := { E with out := again E.out k }) (g := g) (c := c) (i := k) (by rw [show ({ E with out := again E.out k } : En).out.length = L by simp [again_len, HL.out]]; exact HK.out) (again_at hkE) false
        simp only [again_len, again_succ hkE, HL.out] at hm
        refine ⟨⟨k + 1, hlt2, by go_num, Lib.hid hm, ?_⟩, by simp [intOf]; omega⟩
        exact hkw.setCell (.inl (by simp [enS, Value.ownBlock])) _
      · obtain rfl : k = L := by omega
        clear hgc hgb'
        go_wp2_with (first | (with_reducible refine Txt.wp_region_text mixed quiet (by decide +kernel) ?_) | (with_reducible refine Txt.text_done (by kernel_rfl) ?_))
        refine bodyPost_end (results_none rfl _ _ _) rfl ⟨rfl, ?_⟩
        have h2 : EnTo w wr B b { E with out := E.out.map (fun p => ⟨p.b, false⟩) } (.slice (some ⟨g, 0, none⟩) k c) vi (.slice (some ⟨g, 0, none⟩) k c) vi := ⟨by have := HK.out; rw [← HL.out, again_all] at this; rw [← HL.out]; exact this, hkw, Nw.refl _ _, Nw.refl _ _⟩
        refine h2.head ((Keep.refl [b] _).setCell (.inl (by simp)) _) rfl rfl ?_
        rw [blk_setCell, if_pos rfl, HK.out.blk]
        have e1 : ((max I 1 : Nat) : Int) = max (I : Int) 1 := by omega
        simp [e1]
  · have h0 : E.out.length = 0 := by omega
    have hnil : E.out = [] := List.eq_nil_of_length_eq_zero h0
    obtain ⟨a1, p1, hv1, hp1, hp2, -⟩ := ownAny h.out
    unfold maxLen at hp2
    have H := Lib.hid h
    rw [if_neg hn]
    rw [hv1, h0] at c4
    clear h hn hl hv1
    go_enter Try.func20, Try.ntmps20
    go_wp2_with (first | (with_reducible refine Txt.wp_region_text mixed quiet (by decide +kernel) ?_) | (with_reducible refine Txt.text_done (by kernel_rfl) ?_))
    go_loopw [8] (fun j wr => j = .int .i64 0 ∧ wr = w) (fun _ _ => 0)
    case atStart => exact ⟨rfl, rfl⟩
    case round =>
      obtain ⟨rfl, rfl⟩ := hrel
      go_wp2_with (first | (with_reducible refine Txt.wp_region_text mixed quiet (by decide +kernel) ?_) | (with_reducible refine Txt.text_done (by kernel_rfl) ?_))
      refine bodyPost_end (results_none rfl _ _ _) rfl ⟨rfl, ?_⟩
      have := H.out.to
      have e0 : ({ E with out := E.out.map (fun p => (⟨p.b, false⟩ : Pd)) } : En) = E := by rw [hnil]; cases E; simp at hnil; subst hnil; rfl
      rw [e0]
      exact this
end Go.Proofs.Ytfgipbjaaciiiaa
namespace Go
/-- What an acknowledgment does. -/
def ackE (E : En) (ack win : Nat) : En :=
  if E.base < ack ∧ ack ≤ E.base + E.out.length then { E with out := E.out.drop (ack - E.base), base := ack, lim := win }
  else if ack = E.base then { E with lim := max E.lim win } else E
/-- What a body does. -/
def gotE (E : En) (has : Bool) (seq : Nat) (d : Bd) : En :=
  if has = true then (if seq = E.want ∧ E.inn.length < E.win then { E with due := true, inn := E.inn ++ [d], want := E.want + 1 } else { E with due := true }) else E
theorem EnTo.keep0 {w w1 w' : World} {B b : Nat} {E : En} {vo vi vo' vi' : Value} (h : EnTo w w1 B b E vo vi vo' vi') (hk : Keep [] w1 w') : EnTo w w' B b E vo vi vo' vi' :=
  ⟨h.at_.keep0 hk, h.keep.trans (hk.more (by simp)), h.no, h.ni⟩
theorem row5 {w : World} {b : Nat} {x0 x1 x2 x3 x4 : Value} {T : TypeId} (h : w.heap[b]? = some (.cells #[x0, x1, x2, x3, x4] T (0, 0))) :
    w.cell? ⟨b, 0, none⟩ = some x0 ∧ w.cell? ⟨b, 1, none⟩ = some x1 ∧ w.cell? ⟨b, 2, none⟩ = some x2 ∧ w.cell? ⟨b, 3, none⟩ = some x3 ∧ w.cell? ⟨b, 4, none⟩ = some x4 ∧ (∀ i, w.frozen? ⟨b, i, none⟩ = false) :=
  ⟨cellAt h 0, cellAt h 1, cellAt h 2, cellAt h 3, cellAt h 4, thaw h⟩
theorem EnAt.to0 {w w' : World} {B b : Nat} {E : En} {vo vi : Value} (h : EnAt w B b E vo vi) (hk : Keep [] w w') : EnTo w w' B b E vo vi vo vi := h.to.keep0 hk
theorem EnAt.dropTo {w w0 w1 : World} {B b k : Nat} {E : En} {vo vi v' : Value} (h : EnAt w B b E vo vi) (hk0 : Keep [] w w0) (hk1 : Keep [] w0 w1) (ho : w1.ownsRow w0.heap.size 78 2 v' (E.out.length - k) (pdsC (E.out.drop k))) :
    EnTo w (w1.setCell ⟨b, 4, none⟩ v') B b { E with out := E.out.drop k } vo vi v' vi := by
  have hk := hk0.trans hk1
  have h2 := h.keep0 hk
  have hB : B ≤ w0.heap.size := by have := h.hB; have := lt_of_blk h.blk; have := hk0.size; omega
  exact h.newOut (S := []) hk (by simp) (l := E.out.drop k) (vo' := v') (by rw [List.length_drop]; exact ownBase ho hB) (fun p hp => h2.bo p (List.mem_of_mem_drop hp)) (fun g hg => .inr (Nat.le_trans hk0.size (ho.lt g hg).1))
def ComeTo (w w' : World) (B b : Nat) (G : Bd → En) (bs : List Int) (vo vi : Value) : Prop := ∃ vo' vi' a' c', (∀ x, a' = some x → w.heap.size ≤ x.block) ∧ EnTo w w' B b (G ⟨a', c', bs⟩) vo vi vo' vi'
end Go
namespace Go.Proofs.Ytfgipbjaaciiiaa
open Go.RowKit
theorem clone17_k {w0 w : World} {S : List Nat} {d : Bd} {n : Nat} (hd : d.ok w0) (hk : Keep S w0 w) (hS : NoB S w0) (hn : d.bs.length = n) (hl : n ≤ 1000) :
    Calls Try.prog 17 #[.slice d.a n d.c] w fun e w' => ∃ a' c', e = .returned (.slice a' n c') ∧ Keep [] w w' ∧ (Bd.mk a' c' d.bs).ok w' ∧ ∀ x, a' = some x → w0.heap.size ≤ x.block := by
  have h := (hd.keep hk hS).1
  rw [hn] at h
  refine (clone17_p h (by omega)).mono ?_
  rintro e w' ⟨a', c', h1, h2, h3, h4⟩
  exact ⟨a', c', h1, h2, h3, fun x hx => Nat.le_trans hk.size (h4 x hx)⟩
end Go.Proofs.Ytfgipbjaaciiiaa
