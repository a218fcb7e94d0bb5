/- Texts laid together: L9 L10 L11 L12 R9. -/
import Derived.Test.YtfgipbjaaciiiaaMg6
namespace Go
/-- What is so of the bodies that were copied. -/
def DsOk (w wr : World) (E : En) (ds : Nat → Bd) (k : Nat) : Prop := ∀ i, i < k → ∀ p, E.out[i]? = some p → p.sent = false → (ds i).bs = p.b.bs ∧ (ds i).ok wr ∧ (∀ x, (ds i).a = some x → w.heap.size ≤ x.block) ∧ ∀ j, j < i → ∀ q, E.out[j]? = some q → q.sent = false → ∀ x y, (ds j).a = some x → (ds i).a = some y → x.block ≠ y.block
theorem DsOk.keep {S : List Nat} {w wr w' : World} {E : En} {ds : Nat → Bd} {k : Nat} (h : DsOk w wr E ds k) (hk : Keep S wr w') (hS : NoB S wr) : DsOk w w' E ds k := fun i hi p hp hs =>
  let ⟨h1, h2, h3⟩ := h i hi p hp hs
  ⟨h1, h2.keep hk hS, h3⟩
theorem enS_ne_row {w : World} {B b : Nat} {E : En} {vo vi : Value} (h : EnAt w B b E vo vi) {B' e m n : Nat} {v : Value} {xs : List Value} (ho : w.ownsRow B' e m v n xs) (h1 : e ≠ 76) (h2 : e ≠ 78) (h3 : e ≠ 29) : ∀ g ∈ enS b vo vi, v.ownBlock ≠ some g := fun g hg he => by
  obtain ⟨c, hc⟩ := ownCells ho he
  simp only [enS, List.mem_cons, List.mem_append, Option.mem_toList] at hg
  rcases hg with rfl | hg | hg
  · exact neType hc h.blk h1 rfl
  · obtain ⟨c', hc'⟩ := ownCells h.out hg
    exact neType hc hc' h2 rfl
  · obtain ⟨c', hc'⟩ := ownCells h.inn hg
    exact neType hc hc' h3 rfl
theorem outL_one {E : En} {ds : Nat → Bd} {k : Nat} {b d : Bd} (h : E.out[k]? = some ⟨b, false⟩) : outL E (fun i => if i = k then d else ds i) (k + 1) = outL E ds k ++ [⟨E.base + k, E.want, true, E.win - E.inn.length, d⟩] := by
  rw [outL, h, outL_congr (ds' := ds) (fun i hi => by rw [if_neg (by omega)])]
  simp
theorem EnOk.sent {E : En} (h : EnOk E) (k : Nat) : EnOk { E with out := sentL E.out k } :=
  ⟨h.win, h.lim, by rw [sentL_len]; exact h.out, h.inn, h.base, h.want, fun p hp => by
    unfold sentL at hp
    rcases List.mem_append.1 hp with hp | hp
    · obtain ⟨q, hq, rfl⟩ := List.mem_map.1 hp
      exact h.bo q (List.mem_of_mem_take hq)
    · exact h.bo p (List.mem_of_mem_drop hp)⟩
def outE (E : En) : En := { E with out := sentL E.out (min E.lim E.out.length), due := false }
def outP (E : En) (ds : Nat → Bd) : List Pk :=
  if (outL E ds (min E.lim E.out.length)).length = 0 ∧ E.due = true then [⟨E.base + E.out.length, E.want, false, E.win - E.inn.length, noBd⟩] else outL E ds (min E.lim E.out.length)
def OutTo (w w' : World) (B b : Nat) (E : En) (vo vi v' : Value) : Prop :=
  ∃ ds, w'.ownsRow w.heap.size 34 5 v' (outP E ds).length (pksC (outP E ds)) ∧ EnTo w w' B b (outE E) vo vi vo vi ∧ DsOk w w' E ds (min E.lim E.out.length)
def OutInv (w : World) (B b : Nat) (E : En) (vo vi : Value) (k : Nat) (v3 : Value) (wr : World) : Prop :=
  ∃ ds, EnAt wr B b { E with out := sentL E.out k } vo vi ∧ wr.ownsRow w.heap.size 34 5 v3 (outL E ds k).length (pksC (outL E ds k)) ∧ DsOk w wr E ds k ∧ Keep (enS b vo vi) w wr
/-- The end of Out. -/
theorem out_fin {w wr w6 : World} {B b k : Nat} {E : En} {vo vi v' : Value} {ds : Nat → Bd} {S : List Nat} (hkk : min E.lim E.out.length = k) (hE : EnAt wr B b { E with out := sentL E.out k } vo vi) (hkw : Keep (enS b vo vi) w wr) (hds : DsOk w wr E ds k)
    (hk : Keep S wr w6) (hS : ∀ x ∈ S, w.heap.size ≤ x ∧ ∀ c, wr.heap[x]? = some c → ∃ cs f, c = .cells cs 34 f) (ho : w6.ownsRow w.heap.size 34 5 v' (outP E ds).length (pksC (outP E ds))) :
    OutTo w (w6.setCell ⟨b, 6, none⟩ (.bool false)) B b E vo vi v' := by
  have hNB : NoB S wr := fun x hx cs f hc => by
    obtain ⟨_, h1⟩ := hS x hx
    obtain ⟨_, _, h2⟩ := h1 _ hc
    injection h2 with _ h2 _
    exact absurd h2 (by decide)
  have hE6 := hE.keep hk (fun x hx hm => by
    obtain ⟨_, h1⟩ := hS x hm
    simp only [enS, List.mem_cons, List.mem_append, Option.mem_toList] at hx
    rcases hx with rfl | hx | hx
    · obtain ⟨_, _, h2⟩ := h1 _ hE.blk
      injection h2 with _ h2 _
      exact absurd h2 (by decide)
    · obtain ⟨c, hc⟩ := ownCells hE.out hx
      obtain ⟨_, _, h2⟩ := h1 _ hc
      injection h2 with _ h2 _
      exact absurd h2 (by decide)
    · obtain ⟨c, hc⟩ := ownCells hE.inn hx
      obtain ⟨_, _, h2⟩ := h1 _ hc
      injection h2 with _ h2 _
      exact absurd h2 (by decide)) hNB
  have hkb : Keep [b] w6 (w6.setCell ⟨b, 6, none⟩ (.bool false)) := (Keep.refl _ _).setCell (.inl (by simp)) _
  have hNb : NoB [b] w6 := fun x hx cs f hc => by
    obtain rfl : x = b := by simpa using hx
    exact neType hE6.blk hc (by decide) rfl
  refine ⟨ds, own_keep ho hkb (fun g hg hm => ?_), ?_, by rw [hkk]; exact (hds.keep hk hNB).keep hkb hNb⟩
  · obtain ⟨c, hc⟩ := ownCells ho hg
    exact neType hc hE6.blk (by decide) (by simpa using hm)
  · have h1 : EnTo w w6 B b { E with out := sentL E.out k } vo vi vo vi := ⟨hE6, hkw.call hk (fun x hx => .inr (hS x hx).1), Nw.refl _ _, Nw.refl _ _⟩
    unfold outE
    rw [hkk]
    refine h1.head hkb rfl rfl ?_
    rw [blk_setCell, if_pos rfl, hE6.blk]
    rfl
end Go
namespace Go.Proofs.Ytfgipbjaaciiiaa
open Go.RowKit
set_option maxRecDepth 100000 in
set_option maxHeartbeats 4000000 in
theorem out14_any {w : World} {B b : Nat} {E : En} {vo vi : Value} (h : EnAt w B b E vo vi) (hok : EnOk E) :
    Calls Try.prog 14 #[.pointer (some ⟨b, 0, none⟩)] w fun e w' => ∃ v', e = .returned v' ∧ OutTo w w' B b E vo vi v' := by
  have hl := hok.out
  have hw := hok.win
  have hli := hok.lim
  have hbs := hok.base
  have HOKE := Lib.hid hok
  obtain ⟨i0, hi0, hz0, hz1, hz2⟩ := info_parts2 info34
  obtain ⟨c0, c1, c2, c3, c4, c5, c6, hz⟩ := row7 h.blk
  obtain ⟨a1, p1, rfl, hp1, hp2, hp3⟩ := ownAny h.out
  obtain ⟨a2, p2, rfl, hp4, hp5, -⟩ := ownAny h.inn
  unfold maxLen at hp2 hp5
  have H := Lib.hid h
  obtain ⟨L, hL⟩ : ∃ L, E.out.length = L := ⟨_, rfl⟩
  obtain ⟨M, hM⟩ : ∃ M, E.inn.length = M := ⟨_, rfl⟩
  obtain ⟨I, hI⟩ : ∃ I, E.lim = I := ⟨_, rfl⟩
  obtain ⟨D, hD⟩ : ∃ D, E.due = D := ⟨_, rfl⟩
  obtain ⟨N, hN⟩ : ∃ N : Nat, min I L = N := ⟨_, rfl⟩
  have hN2 : (min (I : Int) (L : Int)) = (N : Int) := by omega
  have HNK : Hid (min E.lim E.out.length = N) := Lib.hid (by rw [hI, hL]; exact hN)
  have HMN : Hid ((min (I : Int) (L : Int)) = (N : Int)) := Lib.hid hN2
  have hNL : N ≤ L := by omega
  have HL := Lib.hid hL
  have HM := Lib.hid hM
  have HI := Lib.hid hI
  have HD := Lib.hid hD
  rw [hL] at c4 hl hp1
  rw [hM] at c5 hp4
  rw [hI] at c1 hli
  rw [hD] at c6
  clear h hp3 hL hM hI hD hok hN
  have hlt := lt_of_blk H.out.blk
  go_enter Try.func14, Try.ntmps14
  go_wp2_with (first | (with_reducible refine Txt.wp_region_text mixed quiet (by decide +kernel) ?_) | (with_reducible refine Txt.text_done (by kernel_rfl) ?_))
  go_loopw [3, 17] (fun v3 j wr => ∃ k : Nat, k ≤ N ∧ j = .int .i64 k ∧ Hid (OutInv w B b E (.slice a1 E.out.length p1) (.slice a2 E.inn.length p2) k v3 wr)) (fun _ j _ => N - (intOf j).toNat)
  case atStart =>
    exact ⟨0, by omega, rfl, Lib.hid ⟨fun _ => noBd, by rw [sentL_zero]; exact H.out.keep0 (Keep.refl [] w).drew, World.ownsRow_nil _ _ _ _, fun i hi => absurd hi (by omega), (Keep.refl _ w).drew⟩⟩
  case round =>
    obtain ⟨k, hk, rfl, HI9⟩ := hrel
    obtain ⟨ds, hE, ho3, hds, hkw⟩ := HI9.out
    have hb := hE.blk
    dsimp only at hb
    rw [HL.out, HM.out] at hb
    obtain ⟨d0, d1, d2, d3, d4, d5, d6, dz⟩ := row7 hb
    by_cases hlt2 : k < N
    · have hkE : k < E.out.length := by rw [HL.out]; omega
      obtain ⟨g, c, he, -, -, hgl, hgz, cur, hgb, -, hgc⟩ := hE.vo (by dsimp only; rw [sentL_len]; omega)
      have hag : a1 = some ⟨g, 0, none⟩ := by injection he
      subst hag
      clear he hgb cur c
      have hc0 := hgc (k * 2) (by simp only [sentL_len]; omega)
      have hc1 := hgc (k * 2 + 1) (by simp only [sentL_len]; omega)
      rw [(pds_at (sentL_at hkE)).1] at hc0
      rw [(pds_at (sentL_at hkE)).2] at hc1
      obtain ⟨P, hP⟩ : ∃ P, E.out[k] = P := ⟨_, rfl⟩
      rw [hP] at hc0 hc1
      have HP := Lib.hid hP
      have HKE := Lib.hid hkE
      have HPQ := Lib.hid (show E.out[k]? = some P by rw [List.getElem?_eq_getElem hkE, hP])
      have HE := Lib.hid hE
      have HO3 := Lib.hid ho3
      have HDS := Lib.hid hds
      have HKW := Lib.hid hkw
      obtain ⟨⟨pa, pc, pbs⟩, psent⟩ := P
      clear hgc hP hE ho3 hds hkw hb HI9
      cases psent with
      | true =>
        go_wp2_with (first | (with_reducible refine Txt.wp_region_text mixed quiet (by decide +kernel) ?_) | (with_reducible refine Txt.text_done (by kernel_rfl) ?_))
        refine ⟨⟨k + 1, by omega, by go_num, Lib.hid ⟨ds, ?_, ?_, ?_, HKW.out⟩⟩, by simp [intOf]; omega⟩
        · rw [sentL_skip HKE.out (by rw [HP.out])]; exact HE.out
        · have e : outL E ds (k + 1) = outL E ds k := by
            rw [outL, List.getElem?_eq_getElem HKE.out, HP.out]
            simp
          rw [e]; exact HO3.out
        · intro i hi p hp hs
          by_cases hik : i < k
          · exact HDS.out i hik p hp hs
          · obtain rfl : i = k := by omega
            rw [List.getElem?_eq_getElem HKE.out, HP.out] at hp
            cases hp
            cases hs
      | false =>
        have HMK : Hid (EnAt (wr.setCell ⟨g, k * 2 + 1, none⟩ (.bool true)) B b { E with out := sentL E.out (k + 1) } (.slice (some ⟨g, 0, none⟩) E.out.length p1) (.slice a2 E.inn.length p2)) := Lib.hid (by
          have hm := EnAt.mark (E := { E with out := sentL E.out k }) (g := g) (c := p1) (i := k) (by rw [show ({ E with out := sentL E.out k } : En).out.length = E.out.length by simp [sentL_len]]; exact HE.out) (sentL_at HKE.out) true
          simp only [sentL_len, sentL_succ HKE.out] at hm
          exact hm)
        have HK1 : Hid (k ≤ 1000) := Lib.hid (by omega)
        obtain ⟨A, hA⟩ : ∃ A, ((E.base + k : Nat) : Int) = A := ⟨_, rfl⟩
        obtain ⟨Y, hY⟩ : ∃ Y, (E.want : Int) = Y := ⟨_, rfl⟩
        obtain ⟨C, hC⟩ : ∃ C, ((E.win - E.inn.length : Nat) : Int) = C := ⟨_, rfl⟩
        obtain ⟨n, hn⟩ : ∃ n, pbs.length = n := ⟨_, rfl⟩
        have HA := Lib.hid hA
        have HY := Lib.hid hY
        have HC := Lib.hid hC
        have HN := Lib.hid hn
        have HPK : Hid (Calls Try.prog 39 #[.pointer (some ⟨b, 0, none⟩), .int .i64 k] (wr.setCell ⟨g, k * 2 + 1, none⟩ (.bool true)) fun e w' => e = .returned (.agg #[.int .u32 A, .int .u32 Y, .bool false, .int .i64 C, .slice none 0 0]) ∧ Keep [] (wr.setCell ⟨g, k * 2 + 1, none⟩ (.bool true)) w') := Lib.hid (by
          have := packet39_any HMK.out (HOKE.out.sent _) HK1.out
          dsimp only at this
          rw [hA, hY, hC] at this
          exact this)
        have HBN : Hid (n ≤ 1000) := Lib.hid (by
          have := HOKE.out.bo ⟨⟨pa, pc, pbs⟩, false⟩ (by rw [← HP.out]; exact List.getElem_mem _)
          exact hn ▸ this)
        have HC0 : Hid ((wr.setCell ⟨g, k * 2 + 1, none⟩ (.bool true)).cell? ⟨g, k * 2, none⟩ = some (.slice pa n pc)) := Lib.hid (by
          rw [World.cell?_setCell_other _ _ _ _ (by simp)]; simp only [Bd.val] at hc0; rw [← hn]; exact hc0)
        have HBD0 : Hid ((Bd.mk pa pc pbs).ok (wr.setCell ⟨g, k * 2 + 1, none⟩ (.bool true))) := Lib.hid (HMK.out.bo ⟨⟨pa, pc, pbs⟩, true⟩ (by
          exact List.mem_of_getElem? (sentL_now HPQ.out)))
        have hg78 : ∃ cur, wr.heap[g]? = some (.cells cur 78 (0, 0)) := by
          obtain ⟨g', c', he', -, -, -, -, cur, hgb, -⟩ := HE.out.vo (by dsimp only; rw [sentL_len]; exact Nat.lt_of_le_of_lt (Nat.zero_le _) HKE.out)
          have : g = g' := by injection he' with he' _ _; injection he' with he'; injection he'
          exact ⟨cur, this ▸ hgb⟩
        have HG78 := Lib.hid hg78
        have hol := outL_len E ds k
        have HMA : Hid ((outL E ds k).length + 1 ≤ maxLen) := Lib.hid (by unfold maxLen; omega)
        have HMB : Hid (((outL E ds k).length + 1) * 48 ≤ 140737488355328) := Lib.hid (by omega)
        have HUG : Hid (∀ x, u3.ownBlock = some x → x ∉ [g]) := Lib.hid (fun x hx hm => by
          obtain ⟨cur, hgb⟩ := HG78.out
          obtain ⟨c', h1⟩ := ownCells HO3.out hx
          exact neType h1 hgb (by decide) (by simpa using hm))
        clear hg78 hol
        simp only [Bd.val] at hc0
        rw [hn] at hc0
        clear hA hY hC hn
        go_wp2_with (first | (with_reducible refine Txt.wp_region_text mixed quiet (by decide +kernel) ?_) | (with_reducible refine Txt.text_done (by kernel_rfl) ?_) | (go_at_call 39; (with_reducible refine HPK.out.mono ?_); rintro e w2 ⟨rfl, hk2⟩; have he2 := HMK.out.keep0 hk2; have hcq : w2.cell? ⟨g, k * 2, none⟩ = some (.slice pa n pc) := hk2.cell HC0.out (by simp); have hgl2 : g < w2.heap.size := (by have := hk2.size; simp at this; omega); have HE2 := Lib.hid he2; have HK2 := Lib.hid hk2; have HBD2 := Lib.hid (HBD0.out.keep hk2 (NoB.nil _)); clear he2 hk2) | (go_at_call 17; (with_reducible refine (clone17_k (w0 := w2) (S := []) (d := ⟨pa, pc, pbs⟩) HBD2.out ((Keep.refl [] w2).alloc _) (NoB.nil _) HN.out HBN.out).mono ?_); rintro e w3 ⟨a', c', rfl, hk3, hok3, hfr3⟩; have hbq := hk3.at (blk_new w2 _) (by simp); obtain ⟨q0, q1, q2, q3, q4, qz⟩ := row5 hbq; have hql := lt_of_blk hbq; have HBQ := Lib.hid hbq; have HK3 := Lib.hid hk3; have HOK3 := Lib.hid hok3; have HFR3 := Lib.hid hfr3; have HOX := Lib.hid (own_keep (own_keep (own_keep HO3.out ((Keep.refl [g] wr).setCell (.inl (by simp)) _) HUG.out) HK2.out (by simp)) (((Keep.refl [] w2).alloc _).trans hk3) (by simp)); have HNW : Hid (∀ j u, [Value.int .u32 A, .int .u32 Y, .bool true, .int .i64 C, .slice a' n c'][j]? = some u → (((w3.setCell ⟨w2.heap.size, 2, none⟩ (.bool true)).setCell ⟨w2.heap.size, 4, none⟩ (.slice a' n c')).alloc (.cells #[.int .u32 A, .int .u32 Y, .bool true, .int .i64 C, .slice a' n c'] 34)).cell? ((⟨w3.heap.size, 0, none⟩ : Addr).add j) = some u) := Lib.hid (by have h9 := cells_new ((w3.setCell ⟨w2.heap.size, 2, none⟩ (.bool true)).setCell ⟨w2.heap.size, 4, none⟩ (.slice a' n c')) [Value.int .u32 A, .int .u32 Y, .bool true, .int .i64 C, .slice a' n c'] 34 (0, 0); simpa using h9); have HOC : Hid (∀ u ∈ [Value.int .u32 A, .int .u32 Y, .bool true, .int .i64 C, .slice a' n c'], u.oneCell' = true) := Lib.hid (by intro u hu; simp at hu; rcases hu with hu | hu | hu | hu | hu <;> (subst hu; rfl)); have HKQ : Hid (Keep [w2.heap.size] w3 (((w3.setCell ⟨w2.heap.size, 2, none⟩ (.bool true)).setCell ⟨w2.heap.size, 4, none⟩ (.slice a' n c')).alloc (.cells #[.int .u32 A, .int .u32 Y, .bool true, .int .i64 C, .slice a' n c'] 34))) := Lib.hid ((((Keep.refl _ w3).setCell (.inl (by simp)) _).setCell (.inl (by simp)) _).alloc _); have HUQ : Hid (∀ x, u3.ownBlock = some x → x ∉ [w2.heap.size]) := Lib.hid (fun x hx hm => by have h7 := (HO3.out.lt x hx).2; have h8 := HK2.out.size; simp at h8 hm; omega); have HOW := Lib.hid (own_keep HOX.out HKQ.out HUQ.out); have HMC : Hid (w.heap.size ≤ (((w3.setCell ⟨w2.heap.size, 2, none⟩ (.bool true)).setCell ⟨w2.heap.size, 4, none⟩ (.slice a' n c')).alloc (.cells #[.int .u32 A, .int .u32 Y, .bool true, .int .i64 C, .slice a' n c'] 34)).heap.size) := Lib.hid (by have h6 := HKW.out.size; have h7 := HK2.out.size; have h8 := HK3.out.size; have h9 := HKQ.out.size; simp at h7 h8 h9 ⊢; omega); clear hbq hk3 hok3 hfr3) | (at_builtin; refine wpList_append_own _ rfl _ _ 30 rfl w.heap.size 34 i0 _ 5 48 Try.underlying30 hi0 hz0 hz1 hz2 rfl (by decide) u3 (outL E ds k).length (pksC (outL E ds k)) rfl HOW.out ⟨w3.heap.size, 0, none⟩ 1 1 [.int .u32 A, .int .u32 Y, .bool true, .int .i64 C, .slice a' n c'] rfl rfl HNW.out HOC.out HMA.out HMB.out HMC.out ?_; intro v6 w6 hown6 hgr6 _; have HO6 := Lib.hid hown6; have HGR6 := Lib.hid hgr6; clear hown6 hgr6))
        have hkT : Keep (w2.heap.size :: u3.ownBlock.toList) w3 w6 := (HKQ.out.more (by simp)).grown HGR6.out (fun x hx => .inl (by simp [hx]))
        have he3 := HE2.out.keep0 (((Keep.refl [] w2).alloc _).trans HK3.out)
        have hNT : NoB (w2.heap.size :: u3.ownBlock.toList) w3 := fun x hx cs f hc => by
          rcases List.mem_cons.1 hx with rfl | hx
          · exact neType HBQ.out hc (by decide) rfl
          · obtain ⟨c', h1⟩ := ownCells HOX.out (by simpa using hx)
            exact neType h1 hc (by decide) rfl
        have hkD : Keep (g :: w2.heap.size :: u3.ownBlock.toList) wr w6 := by
          have h1 : Keep (g :: w2.heap.size :: u3.ownBlock.toList) wr (wr.setCell ⟨g, k * 2 + 1, none⟩ (.bool true)) := (Keep.refl _ _).setCell (.inl (by simp)) _
          have h2 := h1.trans (HK2.out.more (by simp))
          have h3 := h2.trans ((((Keep.refl [] w2).alloc _).trans HK3.out).more (by simp))
          exact h3.trans (hkT.more (by intro x hx; exact List.mem_cons_of_mem _ hx))
        have hqr : wr.heap.size ≤ w2.heap.size := by have h8 := HK2.out.size; simp at h8; omega
        have hND : NoB (g :: w2.heap.size :: u3.ownBlock.toList) wr := fun x hx cs f hc => by
          rcases List.mem_cons.1 hx with rfl | hx
          · obtain ⟨cur, hgb⟩ := HG78.out
            exact neType hgb hc (by decide) rfl
          · rcases List.mem_cons.1 hx with rfl | hx
            · have := lt_of_blk hc; omega
            · obtain ⟨c', h1⟩ := ownCells HO3.out (by simpa using hx)
              exact neType h1 hc (by decide) rfl
        have hwr := HKW.out.size
        refine ⟨⟨k + 1, by omega, by go_num, Lib.hid ⟨fun i => if i = k then ⟨a', c', pbs⟩ else ds i, ?_, ?_, ?_, ?_⟩⟩, by simp [intOf]; omega⟩
        · refine he3.keep hkT (fun x hx hm => ?_) hNT
          rcases List.mem_cons.1 hm with rfl | hm
          · have := (HE2.out.lt _ hx).2; omega
          · exact enS_ne_row he3 HOX.out (by decide) (by decide) (by decide) x hx (by simpa using hm)
        · rw [outL_one HPQ.out, List.length_append, List.length_singleton, pksC_app]
          have h9 := HO6.out
          rw [← HA.out, ← HY.out, ← HC.out, ← HN.out] at h9
          simpa [pksC, Pk.cells, Bd.val] using h9
        · intro i hi p hp hs
          by_cases hik : i = k
          · subst hik
            rw [HPQ.out] at hp
            cases hp
            have e1 : (fun j => if j = i then (⟨a', c', pbs⟩ : Bd) else ds j) i = ⟨a', c', pbs⟩ := if_pos rfl
            rw [e1]
            refine ⟨rfl, HOK3.out.keep hkT hNT, fun x hx => by have := HFR3.out x hx; omega, fun j hj q hq hqs x y hx hy => ?_⟩
            have e2 : (fun j => if j = i then (⟨a', c', pbs⟩ : Bd) else ds j) j = ds j := if_neg (by omega)
            rw [e2] at hx
            have h7 := (HDS.out j hj q hq hqs).2.1.lt x hx
            have h8 := HFR3.out y hy
            omega
          · have e1 : (fun j => if j = k then (⟨a', c', pbs⟩ : Bd) else ds j) i = ds i := if_neg hik
            rw [e1]
            obtain ⟨h1, h2, h3, h4⟩ := HDS.out.keep hkD hND i (by omega) p hp hs
            refine ⟨h1, h2, h3, fun j hj q hq hqs x y hx hy => ?_⟩
            have e2 : (fun j => if j = k then (⟨a', c', pbs⟩ : Bd) else ds j) j = ds j := if_neg (by omega)
            rw [e2] at hx
            exact h4 j hj q hq hqs x y hx hy
        · refine HKW.out.call hkD (fun x hx => ?_)
          rcases List.mem_cons.1 hx with rfl | hx
          · left; simp [enS, Value.ownBlock]
          · rcases List.mem_cons.1 hx with rfl | hx
            · right; omega
            · right; exact (HO3.out.lt x (by simpa using hx)).1
    · obtain rfl : k = N := by omega
      obtain ⟨a5, c5, rfl, h51, h52, -⟩ := ownAny ho3
      unfold maxLen at h52
      have hol := outL_len E ds k
      obtain ⟨n5, hn5⟩ : ∃ n5, (outL E ds k).length = n5 := ⟨_, rfl⟩
      have HN5 := Lib.hid hn5
      have HE := Lib.hid hE
      have HO3 := Lib.hid ho3
      have HDS := Lib.hid hds
      have HKW := Lib.hid hkw
      rw [hn5] at h51 hol HO3 ⊢
      have hdd := HD.out
      clear hE ho3 hds hkw hb HI9 hn5
      by_cases h0 : n5 = 0
      · subst h0
        cases D with
        | false =>
          go_wp2_with (first | (with_reducible refine Txt.wp_region_text mixed quiet (by decide +kernel) ?_) | (with_reducible refine Txt.text_done (by kernel_rfl) ?_))
          go_ret
          refine ⟨_, rfl, out_fin HNK.out HE.out HKW.out HDS.out (S := []) (Keep.refl [] wr) (by simp) ?_⟩
          have e : outP E ds = outL E ds k := by unfold outP; rw [HNK.out, if_neg (by rw [hdd]; simp)]
          rw [e, HN5.out]; exact HO3.out
        | true =>
          obtain ⟨A, hA⟩ : ∃ A, ((E.base + L : Nat) : Int) = A := ⟨_, rfl⟩
          obtain ⟨Y, hY⟩ : ∃ Y, (E.want : Int) = Y := ⟨_, rfl⟩
          obtain ⟨C, hC⟩ : ∃ C, ((E.win - E.inn.length : Nat) : Int) = C := ⟨_, rfl⟩
          have HA := Lib.hid hA
          have HY := Lib.hid hY
          have HC := Lib.hid hC
          have HPK : Hid (Calls Try.prog 39 #[.pointer (some ⟨b, 0, none⟩), .int .i64 L] wr fun e w' => e = .returned (.agg #[.int .u32 A, .int .u32 Y, .bool false, .int .i64 C, .slice none 0 0]) ∧ Keep [] wr w') := Lib.hid (by
            have := packet39_any (k := L) HE.out (HOKE.out.sent _) (by omega)
            dsimp only at this
            rw [hA, hY, hC] at this
            exact this)
          have hwr := HKW.out.size
          clear hA hY hC
          go_wp2_with (first | (with_reducible refine Txt.wp_region_text mixed quiet (by decide +kernel) ?_) | (with_reducible refine Txt.text_done (by kernel_rfl) ?_) | (go_at_call 39; (with_reducible refine HPK.out.mono ?_); rintro e w2 ⟨rfl, hk2⟩; have hb2 := hk2.at HE.out.blk (by simp); obtain ⟨f0, f1, f2, f3, f4, f5, f6, fz⟩ := row7 hb2; have hlt2 := lt_of_blk hb2; have HK2 := Lib.hid hk2; have HKA : Hid (Keep [] wr (w2.alloc (.cells #[.int .u32 A, .int .u32 Y, .bool false, .int .i64 C, .slice none 0 0] 34))) := Lib.hid (hk2.alloc _); have HOW := Lib.hid (own_keep HO3.out HKA.out (by simp)); have HOC : Hid (∀ u ∈ [Value.int .u32 A, .int .u32 Y, .bool false, .int .i64 C, .slice none 0 0], u.oneCell' = true) := Lib.hid (by intro u hu; simp at hu; rcases hu with hu | hu | hu | hu | hu <;> (subst hu; rfl)); have HMC : Hid (w.heap.size ≤ (w2.alloc (.cells #[.int .u32 A, .int .u32 Y, .bool false, .int .i64 C, .slice none 0 0] 34)).heap.size) := Lib.hid (Nat.le_trans hwr HKA.out.size); clear hk2 hb2) | (at_builtin; refine wpList_append_own _ rfl _ _ 30 rfl w.heap.size 34 i0 _ 5 48 Try.underlying30 hi0 hz0 hz1 hz2 rfl (by decide) (.slice a5 0 c5) 0 (pksC (outL E ds k)) rfl HOW.out ⟨w2.heap.size, 0, none⟩ 1 1 [.int .u32 A, .int .u32 Y, .bool false, .int .i64 C, .slice none 0 0] rfl rfl (cells_new w2 [.int .u32 A, .int .u32 Y, .bool false, .int .i64 C, .slice none 0 0] 34 (0, 0)) HOC.out (by decide) (by decide) HMC.out ?_; intro v6 w6 hown6 hgr6 _; have hkx : Keep (Value.slice a5 0 c5).ownBlock.toList wr w6 := (HKA.out.more (by simp)).grown hgr6 (fun x hx => .inl (by simp [hx])); have hb6 := hkx.at HE.out.blk (fun hm => by obtain ⟨cc, h1⟩ := ownCells HO3.out (by simpa using hm); exact neType h1 HE.out.blk (by decide) rfl); have z6 := thaw hb6; obtain ⟨r0, r1, r2, r3, r4, r5, r6, -⟩ := row7 hb6; have HO6 := Lib.hid hown6; have HKX := Lib.hid hkx; clear hown6 hgr6 hkx hb6))
          go_ret
          refine ⟨_, rfl, out_fin HNK.out HE.out HKW.out HDS.out HKX.out (fun x hx => ⟨(HO3.out.lt x (by simpa using hx)).1, fun c hc => ?_⟩) ?_⟩
          · obtain ⟨cs, h1⟩ := ownCells HO3.out (by simpa using hx)
            rw [hc] at h1
            cases h1
            exact ⟨_, _, rfl⟩
          · have e : outP E ds = [⟨E.base + E.out.length, E.want, false, E.win - E.inn.length, noBd⟩] := by unfold outP; rw [HNK.out, if_pos ⟨HN5.out, hdd⟩]
            have e0 : outL E ds k = [] := List.eq_nil_of_length_eq_zero HN5.out
            have h9 := HO6.out
            rw [e0, ← HA.out, ← HY.out, ← HC.out] at h9
            rw [e, HL.out]
            simpa [pksC, Pk.cells, Bd.val, noBd] using h9
      · have h0b : ((n5 : Int) == 0) = false := beq_eq_false_iff_ne.2 (by omega)
        go_wp2_with (first | (with_reducible refine Txt.wp_region_text mixed quiet (by decide +kernel) ?_) | (with_reducible refine Txt.text_done (by kernel_rfl) ?_))
        go_ret
        refine ⟨_, rfl, out_fin HNK.out HE.out HKW.out HDS.out (S := []) (Keep.refl [] wr) (by simp) ?_⟩
        have e : outP E ds = outL E ds k := by unfold outP; rw [HNK.out, if_neg (by rw [HN5.out]; omega)]
        rw [e, HN5.out]; exact HO3.out
end Go.Proofs.Ytfgipbjaaciiiaa
namespace Go
theorem EnTo.bd {w w' : World} {B b : Nat} {E E' : En} {vo vi vo' vi' : Value} (k : EnTo w w' B b E' vo vi vo' vi') (h : EnAt w B b E vo vi) {d : Bd} (hd : d.ok w) : d.ok w' := hd.keep k.keep h.noB
theorem EnTo.row {w w' : World} {B b : Nat} {E E' : En} {vo vi vo' vi' : Value} (k : EnTo w w' B b E' vo vi vo' vi') (h : EnAt w B b E vo vi) {B' e m n : Nat} {v : Value} {xs : List Value} (ho : w.ownsRow B' e m v n xs) (h1 : e ≠ 76) (h2 : e ≠ 78) (h3 : e ≠ 29) : w'.ownsRow B' e m v n xs :=
  own_keep ho k.keep (fun g hg hm => enS_ne_row h ho h1 h2 h3 g hm hg)
/-- Two ends, apart from one another, and nothing that was there before changed. -/
structure Two (w0 w : World) (bx b_y : Nat) (X Y : En) (vox vix voy viy : Value) : Prop where
  kx : Keep [] w0 w
  x : EnAt w w0.heap.size bx X vox vix
  y : EnAt w w0.heap.size b_y Y voy viy
  ne : ∀ g ∈ enS bx vox vix, g ∉ enS b_y voy viy
  ox : EnOk X
  oy : EnOk Y
section
variable {w0 w w' : World} {bx b_y : Nat} {X X' Y Y' : En} {vox vix voy viy vox' vix' voy' viy' : Value}
theorem Two.swap (h : Two w0 w bx b_y X Y vox vix voy viy) : Two w0 w b_y bx Y X voy viy vox vix := ⟨h.kx, h.y, h.x, fun g h1 h2 => h.ne g h2 h1, h.oy, h.ox⟩
theorem Two.onX (h : Two w0 w bx b_y X Y vox vix voy viy) (k : EnTo w w' w0.heap.size bx X' vox vix vox' vix') (ok : EnOk X') : Two w0 w' bx b_y X' Y vox' vix' voy viy := by
  refine ⟨h.kx.call k.keep (fun g hg => .inr (h.x.lt g hg).1), k.at_, h.y.keep k.keep (fun g h1 h2 => h.ne g h2 h1) h.x.noB, fun g hg hy => ?_, ok, h.oy⟩
  have hyl := (h.y.lt g hy).2
  have hin : g ∈ enS bx vox vix := by
    simp only [enS, List.mem_cons, List.mem_append, Option.mem_toList] at hg ⊢
    rcases hg with rfl | hg | hg
    · exact .inl rfl
    · rcases k.no g hg with h1 | h1
      · exact .inr (.inl h1)
      · omega
    · rcases k.ni g hg with h1 | h1
      · exact .inr (.inr h1)
      · omega
  exact h.ne g hin hy
theorem Two.onY (h : Two w0 w bx b_y X Y vox vix voy viy) (k : EnTo w w' w0.heap.size b_y Y' voy viy voy' viy') (ok : EnOk Y') : Two w0 w' bx b_y X Y' vox vix voy' viy' := (h.swap.onX k ok).swap
theorem Two.keep0 (h : Two w0 w bx b_y X Y vox vix voy viy) (hk : Keep [] w w') : Two w0 w' bx b_y X Y vox vix voy viy := ⟨h.kx.trans hk, h.x.keep0 hk, h.y.keep0 hk, h.ne, h.ox, h.oy⟩
end
theorem EnOk.en0 {n : Nat} (h1 : 1 ≤ n) (h2 : n ≤ 16) : EnOk ⟨n, n, 0, 0, [], [], false⟩ := ⟨⟨h1, h2⟩, h2, Nat.zero_le _, Nat.zero_le _, Nat.zero_le _, Nat.zero_le _, fun p hp => by cases hp⟩
theorem EnOk.put {E : En} (h : EnOk E) {p : Pd} (hl : E.out.length < E.win) (hp : p.b.bs.length ≤ 1000) : EnOk { E with out := E.out ++ [p] } :=
  ⟨h.win, h.lim, by rw [List.length_append, List.length_singleton]; exact hl, h.inn, h.base, h.want, fun q hq => by
    rcases List.mem_append.1 hq with hq | hq
    · exact h.bo q hq
    · obtain rfl := List.mem_singleton.1 hq; exact hp⟩
theorem EnOk.outE {E : En} (h : EnOk E) : EnOk (outE E) := by
  have := h.sent (min E.lim E.out.length)
  exact ⟨this.win, this.lim, this.out, this.inn, this.base, this.want, this.bo⟩
theorem EnOk.ack {E : En} (h : EnOk E) {ack win : Nat} (ha : ack ≤ 1000000) (hw : win ≤ 16) : EnOk (ackE E ack win) := by
  unfold ackE
  split
  · exact ⟨h.win, hw, by simp only [List.length_drop]; have := h.out; omega, h.inn, ha, h.want, fun p hp => h.bo p (List.mem_of_mem_drop hp)⟩
  · split
    · exact ⟨h.win, by have := h.lim; simp only; omega, h.out, h.inn, h.base, h.want, h.bo⟩
    · exact h
theorem EnOk.got {E : En} (h : EnOk E) {has : Bool} {seq : Nat} {d : Bd} (hw : E.want + 1 ≤ 1000000) : EnOk (gotE E has seq d) := by
  unfold gotE
  split
  · split
    · rename_i h1
      exact ⟨h.win, h.lim, h.out, by simp only [List.length_append, List.length_singleton]; omega, h.base, hw, h.bo⟩
    · exact ⟨h.win, h.lim, h.out, h.inn, h.base, h.want, h.bo⟩
  · exact h
theorem EnOk.taken {E : En} (h : EnOk E) (d : Bool) : EnOk { E with inn := [], due := d } := ⟨h.win, h.lim, h.out, Nat.zero_le _, h.base, h.want, h.bo⟩
theorem EnOk.tick {E : En} (h : EnOk E) : EnOk { E with lim := if 0 < E.out.length then max E.lim 1 else E.lim, out := E.out.map (fun p => ⟨p.b, false⟩) } :=
  ⟨h.win, by have := h.lim; simp only; split <;> omega, by simpa using h.out, h.inn, h.base, h.want, fun p hp => by
    obtain ⟨q, hq, rfl⟩ := List.mem_map.1 hp
    exact h.bo q hq⟩
theorem pkrow {w : World} {B n : Nat} {v : Value} {l : List Pk} (ho : w.ownsRow B 34 5 v n (pksC l)) (hn : 0 < n) : ∃ g c, v = .slice (some ⟨g, 0, none⟩) n c ∧ n ≤ c ∧ c ≤ maxLen ∧ g < w.heap.size ∧ (∀ i, w.frozen? ⟨g, i, none⟩ = false) ∧ ∀ i q, l[i]? = some q → w.cell? ⟨g, i * 5, none⟩ = some (.int .u32 q.seq) ∧ w.cell? ⟨g, i * 5 + 1, none⟩ = some (.int .u32 q.ack) ∧ w.cell? ⟨g, i * 5 + 2, none⟩ = some (.bool q.has) ∧ w.cell? ⟨g, i * 5 + 3, none⟩ = some (.int .i64 q.win) ∧ w.cell? ⟨g, i * 5 + 4, none⟩ = some (.slice q.body.a q.body.bs.length q.body.c) := by
  obtain ⟨a, c, rfl, h1, h2, h3⟩ := ownAny ho
  obtain ⟨g, rfl, _, hg, hc, hz⟩ := h3 hn
  refine ⟨g, c, rfl, h1, h2, hg, hz, fun i q hq => ?_⟩
  have hl : l.length = n := by have := ho.1; rw [pksC_len] at this; omega
  have hi := (List.getElem?_eq_some_iff.1 hq).1
  have h5 := pks_at hq
  refine ⟨?_, ?_, ?_, ?_, ?_⟩
  · rw [hc _ (by omega)]; exact h5 0 (by decide)
  · rw [hc _ (by omega)]; exact h5 1 (by decide)
  · rw [hc _ (by omega)]; exact h5 2 (by decide)
  · rw [hc _ (by omega)]; exact h5 3 (by decide)
  · rw [hc _ (by omega)]; exact h5 4 (by decide)
theorem bdrow {w : World} {B n : Nat} {v : Value} {l : List Bd} (ho : w.ownsRow B 29 1 v n (l.map Bd.val)) (hn : 0 < n) : ∃ g c, v = .slice (some ⟨g, 0, none⟩) n c ∧ n ≤ c ∧ c ≤ maxLen ∧ g < w.heap.size ∧ ∀ i d, l[i]? = some d → w.cell? ⟨g, i, none⟩ = some (.slice d.a d.bs.length d.c) := by
  obtain ⟨a, c, rfl, h1, h2, h3⟩ := ownAny ho
  obtain ⟨g, rfl, _, hg, hc, hz⟩ := h3 hn
  refine ⟨g, c, rfl, h1, h2, hg, fun i q hq => ?_⟩
  have hl : l.length = n := by have := ho.1; simpa using this
  have hi := (List.getElem?_eq_some_iff.1 hq).1
  rw [hc _ (by omega), List.getElem?_map, hq]; rfl
end Go
namespace Go.Proofs.Ytfgipbjaaciiiaa
open Go.RowKit
/-- Bytes that are the same. -/
theorem equal18_same {w : World} {a1 a2 : Option Addr} {n c1 c2 : Nat} {bs : List Int} (h1 : BytesV w a1 n c1 bs) (h2 : BytesV w a2 n c2 bs) :
    Calls Try.prog 18 #[.slice a1 n c1, .slice a2 n c2] w fun e w' => e = .returned (.bool true) ∧ w' = w := by
  have k1 := h1.cells.convert (P := Try.prog) h1.len c1 29 5 9 Try.underlying29 Try.underlying5 Try.underlying9
  have k2 := h2.cells.convert (P := Try.prog) h2.len c2 29 5 9 Try.underlying29 Try.underlying5 Try.underlying9
  clear h1 h2
  go_enter Try.func18, Try.ntmps18
  go_wp2_with (first | (with_reducible refine Txt.wp_region_text mixed quiet (by decide +kernel) ?_) | (with_reducible refine Txt.text_done (by kernel_rfl) ?_))
  go_ret
  exact ⟨by simp, rfl⟩
end Go.Proofs.Ytfgipbjaaciiiaa
namespace Go
theorem bytes_new (w : World) (z : Int) (hz : 0 ≤ z ∧ z < 256) : BytesV (w.alloc (.cells #[.int .u8 z] 5)) (some ⟨w.heap.size, 0, none⟩) 1 1 [z] :=
  ⟨rfl, Nat.le_refl _, by unfold maxLen; omega, by simpa using hz, fun _ => ⟨w.heap.size, 0, rfl, fun i hi => by
    obtain rfl : i = 0 := by omega
    obtain ⟨h0, _⟩ := row1 (blk_new w (.cells #[.int .u8 z] 5))
    exact h0⟩, fun h => by cases h⟩
theorem pk1 {w : World} {B : Nat} {v : Value} {q : Pk} (ho : w.ownsRow B 34 5 v 1 (pksC [q])) : ∃ g c, v = .slice (some ⟨g, 0, none⟩) 1 c ∧ 1 ≤ c ∧ c ≤ maxLen ∧ g < w.heap.size ∧ w.cell? ⟨g, 0, none⟩ = some (.int .u32 q.seq) ∧ w.cell? ⟨g, 1, none⟩ = some (.int .u32 q.ack) ∧ w.cell? ⟨g, 2, none⟩ = some (.bool q.has) ∧ w.cell? ⟨g, 3, none⟩ = some (.int .i64 q.win) ∧ w.cell? ⟨g, 4, none⟩ = some (.slice q.body.a q.body.bs.length q.body.c) := by
  obtain ⟨g, c, h1, h2, h3, h4, _, h5⟩ := pkrow ho (by decide)
  have := h5 0 q rfl
  simp only [Nat.zero_mul, Nat.zero_add] at this
  exact ⟨g, c, h1, h2, h3, h4, this⟩
end Go
namespace Go.Proofs.Ytfgipbjaaciiiaa
open Go.RowKit
theorem en1_room : (en0 1).out.length < (en0 1).win := by decide
theorem en1_ok : EnOk (en0 1) := EnOk.en0 (by decide) (by decide)
theorem come15_i {w : World} {B b seq ack win n c : Nat} {s k wi : Int} {has : Bool} {a : Option Addr} {bs : List Int} {E : En} {vo vi : Value} (h : EnAt w B b E vo vi) (hok : EnOk E) (hd : (Bd.mk a c bs).ok w) (hdl : n ≤ 1000) (hs : seq ≤ 1000000) (ha : ack ≤ 1000000) (hwn : win ≤ 16) (h1 : (seq : Int) = s) (h2 : (ack : Int) = k) (h3 : (win : Int) = wi) (h4 : bs.length = n) :
    Calls Try.prog 15 #[.pointer (some ⟨b, 0, none⟩), .agg #[.int .u32 s, .int .u32 k, .bool has, .int .i64 wi, .slice a n c]] w fun e w' => e = .returned (.int .i64 0) ∧ ComeTo w w' B b (gotE (ackE E ack win) has seq) bs vo vi := by
  subst h1 h2 h3 h4
  exact come15_any (d := ⟨a, c, bs⟩) h hok hd hdl hs ha hwn
theorem begun_inn (a : Option Addr) (c : Nat) : 0 < (gotE (ackE (en0 1) 0 1) true 0 ⟨a, c, [7]⟩).inn.length := (by decide : (0 : Nat) < 1)
theorem begun_mem (a : Option Addr) (c : Nat) : (⟨a, c, [7]⟩ : Bd) ∈ (gotE (ackE (en0 1) 0 1) true 0 ⟨a, c, [7]⟩).inn := List.mem_singleton.2 rfl
def begunX (a : Option Addr) (c : Nat) : En := { en0 1 with out := (en0 1).out ++ [⟨⟨a, c, [7]⟩, false⟩] }
theorem begun_pk (ds : Nat → Bd) (a : Option Addr) (c : Nat) : outP { en0 1 with out := (en0 1).out ++ [⟨⟨a, c, [7]⟩, false⟩] } ds = [⟨0, 0, true, 1, ds 0⟩] := rfl
theorem begun_min : 0 < min (en0 1).lim ((en0 1).out ++ [(⟨⟨none, 0, [7]⟩, false⟩ : Pd)]).length := by decide
set_option maxRecDepth 100000 in
set_option maxHeartbeats 4000000 in
theorem begun10_any {w : World} : Calls Try.prog 10 #[] w fun e w' => e = .returned (.bool true) ∧ Keep [] w w' := by
  go_enter Try.func10, Try.ntmps10
  go_wp2_with (first | (with_reducible refine Txt.wp_region_text mixed quiet (by decide +kernel) ?_) | (with_reducible refine Txt.text_done (by kernel_rfl) ?_) | (go_at_call 11; (with_reducible refine (lines11_any (a := 0) (b := 0) (wa := 0) (wb := 0) (by decide) (by decide)).mono ?_); rintro e w1 ⟨bx, b_y, rfl, hk1, hne, hx, hy⟩; have HT1 : Hid (Two w w1 bx b_y (en0 1) (en0 1) (.slice none 0 0) (.slice none 0 0) (.slice none 0 0) (.slice none 0 0)) := Lib.hid ⟨hk1, hx, hy, by simpa [enS, Value.ownBlock] using hne, EnOk.en0 (by decide) (by decide), EnOk.en0 (by decide) (by decide)⟩; clear hk1 hne hx hy) | (go_at_call 13; (with_reducible refine (put13_any (HT1.out.keep0 ((Keep.refl [] w1).alloc _)).x HT1.out.ox (bytes_new w1 7 (by decide)) (by decide) en1_room).mono ?_); rintro e w2 ⟨rfl, vo2, a2, c2, hf2, ht2⟩; have HT2 := Lib.hid ((HT1.out.keep0 ((Keep.refl [] w1).alloc _)).onX ht2 (EnOk.put en1_ok en1_room (show (1 : Nat) ≤ 1000 by decide))); clear hf2 ht2) | (go_at_call 14; (with_reducible refine (out14_any HT2.out.x HT2.out.ox).mono ?_); rintro e w3 ⟨v3, rfl, ds, ho3, ht3, hd3⟩; have HT3 := Lib.hid (HT2.out.onX ht3 HT2.out.ox.outE); have hpe := begun_pk ds a2 c2; rw [hpe] at ho3; obtain ⟨hb9, hbo, _⟩ := hd3 0 begun_min _ rfl rfl; obtain ⟨⟨da, dc, dbs⟩, hds⟩ : ∃ d, ds 0 = d := ⟨_, rfl⟩; rw [hds] at ho3 hb9 hbo; (obtain rfl : dbs = [7] := hb9); obtain ⟨g, c, rfl, hc1, hcm, hgl, q0, q1, q2, q3, q4⟩ := pk1 ho3; have HBO := Lib.hid hbo; unfold maxLen at hcm; clear ho3 ht3 hd3 hpe hbo hds) | (go_at_call 15; (with_reducible refine (come15_i (seq := 0) (ack := 0) (win := 1) (s := 0) (k := 0) (wi := 1) (n := 1) (has := true) HT3.out.y HT3.out.oy HBO.out (by decide) (by decide) (by decide) (by decide) rfl rfl rfl rfl).mono ?_); rintro e w4 ⟨rfl, vo4, vi4, a4, c4, hf4, ht4⟩; have HT4 := Lib.hid (HT3.out.onY ht4 ((en1_ok.ack (by decide) (by decide)).got (by decide))); obtain ⟨g4, c5, rfl, hc5, hcm5, hgl5, q5⟩ := bdrow (n := 1) (l := [⟨a4, c4, [7]⟩]) HT4.out.y.inn (by decide); unfold maxLen at hcm5; have hq5 := q5 0 ⟨a4, c4, [7]⟩ rfl; have HBI := Lib.hid (HT4.out.y.bi ⟨a4, c4, [7]⟩ (begun_mem a4 c4)); clear hf4 ht4 q5) | (go_at_call 22; (with_reducible refine (got22_any HT4.out.y HT4.out.oy).mono ?_); rintro e w5 ⟨rfl, hk5, he5⟩; have hq6 : w5.cell? ⟨g4, 0, none⟩ = some (.slice a4 1 c4) := hk5.cell hq5 (fun hm => (by obtain ⟨cs, h9⟩ := ownCells HT4.out.y.inn rfl; exact neType h9 HT4.out.y.blk (by decide) (by simpa using hm))); have hb5 := (HBI.out.keep hk5 (fun x hx cs f hc => (by obtain rfl := List.mem_singleton.1 hx; exact neType HT4.out.y.blk hc (by decide) rfl))).1; have HB5 := Lib.hid (hb5.keep ((Keep.refl [] w5).alloc (.cells #[.int .u8 7] 5)) (by simp)); have hg5 : g4 < w5.heap.size := Nat.lt_of_lt_of_le hgl5 hk5.size; have hkk : Keep [] w w5 := HT4.out.kx.call hk5 (fun x hx => .inr (by obtain rfl := List.mem_singleton.1 hx; exact HT4.out.y.hB)); clear hb5 hk5 he5) | (go_at_call 18; (with_reducible refine (equal18_same (n := 1) (bs := [7]) HB5.out (bytes_new w5 7 (by decide))).mono ?_); rintro e w6 ⟨rfl, rfl⟩))
  go_ret
  exact ⟨rfl, hkk.alloc _⟩
end Go.Proofs.Ytfgipbjaaciiiaa
namespace Go
theorem outL_all {E : En} {ds : Nat → Bd} (h : ∀ p ∈ E.out, p.sent = false) : ∀ k, k ≤ E.out.length → outL E ds k = (List.range k).map (fun i => ⟨E.base + i, E.want, true, E.win - E.inn.length, ds i⟩)
  | 0, _ => rfl
  | k + 1, hk => by
    rw [outL, outL_all h k (by omega), List.range_succ, List.map_append]
    rw [List.getElem?_eq_getElem (by omega)]
    simp [h _ (List.getElem_mem (show k < E.out.length by omega))]
theorem outL_none {E : En} {ds : Nat → Bd} (h : ∀ p ∈ E.out, p.sent = true) : ∀ k, k ≤ E.out.length → outL E ds k = []
  | 0, _ => rfl
  | k + 1, hk => by
    rw [outL, outL_none h k (by omega), List.getElem?_eq_getElem (by omega)]
    simp [h _ (List.getElem_mem (show k < E.out.length by omega))]
theorem sentL_all {l : List Pd} {k : Nat} (hk : l.length ≤ k) : ∀ p ∈ sentL l k, p.sent = true := by
  intro p hp
  unfold sentL at hp
  rw [List.drop_eq_nil_of_le hk, List.append_nil] at hp
  obtain ⟨q, _, rfl⟩ := List.mem_map.1 hp
  rfl
/-- What is put in, and not sent. -/
def Unsent (l : List Pd) : Prop := ∀ p ∈ l, p.sent = false ∧ p.b.bs.length = 1
/-- Where an end stands that took k bodies in a row. -/
def TookK (Y : En) (Wo k : Nat) : Prop := Y.win = Wo ∧ Y.base = 0 ∧ Y.want = min k Wo ∧ Y.out = [] ∧ Y.inn.length = min k Wo ∧ (0 < k → Y.due = true)
theorem TookK.step {Y : En} {Wo k win : Nat} {d : Bd} (h : TookK Y Wo k) (_ : win ≤ 16) : TookK (gotE (ackE Y 0 win) true k d) Wo (k + 1) := by
  obtain ⟨h1, h2, h3, h4, h5, h6⟩ := h
  have hA : ackE Y 0 win = { Y with lim := max Y.lim win } := by
    unfold ackE
    rw [if_neg (by omega), if_pos (by omega)]
  rw [hA]
  unfold gotE
  rw [if_pos rfl]
  by_cases hc : k = Y.want ∧ Y.inn.length < Y.win
  · rw [if_pos hc]
    exact ⟨h1, h2, by simp only; omega, h4, by simp only [List.length_append, List.length_singleton]; omega, fun _ => rfl⟩
  · rw [if_neg hc]
    refine ⟨h1, h2, ?_, h4, ?_, fun _ => rfl⟩
    · simp only; omega
    · simp only; omega
theorem ack_want (E : En) (a w : Nat) : (ackE E a w).want = E.want := by
  unfold ackE
  split
  · rfl
  · split <;> rfl
theorem TookK.out {Y : En} {V k : Nat} (h : TookK Y V k) (hk : 0 < k) (ds : Nat → Bd) : outP Y ds = [⟨0, min k V, false, V - min k V, noBd⟩] := by
  obtain ⟨h1, h2, h3, h4, h5, h6⟩ := h
  have e : min Y.lim Y.out.length = 0 := by rw [h4]; simp
  unfold outP
  rw [e, if_pos ⟨rfl, h6 hk⟩, h1, h2, h3, h4, h5]
  rfl
/-- Two ends in some place. -/
def TwoE (w0 w : World) (bx b_y : Nat) (X Y : En) : Prop := ∃ vox vix voy viy, Two w0 w bx b_y X Y vox vix voy viy
end Go
namespace Go.Proofs.Ytfgipbjaaciiiaa
open Go.RowKit
theorem lines11_two {a b : Int} {wa wb : Nat} {w : World} (ha : restI a 16 = wa) (hb : restI b 16 = wb) :
    Calls Try.prog 11 #[.int .i64 a, .int .i64 b] w fun e w' => ∃ bx b_y, e = .returned (.tuple #[.pointer (some ⟨bx, 0, none⟩), .pointer (some ⟨b_y, 0, none⟩), .bool true]) ∧ TwoE w w' bx b_y (en0 (1 + wa)) (en0 (1 + wb)) := by
  have h1 := restI_hi a (n := 16) (by decide)
  have h2 := restI_hi b (n := 16) (by decide)
  refine (lines11_any ha hb).mono ?_
  rintro e w' ⟨bx, b_y, rfl, hk, hne, hx, hy⟩
  exact ⟨bx, b_y, rfl, _, _, _, _, hk, hx, hy, by simpa [enS, Value.ownBlock] using hne, EnOk.en0 (by omega) (by omega), EnOk.en0 (by omega) (by omega)⟩
theorem TwoE.base {w0 w1 w : World} {bx b_y : Nat} {X Y : En} (hk : Keep [] w0 w1) (h : TwoE w1 w bx b_y X Y) : TwoE w0 w bx b_y X Y := by
  obtain ⟨a, b, c, d, h⟩ := h
  exact ⟨a, b, c, d, hk.trans h.kx, ⟨Nat.le_trans hk.size h.x.hB, h.x.blk, ownBase h.x.out hk.size, ownBase h.x.inn hk.size, h.x.bo, h.x.bi⟩, ⟨Nat.le_trans hk.size h.y.hB, h.y.blk, ownBase h.y.out hk.size, ownBase h.y.inn hk.size, h.y.bo, h.y.bi⟩, h.ne, h.ox, h.oy⟩
set_option maxRecDepth 100000 in
set_option maxHeartbeats 8000000 in
theorem lineWindow_walk (a b n : Int) (w : World) : Calls Try.prog 3 #[.int .i64 a, .int .i64 b, .int .i64 n] w fun e w' => e = .returned (.bool true) ∧ Keep [] w w' := by
  obtain ⟨wa, ha, ha2⟩ := rest_nat a 16 (by decide)
  obtain ⟨wb, hb, hb2⟩ := rest_nat b 16 (by decide)
  have HA := Lib.hid ha
  have HB := Lib.hid hb
  obtain ⟨W, hW⟩ : ∃ W, 1 + wa = W := ⟨_, rfl⟩
  obtain ⟨V, hV⟩ : ∃ V, 1 + wb = V := ⟨_, rfl⟩
  have HW : Hid ((1 : Int) + wa = W) := Lib.hid (by omega)
  have HV : Hid ((1 : Int) + wb = V) := Lib.hid (by omega)
  have hW2 : 1 ≤ W ∧ W ≤ 16 := by omega
  have hV2 : 1 ≤ V ∧ V ≤ 16 := by omega
  have HWN := Lib.hid hW
  have HVN := Lib.hid hV
  clear ha hb hW hV ha2 hb2
  have hWI := HW.out
  have hVI := HV.out
  go_enter Try.func3, Try.ntmps3
  go_wp2_with (first | (with_reducible refine Txt.wp_region_text mixed quiet (by decide +kernel) ?_) | (with_reducible refine Txt.text_done (by kernel_rfl) ?_) | (go_at_call 10; (with_reducible refine begun10_any.mono ?_); rintro e w1 ⟨rfl, hk1⟩) | (go_at_call 11; (with_reducible refine (lines11_two HA.out HB.out).mono ?_); rintro e w2 ⟨bx, b_y, rfl, ht2⟩; rw [HWN.out, HVN.out] at ht2; have HT2 := Lib.hid (TwoE.base hk1 ht2); clear ht2 hk1) | (go_at_call 12; (first | (with_reducible refine (rest_at HA (by decide) (by decide)).mono ?_) | (with_reducible refine (rest_at HB (by decide) (by decide)).mono ?_)); rintro e w3 ⟨rfl, rfl⟩))
  go_loopw [36] (fun j wr => ∃ (k : Nat) (l : List Pd), k ≤ W ∧ j = .int .i64 k ∧ l.length = k ∧ Hid (Unsent l) ∧ Hid (TwoE w wr bx b_y { en0 W with out := l } (en0 V))) (fun j _ => W - (intOf j).toNat)
  case atStart => exact ⟨0, [], by omega, rfl, rfl, Lib.hid (fun p hp => by cases hp), HT2⟩
  case round =>
    obtain ⟨k, l, hk, rfl, hlk, HU, HT⟩ := hrel
    obtain ⟨vox, vix, voy, viy, hT⟩ := HT.out
    by_cases hlt : k < W
    · have HTA : Hid (∀ o, Two w (wr.alloc o) bx b_y { en0 W with out := l } (en0 V) vox vix voy viy) := Lib.hid (fun o => hT.keep0 ((Keep.refl [] wr).alloc o))
      have HR : Hid (({ en0 W with out := l } : En).out.length < ({ en0 W with out := l } : En).win) := Lib.hid (by simp only [en0]; omega)
      have HOX := Lib.hid hT.ox
      have HB8 := Lib.hid (bytes_new wr (k : Int) (by omega))
      clear hT HT
      go_wp2_with (first | (with_reducible refine Txt.wp_region_text mixed quiet (by decide +kernel) ?_) | (with_reducible refine Txt.text_done (by kernel_rfl) ?_) | (go_at_call 13; (with_reducible refine (put13_any (HTA.out _).x HOX.out HB8.out (by decide) HR.out).mono ?_); rintro e w3 ⟨rfl, vo3, a3, c3, hf3, ht3⟩; have HT3 := Lib.hid ((HTA.out _).onX ht3 (EnOk.put HOX.out HR.out (show (1 : Nat) ≤ 1000 by decide))); clear hf3 ht3))
      refine ⟨⟨k + 1, l ++ [⟨⟨a3, c3, [(k : Int)]⟩, false⟩], hlt, by go_num, by simp [hlk], Lib.hid (fun p hp => ?_), Lib.hid ⟨_, _, _, _, HT3.out⟩⟩, by simp [intOf]; omega⟩
      rcases List.mem_append.1 hp with hp | hp
      · exact HU.out p hp
      · obtain rfl := List.mem_singleton.1 hp; exact ⟨rfl, rfl⟩
    · obtain rfl : k = W := by omega
      have HXF : Hid (({ en0 k with out := l } : En).out.length = ({ en0 k with out := l } : En).win) := Lib.hid (by simp only [en0]; omega)
      have HT' := Lib.hid hT
      have HLK := Lib.hid hlk
      have hpe : ∀ ds, outP { en0 k with out := l } ds = (List.range k).map (fun i => (⟨0 + i, 0, true, k - 0, ds i⟩ : Pk)) := by
        intro ds
        unfold outP
        have e : min ({ en0 k with out := l } : En).lim ({ en0 k with out := l } : En).out.length = k := by simp only [en0]; omega
        rw [e, outL_all (fun p hp => (HU.out p hp).1) k (by simp only; omega)]
        rw [if_neg (by simp; omega)]
        rfl
      have hpe2 : ∀ ds, outP (outE { en0 k with out := l }) ds = [] := by
        intro ds
        have e : min ({ en0 k with out := l } : En).lim ({ en0 k with out := l } : En).out.length = k := by simp only [en0]; omega
        unfold outP
        rw [outL_none (sentL_all (by rw [e]; simp only; omega)) _ (Nat.min_le_right _ _)]
        rw [if_neg (by simp [outE])]
      have HPE := Lib.hid hpe
      have HPE2 := Lib.hid hpe2
      clear hT HT hlk hpe hpe2
      have tok1 : True := trivial
      go_wp2_with (first | (with_reducible refine Txt.wp_region_text mixed quiet (by decide +kernel) ?_) | (with_reducible refine Txt.text_done (by kernel_rfl) ?_) | (go_at_call 13; (with_reducible refine (put13_full HT'.out.x HT'.out.ox (by decide) HXF.out).mono ?_); rintro e w3 ⟨rfl, hk3⟩; have HT3 := Lib.hid (HT'.out.keep0 hk3); clear hk3) | (go_at_call 14; have _t := tok1; (with_reducible refine (out14_any HT3.out.x HT3.out.ox).mono ?_); rintro e w4 ⟨v4, rfl, ds, ho4, ht4, hd4⟩; have HT4 := Lib.hid (HT3.out.onX ht4 HT3.out.ox.outE); have HD4 := Lib.hid hd4; rw [HPE.out, List.length_map, List.length_range] at ho4; obtain ⟨g4, c4, rfl, hgc, hgm, hgl, _, _⟩ := pkrow ho4 (by omega); have HO4 := Lib.hid ho4; clear tok1 _t ho4 ht4 hd4) | (go_at_call 14; (with_reducible refine (out14_any HT4.out.x HT4.out.ox).mono ?_); rintro e w5 ⟨v5, rfl, ds5, ho5, ht5, hd5⟩; have HT5 := Lib.hid (HT4.out.onX ht5 HT4.out.ox.outE); have HO5 := Lib.hid (ht5.row HT4.out.x HO4.out (by decide) (by decide) (by decide)); have HD5 := Lib.hid (HD4.out.keep ht5.keep HT4.out.x.noB); rw [HPE2.out] at ho5; obtain ⟨a5, c5, rfl, _, hc5, _⟩ := ownAny ho5; clear ho5 ht5 hd5))
      have hds : ∀ i, i < k → ∃ da dc z, ds i = ⟨da, dc, [z]⟩ ∧ (ds i).ok w5 := fun i hi => by
        have hil : i < l.length := by rw [HLK.out]; exact hi
        have e : min ({ en0 k with out := l } : En).lim ({ en0 k with out := l } : En).out.length = k := by have := HLK.out; simp only [en0]; omega
        have h9 := HD5.out
        rw [e] at h9
        obtain ⟨h1, h2, _⟩ := h9 i hi l[i] (List.getElem?_eq_getElem hil) (HU.out _ (List.getElem_mem hil)).1
        have h3 := (HU.out _ (List.getElem_mem hil)).2
        rw [← h1] at h3
        obtain ⟨⟨da, dc, dbs⟩, hd⟩ : ∃ d, ds i = d := ⟨_, rfl⟩
        rw [hd] at h3
        match dbs, h3 with
        | [z], _ => exact ⟨da, dc, z, by rw [hd], h2⟩
      obtain ⟨XX, hXX⟩ : ∃ XX, outE (outE { en0 k with out := l }) = XX := ⟨_, rfl⟩
      have hT5 := HT5.out
      rw [hXX] at hT5
      have HXX := Lib.hid hXX
      have HT5' : Hid (TwoE w w5 bx b_y XX (en0 V)) := Lib.hid ⟨_, _, _, _, hT5⟩
      have HOX := Lib.hid hT5.ox
      have HT0 : Hid (TookK (en0 V) V 0) := Lib.hid ⟨rfl, rfl, by simp [en0], rfl, by simp [en0], fun h => absurd h (by decide)⟩
      have HDS := Lib.hid hds
      unfold maxLen at hgm
      clear hT5 hds hXX
      go_loopw [63] (fun j wr => ∃ (i : Nat) (Y : En), i ≤ k ∧ j = .int .i64 i ∧ Hid (TookK Y V i) ∧ Hid (TwoE w wr bx b_y XX Y) ∧ Hid (wr.ownsRow w3.heap.size 34 5 (.slice (some ⟨g4, 0, none⟩) k c4) k (pksC ((List.range k).map (fun i => (⟨0 + i, 0, true, k - 0, ds i⟩ : Pk))))) ∧ Hid (∀ i, i < k → ∃ da dc z, ds i = ⟨da, dc, [z]⟩ ∧ (ds i).ok wr)) (fun j _ => k - (intOf j).toNat)
      case atStart => exact ⟨0, en0 V, by omega, rfl, HT0, HT5', HO5, HDS⟩
      case round =>
        obtain ⟨i, Y, hi, rfl, HTK, HTT, HOO, HDD⟩ := hrel
        obtain ⟨vox2, vix2, voy2, viy2, hTw⟩ := HTT.out
        by_cases hlt2 : i < k
        · obtain ⟨g', c', he, _, _, hgl', _, hq⟩ := pkrow HOO.out (by omega)
          have hgg : g4 = g' := by simp at he; exact he.1
          subst hgg
          clear he
          obtain ⟨da, dc, z, hdi, hdo⟩ := HDD.out i hlt2
          have hq2 := hq i ⟨0 + i, 0, true, k - 0, ds i⟩ (by simp [hlt2])
          rw [hdi] at hq2 hdo
          simp only [Nat.zero_add, Nat.sub_zero] at hq2
          have e1 : ([z] : List Int).length = 1 := rfl
          rw [e1] at hq2
          obtain ⟨q0, q1, q2, q3, q4⟩ := hq2
          have HDO : Hid (∀ o, (Bd.mk da dc [z]).ok (wr.alloc o)) := Lib.hid (fun o => hdo.keep ((Keep.refl [] wr).alloc o) (NoB.nil _))
          have HTA : Hid (∀ o, Two w (wr.alloc o) bx b_y XX Y vox2 vix2 voy2 viy2) := Lib.hid (fun o => hTw.keep0 ((Keep.refl [] wr).alloc o))
          have HOY := Lib.hid hTw.oy
          have HYW : Hid ((ackE Y 0 k).want + 1 ≤ 1000000) := Lib.hid (by rw [ack_want]; have := HTK.out.2.2.1; omega)
          clear hq hdo hdi e1 hTw
          go_wp2_with (first | (with_reducible refine Txt.wp_region_text mixed quiet (by decide +kernel) ?_) | (with_reducible refine Txt.text_done (by kernel_rfl) ?_) | (go_at_call 15; (with_reducible refine (come15_i (seq := i) (ack := 0) (win := k) (s := i) (k := 0) (wi := k) (n := 1) (has := true) (HTA.out _).y HOY.out (HDO.out _) (by decide) (by omega) (by decide) (by omega) rfl rfl rfl rfl).mono ?_); rintro e w7 ⟨rfl, vo7, vi7, a7, c7, hf7, ht7⟩; have HT7 := Lib.hid ((HTA.out _).onY ht7 ((HOY.out.ack (ack := 0) (win := k) (by decide) (by omega)).got HYW.out)); have HK7 := Lib.hid ht7; clear hf7 ht7))
          refine ⟨⟨i + 1, _, hlt2, by go_num, Lib.hid (HTK.out.step (by omega)), Lib.hid ⟨_, _, _, _, HT7.out⟩, Lib.hid (HK7.out.row (HTA.out _).y (own_keep HOO.out ((Keep.refl [] wr).alloc _) (by simp)) (by decide) (by decide) (by decide)), Lib.hid (fun j hj => ?_)⟩, by simp [intOf]; omega⟩
          obtain ⟨da', dc', z', h1, h2⟩ := HDD.out j hj
          exact ⟨da', dc', z', h1, HK7.out.bd (HTA.out _).y (h2.keep ((Keep.refl [] wr).alloc _) (NoB.nil _))⟩
        · obtain rfl : i = k := by omega
          obtain ⟨m, hm⟩ : ∃ m, min i V = m := ⟨_, rfl⟩
          obtain ⟨r, hr⟩ : ∃ r, V - m = r := ⟨_, rfl⟩
          have hmin : min (i : Int) (V : Int) = (m : Int) := by omega
          have hVm : (V : Int) - (m : Int) = (r : Int) := by omega
          have hm1 : 1 ≤ m ∧ m ≤ i := by omega
          have hr2 : r ≤ 16 := by omega
          have HPY : Hid (∀ ds, outP Y ds = [⟨0, m, false, r, noBd⟩]) := Lib.hid (fun ds => by rw [HTK.out.out (by omega), hm, hr])
          have HTw := Lib.hid hTw
          have HXA : Hid (∀ d, (gotE (ackE XX m r) false 0 d).out.length = i - m ∧ (gotE (ackE XX m r) false 0 d).win = i) := Lib.hid (fun d => by
            have hxo : XX.out.length = i := by rw [← HXX.out]; simp [outE, sentL_len, HLK.out]
            have hxb : XX.base = 0 := by rw [← HXX.out]; rfl
            have hxw : XX.win = i := by rw [← HXX.out]; rfl
            unfold gotE ackE
            rw [if_neg (by decide), if_pos (by omega)]
            exact ⟨by simp only [List.length_drop]; omega, hxw⟩)
          have HXW : Hid (XX.want + 1 ≤ 1000000) := Lib.hid (by rw [← HXX.out]; simp [outE, en0])
          clear hTw hm hr hi
          go_wp2_with (first | (with_reducible refine Txt.wp_region_text mixed quiet (by decide +kernel) ?_) | (with_reducible refine Txt.text_done (by kernel_rfl) ?_) | (go_at_call 14; (with_reducible refine (out14_any HTw.out.y HTw.out.oy).mono ?_); rintro e w6 ⟨v6, rfl, ds6, ho6, ht6, hd6⟩; have HT6 := Lib.hid (HTw.out.onY ht6 HTw.out.oy.outE); rw [HPY.out] at ho6; obtain ⟨g6, c6, rfl, hc6, hcm6, hgl6, q0, q1, q2, q3, q4⟩ := pk1 ho6; unfold maxLen at hcm6; have q5 : w6.cell? ⟨g6, 4, none⟩ = some (.slice none 0 0) := q4; clear ho6 ht6 hd6 q4) | (go_at_call 15; (with_reducible refine (come15_i (seq := 0) (ack := m) (win := r) (s := 0) (k := m) (wi := r) (n := 0) (has := false) (a := none) (c := 0) (bs := []) HT6.out.x HT6.out.ox (noBd_ok _) (by decide) (by decide) (by omega) hr2 rfl rfl rfl rfl).mono ?_); rintro e w8 ⟨rfl, vo8, vi8, a8, c8, hf8, ht8⟩; have HT8 := Lib.hid (HT6.out.onX ht8 ((HT6.out.ox.ack (ack := m) (win := r) (by omega) hr2).got (by rw [ack_want]; exact HXW.out))); have HX8 := Lib.hid (HXA.out ⟨a8, c8, []⟩); clear hf8 ht8))
          go_loopw [17] (fun f wr => ∃ (f' : Nat) (X : En), f' ≤ m ∧ f = .int .i64 f' ∧ X.out.length = i - m + f' ∧ X.win = i ∧ Hid (TwoE w wr bx b_y X (outE Y))) (fun f _ => m - (intOf f).toNat)
          case atStart => exact ⟨0, _, by omega, rfl, HX8.out.1, HX8.out.2, Lib.hid ⟨_, _, _, _, HT8.out⟩⟩
          case round =>
            obtain ⟨f, X, hf, rfl, hxl, hxw, HTX⟩ := hrel
            obtain ⟨vox3, vix3, voy3, viy3, hTx⟩ := HTX.out
            have HTA3 : Hid (∀ o, Two w (wr.alloc o) bx b_y X (outE Y) vox3 vix3 voy3 viy3) := Lib.hid (fun o => hTx.keep0 ((Keep.refl [] wr).alloc o))
            have HOX3 := Lib.hid hTx.ox
            by_cases hlt3 : f < m
            · have HR3 : Hid (X.out.length < X.win) := Lib.hid (by omega)
              have HXL := Lib.hid hxl
              have HXW3 := Lib.hid hxw
              clear hTx HTX hxl hxw
              have HBN : Hid (BytesV (wr.alloc (.cells #[.int .u8 (n % 256)] 5)) (some ⟨wr.heap.size, 0, none⟩) 1 1 [n % 256]) := Lib.hid (bytes_new wr (n % 256) (by omega))
              go_wp2_with (first | (with_reducible refine Txt.wp_region_text mixed quiet (by decide +kernel) ?_) | (with_reducible refine Txt.text_done (by kernel_rfl) ?_) | (go_at_call 13; (with_reducible refine (put13_any (HTA3.out _).x HOX3.out HBN.out (by decide) HR3.out).mono ?_); rintro e w9 ⟨rfl, vo9, a9, c9, hf9, ht9⟩; have HT9 := Lib.hid ((HTA3.out _).onX ht9 (EnOk.put HOX3.out HR3.out (show (1 : Nat) ≤ 1000 by decide))); clear hf9 ht9))
              exact ⟨⟨f + 1, { X with out := X.out ++ [⟨⟨a9, c9, [n % 256]⟩, false⟩] }, by omega, by go_num, by simp [HXL.out]; omega, HXW3.out, Lib.hid ⟨_, _, _, _, HT9.out⟩⟩, by simp [intOf]; omega⟩
            · obtain rfl : f = m := by omega
              have HR3 : Hid (X.out.length = X.win) := Lib.hid (by omega)
              clear hTx HTX hxl hxw
              go_wp2_with (first | (with_reducible refine Txt.wp_region_text mixed quiet (by decide +kernel) ?_) | (with_reducible refine Txt.text_done (by kernel_rfl) ?_) | (go_at_call 13; (with_reducible refine (put13_full (HTA3.out _).x HOX3.out (by decide) HR3.out).mono ?_); rintro e w9 ⟨rfl, hk9⟩; have hk10 := ((HTA3.out _).keep0 hk9).kx; clear hk9))
              go_ret
              exact ⟨by first | rfl | simp, hk10⟩
end Go.Proofs.Ytfgipbjaaciiiaa
/- Rows of bytes, as an argument. -/
namespace Go
open Go.ChangeShapes Go.WideShapes Go.ChangeAt Go.RowKit Go.Deep
/-- A slice of slices of bytes. -/
structure BRowsV (w : World) (a : Option Addr) (n c : Nat) (A : Nat → Option Addr) (L C : Nat → Nat) (Z : Nat → List Int) : Prop where
  room : n ≤ c
  most : c ≤ maxLen
  onNil : a = none → c = 0
  cells : 0 < n → ∃ b off, a = some ⟨b, off, none⟩ ∧ ∀ i, i < n → w.cell? ⟨b, off + i, none⟩ = some (.slice (A i) (L i) (C i))
  rows : ∀ i, i < n → BytesV w (A i) (L i) (C i) (Z i)
section
variable {H : Type} {enc : TypeId × Value → H} {P : Program} {W : World}
theorem byterows_of {t e q : TypeId} {a : Option Addr} {n c : Nat} {d : DataW H} {ps : List MemPlace} (ht : P.underlying t = some (.slice e)) (he : P.underlying e = some (.slice q)) (hq : P.underlying q = some (.int .u8)) (ce : P.cellsOf e = 1) (cq : P.cellsOf q = 1)
    (h : DataW.Trod enc P W 0 (fun _ => true) true t (.slice a n c) d ps) : ∃ A L C Z, BRowsV W a n c A L C Z := by
  obtain ⟨fuel, hf⟩ := h
  rcases open_int_rows ht he hq ce cq hf with ⟨hcs, _⟩ | ⟨x, l, c', A, L, C, Z, hcs, _, hl, hm, _, hr⟩
  · simp [Value.cells] at hcs
    obtain ⟨rfl, rfl, rfl⟩ := hcs
    exact ⟨fun _ => none, fun _ => 0, fun _ => 0, fun _ => [], Nat.le_refl _, Nat.zero_le _, fun _ => rfl, fun h => absurd h (by decide), fun i hi => absurd hi (by omega)⟩
  · simp [Value.cells] at hcs
    obtain ⟨rfl, rfl, rfl⟩ := hcs
    refine ⟨A, L, C, fun i => (Z i).take (L i), hl, hm, fun h => (by cases h), fun hn => ?_, fun i hi => ?_⟩
    · obtain ⟨b, off, spot⟩ := x
      have hspot : spot = none := by simpa [Addr.add] using World.cell?_spot (hr 0 (by omega)).1
      subst hspot
      exact ⟨b, off, rfl, fun i hi => by rw [← add_plain]; exact (hr i (by omega)).1⟩
    · obtain ⟨_, h1, h2, h3, h4, h5, h6⟩ := hr i (by omega)
      cases hA : A i with
      | none =>
        have hc := h5 hA
        have hl0 : L i = 0 := by omega
        have hz0 : (Z i).take (L i) = [] := by rw [hl0]; rfl
        (try dsimp only)
        rw [hz0, hl0, hc]
        exact BytesV.empty W
      | some y => exact BytesV.ofRow h1 h2 h3 (fun j hj => (h6 y hA).2 j (by omega)) h4
end
end Go
