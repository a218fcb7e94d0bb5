import Derived.Test.YtmkdppbnmogmlaaG5
import Derived.Test.YtmkdppbnmogmlaaG6
import Derived.Test.YtmkdppbnmogmlaaR5
namespace Go
def allRows (n : Nat) : List Ln := (List.range n).map fun (i : Nat) => ⟨(i : Int) + 1, 0, 1⟩
theorem allRows_succ (n : Nat) : allRows (n + 1) = allRows n ++ [⟨(n : Int) + 1, 0, 1⟩] := by simp [allRows, List.range_succ]
theorem allRows_len (n : Nat) : (allRows n).length = n := by simp [allRows]
theorem allRows_lat (n i : Nat) (h : i < n) : lat (allRows n) i = ⟨(i : Int) + 1, 0, 1⟩ := by simp [lat, allRows, List.getD_eq_getElem?_getD, h]
theorem allRows_ok (n : Nat) (h : n ≤ 8) : RowsOk (allRows n) := by
  refine ⟨by rw [allRows_len]; exact h, fun i hi => ?_, fun i hi => ?_⟩
  · rw [allRows_len] at hi
    rw [allRows_lat n i hi]; dsimp only; omega
  · rw [allRows_len] at hi
    rw [allRows_lat n i (by omega), allRows_lat n (i + 1) hi]; dsimp only; omega
def g0 : Gs := ⟨0, 0, 0, [], []⟩
theorem GAt.grown {T : TypeId} {w w' : World} {b : Nat} {g : Gs} {row : Option Nat} (h : GAt T w b g) (hg : w.grownBy w' row) (hne : ∀ k, row = some k → k ≠ b) : GAt T w' b g :=
  ⟨(hg.block b h.lt (fun e => hne b e.symm rfl)).trans h.1, h.2⟩
end Go
namespace Go.Proofs.Ytmkdppbnmogmlaa
open Go.RowKit
structure NetAt (w : World) (a : Option Addr) (n c : Nat) (bs : List Nat) (gs : List Gs) (lo : Nat) : Prop where
  p : PtrsV w a n c bs
  pa : ∀ x, a = some x → lo ≤ x.block ∧ x.block ∉ bs
  nd : bs.Nodup
  lo : ∀ b ∈ bs, lo ≤ b
  lg : gs.length = n
  at_ : ∀ i, i < n → GAt 55 w (bs.getD i 0) (gs.getD i g0)
theorem NetAt.keep {w w' : World} {a : Option Addr} {n c lo : Nat} {bs : List Nat} {gs : List Gs} (h : NetAt w a n c bs gs lo) (k : Keep [] w w') : NetAt w' a n c bs gs lo :=
  ⟨h.p.keep k (by simp), h.pa, h.nd, h.lo, h.lg, fun i hi => (h.at_ i hi).keep k (by simp)⟩
theorem NetAt.mem {w : World} {a : Option Addr} {n c lo : Nat} {bs : List Nat} {gs : List Gs} (h : NetAt w a n c bs gs lo) {i : Nat} (hi : i < n) : bs.getD i 0 ∈ bs := by
  have := h.p.len
  rw [List.getD_eq_getElem?_getD, List.getElem?_eq_getElem (by omega)]
  exact List.getElem_mem _
theorem NetAt.ne {w : World} {a : Option Addr} {n c lo : Nat} {bs : List Nat} {gs : List Gs} (h : NetAt w a n c bs gs lo) {i j : Nat} (hi : i < n) (hj : j < n) (hij : i ≠ j) : bs.getD i 0 ≠ bs.getD j 0 := by
  have hl := h.p.len
  have hn := h.nd
  intro e
  rw [List.getD_eq_getElem?_getD, List.getD_eq_getElem?_getD, List.getElem?_eq_getElem (by omega), List.getElem?_eq_getElem (by omega)] at e
  have hp := List.pairwise_iff_getElem.1 hn
  rcases Nat.lt_or_gt_of_ne hij with h1 | h1
  · exact hp i j (by omega) (by omega) h1 e
  · exact hp j i (by omega) (by omega) h1 e.symm
theorem NetAt.put {w w' : World} {a : Option Addr} {n c lo : Nat} {bs : List Nat} {gs : List Gs} (h : NetAt w a n c bs gs lo) {i : Nat} (hi : i < n) (k : Keep [bs.getD i 0] w w') {g : Gs} (hg : GAt 55 w' (bs.getD i 0) g) : NetAt w' a n c bs (gs.set i g) lo := by
  refine ⟨h.p.keep k fun x hx hm => ?_, h.pa, h.nd, h.lo, by simpa using h.lg, fun j hj => ?_⟩
  · simp only [List.mem_singleton] at hm
    exact (h.pa x hx).2 (hm ▸ h.mem hi)
  · by_cases e : i = j
    · subst e
      have : (gs.set i g).getD i g0 = g := by simp [List.getD_eq_getElem?_getD, h.lg, hi]
      rw [this]; exact hg
    · have : (gs.set i g).getD j g0 = gs.getD j g0 := by simp [List.getD_eq_getElem?_getD, e]
      rw [this]
      exact (h.at_ j hj).keep k (by simpa using (h.ne hi hj e).symm)
theorem NetAt.ptr {w : World} {a : Option Addr} {n c lo : Nat} {bs : List Nat} {gs : List Gs} (h : NetAt w a n c bs gs lo) {i : Nat} (hi : i < n) : ∃ b off, a = some ⟨b, off, none⟩ ∧ w.cell? ⟨b, off + i, none⟩ = some (.pointer (some ⟨bs.getD i 0, 0, none⟩)) := by
  obtain ⟨b, off, rfl, hc⟩ := h.p.cells (by omega)
  exact ⟨b, off, rfl, hc i hi⟩
theorem info27 : (Try.prog.info? 27).map (fun i => (i.zero, i.size, i.bytes)) = some (some (.pointer none), 1, 8) := by kernel_rfl
set_option maxHeartbeats 2000000 in
theorem gossips_any {N ticks : Int} {n : Nat} (hN : Hid (N = n)) (w : World) (h1 : 1 ≤ N) (h8 : N ≤ 8) (t1 : 1 ≤ ticks) (t2 : ticks ≤ 100) :
    Calls Try.prog 11 #[.int .i64 N, .int .i64 ticks] w fun e w' => ∃ a c bs, e = .returned (.tuple #[.slice a n c, .bool true]) ∧ Keep [] w w' ∧
      NetAt w' a n c bs ((List.range n).map fun (i : Nat) => mergeG (newG ((i : Int) + 1) ticks (i + 1)) (allRows n)) w.heap.size := by
  obtain rfl := hN.out
  clear hN
  obtain ⟨i1, hi1, hx0, hx1, hx2⟩ := info_parts info27
  obtain ⟨i2, hi2, hy0, hy1, hy2⟩ := info_parts info39
  go_enter Try.func11, Try.ntmps11
  go_wp2_with fail
  go_loopw [6, 7, 14] (fun v v' i wr => ∃ (k : Nat) (bs : List Nat), k ≤ n ∧ i = .int .i64 k ∧ Keep [] w wr ∧ Hid (wr.ownsRow w.heap.size 27 1 v k (bs.map ptr)) ∧ Hid (wr.ownsRow w.heap.size 39 3 v' k (lanesC (allRows k))) ∧ Hid (bs.length = k ∧ bs.Nodup ∧ (∀ b ∈ bs, w.heap.size ≤ b) ∧ ∀ i : Nat, i < k → GAt 55 wr (bs.getD i 0) (newG ((i : Int) + 1) ticks (i + 1)))) (fun _ _ i _ => n - (intOf i).toNat)
  case atStart => exact ⟨0, [], by omega, rfl, Keep.refl _ _, World.ownsRow_nil _ _ _ _, World.ownsRow_nil _ _ _ _, rfl, List.nodup_nil, by simp, fun i hi => absurd hi (by omega)⟩
  case round =>
    obtain ⟨k, bs, hk, rfl, hkw, HO, HA, HB⟩ := hrel
    by_cases hlt : k < n
    · have hsz := hkw.size
      have HM : Hid ((k : Int) + 1 = ((k + 1 : Nat) : Int)) := Lib.hid (by omega)
      go_wp2_with (first | (go_at_call 17; refine (new_any HM _ (by omega) (by omega) t1 t2).mono ?_; rintro e w1 ⟨b, rfl, hbl, hbr, hk1, hg1⟩; have HG1 := Lib.hid hg1; clear hg1; have HO1 := Lib.hid (own_keep HO.out hk1 (by simp)); have HA1 := Lib.hid (own_keep HA.out hk1 (by simp)); have hsz1 := hk1.size) | (with_reducible refine Txt.wp_region_text mixed quiet (by decide +kernel) ?_) | (with_reducible refine Txt.text_done (by kernel_rfl) ?_) | (at_builtin; refine wpList_append_own _ rfl _ _ 24 rfl w.heap.size 27 i1 (.pointer none) 1 8 Try.underlying24 hi1 hx0 hx1 hx2 rfl (by decide) _ _ _ rfl (HO1.out.alloc _) ⟨w1.heap.size, 0, none⟩ 1 1 [ptr b] rfl rfl (cell_one_new _ _ _) (by intro u hu; simp at hu; subst hu; rfl) (by unfold maxLen; omega) (by omega) (by simp; omega) ?_; intro v2 w2 hown2 hgr2 _; have HO2 := Lib.hid hown2; have HGR2 := Lib.hid hgr2; have HA2 := Lib.hid ((HA1.out.alloc _).kept hgr2 (own_sep HA1.out HO1.out (by decide))); clear hown2 hgr2) | (at_builtin; refine wpList_append_own _ rfl _ _ 35 rfl w.heap.size 39 i2 (.agg #[.int .i64 0, .int .i64 0, .int .i64 0]) 3 24 Try.underlying35 hi2 hy0 hy1 hy2 rfl (by decide) _ _ _ rfl (HA2.out.alloc _) ⟨w2.heap.size, 0, none⟩ 1 1 [.int .i64 (k + 1), .int .i64 0, .int .i64 1] rfl rfl (cells_new _ _ _ _) (by intro u hu; simp at hu; rcases hu with hu | hu | hu <;> (subst hu; rfl)) (by unfold maxLen; omega) (by omega) (by have := HGR2.out.size; simp at this ⊢; omega) ?_; intro v3 w3 hown3 hgr3 _; have HA3 := Lib.hid hown3; have HGR3 := Lib.hid hgr3; have HO3 := Lib.hid ((HO2.out.alloc _).kept hgr3 (own_sep HO2.out HA2.out (by decide))); clear hown3 hgr3))
      go_roundw
      case measure => simp [intOf]; omega
      case rel =>
        have carry : ∀ b0 g, GAt 55 w1 b0 g → GAt 55 w3 b0 g := fun b0 g hg => by
          have hA := hg.alloc (.cells #[ptr b] 27)
          have hB := hA.grown HGR2.out (own_ne (HO1.out.alloc (.cells #[ptr b] 27)) hA.1 (by decide))
          have hC := hB.alloc (.cells #[.int .i64 (k + 1), .int .i64 0, .int .i64 1] 39)
          exact hC.grown HGR3.out (own_ne (HA2.out.alloc (.cells #[.int .i64 (k + 1), .int .i64 0, .int .i64 1] 39)) hC.1 (by decide))
        obtain ⟨hb1, hb2, hb3, hb4⟩ := HB.out
        have hkk : Keep [] w w3 := by
          have h2 := (((hkw.trans hk1).alloc (.cells #[ptr b] 27)).grown HGR2.out (fun x hx => .inr (HO1.out.lt x hx).1))
          exact (h2.alloc (.cells #[.int .i64 (k + 1), .int .i64 0, .int .i64 1] 39)).grown HGR3.out (fun x hx => .inr (HA2.out.lt x hx).1)
        have hbm : ∀ x, x ∈ bs → x < wr.heap.size := fun x hx => by
          obtain ⟨i, hi, rfl⟩ := List.getElem_of_mem hx
          have := (hb4 i (by omega)).lt
          rwa [List.getD_eq_getElem?_getD, List.getElem?_eq_getElem hi] at this
        refine ⟨k + 1, bs ++ [b], by omega, by go_num, hkk, Lib.hid (by rw [List.map_append]; exact HO3.out), Lib.hid (by rw [allRows_succ, lanesC_snoc]; exact HA3.out), Lib.hid ⟨by simp [hb1], ?_, ?_, fun i hi => ?_⟩⟩
        · rw [List.nodup_append]
          refine ⟨hb2, by simp, fun x hx y hy => ?_⟩
          simp at hy; subst hy
          have := hbm x hx; omega
        · intro x hx
          rcases List.mem_append.1 hx with h | h
          · exact hb3 x h
          · simp at h; omega
        · by_cases e : i = k
          · subst e
            have : (bs ++ [b]).getD i 0 = b := by simp [List.getD_eq_getElem?_getD, ← hb1]
            rw [this]
            exact carry _ _ HG1.out
          · have : (bs ++ [b]).getD i 0 = bs.getD i 0 := by simp [List.getD_eq_getElem?_getD, List.getElem?_append_left (show i < bs.length by omega)]
            rw [this]
            exact carry _ _ ((hb4 i (by omega)).keep hk1 (by simp))
    · obtain rfl : k = n := by omega
      obtain ⟨hb1, hb2, hb3, hb4⟩ := HB.out
      obtain ⟨a, c, hv, hp, hpa⟩ := PtrsV.ofOwn HO.out
      obtain ⟨a', c', hv', hl, hla⟩ := LnsV.ofOwn HA.out
      obtain ⟨d, off, hae, hcell⟩ := hp.cells (by omega)
      obtain ⟨hpl, csd, hpc⟩ := hpa ⟨d, off, none⟩ hae
      have hdn : ∀ x ∈ bs, x ≠ d := fun x hx he => by
        obtain ⟨i, hi, rfl⟩ := List.getElem_of_mem hx
        have h9 := (hb4 i (by omega)).1
        rw [List.getD_eq_getElem?_getD, List.getElem?_eq_getElem hi, Option.getD_some, he, hpc] at h9
        injection h9 with h9
        injection h9 with _ h9 _
        exact absurd h9 (by decide)
      have hnet : NetAt wr a k c bs ((List.range k).map fun (i : Nat) => newG ((i : Int) + 1) ticks (i + 1)) w.heap.size :=
        ⟨hp, fun x hx => by rw [hae] at hx; cases hx; exact ⟨hpl, fun hm => hdn d hm rfl⟩, hb2, hb3, by simp, fun i hi => by
          have : ((List.range k).map fun (i : Nat) => newG ((i : Int) + 1) ticks (i + 1)).getD i g0 = newG ((i : Int) + 1) ticks (i + 1) := by simp [List.getD_eq_getElem?_getD, hi]
          rw [this]; exact hb4 i hi⟩
      have hla2 : ∀ x, a' = some x → ∀ y ∈ bs, x.block ≠ y := fun x hx y hy he => by
        have hne := own_ne HA.out (b := y) (cs := (newG 0 0 0).cells.toArray) (T := 55) (f := (0, 0))
        obtain ⟨i, hi, rfl⟩ := List.getElem_of_mem hy
        have h9 := (hb4 i (by omega)).1
        rw [List.getD_eq_getElem?_getD, List.getElem?_eq_getElem hi, Option.getD_some] at h9
        refine own_ne HA.out h9 (by decide) x.block ?_ he
        rw [hv', hx]; rfl
      subst hv hv'
      have hnlo := hnet.lo
      have HNET := Lib.hid hnet
      have HL := Lib.hid hl
      have HLA := Lib.hid hla2
      clear hcell hnet hl hla2 hdn hpa hla hb2 hb3 hb4 hpc hp HO HA HB
      go_wp2_with fail
      go_loopw [43] (fun i wr => ∃ j : Nat, j ≤ k ∧ i = .int .i64 j ∧ Keep [] w wr ∧ Hid (LnsV wr a' k c' (allRows k)) ∧ Hid (NetAt wr (some ⟨d, off, none⟩) k c bs ((List.range k).map fun (i : Nat) => if i < j then mergeG (newG ((i : Int) + 1) ticks (i + 1)) (allRows k) else newG ((i : Int) + 1) ticks (i + 1)) w.heap.size)) (fun i _ => k - (intOf i).toNat)
      case atStart => exact ⟨0, by omega, rfl, hkw, HL, Lib.hid (by have h8 := HNET.out; rw [hae] at h8; simpa using h8)⟩
      case round =>
        obtain ⟨j, hj, rfl, hkw2, HL2, HN2⟩ := hrel
        by_cases hjk : j < k
        · obtain ⟨d', off', hde, hcj⟩ := HN2.out.ptr hjk
          injection hde with hde
          injection hde with hd1 hd2 _
          subst hd1 hd2
          have hmem := HN2.out.mem hjk
          have hgj := HN2.out.at_ j hjk
          have e1 : ((List.range k).map fun (i : Nat) => if i < j then mergeG (newG ((i : Int) + 1) ticks (i + 1)) (allRows k) else newG ((i : Int) + 1) ticks (i + 1)).getD j g0 = newG ((j : Int) + 1) ticks (j + 1) := by simp [List.getD_eq_getElem?_getD, hjk]
          rw [e1] at hgj
          have HGJ := Lib.hid hgj
          have HMEM := Lib.hid hmem
          have hfr : w.heap.size ≤ bs.getD j 0 := hnlo _ hmem
          obtain ⟨bj, hbj⟩ : ∃ bj, bs.getD j 0 = bj := ⟨_, rfl⟩
          rw [hbj] at HGJ hcj HMEM hfr
          have HBJ := Lib.hid hbj
          clear hgj hmem e1 hbj
          go_wp2_with (first | (go_at_call 18; refine (merge_any HGJ.out HL2.out (allRows_ok k (by omega)) (fun x hx => HLA.out x hx _ HMEM.out)).mono ?_; rintro e w5 ⟨rfl, hk5, hg5⟩; have HG5 := Lib.hid hg5; clear hg5) | (with_reducible refine Txt.wp_region_text mixed quiet (by decide +kernel) ?_) | (with_reducible refine Txt.text_done (by kernel_rfl) ?_))
          go_roundw
          case measure => simp [intOf]; omega
          case rel =>
            refine ⟨j + 1, by omega, by go_num, hkw2.call hk5 (by simp; omega), Lib.hid (HL2.out.keep hk5 (fun x hx => by simpa using HLA.out x hx _ HMEM.out)), Lib.hid ?_⟩
            have hb := HBJ.out
            have h6 := HN2.out.put hjk (by rw [hb]; exact hk5) (by rw [hb]; exact HG5.out)
            have e2 : ((List.range k).map fun (i : Nat) => if i < j then mergeG (newG ((i : Int) + 1) ticks (i + 1)) (allRows k) else newG ((i : Int) + 1) ticks (i + 1)).set j (mergeG (newG ((j : Int) + 1) ticks (j + 1)) (allRows k)) = (List.range k).map fun (i : Nat) => if i < j + 1 then mergeG (newG ((i : Int) + 1) ticks (i + 1)) (allRows k) else newG ((i : Int) + 1) ticks (i + 1) := by
              refine List.ext_getElem (by simp) fun i h1 h2 => ?_
              simp only [List.getElem_set, List.getElem_map, List.getElem_range]
              by_cases e : j = i
              · subst e; simp
              · rw [if_neg e]
                by_cases h3 : i < j
                · rw [if_pos h3, if_pos (by omega)]
                · rw [if_neg h3, if_neg (by omega)]
            rw [e2] at h6
            exact h6
        · obtain rfl : j = k := by omega
          have h7 := HN2.out
          have e2 : ((List.range j).map fun (i : Nat) => if i < j then mergeG (newG ((i : Int) + 1) ticks (i + 1)) (allRows j) else newG ((i : Int) + 1) ticks (i + 1)) = (List.range j).map fun (i : Nat) => mergeG (newG ((i : Int) + 1) ticks (i + 1)) (allRows j) := by
            refine List.map_congr_left fun i hi => ?_
            rw [if_pos (List.mem_range.1 hi)]
          rw [e2] at h7
          have H7 := Lib.hid h7
          clear h7 e2
          go_wp2_with fail
          go_ret2
          exact ⟨_, c, bs, rfl, hkw2, H7.out⟩
end Go.Proofs.Ytmkdppbnmogmlaa
