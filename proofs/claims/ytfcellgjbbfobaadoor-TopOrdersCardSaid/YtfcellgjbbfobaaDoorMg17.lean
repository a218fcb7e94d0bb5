/- Texts laid together: DE8 DE9 R19. -/
import Derived.Test.YtfcellgjbbfobaaDoorMg16
import Derived.StillTactics
/- Explore: Progs. -/
namespace Go.Proofs.YtfcellgjbbfobaaDoor
open Go.RowKit Go.Ex
theorem own_sliceE {w : World} {B e m n : Nat} {v : Value} {xs : List Value} (h : w.ownsRow B e m v n xs) : ∃ a c, v = .slice a n c := by
  rcases h.2 with ⟨rfl, h0⟩ | ⟨g, cap, cur, rfl, _⟩
  · exact ⟨none, 0, by rw [h0]⟩
  · exact ⟨_, _, rfl⟩
theorem rest_take (k n : Int) (hn : 0 < n) (hn1 : n ≤ 1000000000) (w : World) : Calls Tryd.prog 17 #[.int .i64 k, .int .i64 n] w fun e w' => e = .returned (.int .i64 (restI k n)) ∧ w' = w :=
  (rest_any k n w hn hn1).mono (by rintro e w' ⟨rfl, rfl⟩; exact ⟨rfl, rfl⟩)
theorem rest_tq {k n q : Int} (h : Hid (restI k n = q)) (hn : 0 < n) (hn1 : n ≤ 1000000000) (w : World) : Calls Tryd.prog 17 #[.int .i64 k, .int .i64 n] w fun e w' => e = .returned (.int .i64 q) ∧ w' = w :=
  (rest_take k n hn hn1 w).mono (by rintro e w' ⟨rfl, rfl⟩; exact ⟨by rw [h.out], rfl⟩)
theorem info57 : (Tryd.prog.info? 29).map (fun i => (i.zero, i.size, i.bytes)) = some (some (.agg #[.int .i64 0, .int .i64 0, .int .i64 0]), 3, 24) := by kernel_rfl
theorem info54 : (Tryd.prog.info? 26).map (fun i => (i.zero, i.size, i.bytes)) = some (some (.slice none 0 0), 1, 24) := by kernel_rfl
theorem mk51 (w : World) : (Instr.makeSlice 24 (.int .i64 3) (.int .i64 3)).run Tryd.prog w = .ok (.slice (some ⟨w.heap.size, 0, none⟩) 3 3) (w.alloc (.cells #[.slice none 0 0, .slice none 0 0, .slice none 0 0] 26)) := by
  obtain ⟨i3, hi, hz, hs, hb⟩ := infoE info54
  have := run_make (P := Tryd.prog) w 24 26 i3 (.slice none 0 0) Tryd.underlying24 hi hz .i64 .i64 3 3 (by omega) (by omega) (by rw [hb]; omega) (by omega)
  have hc : madeCells (Value.slice none 0 0).cells ((3 : Int).toNat * 1) = #[.slice none 0 0, .slice none 0 0, .slice none 0 0] := by
    refine Array.ext (by simp [madeCells]) fun j h1 h2 => ?_
    have h3 : j < 3 := h2
    have hv : (Value.slice none 0 0).cells = #[Value.slice none 0 0] := rfl
    obtain rfl | rfl | rfl : j = 0 ∨ j = 1 ∨ j = 2 := by omega
    all_goals simp [madeCells, hv]
  rw [this, hs, hc]
  rfl
theorem Bf.le_sum_memE : ∀ {l : List Nat} {x : Nat}, x ∈ l → x ≤ l.sum
  | a :: l, x, h => by
    rw [List.sum_cons]
    rcases List.mem_cons.1 h with rfl | h
    · omega
    · have := Bf.le_sum_memE h
      omega
theorem flat_set {rs : List (List Ln)} {r : Nat} {l : List Ln} (h : rs[r]? = some l) (x : Ln) : (rs.set r (l ++ [x])).flatten.length = rs.flatten.length + 1 := by
  induction rs generalizing r with
  | nil => simp at h
  | cons y rs ih =>
    cases r with
    | zero =>
      simp at h
      subst h
      simp
      omega
    | succ r =>
      have := ih (by simpa using h)
      simp only [List.set_cons_succ, List.flatten_cons, List.length_append, this]
      omega
set_option maxRecDepth 100000 in
set_option maxHeartbeats 8000000 in
theorem progs26_any {w : World} {a : Option Addr} {len cap most : Nat} {zs : List Int} (hv : IntsV w a len cap zs) (hmo : most ≤ 12) :
    Calls Tryd.prog 7 #[.slice a len cap, .int .i64 most] w fun e w' => ∃ g vals rs, e = .returned (.slice (some ⟨g, 0, none⟩) 3 3) ∧ RowsO w' w.heap.size 26 29 g vals rs ∧ rs.length = 3 ∧ PsOk rs ∧ rs.flatten.length ≤ most ∧ Keep [] w w' := by
  have hroom := hv.room
  have hmost := hv.most
  have h9 : maxLen = 9223372036854775807 := rfl
  rw [h9] at hmost
  obtain ⟨N, hN⟩ : ∃ N : Nat, min len most = N := ⟨_, rfl⟩
  have hmn : min (len : Int) (most : Int) = (N : Int) := by omega
  have hNl : N ≤ len := by omega
  have hN1 : N ≤ most := by omega
  have HV := Lib.hid hv
  obtain ⟨i57, hi57, hz0, hz1, hz2⟩ := infoE info57
  have hmk := mk51
  clear hv h9 hN
  go_enter Tryd.func7, Tryd.ntmps7
  go_upto_region 3 with (first | (with_reducible refine Txt.wp_region_text mixed quiet (by decide +kernel) ?_) | (with_reducible refine Txt.text_done (by kernel_rfl) ?_))
  have HK0 := Lib.hid ((Keep.refl [] w).alloc (.cells #[.slice none 0 0, .slice none 0 0, .slice none 0 0] 26))
  have HR0 : Hid (RowsO (w.alloc (.cells #[.slice none 0 0, .slice none 0 0, .slice none 0 0] 26)) w.heap.size 26 29 w.heap.size [.slice none 0 0, .slice none 0 0, .slice none 0 0] [[], [], []]) := Lib.hid (by
    have hn : ∀ {k : Nat} {x : Value}, ([.slice none 0 0, .slice none 0 0, .slice none 0 0] : List Value)[k]? = some x → x = .slice none 0 0 := fun {k x} hx => by
      have := List.mem_of_getElem? hx
      simpa using this
    refine ⟨rfl, blk_new w _, Nat.le_refl _, fun r x l hx hl => ?_, fun i j x y b hx hy hxb => ?_⟩
    · obtain rfl := hn hx
      obtain rfl : l = [] := by have := List.mem_of_getElem? hl; simpa using this
      exact World.ownsRow_nil _ _ _ _
    · obtain rfl := hn hx
      cases hxb)
  obtain ⟨g, hg⟩ : ∃ g, w.heap.size = g := ⟨_, rfl⟩
  have HGE := Lib.hid hg
  obtain ⟨W0, hW0⟩ : ∃ W0, w.alloc (.cells #[.slice none 0 0, .slice none 0 0, .slice none 0 0] 26) = W0 := ⟨_, rfl⟩
  rw [hW0] at HK0 HR0 ⊢
  have HR1 : Hid (RowsO W0 w.heap.size 26 29 g [.slice none 0 0, .slice none 0 0, .slice none 0 0] [[], [], []]) := Lib.hid (hg ▸ HR0.out)
  rw [hg] at ⊢
  clear hW0 HR0 hmk hg
  go_loopw [16] (fun j wr => ∃ (i : Nat) (vals : List Value) (rs : List (List Ln)), i ≤ N ∧ j = .int .i64 i ∧ Hid (RowsO wr w.heap.size 26 29 g vals rs) ∧ rs.length = 3 ∧ Hid (∀ p ∈ rs, ∀ d ∈ p, DoOk d) ∧ Hid (rs.flatten.length = i) ∧ Hid (Keep [] w wr)) (fun j _ => N - (intOf j).toNat)
  case atStart => exact ⟨0, _, _, by omega, rfl, HR1, rfl, Lib.hid (by simp), Lib.hid rfl, HK0⟩
  case round =>
    obtain ⟨i, vals, rs, hi, rfl, HR, hr3, HOK, HFL, HK⟩ := hrel
    by_cases hlt : i < N
    · obtain ⟨b1, off, hab, hc⟩ := (HV.out.keep HK.out (by simp)).cells (by omega)
      have hcx := hc i (by omega)
      obtain ⟨z, hz⟩ : ∃ z, zs.getD i 0 = z := ⟨_, rfl⟩
      rw [hz] at hcx
      have hdec : decide ((i : Int) < (N : Int)) = true := by simp; omega
      subst hab
      clear hc hz
      obtain ⟨q1, hq1, hq1b⟩ := rest_nat z 3 (by omega)
      obtain ⟨q2, hq2, hq2b⟩ := rest_nat (IntKind.i64.wrap (z.tdiv 4)) 4 (by omega)
      obtain ⟨q3, hq3, hq3b⟩ := rest_nat (IntKind.i64.wrap (z.tdiv 16)) 3 (by omega)
      obtain ⟨q4, hq4, hq4b⟩ := rest_nat (IntKind.i64.wrap (IntKind.i64.wrap (z.tdiv 64) + (i : Int))) 3 (by omega)
      have HQ1 := Lib.hid hq1
      have HQ2 := Lib.hid hq2
      have HQ3 := Lib.hid hq3
      have HQ4 := Lib.hid hq4
      obtain ⟨kk, hkk⟩ : ∃ kk, IntKind.i64.wrap (1 + (q2 : Int)) = kk := ⟨_, rfl⟩
      have hk14 : 1 ≤ kk ∧ kk ≤ 4 := by
        rw [← hkk]
        simp only [IntKind.wrap, IntKind.bits, IntKind.signed]
        simp
        omega
      obtain ⟨x1, l1, hx1, hl1, ho1⟩ := HR.out.get (show q1 < rs.length by omega)
      have hcq := HR.out.cell hx1
      have HBL0 := HR.out.blk
      have hgl := lt_of_blk HBL0
      obtain ⟨av1, cv1, hve⟩ := own_sliceE ho1
      subst hve
      have hkA : Keep [] wr (wr.alloc (.cells #[.int .i64 kk, .int .i64 q3, .int .i64 q4] 29)).drew := ((Keep.refl [] wr).alloc _).drew
      have HKA := Lib.hid hkA
      have HOA := Lib.hid (own_keep ho1 hkA (by simp))
      have HBL := Lib.hid (hkA.at HBL0 (by simp))
      have HXV := Lib.hid hx1
      have HNE := Lib.hid (HR.out.blkNe (by decide) hx1 hl1)
      have HNW : Hid (∀ j u, ([.int .i64 kk, .int .i64 q3, .int .i64 q4] : List Value)[j]? = some u → (wr.alloc (.cells #[.int .i64 kk, .int .i64 q3, .int .i64 q4] 29)).drew.cell? ((⟨wr.heap.size, 0, none⟩ : Addr).add j) = some u) := Lib.hid (cells_new wr [.int .i64 kk, .int .i64 q3, .int .i64 q4] 29 (0, 0))
      have HONE : Hid (∀ u ∈ ([.int .i64 kk, .int .i64 q3, .int .i64 q4] : List Value), u.oneCell' = true) := Lib.hid (by simp [Value.oneCell'])
      have hll : l1.length ≤ 12 := by
        have h1 : l1.length ≤ rs.flatten.length := by
          obtain ⟨hq, he⟩ := List.getElem?_eq_some_iff.1 hl1
          rw [← he, List.length_flatten]
          exact Bf.le_sum_memE (List.mem_map.2 ⟨_, List.getElem_mem hq, rfl⟩)
        have := HFL.out
        omega
      have H63 : Hid (l1.length + 1 ≤ maxLen) := Lib.hid (by unfold maxLen; omega)
      have HBY : Hid ((l1.length + 1) * 24 ≤ 140737488355328) := Lib.hid (by omega)
      have HBS : Hid (w.heap.size ≤ (wr.alloc (.cells #[.int .i64 kk, .int .i64 q3, .int .i64 q4] 29)).drew.heap.size) := Lib.hid (Nat.le_trans HK.out.size hkA.size)
      have HHS : Hid ((wr.alloc (.cells #[.int .i64 kk, .int .i64 q3, .int .i64 q4] 29)).drew.heap.size = wr.heap.size + 1) := Lib.hid (by simp)
      have HLB : Hid (∀ b, (Value.slice av1 l1.length cv1).ownBlock = some b → w.heap.size ≤ b) := Lib.hid (fun b hb => (ho1.lt b hb).1)
      have HGW : Hid (w.heap.size ≤ g) := Lib.hid HR.out.low
      have HOK9 : Hid (∀ p ∈ rs.set q1 (l1 ++ [⟨kk, q3, q4⟩]), ∀ d ∈ p, DoOk d) := Lib.hid (fun p hp d hd => by
        rcases List.mem_or_eq_of_mem_set hp with h | h
        · exact HOK.out p h d hd
        · subst h
          rcases List.mem_append.1 hd with h2 | h2
          · exact HOK.out l1 (List.mem_of_getElem? hl1) d h2
          · rw [List.mem_singleton] at h2
            subst h2
            exact ⟨hk14, ⟨by simp only; omega, by simp only; omega⟩, by simp only; omega, by simp only; omega⟩)
      have HFL9 : Hid ((rs.set q1 (l1 ++ [⟨kk, q3, q4⟩])).flatten.length = i + 1) := Lib.hid (by rw [flat_set hl1, HFL.out])
      have hzq := thaw HBL0
      clear hq1 hq2 hq3 hq4 HBL0 hkA
      go_upto_region 5 with (first | (with_reducible refine Txt.wp_region_text mixed quiet (by decide +kernel) ?_) | (with_reducible refine Txt.text_done (by kernel_rfl) ?_))
      refine wp_region_any mixed ?_
      refine wpAny_take (i := 0) (v := ?_) rfl (by kernel_rfl) (by kernel_rfl) (by kernel_rfl) (fun _ _ _ h => h) (Or.inl ⟨by rfl, ?_⟩) ?_
      rotate_left
      · (intro w; go_simp; (try with_reducible rfl))
      try simp only [Act.put]
      try simp only [List.setIfInBounds_toArray]
      try simp only [List.set_cons_succ]
      try simp only [List.set_cons_zero]
      refine wpAny_take (i := 1) (v := ?_) rfl (by kernel_rfl) (by kernel_rfl) (by kernel_rfl) (fun _ _ _ h => h) (Or.inl ⟨by rfl, ?_⟩) ?_
      rotate_left
      · (intro w; go_simp; (try with_reducible rfl))
      try simp only [Act.put]
      try simp only [List.setIfInBounds_toArray]
      try simp only [List.set_cons_succ]
      try simp only [List.set_cons_zero]
      refine Txt.wpAny_takeCall (i := 2) (f := ?_) (args := ?_) (v := ?_) rfl (by kernel_rfl) (by kernel_rfl) (by kernel_rfl) (fun _ _ _ h => h) (by rfl) ?_ ?_ ?_
      rotate_left 3
      · (intro w; go_simp; first | (refine And.intro ?_ ?_ <;> with_reducible rfl) | with_reducible rfl)
      · (intro w; exact rest_tq HQ1 (by decide) (by decide) w)
      try simp only [Act.put]
      try simp only [List.setIfInBounds_toArray]
      try simp only [List.set_cons_succ]
      try simp only [List.set_cons_zero]
      refine wpAny_take (i := 3) (v := ?_) rfl (by kernel_rfl) (by kernel_rfl) (by kernel_rfl) (fun _ _ _ h => h) (Or.inl ⟨by rfl, ?_⟩) ?_
      rotate_left
      · (intro w; go_simp; (try with_reducible rfl))
      try simp only [Act.put]
      try simp only [List.setIfInBounds_toArray]
      try simp only [List.set_cons_succ]
      try simp only [List.set_cons_zero]
      refine wpAny_take (i := 4) (v := ?_) rfl (by kernel_rfl) (by kernel_rfl) (by kernel_rfl) (fun _ _ _ h => h) (Or.inl ⟨by rfl, ?_⟩) ?_
      rotate_left
      · (intro w; go_simp; (try with_reducible rfl))
      try simp only [Act.put]
      try simp only [List.setIfInBounds_toArray]
      try simp only [List.set_cons_succ]
      try simp only [List.set_cons_zero]
      refine Txt.wpAny_takeCall (i := 5) (f := ?_) (args := ?_) (v := ?_) rfl (by kernel_rfl) (by kernel_rfl) (by kernel_rfl) (fun _ _ _ h => h) (by rfl) ?_ ?_ ?_
      rotate_left 3
      · (intro w; go_simp; first | (refine And.intro ?_ ?_ <;> with_reducible rfl) | with_reducible rfl)
      · (intro w; exact rest_tq HQ1 (by decide) (by decide) w)
      try simp only [Act.put]
      try simp only [List.setIfInBounds_toArray]
      try simp only [List.set_cons_succ]
      try simp only [List.set_cons_zero]
      refine wpAny_take (i := 6) (v := ?_) rfl (by kernel_rfl) (by kernel_rfl) (by kernel_rfl) (fun _ _ _ h => h) (Or.inl ⟨by rfl, ?_⟩) ?_
      rotate_left
      · (intro w; go_simp; (try with_reducible rfl))
      try simp only [Act.put]
      try simp only [List.setIfInBounds_toArray]
      try simp only [List.set_cons_succ]
      try simp only [List.set_cons_zero]
      refine wpAny_take (i := 8) (v := ?_) rfl (by kernel_rfl) (by kernel_rfl) (by kernel_rfl) (fun _ _ _ h => h) (Or.inl ⟨by rfl, ?_⟩) ?_
      rotate_left
      · (intro w; go_simp; (try with_reducible rfl))
      try simp only [Act.put]
      try simp only [List.setIfInBounds_toArray]
      try simp only [List.set_cons_succ]
      try simp only [List.set_cons_zero]
      refine wpAny_take (i := 9) (v := ?_) rfl (by kernel_rfl) (by kernel_rfl) (by kernel_rfl) (fun _ _ _ h => h) (Or.inl ⟨by rfl, ?_⟩) ?_
      rotate_left
      · (intro w; go_simp; (try with_reducible rfl))
      try simp only [Act.put]
      try simp only [List.setIfInBounds_toArray]
      try simp only [List.set_cons_succ]
      try simp only [List.set_cons_zero]
      refine Txt.wpAny_takeCall (i := 10) (f := ?_) (args := ?_) (v := ?_) rfl (by kernel_rfl) (by kernel_rfl) (by kernel_rfl) (fun _ _ _ h => h) (by rfl) ?_ ?_ ?_
      rotate_left 3
      · (intro w; go_simp; first | (refine And.intro ?_ ?_ <;> with_reducible rfl) | with_reducible rfl)
      · (intro w; exact rest_tq HQ2 (by decide) (by decide) w)
      try simp only [Act.put]
      try simp only [List.setIfInBounds_toArray]
      try simp only [List.set_cons_succ]
      try simp only [List.set_cons_zero]
      refine wpAny_take (i := 11) (v := ?_) rfl (by kernel_rfl) (by kernel_rfl) (by kernel_rfl) (fun _ _ _ h => h) (Or.inl ⟨by rfl, ?_⟩) ?_
      rotate_left
      · (intro w; go_simp; (try with_reducible rfl))
      try simp only [Act.put]
      try simp only [List.setIfInBounds_toArray]
      try simp only [List.set_cons_succ]
      try simp only [List.set_cons_zero]
      refine wpAny_take (i := 12) (v := ?_) rfl (by kernel_rfl) (by kernel_rfl) (by kernel_rfl) (fun _ _ _ h => h) (Or.inl ⟨by rfl, ?_⟩) ?_
      rotate_left
      · (intro w; go_simp; (try with_reducible rfl))
      try simp only [Act.put]
      try simp only [List.setIfInBounds_toArray]
      try simp only [List.set_cons_succ]
      try simp only [List.set_cons_zero]
      refine wpAny_take (i := 13) (v := ?_) rfl (by kernel_rfl) (by kernel_rfl) (by kernel_rfl) (fun _ _ _ h => h) (Or.inl ⟨by rfl, ?_⟩) ?_
      rotate_left
      · (intro w; go_simp; (try with_reducible rfl))
      try simp only [Act.put]
      try simp only [List.setIfInBounds_toArray]
      try simp only [List.set_cons_succ]
      try simp only [List.set_cons_zero]
      refine Txt.wpAny_takeCall (i := 14) (f := ?_) (args := ?_) (v := ?_) rfl (by kernel_rfl) (by kernel_rfl) (by kernel_rfl) (fun _ _ _ h => h) (by rfl) ?_ ?_ ?_
      rotate_left 3
      · (intro w; go_simp; first | (refine And.intro ?_ ?_ <;> with_reducible rfl) | with_reducible rfl)
      · (intro w; exact rest_tq HQ3 (by decide) (by decide) w)
      try simp only [Act.put]
      try simp only [List.setIfInBounds_toArray]
      try simp only [List.set_cons_succ]
      try simp only [List.set_cons_zero]
      refine wpAny_take (i := 15) (v := ?_) rfl (by kernel_rfl) (by kernel_rfl) (by kernel_rfl) (fun _ _ _ h => h) (Or.inl ⟨by rfl, ?_⟩) ?_
      rotate_left
      · (intro w; go_simp; (try with_reducible rfl))
      try simp only [Act.put]
      try simp only [List.setIfInBounds_toArray]
      try simp only [List.set_cons_succ]
      try simp only [List.set_cons_zero]
      refine wpAny_take (i := 16) (v := ?_) rfl (by kernel_rfl) (by kernel_rfl) (by kernel_rfl) (fun _ _ _ h => h) (Or.inl ⟨by rfl, ?_⟩) ?_
      rotate_left
      · (intro w; go_simp; (try with_reducible rfl))
      try simp only [Act.put]
      try simp only [List.setIfInBounds_toArray]
      try simp only [List.set_cons_succ]
      try simp only [List.set_cons_zero]
      refine wpAny_take (i := 17) (v := ?_) rfl (by kernel_rfl) (by kernel_rfl) (by kernel_rfl) (fun _ _ _ h => h) (Or.inl ⟨by rfl, ?_⟩) ?_
      rotate_left
      · (intro w; go_simp; (try with_reducible rfl))
      try simp only [Act.put]
      try simp only [List.setIfInBounds_toArray]
      try simp only [List.set_cons_succ]
      try simp only [List.set_cons_zero]
      refine wpAny_take (i := 18) (v := ?_) rfl (by kernel_rfl) (by kernel_rfl) (by kernel_rfl) (fun _ _ _ h => h) (Or.inl ⟨by rfl, ?_⟩) ?_
      rotate_left
      · (intro w; go_simp; (try with_reducible rfl))
      try simp only [Act.put]
      try simp only [List.setIfInBounds_toArray]
      try simp only [List.set_cons_succ]
      try simp only [List.set_cons_zero]
      refine Txt.wpAny_takeCall (i := 19) (f := ?_) (args := ?_) (v := ?_) rfl (by kernel_rfl) (by kernel_rfl) (by kernel_rfl) (fun _ _ _ h => h) (by rfl) ?_ ?_ ?_
      rotate_left 3
      · (intro w; go_simp; first | (refine And.intro ?_ ?_ <;> with_reducible rfl) | with_reducible rfl)
      · (intro w; exact rest_tq HQ4 (by decide) (by decide) w)
      try simp only [Act.put]
      try simp only [List.setIfInBounds_toArray]
      try simp only [List.set_cons_succ]
      try simp only [List.set_cons_zero]
      refine wpAny_take (i := 20) (v := ?_) rfl (by kernel_rfl) (by kernel_rfl) (by kernel_rfl) (fun _ _ _ h => h) (Or.inl ⟨by rfl, ?_⟩) ?_
      rotate_left
      · (intro w; go_simp; (try with_reducible rfl))
      try simp only [Act.put]
      try simp only [List.setIfInBounds_toArray]
      try simp only [List.set_cons_succ]
      try simp only [List.set_cons_zero]
      try (change wpAny _ _ _ _ _ _ _ (World.drew _))
      refine wpAny_ready (rs := [7, 21]) (by kernel_rfl) (by simp) ?_
      refine AllReady.cons rfl (fun K hK => ?_) (AllReady.cons rfl (fun K hK => ?_) AllReady.nil)
      · go_simp
        refine hK _ _ ?_
        clear hK K
        refine wpAny_ready (rs := [21]) (by kernel_rfl) (by simp) ?_
        refine AllReady.cons rfl (fun K hK => ?_) AllReady.nil
        go_simp
        refine hK _ _ ?_
        clear hK K
        refine wpAny_ready (rs := [22]) (by kernel_rfl) (by simp) ?_
        refine AllReady.cons rfl (fun K hK => ?_) AllReady.nil
        refine step_append_lies _ rfl (.tmp 28) (.tmp 42) 26 rfl w.heap.size 29 i57 (.agg #[.int .i64 0, .int .i64 0, .int .i64 0]) 3 24 Tryd.underlying26 hi57 hz0 hz1 hz2 rfl (by decide) (.slice av1 l1.length cv1) l1.length (lanesC l1) (by simp [Act.eval]) HOA.out ⟨wr.heap.size, 0, none⟩ 1 1 [.int .i64 kk, .int .i64 q3, .int .i64 q4] (by simp [Act.eval]) rfl HNW.out HONE.out (by decide) H63.out HBY.out HBS.out (wr.heap.size + 1) HHS.out ?_
        intro g9 c9 w9 hown9 hgr9 hat9 hlt9
        have hk9 : Keep (Value.slice av1 l1.length cv1).ownBlock.toList (wr.alloc (.cells #[.int .i64 kk, .int .i64 q3, .int .i64 q4] 29)).drew w9 := Keep.ofGrown hgr9 (fun x hx => by simp [hx])
        have hb9 : w9.heap[g]? = some (.cells vals.toArray 26 (0, 0)) := hk9.at HBL.out (fun hm => HNE.out g (by simpa using hm) rfl)
        have hc9 : w9.cell? ⟨g, q1, none⟩ = some (.slice av1 l1.length cv1) := by rw [cellAt hb9]; simpa using HXV.out
        have hz9 := thaw hb9
        have HO9 := Lib.hid hown9
        have HAT9 := Lib.hid hat9
        have HK9 := Lib.hid hk9
        clear hown9 hgr9 hat9 hk9 hb9
        refine hK _ _ ?_
        clear hK K
        refine wpAny_ready (rs := [23]) (by kernel_rfl) (by simp) ?_
        refine AllReady.cons rfl (fun K hK => ?_) AllReady.nil
        go_simp
        refine hK _ _ ?_
        clear hK K
        refine wpAny_ready (rs := [24]) (by kernel_rfl) (by simp) ?_
        refine AllReady.cons rfl (fun K hK => ?_) AllReady.nil
        go_simp
        refine hK _ _ ?_
        clear hK K
        refine wpAny_done (by kernel_rfl) ?_ _
        go_wp2_with (first | (with_reducible refine Txt.wp_region_text mixed quiet (by decide +kernel) ?_) | (with_reducible refine Txt.text_done (by kernel_rfl) ?_))
        have hvx : (Value.slice (some ⟨g9, 0, none⟩) (l1.length + 1) c9).ownBlock = some g9 := rfl
        have HR9 := RowsO.turn (l' := l1 ++ [⟨kk, q3, q4⟩]) (x' := .slice (some ⟨g9, 0, none⟩) (l1.length + 1) c9) (by decide) (HR.out.keep0 HKA.out) hx1 hl1 HK9.out (by rw [lanesC_snoc, List.length_append]; exact HO9.out) (fun b hb => by
          injection hb with hb
          subst hb
          rcases HAT9.out with h | h
          · exact .inl h
          · exact .inr (by rw [h, HHS.out]; exact Nat.le_refl _))
        exact ⟨⟨i + 1, _, _, hlt, by go_num, Lib.hid HR9, by simpa using hr3, HOK9, HFL9, Lib.hid (((HK.out.trans HKA.out).call HK9.out (fun b hb => .inr (HLB.out b (by simpa using hb)))).setCell (.inr HGW.out) _)⟩, by simp [intOf]; omega⟩
      · go_simp
        refine hK _ _ ?_
        clear hK K
        refine wpAny_ready (rs := [7]) (by kernel_rfl) (by simp) ?_
        refine AllReady.cons rfl (fun K hK => ?_) AllReady.nil
        go_simp
        refine hK _ _ ?_
        clear hK K
        refine wpAny_ready (rs := [22]) (by kernel_rfl) (by simp) ?_
        refine AllReady.cons rfl (fun K hK => ?_) AllReady.nil
        refine step_append_lies _ rfl (.tmp 28) (.tmp 42) 26 rfl w.heap.size 29 i57 (.agg #[.int .i64 0, .int .i64 0, .int .i64 0]) 3 24 Tryd.underlying26 hi57 hz0 hz1 hz2 rfl (by decide) (.slice av1 l1.length cv1) l1.length (lanesC l1) (by simp [Act.eval]) HOA.out ⟨wr.heap.size, 0, none⟩ 1 1 [.int .i64 kk, .int .i64 q3, .int .i64 q4] (by simp [Act.eval]) rfl HNW.out HONE.out (by decide) H63.out HBY.out HBS.out (wr.heap.size + 1) HHS.out ?_
        intro g9 c9 w9 hown9 hgr9 hat9 hlt9
        have hk9 : Keep (Value.slice av1 l1.length cv1).ownBlock.toList (wr.alloc (.cells #[.int .i64 kk, .int .i64 q3, .int .i64 q4] 29)).drew w9 := Keep.ofGrown hgr9 (fun x hx => by simp [hx])
        have hb9 : w9.heap[g]? = some (.cells vals.toArray 26 (0, 0)) := hk9.at HBL.out (fun hm => HNE.out g (by simpa using hm) rfl)
        have hc9 : w9.cell? ⟨g, q1, none⟩ = some (.slice av1 l1.length cv1) := by rw [cellAt hb9]; simpa using HXV.out
        have hz9 := thaw hb9
        have HO9 := Lib.hid hown9
        have HAT9 := Lib.hid hat9
        have HK9 := Lib.hid hk9
        clear hown9 hgr9 hat9 hk9 hb9
        refine hK _ _ ?_
        clear hK K
        refine wpAny_ready (rs := [23]) (by kernel_rfl) (by simp) ?_
        refine AllReady.cons rfl (fun K hK => ?_) AllReady.nil
        go_simp
        refine hK _ _ ?_
        clear hK K
        refine wpAny_ready (rs := [24]) (by kernel_rfl) (by simp) ?_
        refine AllReady.cons rfl (fun K hK => ?_) AllReady.nil
        go_simp
        refine hK _ _ ?_
        clear hK K
        refine wpAny_done (by kernel_rfl) ?_ _
        go_wp2_with (first | (with_reducible refine Txt.wp_region_text mixed quiet (by decide +kernel) ?_) | (with_reducible refine Txt.text_done (by kernel_rfl) ?_))
        have hvx : (Value.slice (some ⟨g9, 0, none⟩) (l1.length + 1) c9).ownBlock = some g9 := rfl
        have HR9 := RowsO.turn (l' := l1 ++ [⟨kk, q3, q4⟩]) (x' := .slice (some ⟨g9, 0, none⟩) (l1.length + 1) c9) (by decide) (HR.out.keep0 HKA.out) hx1 hl1 HK9.out (by rw [lanesC_snoc, List.length_append]; exact HO9.out) (fun b hb => by
          injection hb with hb
          subst hb
          rcases HAT9.out with h | h
          · exact .inl h
          · exact .inr (by rw [h, HHS.out]; exact Nat.le_refl _))
        exact ⟨⟨i + 1, _, _, hlt, by go_num, Lib.hid HR9, by simpa using hr3, HOK9, HFL9, Lib.hid (((HK.out.trans HKA.out).call HK9.out (fun b hb => .inr (HLB.out b (by simpa using hb)))).setCell (.inr HGW.out) _)⟩, by simp [intOf]; omega⟩
    · have hin : i = N := by omega
      have hdec : decide ((i : Int) < (N : Int)) = false := by simp; omega
      go_wp2_with (first | (with_reducible refine Txt.wp_region_text mixed quiet (by decide +kernel) ?_) | (with_reducible refine Txt.text_done (by kernel_rfl) ?_))
      go_ret
      exact ⟨_, vals, rs, rfl, HR.out, hr3, ⟨by omega, HOK.out, by have := HFL.out; omega⟩, by have := HFL.out; omega, HK.out⟩
end Go.Proofs.YtfcellgjbbfobaaDoor
/- Explore: Run. -/
namespace Go
theorem results_cell3 {P : Program} {fn : Func} {s r q : Tmp} {t : TypeId} (h : fn.results = #[.cell s t, .tmp r, .tmp q]) {tmps : Array Value} {w : World} {a : Addr} (ha : tmps.getD s undef = .pointer (some a)) {v : Value} (hl : (loadVar t a).run P w = .ok v w) : (results fn tmps).run P w = .ok (.tuple #[v, tmps.getD r undef, tmps.getD q undef]) w := by
  have ha' : tmps[s]?.getD undef = .pointer (some a) := by simpa using ha
  simp [results, h, ha', hl, asAddr]
end Go
namespace Go.Proofs.YtfcellgjbbfobaaDoor
open Go.RowKit Go.Ex Go.Bf
set_option maxRecDepth 100000 in
set_option maxHeartbeats 4000000 in
theorem run28_any {w : World} {a ao : Option Addr} {n c m co : Nat} {ps : List (List Ln)} {os : List Nat} (hv : RowsL w a n c ps) (hp : PsOk ps) (ho : IntsV w ao m co (os.map fun (k : Nat) => (k : Int))) (hos : ∀ j ∈ os, j < n) :
    Calls Tryd.prog 10 #[.slice a n c, .slice ao m co] w fun e w' => e = .returned (.tuple #[aggI (runP ps os s0).1, .int .i64 (runP ps os s0).2, .int .i64 0]) ∧ Keep [] w w' := by
  have HV := Lib.hid hv
  have HP := Lib.hid hp
  have HN := Lib.hid hv.len
  have HO := Lib.hid ho
  have HOS := Lib.hid hos
  have hl : os.length = m := by have := ho.len; simpa using this
  have HLE := Lib.hid hl
  have hroom := ho.room
  have hmost := ho.most
  have hn4 : n ≤ 4 := by rw [← hv.len]; exact hp.few
  have h9 : maxLen = 9223372036854775807 := rfl
  rw [h9] at hmost
  have hkA : Keep [] w (w.alloc (.cells #[.int .i64 0, .int .i64 0, .int .i64 0, .int .i64 0, .int .i64 0, .int .i64 0, .int .i64 0, .int .i64 0, .int .i64 0, .int .i64 0, .int .i64 0, .int .i64 0] 41)) := (Keep.refl [] w).alloc _
  have HKA := Lib.hid hkA
  have HR0 : Hid (ArrAt 41 (w.alloc (.cells #[.int .i64 0, .int .i64 0, .int .i64 0, .int .i64 0, .int .i64 0, .int .i64 0, .int .i64 0, .int .i64 0, .int .i64 0, .int .i64 0, .int .i64 0, .int .i64 0] 41)) w.heap.size s0) := Lib.hid (ArrAt.new 41 w s0)
  clear hv hp ho hos hl h9 hkA
  unfold aggI
  go_enter Tryd.func10, Tryd.ntmps10
  go_upto_region 6 with (first | (go_at_call 19; (with_reducible refine (check39_ok (HV.out.keep HKA.out) HP.out).mono ?_); rintro e w1 ⟨rfl, hk1⟩; have HK1 := Lib.hid (HKA.out.trans hk1); have HR1 := Lib.hid (HR0.out.keep hk1 (by simp)); clear hk1))
  have HR8 : Hid (ArrAt 41 (w1.alloc (.cells #[.int .i64 0, .int .i64 0, .int .i64 0, .int .i64 0, .int .i64 0, .int .i64 0, .int .i64 0, .int .i64 0, .int .i64 0, .int .i64 0, .int .i64 0, .int .i64 0] 41)) w1.heap.size s0) := Lib.hid (ArrAt.new 41 w1 s0)
  have HR4 := Lib.hid (HR1.out.keep ((Keep.refl [] w1).alloc (.cells #[.int .i64 0, .int .i64 0, .int .i64 0, .int .i64 0, .int .i64 0, .int .i64 0, .int .i64 0, .int .i64 0, .int .i64 0, .int .i64 0, .int .i64 0, .int .i64 0] 41)) (by simp))
  have HK8 := Lib.hid (HK1.out.alloc (.cells #[.int .i64 0, .int .i64 0, .int .i64 0, .int .i64 0, .int .i64 0, .int .i64 0, .int .i64 0, .int .i64 0, .int .i64 0, .int .i64 0, .int .i64 0, .int .i64 0] 41))
  have hbb : w.heap.size < w1.heap.size := HR1.out.lt
  have HWB : Hid (w.heap.size ≤ w1.heap.size) := Lib.hid (Nat.le_of_lt hbb)
  obtain ⟨b4, hb4⟩ : ∃ b, w.heap.size = b := ⟨_, rfl⟩
  obtain ⟨b8, hb8⟩ : ∃ b, w1.heap.size = b := ⟨_, rfl⟩
  have HB4 : Hid (w.heap.size ≤ b4) := Lib.hid (by omega)
  have HB8 : Hid (w.heap.size ≤ b8) := Lib.hid (by omega)
  obtain ⟨W8, hW8⟩ : ∃ W8, w1.alloc (.cells #[.int .i64 0, .int .i64 0, .int .i64 0, .int .i64 0, .int .i64 0, .int .i64 0, .int .i64 0, .int .i64 0, .int .i64 0, .int .i64 0, .int .i64 0, .int .i64 0] 41) = W8 := ⟨_, rfl⟩
  rw [hW8] at HR8 HR4 HK8 ⊢
  rw [hb8] at HR8
  rw [hb4] at HR4
  rw [hb4, hb8] at hbb
  rw [hb4, hb8] at ⊢
  have hne48 : ¬ b4 = b8 := by omega
  clear HR1 HK1 HR0 HKA hW8 HWB hb4 hb8
  go_loopw [21] (fun j wr => ∃ (i : Nat) (s : List Int), i ≤ m ∧ j = .int .i64 i ∧ Hid (ArrAt 41 wr b8 s) ∧ Hid (ArrAt 41 wr b4 s0) ∧ Hid (Keep [] w wr) ∧ Hid (SOk ps s) ∧ Hid (runP ps os s0 = ((runP ps (os.drop i) s).1, (runP ps (os.drop i) s).2 + i))) (fun j _ => m - (intOf j).toNat)
  case atStart => exact ⟨0, s0, by omega, rfl, HR8, HR4, HK8, Lib.hid (SOk.start ps), Lib.hid (by simp)⟩
  case round =>
    obtain ⟨i, s, hi, rfl, HS8, HS4, HK, HSO, HRP⟩ := hrel
    have hsl := HSO.out.len
    have HI12 : Hid ((Tryd.prog.info? 41).map (·.size) = some (s.map (Value.int .i64)).toArray.size) := Lib.hid (by rw [info62]; simp [hsl])
    have HZ12 : Hid ((s0.map (Value.int .i64)).toArray.size = (s.map (Value.int .i64)).toArray.size) := Lib.hid (by simp [hsl, s0])
    have HZL : Hid ((#[.int .i64 0, .int .i64 0, .int .i64 0, .int .i64 0, .int .i64 0, .int .i64 0, .int .i64 0, .int .i64 0, .int .i64 0, .int .i64 0, .int .i64 0, .int .i64 0] : Array Value).size = (s.map (Value.int .i64)).toArray.size) := Lib.hid (by simp [hsl])
    have HON := Lib.hid (ints_one s)
    have HL8 := Lib.hid (show wr.heap[b8]? = some (.cells (s.map (Value.int .i64)).toArray 41 (0, 0)) from HS8.out)
    have HL4 := Lib.hid (show wr.heap[b4]? = some (.cells (s0.map (Value.int .i64)).toArray 41 (0, 0)) from HS4.out)
    by_cases hlt : i < m
    · obtain ⟨k, hk⟩ : ∃ k, os[i]? = some k := ⟨_, List.getElem?_eq_getElem (by rw [HLE.out]; exact hlt)⟩
      have hkn : k < n := HOS.out k (List.mem_of_getElem? hk)
      obtain ⟨bo, oo, hab, hc⟩ := (HO.out.keep HK.out (by simp)).cells (by omega)
      have hck := hc i hlt
      have hke : (os.map fun (k : Nat) => (k : Int)).getD i 0 = (k : Int) := by rw [List.getD_eq_getElem?_getD, List.getElem?_map, hk]; rfl
      rw [hke] at hck
      have hdr : os.drop i = k :: os.drop (i + 1) := by
        obtain ⟨h1, h2⟩ := List.getElem?_eq_some_iff.1 hk
        rw [List.drop_eq_getElem_cons h1, h2]
      have hrp := HRP.out
      rw [hdr] at hrp
      have hdec : decide ((i : Int) < (m : Int)) = true := by simp; omega
      have hd0 : decide ((k : Int) < 0) = false := by simp
      have hd1 : decide ((k : Int) ≥ (n : Int)) = false := by simp; omega
      have hN40 := next40_any (HV.out.keep HK.out) HP.out HSO.out hkn
      subst hab
      clear hc hke hdr hk
      cases hnx : nx ps k s with
      | none =>
        have HE : Hid (runP ps os s0 = (s, i)) := Lib.hid (by
          rw [hrp]
          have h0 : runP ps (k :: os.drop (i + 1)) s = (s, 0) := by unfold runP; rw [hnx]
          rw [h0]; simp)
        have HG : Hid (Calls Tryd.prog 20 #[.slice a n c, .agg (s.map (Value.int .i64)).toArray, .int .i64 k] wr fun e w' => Keep [] wr w' ∧ e = .returned (.tuple #[.agg (s.map (Value.int .i64)).toArray, .bool false])) := Lib.hid (hN40.mono (by
          rintro e w' ⟨h1, ⟨_, rfl⟩ | ⟨C', h2, rfl⟩⟩
          · exact ⟨h1, rfl⟩
          · rw [hnx] at h2; cases h2))
        clear hN40 hnx hrp
        go_wp2_with (first | (with_reducible refine wpList_load_row rfl 41 _ rfl b8 rfl 41 _ (0, 0) _ HL8.out Tryd.underlying41 rfl HI12.out ?_) | (go_at_call 20; refine HG.out.mono ?_; rintro e3 w3 ⟨hk3, rfl⟩; have HK3 := Lib.hid hk3; have HM8 := Lib.hid (show (w3.alloc (.cells (s.map (Value.int .i64)).toArray 41)).heap[b8]? = some (.cells (s.map (Value.int .i64)).toArray 41 (0, 0)) from (hk3.alloc _).at HL8.out (by simp)); have HM4 := Lib.hid (show (w3.alloc (.cells (s.map (Value.int .i64)).toArray 41)).heap[b4]? = some (.cells (s0.map (Value.int .i64)).toArray 41 (0, 0)) from (hk3.alloc _).at HL4.out (by simp)); clear hk3) | (with_reducible refine wpList_store_new rfl 41 _ _ rfl 41 #[.int .i64 0, .int .i64 0, .int .i64 0, .int .i64 0, .int .i64 0, .int .i64 0, .int .i64 0, .int .i64 0, .int .i64 0, .int .i64 0, .int .i64 0, .int .i64 0] (s.map (Value.int .i64)).toArray rfl rfl HI12.out HZL.out HON.out ?_) | (with_reducible refine wpList_load_row rfl 41 _ rfl b8 rfl 41 _ (0, 0) _ HM8.out Tryd.underlying41 rfl HI12.out ?_) | (with_reducible refine wpList_store_row rfl 41 _ _ rfl b4 _ rfl rfl 41 _ HM4.out HI12.out HZ12.out HON.out ?_))
        refine bodyPost_ret (results_cell3 Tryd.results10 rfl (run_loadVar_row _ b4 41 41 (s.map (Value.int .i64)).toArray (0, 0) _ (setRow_heap _ _ _ _ 41 _ HM4.out) Tryd.underlying41 rfl HI12.out)) rfl ⟨by rw [HE.out]; rfl, (HK.out.trans (HK3.out.alloc _)).call (keep_setRow _ _ _) (fun b hb => by rw [List.mem_singleton] at hb; subst hb; exact .inr HB4.out)⟩
      | some t =>
        have hst := (HSO.out.next HP.out hnx).1
        have HST := Lib.hid hst
        have htl := hst.len
        have HE : Hid (runP ps os s0 = ((runP ps (os.drop (i + 1)) t).1, (runP ps (os.drop (i + 1)) t).2 + (i + 1))) := Lib.hid (by
          rw [hrp]
          have h0 : runP ps (k :: os.drop (i + 1)) s = ((runP ps (os.drop (i + 1)) t).1, (runP ps (os.drop (i + 1)) t).2 + 1) := by
            show (match nx ps k s with | none => (s, 0) | some t => ((runP ps (os.drop (i + 1)) t).1, (runP ps (os.drop (i + 1)) t).2 + 1)) = _
            rw [hnx]
          rw [h0]
          simp only [Prod.mk.injEq, true_and]
          omega)
        have HG : Hid (Calls Tryd.prog 20 #[.slice a n c, .agg (s.map (Value.int .i64)).toArray, .int .i64 k] wr fun e w' => Keep [] wr w' ∧ e = .returned (.tuple #[.agg (t.map (Value.int .i64)).toArray, .bool true])) := Lib.hid (hN40.mono (by
          rintro e w' ⟨h1, ⟨h2, _⟩ | ⟨C', h2, rfl⟩⟩
          · rw [hnx] at h2; cases h2
          · rw [hnx] at h2; injection h2 with h2; subst h2; exact ⟨h1, rfl⟩))
        have HTI : Hid ((Tryd.prog.info? 41).map (·.size) = some (t.map (Value.int .i64)).toArray.size) := Lib.hid (by rw [info62]; simp [htl])
        have HTZ : Hid ((#[.int .i64 0, .int .i64 0, .int .i64 0, .int .i64 0, .int .i64 0, .int .i64 0, .int .i64 0, .int .i64 0, .int .i64 0, .int .i64 0, .int .i64 0, .int .i64 0] : Array Value).size = (t.map (Value.int .i64)).toArray.size) := Lib.hid (by simp [htl])
        have HTS : Hid ((s.map (Value.int .i64)).toArray.size = (t.map (Value.int .i64)).toArray.size) := Lib.hid (by simp [htl, hsl])
        have HTO := Lib.hid (ints_one t)
        clear hN40 hnx hrp hst htl
        go_wp2_with (first | (with_reducible refine wpList_load_row rfl 41 _ rfl b8 rfl 41 _ (0, 0) _ HL8.out Tryd.underlying41 rfl HI12.out ?_) | (go_at_call 20; refine HG.out.mono ?_; rintro e3 w3 ⟨hk3, rfl⟩; have HK3 := Lib.hid hk3; have HM8 := Lib.hid (show (w3.alloc (.cells (t.map (Value.int .i64)).toArray 41)).heap[b8]? = some (.cells (s.map (Value.int .i64)).toArray 41 (0, 0)) from (hk3.alloc _).at HL8.out (by simp)); have HM4 := Lib.hid (show (w3.alloc (.cells (t.map (Value.int .i64)).toArray 41)).heap[b4]? = some (.cells (s0.map (Value.int .i64)).toArray 41 (0, 0)) from (hk3.alloc _).at HL4.out (by simp)); clear hk3) | (with_reducible refine wpList_store_new rfl 41 _ _ rfl 41 #[.int .i64 0, .int .i64 0, .int .i64 0, .int .i64 0, .int .i64 0, .int .i64 0, .int .i64 0, .int .i64 0, .int .i64 0, .int .i64 0, .int .i64 0, .int .i64 0] (t.map (Value.int .i64)).toArray rfl rfl HTI.out HTZ.out HTO.out ?_) | (with_reducible refine wpList_load_new rfl 41 _ rfl 41 (t.map (Value.int .i64)).toArray rfl _ Tryd.underlying41 rfl HTI.out ?_) | (with_reducible refine wpList_store_row rfl 41 _ _ rfl b8 _ rfl rfl 41 _ HM8.out HTI.out HTS.out HTO.out ?_))
        have hA8 : ArrAt 41 ((w3.alloc (.cells (t.map (Value.int .i64)).toArray 41)).setRow b8 (t.map (Value.int .i64)).toArray) b8 t := setRow_heap _ _ _ _ 41 _ HM8.out
        have hA4 : ArrAt 41 ((w3.alloc (.cells (t.map (Value.int .i64)).toArray 41)).setRow b8 (t.map (Value.int .i64)).toArray) b4 s0 := (keep_setRow (w3.alloc (.cells (t.map (Value.int .i64)).toArray 41)) b8 (t.map (Value.int .i64)).toArray).at HM4.out (by simpa using hne48)
        have hK9 : Keep [] w ((w3.alloc (.cells (t.map (Value.int .i64)).toArray 41)).setRow b8 (t.map (Value.int .i64)).toArray) := (HK.out.trans (HK3.out.alloc _)).call (keep_setRow _ _ _) (fun b hb => by rw [List.mem_singleton] at hb; subst hb; exact .inr HB8.out)
        exact ⟨⟨i + 1, t, hlt, by go_num, Lib.hid hA8, Lib.hid hA4, Lib.hid hK9, HST, HE⟩, by simp [intOf]; omega⟩
    · have him : i = m := by omega
      have hdec : decide ((i : Int) < (m : Int)) = false := by simp; omega
      have HE : Hid (runP ps os s0 = (s, i)) := Lib.hid (by
        rw [HRP.out, List.drop_eq_nil_of_le (by rw [HLE.out]; omega)]
        simp [runP])
      subst him
      go_wp2_with (first | (with_reducible refine wpList_load_row rfl 41 _ rfl b8 rfl 41 _ (0, 0) _ HL8.out Tryd.underlying41 rfl HI12.out ?_) | (with_reducible refine wpList_store_row rfl 41 _ _ rfl b4 _ rfl rfl 41 _ HL4.out HI12.out HZ12.out HON.out ?_))
      refine bodyPost_ret (results_cell3 Tryd.results10 rfl (run_loadVar_row _ b4 41 41 (s.map (Value.int .i64)).toArray (0, 0) _ (setRow_heap _ _ _ _ 41 _ HL4.out) Tryd.underlying41 rfl HI12.out)) rfl ⟨by rw [HE.out]; rfl, HK.out.call (keep_setRow _ _ _) (fun b hb => by rw [List.mem_singleton] at hb; subst hb; exact .inr HB4.out)⟩
end Go.Proofs.YtfcellgjbbfobaaDoor
/- Steps that leave the world, at a region that draws its order and only reads. -/
namespace Go
section
variable {P : Program}
theorem still_val {ops : Array Oper} {w : World} {Q : Act → Prop} {a : Act} {o : Oper} {rest : List Oper} {v : Value} (hw : Region.wanted o (yielded ops a.tmps) = true) (hr : (execOp a.eval o).run P w = .ok (.value v) w) (h : wpStill P ops w Q rest (a.put o.dst v)) : wpStill P ops w Q (o :: rest) a := by
  unfold wpStill
  rw [if_pos hw]
  unfold Oper.still
  rw [hr]
  exact ⟨rfl, h⟩
theorem exec_load_at {o : Oper} {ρ : Operand → Value} {w : World} (ty : TypeId) (x : Operand) (ho : o.op = .load ty x) (b off : Nat) (hx : ρ x = .pointer (some ⟨b, off, none⟩)) (vs : List Value) (d : TypeDesc) (hg : ∀ j v, vs[j]? = some v → w.cell? ⟨b, off + j, none⟩ = some v)
    (hu : P.underlying ty = some d) (hd : (match d with | .struct _ | .array _ _ => true | _ => false) = true) (hi : (P.info? ty).map (·.size) = some vs.length) : (execOp ρ o).run P w = .ok (.value (.agg vs.toArray)) w := by
  unfold execOp
  simp only [ho, hx, Instr.loadAt, Instr.sureAddr, Sem.run_bind, Sem.run_pure, Result.andThen_ok, run_loadVar_at w ⟨b, off, none⟩ ty vs d (fun j v hv => by rw [Addr.add_mid]; exact hg j v hv) hu hd hi]
theorem exec_load_row {o : Oper} {ρ : Operand → Value} {w : World} (ty : TypeId) (x : Operand) (ho : o.op = .load ty x) (g : Nat) (hx : ρ x = .pointer (some ⟨g, 0, none⟩)) (T : TypeId) (cs : Array Value) (fr : Nat × Nat) (d : TypeDesc) (hg : w.heap[g]? = some (.cells cs T fr))
    (hu : P.underlying ty = some d) (hd : (match d with | .struct _ | .array _ _ => true | _ => false) = true) (hi : (P.info? ty).map (·.size) = some cs.size) : (execOp ρ o).run P w = .ok (.value (.agg cs)) w := by
  unfold execOp
  simp only [ho, hx, Instr.loadAt, Instr.sureAddr, Sem.run_bind, Sem.run_pure, Result.andThen_ok, run_loadVar_row w g T ty cs fr d hg hu hd hi]
theorem step_store_row {ops : Array Oper} {o : Oper} {a : Act} {w : World} {K : Act → World → Prop} {Q : Exit → Act → World → Prop} {F : Prop} (hgd : o.guard = none) (ty : TypeId) (x y : Operand) (ho : o.op = .store ty x y)
    (g : Nat) (cells : Array Value) (hx : a.eval x = .pointer (some ⟨g, 0, none⟩)) (hy : a.eval y = .agg cells)
    (t : TypeId) (old : Array Value) (hg : w.heap[g]? = some (.cells old t (0, 0))) (hi : (P.info? ty).map (·.size) = some cells.size) (hold : old.size = cells.size) (h1 : cells.all (·.oneCell') = true)
    (h : K (a.put o.dst undef) (w.setRow g cells)) : if Region.wanted o (yielded ops a.tmps) = true then Oper.wp P o a w K Q else F := by
  have hw : Region.wanted o (yielded ops a.tmps) = true := by simp [Region.wanted, hgd]
  rw [if_pos hw]
  exact wp_store_row ty x y ho g cells hx hy t old hg hi hold h1 h
end
end Go
