import Derived.Test.YtmkdppbnmogmlaaG4
import Derived.RegionTactic
import Derived.ChangeAlike
namespace Go
theorem Keep.more {S S' : List Nat} {w w' : World} (h : Keep S w w') (hs : ∀ b ∈ S, b ∈ S') : Keep S' w w' :=
  ⟨h.os, h.tape, h.output, h.size, fun k hk hn => h.block k hk fun hm => hn (hs k hm)⟩
def mergeStep (g : Gs) (r : Ln) : Gs :=
  if (lat g.rs r.q.toNat).q ≠ 0 ∧ newerB r (lat g.rs r.q.toNat) = false then g
  else if r.q = g.me ∧ r.u ≠ 1 then { g with rs := g.rs.set r.q.toNat ⟨g.me, min (r.g + 1) 1099511627776, 1⟩ }
  else { g with rs := g.rs.set r.q.toNat r, ts := g.ts.set r.q.toNat 0 }
def mergeG (g : Gs) (ls : List Ln) : Gs := ls.foldl mergeStep g
theorem mergeStep_head (g : Gs) (r : Ln) : (mergeStep g r).me = g.me ∧ (mergeStep g r).ticks = g.ticks ∧ (mergeStep g r).last = g.last := by
  unfold mergeStep; split
  · exact ⟨rfl, rfl, rfl⟩
  · split <;> exact ⟨rfl, rfl, rfl⟩
theorem mergeG_head (ls : List Ln) : ∀ g : Gs, (mergeG g ls).me = g.me ∧ (mergeG g ls).ticks = g.ticks ∧ (mergeG g ls).last = g.last := by
  induction ls with
  | nil => intro g; exact ⟨rfl, rfl, rfl⟩
  | cons r ls ih =>
    intro g
    have h1 := ih (mergeStep g r)
    have h2 := mergeStep_head g r
    exact ⟨h1.1.trans h2.1, h1.2.1.trans h2.2.1, h1.2.2.trans h2.2.2⟩
theorem mergeG_snoc (g : Gs) (ls : List Ln) (k : Nat) (h : k < ls.length) : mergeG g (ls.take (k + 1)) = mergeStep (mergeG g (ls.take k)) (lat ls k) := by
  rw [List.take_succ_eq_append_getElem h, mergeG, List.foldl_append]
  simp [lat, List.getD_eq_getElem?_getD, h, mergeG]
end Go
namespace Go.Proofs.Ytmkdppbnmogmlaa
open Go.RowKit
theorem newer_at {q t u q' t' u' : Int} {v : Bool} (hv : Hid (newerB ⟨q, t, u⟩ ⟨q', t', u'⟩ = v)) (w : World) : Calls Try.prog 27 #[.agg #[.int .i64 q, .int .i64 t, .int .i64 u], .agg #[.int .i64 q', .int .i64 t', .int .i64 u']] w fun e w' => e = .returned (.bool v) ∧ Keep [] w w' := by
  have := newer_any q t u q' t' u' w
  rw [hv.out] at this
  exact this
set_option maxHeartbeats 8000000 in
theorem merge_any {b : Nat} {g : Gs} {a : Option Addr} {n c : Nat} {ls : List Ln} {w : World} (hg : GAt 55 w b g) (h : LnsV w a n c ls) (hok : RowsOk ls) (hb : ∀ x, a = some x → x.block ≠ b) :
    Calls Try.prog 18 #[.pointer (some ⟨b, 0, none⟩), .slice a n c] w fun e w' => e = .returned (.int .i64 0) ∧ Keep [b] w w' ∧ GAt 55 w' b (mergeG g ls) := by
  have HL := Lib.hid h.len
  have hn8 : n ≤ 8 := by have := hok.len; have := h.len; omega
  have HV := Lib.hid h
  have HOK := Lib.hid hok
  have HG := Lib.hid hg
  have HB := Lib.hid (show ∀ x, a = some x → x.block ∉ [b] from fun x hx => by simpa using hb x hx)
  clear h hok hg hb
  go_enter Try.func18, Try.ntmps18
  go_wp2_with (first | (go_at_call 26; refine (check_ok HV.out HOK.out).mono ?_; rintro e w1 ⟨rfl, hk1⟩))
  have HG1 := Lib.hid (HG.out.keep hk1 (by simp))
  go_loopw [16] (fun i wr => ∃ k : Nat, k ≤ n ∧ i = .int .i64 k ∧ Keep [b] w wr ∧ Hid (GAt 55 wr b (mergeG g (ls.take k)))) (fun i _ => n - (intOf i).toNat)
  case atStart => exact ⟨0, by omega, rfl, hk1.call (Keep.refl [] _) (by simp) |>.trans (Keep.refl _ _) |> fun h => ⟨h.os, h.tape, h.output, h.size, fun k hk _ => h.block k hk (by simp)⟩, HG1⟩
  case round =>
    obtain ⟨k, hk, rfl, hkw, HA⟩ := hrel
    by_cases hlt : k < n
    · have hr := HOK.out.row k (by rw [HL.out]; exact hlt)
      obtain ⟨b1, off, rfl, c0, c1, c2⟩ := (HV.out.keep hkw HB.out).at_ hlt
      have hS := mergeG_snoc g ls k (by rw [HL.out]; exact hlt)
      have hme := (mergeG_head (ls.take k) g).1
      generalize lat ls k = L at *
      obtain ⟨q, t, u⟩ := L
      dsimp only at *
      obtain ⟨m, rfl⟩ : ∃ m : Nat, q = m := ⟨q.toNat, by omega⟩
      obtain ⟨o0, o1, o2⟩ := HA.out.row (show m < 9 by omega)
      have tm := HA.out.timer (show m < 9 by omega)
      have hf := HA.out.thaw
      have d0 := HA.out.head.1
      unfold mergeStep at hS
      dsimp only at hS
      rw [show ((m : Int)).toNat = m from rfl] at hS
      have hlb : b1 < wr.heap.size := World.block_lt_of_cell? wr _ c0
      have hlg : b < wr.heap.size := HA.out.lt
      have hne1 : ¬ b1 = wr.heap.size := by omega
      have hne2 : ¬ b = wr.heap.size := by omega
      have hne3 : ¬ b1 = b := by have := HB.out ⟨b1, off, none⟩ rfl; simpa using this
      generalize (mergeG g (ls.take k)).ts.getD m 0 = tv at *
      obtain ⟨⟨oq, ot, ou⟩, hO⟩ : ∃ O, lat (mergeG g (ls.take k)).rs m = O := ⟨_, rfl⟩
      rw [hO] at o0 o1 o2 hS
      dsimp only at o0 o1 o2 hS
      have HO := Lib.hid hO
      clear hO hme
      obtain ⟨me, hme⟩ : ∃ me, (mergeG g (ls.take k)).me = me := ⟨_, rfl⟩
      rw [hme] at d0 hS
      have HME := Lib.hid hme
      clear hme
      obtain ⟨nb, hnb⟩ : ∃ nb, newerB ⟨m, t, u⟩ ⟨oq, ot, ou⟩ = nb := ⟨_, rfl⟩
      rw [hnb] at hS
      have HNB := Lib.hid hnb
      clear hnb
      by_cases hA : oq ≠ 0 ∧ nb = false
      · rw [if_pos hA] at hS
        have HS := Lib.hid hS
        obtain ⟨h1, h2⟩ := hA
        subst h2
        clear hS
        go_wp2_with fail
        go_region
        all_goals go_wp2_with (first | (go_at_call 27; refine (newer_at HNB _).mono ?_; rintro e w4 ⟨rfl, hk4⟩) | (with_reducible refine Txt.wp_region_text mixed quiet (by decide +kernel) ?_) | (with_reducible refine Txt.text_done (by kernel_rfl) ?_))
        all_goals go_roundw
        case measure => simp [intOf]; omega
        case rel =>
          have hkk : Keep [] wr w4 := by
            refine Keep.call (S' := []) ?_ hk4 (by simp)
            repeat (first | exact Keep.refl _ _ | apply Keep.drew | apply Keep.alloc | refine Keep.setCell ?_ (by simp) _ | (refine Keep.call ?_ hk4 (by simp)))
          exact ⟨k + 1, by omega, by go_num, hkw.call hkk (by simp), Lib.hid (by rw [HS.out]; exact HA.out.keep hkk (by simp))⟩
      · rw [if_neg hA] at hS
        have hA2 : oq = 0 ∨ nb = true := by
          by_cases h1 : oq = 0
          · exact .inl h1
          · right; cases nb with
            | true => rfl
            | false => exact absurd ⟨h1, rfl⟩ hA
        clear hA
        by_cases hB : (m : Int) = me ∧ u ≠ 1
        · rw [if_pos hB] at hS
          have HS := Lib.hid hS
          obtain ⟨h1, h2⟩ := hB
          subst h1
          clear hS
          have hmin : (if 1099511627776 < t + 1 then 1099511627776 else t + 1) = min (t + 1) 1099511627776 := by split <;> omega
          have HMIN := Lib.hid hmin
          clear hmin
          rcases hA2 with hA2 | hA2
          all_goals subst hA2
          all_goals go_wp2_with fail
          all_goals go_region
          all_goals go_wp2_with (first | (go_at_call 27; refine (newer_at HNB _).mono ?_; rintro e w4 ⟨rfl, hk4⟩; have hkk : Keep [] wr w4 := (by refine Keep.call (S' := []) ?_ hk4 (by simp); repeat (first | exact Keep.refl _ _ | apply Keep.drew | apply Keep.alloc)); have hn4 := hk4.at (k := wr.heap.size) (o := .cells #[.int .i64 m, .int .i64 t, .int .i64 u] 39 (0, 0)) (by exact heap_alloc2_old _ _ _) (by simp); obtain ⟨n0, n1, n2, nf⟩ := row3 hn4; have hA4 := HA.out.keep hkk (by simp); have d4 := hA4.head.1; have f4 := hA4.thaw; have HA4 := Lib.hid hA4; have ro4 := hA4.row (show m < 9 by omega); have tm4 := hA4.timer (show m < 9 by omega); rw [HME.out] at d4; clear hA4 hn4) | (with_reducible refine Txt.wp_region_text mixed quiet (by decide +kernel) ?_) | (with_reducible refine Txt.text_done (by kernel_rfl) ?_))
          all_goals go_region
          all_goals go_wp2_with fail
          all_goals go_roundw
          all_goals first | (case measure => simp [intOf]; omega) | skip
          all_goals
            refine ⟨k + 1, by omega, by go_num, hkw.trans ?_, Lib.hid ?_⟩
            · repeat (first | exact Keep.refl _ _ | apply Keep.drew | apply Keep.alloc | refine Keep.setCell ?_ (by simp) _ | exact hkk.more (by simp))
            · rw [HS.out, ← HMIN.out]
              first | (have e := HA4.out.put3 (show m < 9 by omega) m (if 1099511627776 < t + 1 then 1099511627776 else t + 1) 1; rw [HME.out] at e; exact e) | (have e := ((HA.out.put3 (show m < 9 by omega) m (if 1099511627776 < t + 1 then 1099511627776 else t + 1) 1).alloc (.cells #[.int .i64 m, .int .i64 t, .int .i64 u] 39)).alloc (.cells #[.int .i64 0, .int .i64 ot, .int .i64 ou] 39); rw [HME.out] at e; exact e)
        · rw [if_neg hB] at hS
          have HS := Lib.hid hS
          clear hS
          by_cases hme : (m : Int) = me
          · have hu : u = 1 := by
              by_cases h : u = 1
              · exact h
              · exact absurd ⟨hme, h⟩ hB
            subst hu hme
            clear hB
            rcases hA2 with hA2 | hA2
            all_goals subst hA2
            all_goals go_wp2_with fail
            all_goals go_region
            all_goals go_wp2_with (first | (go_at_call 27; refine (newer_at HNB _).mono ?_; rintro e w4 ⟨rfl, hk4⟩; have hkk : Keep [] wr w4 := (by refine Keep.call (S' := []) ?_ hk4 (by simp); repeat (first | exact Keep.refl _ _ | apply Keep.drew | apply Keep.alloc)); have hn4 := hk4.at (k := wr.heap.size) (o := .cells #[.int .i64 m, .int .i64 t, .int .i64 1] 39 (0, 0)) (by exact heap_alloc2_old _ _ _) (by simp); obtain ⟨n0, n1, n2, nf⟩ := row3 hn4; have hA4 := HA.out.keep hkk (by simp); have d4 := hA4.head.1; have f4 := hA4.thaw; have HA4 := Lib.hid hA4; have ro4 := hA4.row (show m < 9 by omega); have tm4 := hA4.timer (show m < 9 by omega); rw [HME.out] at d4; clear hA4 hn4) | (with_reducible refine Txt.wp_region_text mixed quiet (by decide +kernel) ?_) | (with_reducible refine Txt.text_done (by kernel_rfl) ?_))
            all_goals go_region
            all_goals go_wp2_with fail
            all_goals go_roundw
            all_goals first | (case measure => simp [intOf]; omega) | skip
            all_goals
              refine ⟨k + 1, by omega, by go_num, hkw.trans ?_, Lib.hid ?_⟩
              · repeat (first | exact Keep.refl _ _ | apply Keep.drew | apply Keep.alloc | refine Keep.setCell ?_ (by simp) _ | exact hkk.more (by simp))
              · rw [HS.out]
                first | (have e := (HA4.out.put3 (show m < 9 by omega) m t 1).putTimer (show m < 9 by omega) 0; rw [HME.out] at e; exact e) | (have e := (((HA.out.put3 (show m < 9 by omega) m t 1).putTimer (show m < 9 by omega) 0).alloc (.cells #[.int .i64 m, .int .i64 t, .int .i64 1] 39)).alloc (.cells #[.int .i64 0, .int .i64 ot, .int .i64 ou] 39); rw [HME.out] at e; exact e)
          · clear hB
            rcases hA2 with hA2 | hA2
            all_goals subst hA2
            all_goals go_wp2_with fail
            all_goals go_region
            all_goals go_wp2_with (first | (go_at_call 27; refine (newer_at HNB _).mono ?_; rintro e w4 ⟨rfl, hk4⟩; have hkk : Keep [] wr w4 := (by refine Keep.call (S' := []) ?_ hk4 (by simp); repeat (first | exact Keep.refl _ _ | apply Keep.drew | apply Keep.alloc)); have hn4 := hk4.at (k := wr.heap.size) (o := .cells #[.int .i64 m, .int .i64 t, .int .i64 u] 39 (0, 0)) (by exact heap_alloc2_old _ _ _) (by simp); obtain ⟨n0, n1, n2, nf⟩ := row3 hn4; have hA4 := HA.out.keep hkk (by simp); have d4 := hA4.head.1; have f4 := hA4.thaw; have HA4 := Lib.hid hA4; have ro4 := hA4.row (show m < 9 by omega); have tm4 := hA4.timer (show m < 9 by omega); rw [HME.out] at d4; clear hA4 hn4) | (with_reducible refine Txt.wp_region_text mixed quiet (by decide +kernel) ?_) | (with_reducible refine Txt.text_done (by kernel_rfl) ?_))
            all_goals go_region
            all_goals go_wp2_with fail
            all_goals go_roundw
            all_goals first | (case measure => simp [intOf]; omega) | skip
            all_goals
              refine ⟨k + 1, by omega, by go_num, hkw.trans ?_, Lib.hid ?_⟩
              · repeat (first | exact Keep.refl _ _ | apply Keep.drew | apply Keep.alloc | refine Keep.setCell ?_ (by simp) _ | exact hkk.more (by simp))
              · rw [HS.out]
                first | (have e := (HA4.out.put3 (show m < 9 by omega) m t u).putTimer (show m < 9 by omega) 0; rw [HME.out] at e; exact e) | (have e := (((HA.out.put3 (show m < 9 by omega) m t u).putTimer (show m < 9 by omega) 0).alloc (.cells #[.int .i64 m, .int .i64 t, .int .i64 u] 39)).alloc (.cells #[.int .i64 0, .int .i64 ot, .int .i64 ou] 39); rw [HME.out] at e; exact e)
    · have e : ls.take k = ls := by rw [show k = n by omega, ← HL.out, List.take_length]
      have hfin := HA.out
      rw [e] at hfin
      have HF := Lib.hid hfin
      clear e hfin
      go_wp2_with fail
      go_ret
      exact ⟨rfl, hkw, HF.out⟩
end Go.Proofs.Ytmkdppbnmogmlaa
