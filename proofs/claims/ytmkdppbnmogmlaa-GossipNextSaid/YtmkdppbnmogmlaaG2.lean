import Derived.Test.YtmkdppbnmogmlaaG1
namespace Go
def tickStep (g : Gs) (i : Nat) : Gs :=
  if (lat g.rs i).u = 2 then
    { g with ts := g.ts.set i (g.ts.getD i 0 + 1), rs := if g.ticks ≤ g.ts.getD i 0 + 1 then g.rs.set i ⟨(lat g.rs i).q, (lat g.rs i).g, 3⟩ else g.rs }
  else g
def tickTo (g : Gs) : Nat → Gs
  | 0 => g
  | k + 1 => tickStep (tickTo g k) k
def tickG (g : Gs) : Gs := tickTo g 9
theorem tickStep_len (g : Gs) (i : Nat) : (tickStep g i).rs.length = g.rs.length ∧ (tickStep g i).ts.length = g.ts.length := by
  unfold tickStep; split
  · dsimp only; split <;> simp
  · exact ⟨rfl, rfl⟩
theorem tickTo_len (g : Gs) (k : Nat) : (tickTo g k).rs.length = g.rs.length ∧ (tickTo g k).ts.length = g.ts.length := by
  induction k with
  | zero => exact ⟨rfl, rfl⟩
  | succ k ih => have := tickStep_len (tickTo g k) k; rw [tickTo]; omega
theorem tickStep_far (g : Gs) {i j : Nat} (h : i ≠ j) : lat (tickStep g i).rs j = lat g.rs j ∧ (tickStep g i).ts.getD j 0 = g.ts.getD j 0 := by
  unfold tickStep; split
  · dsimp only
    refine ⟨?_, by simp [List.getD_eq_getElem?_getD, h]⟩
    split
    · simp [lat, List.getD_eq_getElem?_getD, h]
    · rfl
  · exact ⟨rfl, rfl⟩
theorem tickTo_head (g : Gs) (k : Nat) : (tickTo g k).me = g.me ∧ (tickTo g k).ticks = g.ticks ∧ (tickTo g k).last = g.last := by
  induction k with
  | zero => exact ⟨rfl, rfl, rfl⟩
  | succ k ih => rw [tickTo, tickStep]; split <;> exact ih
theorem tickTo_later (g : Gs) (k : Nat) : ∀ j, k ≤ j → lat (tickTo g k).rs j = lat g.rs j ∧ (tickTo g k).ts.getD j 0 = g.ts.getD j 0 := by
  induction k with
  | zero => intro j _; exact ⟨rfl, rfl⟩
  | succ k ih =>
    intro j hj
    have h1 := tickStep_far (tickTo g k) (show k ≠ j by omega)
    have h2 := ih j (by omega)
    rw [tickTo, h1.1, h1.2]; exact h2
theorem tickTo_done (g : Gs) (k : Nat) : ∀ j, j < k → lat (tickTo g k).rs j = lat (tickStep g j).rs j ∧ (tickTo g k).ts.getD j 0 = (tickStep g j).ts.getD j 0 := by
  induction k with
  | zero => intro j h; omega
  | succ k ih =>
    intro j hj
    rw [tickTo]
    by_cases e : j = k
    · subst e
      have h1 := tickTo_later g j j (by omega)
      have h2 := tickTo_head g j
      have h3 := tickTo_len g j
      unfold tickStep
      rw [h1.1, h1.2, h2.2.1]
      split
      · dsimp only
        have ets : ((tickTo g j).ts.set j (g.ts.getD j 0 + 1)).getD j 0 = (g.ts.set j (g.ts.getD j 0 + 1)).getD j 0 := by
          simp [List.getD_eq_getElem?_getD, List.getElem?_set, h3.2]
        refine ⟨?_, ets⟩
        split
        · simp only [lat, List.getD_eq_getElem?_getD, List.getElem?_set, h3.1, if_true]
        · exact h1.1
      · exact h1
    · have h1 := tickStep_far (tickTo g k) (show k ≠ j by omega)
      rw [h1.1, h1.2]
      exact ih j (by omega)
end Go
namespace Go.Proofs.Ytmkdppbnmogmlaa
open Go.RowKit
set_option maxHeartbeats 1000000 in
theorem tick_any {b : Nat} {g : Gs} {w : World} (h : GAt 55 w b g) (ht : ∀ i, i < 9 → 0 ≤ g.ts.getD i 0 ∧ g.ts.getD i 0 ≤ 100) :
    Calls Try.prog 12 #[.pointer (some ⟨b, 0, none⟩)] w fun e w' => e = .returned (.tuple #[]) ∧ Keep [b] w w' ∧ GAt 55 w' b (tickG g) := by
  have HG := Lib.hid h
  have HT := Lib.hid ht
  clear h ht
  go_enter Try.func12, Try.ntmps12
  go_wp2_with fail
  go_loopw [4] (fun i wr => ∃ k : Nat, k ≤ 9 ∧ i = .int .i64 k ∧ Keep [b] w wr ∧ Hid (GAt 55 wr b (tickTo g k))) (fun i _ => 9 - (intOf i).toNat)
  case atStart => exact ⟨0, by omega, rfl, Keep.refl _ _, HG⟩
  case round =>
    obtain ⟨k, hk, rfl, hkw, HA⟩ := hrel
    by_cases hlt : k < 9
    · have hl := tickTo_later g k k (by omega)
      obtain ⟨c0, c1, c2⟩ := HA.out.row hlt
      have c3 := HA.out.timer hlt
      have d1 := HA.out.head.2.1
      have hf := HA.out.thaw
      have hb := HT.out k hlt
      have HS := (show tickTo g (k + 1) = tickStep (tickTo g k) k from rfl)
      unfold tickStep at HS
      rw [hl.1, hl.2] at HS
      rw [hl.1] at c0 c1 c2
      rw [hl.2] at c3
      obtain ⟨⟨q, tn, u⟩, hL⟩ : ∃ L, lat g.rs k = L := ⟨_, rfl⟩
      have HL := Lib.hid (hl.1.trans hL)
      rw [hL] at c0 c1 c2 HS
      dsimp only at c0 c1 c2 HS
      clear hL hl
      generalize g.ts.getD k 0 = t at *
      have hke : ∀ (w' : World), Keep [b] wr w' → Keep [b] w w' := fun w' h => hkw.trans h
      by_cases hu : u = 2
      · subst hu
        by_cases htk : (tickTo g k).ticks ≤ t + 1
        · rw [if_pos rfl, if_pos htk] at HS
          have HS3 := Lib.hid HS
          clear HS
          go_wp2_with (first | (with_reducible refine Txt.wp_region_text mixed quiet (by kernel_rfl) ?_) | (with_reducible refine Txt.text_done (by kernel_rfl) ?_))
          go_roundw
          case rel =>
            refine ⟨k + 1, by omega, by go_num, hke _ ?_, Lib.hid ?_⟩
            · repeat (first | exact Keep.refl _ _ | apply Keep.drew | refine Keep.setCell ?_ (by simp) _)
            · rw [HS3.out]
              have e1 := HA.out.putTimer hlt (t + 1)
              have e2 := (e1.putRow hlt 2 (by omega) (.int .i64 3) ⟨q, tn, 3⟩ (by rw [show lat _ k = _ from HL.out]; rfl)).drew
              first | exact e2 | exact e2.drew
          case measure => simp [intOf]; omega
        · rw [if_pos rfl, if_neg htk] at HS
          have HS3 := Lib.hid HS
          clear HS
          go_wp2_with (first | (with_reducible refine Txt.wp_region_text mixed quiet (by kernel_rfl) ?_) | (with_reducible refine Txt.text_done (by kernel_rfl) ?_))
          go_roundw
          case rel =>
            refine ⟨k + 1, by omega, by go_num, hke _ ?_, Lib.hid ?_⟩
            · repeat (first | exact Keep.refl _ _ | apply Keep.drew | refine Keep.setCell ?_ (by simp) _)
            · rw [HS3.out]
              have e1 := (HA.out.putTimer hlt (t + 1)).drew
              first | exact e1 | exact e1.drew
          case measure => simp [intOf]; omega
      · rw [if_neg hu] at HS
        have HS3 := Lib.hid HS
        clear HS
        go_wp2_with (first | (with_reducible refine Txt.wp_region_text mixed quiet (by kernel_rfl) ?_) | (with_reducible refine Txt.text_done (by kernel_rfl) ?_))
        go_roundw
        case rel => exact ⟨k + 1, by omega, by go_num, hkw, Lib.hid (by rw [HS3.out]; exact HA.out)⟩
        case measure => simp [intOf]; omega
    · obtain rfl : k = 9 := by omega
      go_wp2_with fail
      go_end0
      exact ⟨rfl, hkw, HA.out⟩
end Go.Proofs.Ytmkdppbnmogmlaa
