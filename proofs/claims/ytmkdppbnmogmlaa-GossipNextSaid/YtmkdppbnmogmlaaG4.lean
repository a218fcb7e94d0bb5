import Derived.Test.YtmkdppbnmogmlaaG3
namespace Go
def newerB (a b : Ln) : Bool := decide (b.g < a.g) || (decide (a.g = b.g) && decide (b.u < a.u))
structure RowsOk (ls : List Ln) : Prop where
  len : ls.length ≤ 8
  row : ∀ i, i < ls.length → 1 ≤ (lat ls i).q ∧ (lat ls i).q ≤ 8 ∧ 0 ≤ (lat ls i).g ∧ (lat ls i).g ≤ 1099511627776 ∧ 1 ≤ (lat ls i).u ∧ (lat ls i).u ≤ 3
  up : ∀ i, i + 1 < ls.length → (lat ls i).q < (lat ls (i + 1)).q
end Go
namespace Go.Proofs.Ytmkdppbnmogmlaa
open Go.RowKit
set_option maxHeartbeats 400000 in
theorem newer_any (q t u q' t' u' : Int) (w : World) : Calls Try.prog 27 #[.agg #[.int .i64 q, .int .i64 t, .int .i64 u], .agg #[.int .i64 q', .int .i64 t', .int .i64 u']] w fun e w' => e = .returned (.bool (newerB ⟨q, t, u⟩ ⟨q', t', u'⟩)) ∧ Keep [] w w' := by
  have HN := Lib.hid (show newerB ⟨q, t, u⟩ ⟨q', t', u'⟩ = (decide (t' < t) || (decide (t = t') && decide (u' < u))) from rfl)
  generalize newerB ⟨q, t, u⟩ ⟨q', t', u'⟩ = r at *
  by_cases h1 : t' < t
  · go_enter Try.func27, Try.ntmps27
    go_wp2_with (first | (with_reducible refine Txt.wp_region_text mixed quiet (by decide +kernel) ?_) | (with_reducible refine Txt.text_done (by kernel_rfl) ?_))
    go_ret
    exact ⟨ret_bool (by rw [HN.out]; simp [h1]), by repeat (first | exact Keep.refl _ _ | apply Keep.drew | apply Keep.alloc)⟩
  · by_cases h2 : t = t'
    · subst h2
      go_enter Try.func27, Try.ntmps27
      go_wp2_with (first | (with_reducible refine Txt.wp_region_text mixed quiet (by decide +kernel) ?_) | (with_reducible refine Txt.text_done (by kernel_rfl) ?_))
      go_ret
      exact ⟨ret_bool (by rw [HN.out]; simp), by repeat (first | exact Keep.refl _ _ | apply Keep.drew | apply Keep.alloc)⟩
    · go_enter Try.func27, Try.ntmps27
      go_wp2_with (first | (with_reducible refine Txt.wp_region_text mixed quiet (by decide +kernel) ?_) | (with_reducible refine Txt.text_done (by kernel_rfl) ?_))
      go_ret
      exact ⟨ret_bool (by rw [HN.out]; simp [h1, h2]), by repeat (first | exact Keep.refl _ _ | apply Keep.drew | apply Keep.alloc)⟩
set_option maxHeartbeats 1000000 in
theorem check_ok {a : Option Addr} {n c : Nat} {ls : List Ln} {w : World} (h : LnsV w a n c ls) (hok : RowsOk ls) :
    Calls Try.prog 26 #[.slice a n c] w fun e w' => e = .returned (.int .i64 0) ∧ Keep [] w w' := by
  have HL := Lib.hid h.len
  have hn8 : n ≤ 8 := by have := hok.len; have := h.len; omega
  have HV := Lib.hid h
  have HOK := Lib.hid hok
  clear h hok
  go_enter Try.func26, Try.ntmps26
  go_wp2_with fail
  go_loopw [10] (fun i wr => ∃ k : Nat, k ≤ n ∧ i = .int .i64 k ∧ Keep [] w wr) (fun i _ => n - (intOf i).toNat)
  case atStart => exact ⟨0, by omega, rfl, Keep.refl _ _⟩
  case round =>
    obtain ⟨k, hk, rfl, hkw⟩ := hrel
    by_cases hlt : k < n
    · have hr := HOK.out.row k (by rw [HL.out]; exact hlt)
      obtain ⟨b, off, rfl, c0, c1, c2⟩ := (HV.out.keep hkw (by simp)).at_ hlt
      by_cases hk0 : k = 0
      · subst hk0
        generalize lat ls 0 = L at *
        obtain ⟨q, t, u⟩ := L
        dsimp only at *
        simp only [Nat.zero_mul, Nat.add_zero] at c0 c1 c2
        obtain ⟨b1, b2, b3, b4⟩ : decide (t < 0) = false ∧ decide (1099511627776 < t) = false ∧ decide (u < 1) = false ∧ decide (3 < u) = false := by simp; omega
        go_wp2_with (first | (go_at_call 25; refine (isNode_yes _ _ (by omega) (by omega)).mono ?_; rintro e w' ⟨rfl, rfl⟩) | (with_reducible refine Txt.wp_region_text mixed quiet (by decide +kernel) ?_) | (with_reducible refine Txt.text_done (by kernel_rfl) ?_))
        go_roundw
        case rel => exact ⟨0 + 1, by omega, by go_num, by repeat (first | exact hkw | apply Keep.drew | apply Keep.alloc)⟩
        case measure => simp [intOf]; omega
      · obtain ⟨j, rfl⟩ : ∃ j, k = j + 1 := ⟨k - 1, by omega⟩
        have hup := HOK.out.up j (by rw [HL.out]; exact hlt)
        obtain ⟨b', off', hbb, p0, p1, p2⟩ := (HV.out.keep hkw (by simp)).at_ (show j < n by omega)
        injection hbb with hbb
        injection hbb with hb1 hb2 _
        subst hb1 hb2
        generalize lat ls (j + 1) = L at *
        generalize lat ls j = L' at *
        obtain ⟨q, t, u⟩ := L
        obtain ⟨q', t', u'⟩ := L'
        dsimp only at *
        clear p1 p2
        have hlb : b < wr.heap.size := World.block_lt_of_cell? wr _ c0
        have hne : ¬ b = wr.heap.size := by omega
        obtain ⟨b1, b2, b3, b4⟩ : decide (t < 0) = false ∧ decide (1099511627776 < t) = false ∧ decide (u < 1) = false ∧ decide (3 < u) = false := by simp; omega
        go_wp2_with (first | (go_at_call 25; refine (isNode_yes _ _ (by omega) (by omega)).mono ?_; rintro e w' ⟨rfl, rfl⟩) | (with_reducible refine Txt.wp_region_text mixed quiet (by decide +kernel) ?_) | (with_reducible refine Txt.text_done (by kernel_rfl) ?_))
        go_roundw
        case rel => exact ⟨j + 1 + 1, by omega, by go_num, by repeat (first | exact hkw | apply Keep.drew | apply Keep.alloc)⟩
        case measure => simp [intOf]; omega
    · go_wp2_with fail
      go_ret
      exact ⟨rfl, hkw⟩
end Go.Proofs.Ytmkdppbnmogmlaa
