import Derived.Test.YtmkdppbnmogmlaaG16
namespace Go.Proofs.Ytmkdppbnmogmlaa
open Go.RowKit
set_option maxHeartbeats 1000000 in
theorem index_not {a : Option Addr} {n c : Nat} {zs : List Int} {x : Int} {w : World} (h : IntsV w a n c zs) (hx : x ∉ zs) :
    Calls Try.prog 28 #[.slice a n c, .int .i64 x] w fun e w' => e = .returned (.int .i64 (-1)) ∧ Keep [] w w' := by
  have hr := h.room
  have hm := h.most
  unfold maxLen at hm
  have HV := Lib.hid h
  have HX := Lib.hid hx
  clear h hx
  go_enter Try.func28, Try.ntmps28
  go_wp2_with fail
  go_loopw [8] (fun i wr => ∃ k : Nat, k ≤ n ∧ i = .int .i64 k ∧ Keep [] w wr) (fun i _ => n - (intOf i).toNat)
  case atStart => exact ⟨0, by omega, rfl, Keep.refl _ _⟩
  case round =>
    obtain ⟨k, hk, rfl, hkw⟩ := hrel
    by_cases hlt : k < n
    · obtain ⟨b, off, rfl, hc⟩ := HV.out.cells (by omega)
      have hck := hkw.cell (hc k hlt) (by simp)
      have hne : ¬ x = zs.getD k 0 := fun e => HX.out (by
        rw [e, List.getD_eq_getElem?_getD, List.getElem?_eq_getElem (by rw [HV.out.len]; exact hlt)]
        exact List.getElem_mem _)
      generalize zs.getD k 0 = z at *
      have hb : (x == z) = false := by simpa using hne
      clear hc
      go_wp2_with (first | (with_reducible refine Txt.wp_region_text mixed quiet (by decide +kernel) ?_) | (with_reducible refine Txt.text_done (by kernel_rfl) ?_))
      go_roundw
      case rel => exact ⟨k + 1, by omega, by go_num, hkw⟩
      case measure => simp [intOf]; omega
    · go_wp2_with fail
      go_ret
      exact ⟨rfl, hkw⟩
theorem contains_not {a : Option Addr} {n c : Nat} {zs : List Int} {x : Int} {w : World} (h : IntsV w a n c zs) (hx : x ∉ zs) :
    Calls Try.prog 21 #[.slice a n c, .int .i64 x] w fun e w' => e = .returned (.bool false) ∧ Keep [] w w' := by
  have HI := Lib.hid (index_not h hx)
  clear h hx
  go_enter Try.func21, Try.ntmps21
  go_wp2_with (first | (go_at_call 28; refine HI.out.mono ?_; rintro e w2 ⟨rfl, hk2⟩) | (with_reducible refine Txt.wp_region_text mixed quiet (by decide +kernel) ?_) | (with_reducible refine Txt.text_done (by kernel_rfl) ?_))
  go_ret
  exact ⟨rfl, hk2⟩
theorem doubt_yes {b n m : Nat} {N : Int} {g : Gs} {w : World} (h : GAt 55 w b g) (hN : Hid (N = m)) (h1 : 1 ≤ m) (hm : m ≤ n) (hn : n ≤ 8) (hf : Full n g) (hno : ¬ ((m : Int) = g.me ∨ (lat g.rs m).u ≠ 1)) :
    Calls Try.prog 13 #[.pointer (some ⟨b, 0, none⟩), .int .i64 N] w fun e w' => e = .returned (.int .i64 0) ∧ Keep [b] w w' ∧ GAt 55 w' b (doubtG g m) := by
  have hu : (lat g.rs m).u = 1 := by
    by_cases h : (lat g.rs m).u = 1
    · exact h
    · exact absurd (.inr h) hno
  unfold doubtG
  rw [if_neg hno]
  exact (doubt_ok h hN h1 (by omega) ((hf m (by omega)).2 ⟨h1, hm⟩) (by rw [hN.out]; exact fun e => hno (.inl e)) (q := (lat g.rs m).q) (t := (lat g.rs m).g) (by rw [← hu])).mono fun e w' h => h
theorem elig_start (n me m : Nat) (h1 : 1 ≤ m) (h8 : m ≤ 8) : elig (startG ((me : Int)) 1 n) m = others n me me m := by
  unfold elig others
  rw [startG_lat _ _ _ _ (by omega), rowF]
  rw [show (startG (me : Int) 1 n).me = (me : Int) from rfl]
  by_cases h : 1 ≤ m ∧ m ≤ n
  · rw [if_pos h]
    by_cases e : m = me
    · subst e; simp
    · have : (m : Int) ≠ me := by omega
      simp [h.1, h.2, e, this]; omega
  · rw [if_neg h]
    have : ¬ m ≤ n := fun h2 => h ⟨h1, h2⟩
    simp [this]
theorem elig_dead (n me dead m : Nat) (h1 : 1 ≤ m) (h8 : m ≤ 8) (hd : dead ≠ me) (d1 : 1 ≤ dead) (d2 : dead ≤ n) (hn : n ≤ 8) : elig (tickG (doubtG (startG (me : Int) 1 n) dead)) m = others n me dead m := by
  have hl : (startG (me : Int) 1 n).len9 := ⟨by simp [startG], by simp [startG]⟩
  have hdl := doubt_lat hl (show dead < 9 by omega)
  have hdead : lat (startG (me : Int) 1 n).rs dead = ⟨dead, 0, 1⟩ := by rw [startG_lat _ _ _ _ (by omega), rowF, if_pos ⟨d1, d2⟩]
  have hno : ¬ ((dead : Int) = (startG (me : Int) 1 n).me ∨ (lat (startG (me : Int) 1 n).rs dead).u ≠ 1) := by
    rw [hdead]; simp [startG]; omega
  have hts : (doubtG (startG (me : Int) 1 n) dead).ts.getD dead 0 = 0 := by
    unfold doubtG; rw [if_neg hno]; exact getD_set_same (by simp [startG]; omega) 0
  have hrow := (tick_row (doubt_len hl dead) (show m < 9 by omega)).1
  have hhd := tick_head (doubtG (startG (me : Int) 1 n) dead)
  have hhd2 := doubt_head (startG (me : Int) 1 n) dead
  by_cases e : dead = m
  · subst e
    have hd2 : lat (doubtG (startG (me : Int) 1 n) dead).rs dead = ⟨dead, 0, 2⟩ := by rw [hdl, if_pos ⟨rfl, hno⟩, hdead]
    rw [hd2, hts, if_pos ⟨rfl, by rw [hhd2.2.1]; simp [startG]⟩] at hrow
    unfold elig
    rw [hrow]
    simp [others]
  · have hd2 : lat (doubtG (startG (me : Int) 1 n) dead).rs m = rowF n m := by rw [hdl, if_neg (fun h => e h.1), startG_lat _ _ _ _ (by omega)]
    rw [hd2, if_neg (fun h => rowF_u n m h.1)] at hrow
    have := elig_start n me m h1 h8
    unfold elig at this ⊢
    rw [startG_lat _ _ _ _ (by omega)] at this
    rw [hrow, hhd.1, hhd2.1, this]
    unfold others
    have e2 : m ≠ dead := fun h => e h.symm
    by_cases h3 : m = me <;> simp [h3, e2]
end Go.Proofs.Ytmkdppbnmogmlaa
