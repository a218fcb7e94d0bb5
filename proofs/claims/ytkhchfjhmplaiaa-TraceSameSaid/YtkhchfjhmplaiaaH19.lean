import Derived.Test.YtkhchfjhmplaiaaH18
namespace Go
open Go.RowKit
theorem subL_place {h : List Ln} {p : Int} {k : Nat} : ∀ x ∈ atTo h p k, x.q = p := by
  intro x hx
  unfold atTo subL at hx
  obtain ⟨j, hj, rfl⟩ := List.mem_map.1 hx
  have := (List.mem_filter.1 hj).2
  exact of_decide_eq_true this
/-- The events of the first places, counted. -/
def sumAt (h : List Ln) (k : Nat) : Nat → Nat
  | 0 => 0
  | p + 1 => sumAt h k p + rk (plB h p) k
theorem sumAt_succ {h : List Ln} {k : Nat} (h0 : 0 ≤ (lat h k).q) (m : Nat) : sumAt h (k + 1) m = sumAt h k m + (if (lat h k).q < m then 1 else 0) := by
  induction m with
  | zero => rw [if_neg (by omega)]; rfl
  | succ m ih =>
    rw [sumAt, sumAt, ih, rk_succ]
    unfold plB
    generalize lat h k = L at *
    by_cases e1 : L.q = m
    · rw [if_neg (by omega), if_pos (by simpa using e1), if_pos (by omega)]; omega
    · by_cases e2 : L.q < m
      · rw [if_pos e2, if_neg (by simpa using e1), if_pos (by omega)]; omega
      · rw [if_neg e2, if_neg (by simpa using e1), if_neg (by omega)]; omega
theorem sumAt_all {h : List Ln} (hk : HOk h) : ∀ k, k ≤ h.length → sumAt h k 8 = k := by
  intro k
  induction k with
  | zero => intro _; rfl
  | succ k ih =>
    intro hl
    have he := hk.ev k (by omega)
    rw [sumAt_succ he.1, ih (by omega), if_pos (show (lat h k).q < ((8 : Nat) : Int) from he.2.1)]
theorem sumAt_le {h : List Ln} {k p : Nat} : sumAt h k p ≤ p * k := by
  induction p with
  | zero => simp [sumAt]
  | succ p ih => have := rk_le (plB h p) k; rw [sumAt, Nat.succ_mul]; omega
/-- One event more. -/
def moreL (h : List Ln) (r : Int) : List Ln := h ++ [⟨r, 1, 0⟩]
theorem lat_more {h : List Ln} {r : Int} (j : Nat) : lat (moreL h r) j = if j < h.length then lat h j else if j = h.length then ⟨r, 1, 0⟩ else ⟨0, 0, 0⟩ := by
  unfold moreL lat
  rw [List.getD_eq_getElem?_getD]
  by_cases e : j < h.length
  · rw [if_pos e, List.getElem?_append_left e, List.getD_eq_getElem?_getD]
  · rw [if_neg e, List.getElem?_append_right (by omega)]
    by_cases e2 : j = h.length
    · rw [if_pos e2, e2]; simp
    · rw [if_neg e2, List.getElem?_eq_none (by simp; omega)]; rfl
theorem more_ok {h : List Ln} (hk : HOk h) {r : Int} (h0 : 0 ≤ r) (h1 : r < 8) (hl : h.length ≤ 100) : HOk (moreL h r) := by
  have hlen : (moreL h r).length = h.length + 1 := by simp [moreL]
  have hlt : ∀ j, j < (moreL h r).length → j < h.length ∧ lat (moreL h r) j = lat h j ∨ lat (moreL h r) j = ⟨r, 1, 0⟩ := fun j hj => by
    rw [lat_more]
    by_cases e : j < h.length
    · rw [if_pos e]; exact .inl ⟨e, rfl⟩
    · rw [if_neg e, if_pos (by omega)]; exact .inr rfl
  have uniq : ∀ g : Int, g ≠ 1 → (∀ x y, x < y → y < h.length → (lat h x).g = g → (lat h y).g = g → (lat h x).u ≠ (lat h y).u) → ∀ x y, x < y → y < (moreL h r).length → (lat (moreL h r) x).g = g → (lat (moreL h r) y).g = g → (lat (moreL h r) x).u ≠ (lat (moreL h r) y).u := fun g hg hu x y hxy hy e1 e2 => by
    rcases hlt y hy with ⟨h3, h4⟩ | h4
    · rcases hlt x (by omega) with ⟨h5, h6⟩ | h6
      · rw [h6] at e1 ⊢
        rw [h4] at e2 ⊢
        exact hu x y hxy h3 e1 e2
      · rw [h6] at e1; exact absurd e1.symm hg
    · rw [h4] at e2; exact absurd e2.symm hg
  refine ⟨by omega, fun j hj => ?_, uniq 2 (by decide) hk.sends, uniq 3 (by decide) hk.takes, fun j hj hg => ?_⟩
  · rcases hlt j hj with ⟨h3, h4⟩ | h4
    · rw [h4]; exact hk.ev j h3
    · rw [h4]; refine ⟨h0, h1, ?_, ?_, ?_, ?_⟩ <;> (dsimp only; omega)
  · rcases hlt j hj with ⟨h3, h4⟩ | h4
    · rw [h4] at hg ⊢
      obtain ⟨i, hi, h5, h6⟩ := hk.sent j h3 hg
      refine ⟨i, hi, ?_, ?_⟩ <;> (rw [lat_more, if_pos (show i < h.length by omega)]; assumption)
    · rw [h4] at hg; exact absurd hg (show ¬ (1 : Int) = 3 by decide)
theorem at_more {h : List Ln} {r p : Int} : atL (moreL h r) p = atL h p ++ (if r = p then [⟨r, 1, 0⟩] else []) := by
  unfold atL atTo
  rw [show (moreL h r).length = h.length + 1 by simp [moreL], subL_succ]
  have h1 : ∀ k, k ≤ h.length → subL (moreL h r) (plB (moreL h r) p) k = subL h (plB h p) k := fun k => by
    induction k with
    | zero => intro _; rfl
    | succ k ih =>
      intro hk
      have e1 : lat (moreL h r) k = lat h k := by rw [lat_more, if_pos (by omega)]
      have e2 : plB (moreL h r) p k = plB h p k := by unfold plB; rw [e1]
      rw [subL_succ, subL_succ, ih (by omega), e1, e2]
  rw [h1 _ (Nat.le_refl _)]
  have e1 : lat (moreL h r) h.length = ⟨r, 1, 0⟩ := by rw [lat_more, if_neg (by omega), if_pos rfl]
  have e2 : plB (moreL h r) p h.length = decide (r = p) := by unfold plB; rw [e1]
  rw [e1, e2]
  congr 1
  by_cases e : r = p
  · rw [if_pos e, if_pos (by simpa using e)]
  · rw [if_neg e, if_neg (by simpa using e)]
end Go
namespace Go.Proofs.Ytkhchfjhmplaiaa
open Go.RowKit
theorem more_part {h : List Ln} {r : Nat} (hr : r < 8) : Part8 h (moreL h (r : Int)) r := by
  refine ⟨by omega, fun p hp => ?_, fun _ => ?_⟩
  · rw [at_more, if_neg (by omega), List.append_nil]
  · rw [at_more, if_pos rfl]; simp
theorem self_part (h : List Ln) : Part8 h h 8 := ⟨Nat.le_refl _, fun _ _ => rfl, fun h => absurd h (by decide)⟩
set_option maxRecDepth 100000 in
theorem ev38_no {q p g u : Int} {P : Nat} {w : World} (hc : w.cell? ⟨P, 0, none⟩ = some (.int .i64 p)) (hq : q = p) :
    Calls Try.prog 38 #[.agg #[.int .i64 q, .int .i64 g, .int .i64 u], .pointer (some ⟨P, 0, none⟩)] w fun e w' => e = .returned (.bool false) ∧ Keep [] w w' := by
  subst hq
  have hP := World.block_lt_of_cell? _ _ hc
  dsimp only at hP
  have hc2 := ((Keep.refl [] w).alloc (.cells #[.int .i64 q, .int .i64 g, .int .i64 u] 27)).cell hc (by simp)
  go_enter Try.func38, Try.ntmps38
  go_wp2_with fail
  go_ret
  exact ⟨rfl, (Keep.refl _ _).alloc _⟩
set_option maxRecDepth 100000 in
set_option maxHeartbeats 1000000 in
theorem ix68_no {a : Option Addr} {n c P : Nat} {p : Int} {h : List Ln} {w : World} (hx : LnsV w a n c h) (hc : w.cell? ⟨P, 0, none⟩ = some (.int .i64 p)) (hp : ∀ x ∈ h, x.q = p) :
    Calls Try.prog 68 #[.slice a n c, .func (.func 38) #[] #[.pointer (some ⟨P, 0, none⟩)]] w fun e w' => e = .returned (.int .i64 (-1)) ∧ Keep [] w w' := by
  have HX := Lib.hid hx
  have HP := Lib.hid hp
  have HL := Lib.hid hx.len
  have h1 := hx.room
  have h2 := hx.most
  unfold maxLen at h2
  have HC := Lib.hid hc
  clear hx hp hc
  go_enter Try.func68, Try.ntmps68
  go_wp2_with fail
  go_loopw [8] (fun i wr => ∃ k : Nat, k ≤ n ∧ i = .int .i64 k ∧ Keep [] w wr) (fun i _ => n - (intOf i).toNat)
  case atStart => exact ⟨0, by omega, rfl, Keep.refl _ _⟩
  case round =>
    obtain ⟨k, hk, rfl, hkw⟩ := hrel
    by_cases hlt : k < n
    · obtain ⟨b, off, rfl, c0, c1', c2'⟩ := (HX.out.keep hkw (by simp)).at_ hlt
      have hq : (lat h k).q = p := HP.out _ (lat_mem (by rw [HL.out]; exact hlt))
      obtain ⟨⟨q, g, u⟩, hL⟩ : ∃ L, lat h k = L := ⟨_, rfl⟩
      rw [hL] at c0 c1' c2' hq
      dsimp only at c0 c1' c2' hq
      have HQ := Lib.hid hq
      clear hL hq
      go_wp2_with (first | (go_at_call 38; refine (ev38_no (hkw.cell HC.out (by simp)) HQ.out).mono ?_; rintro e w1 ⟨rfl, hk1⟩))
      go_roundw
      case measure => simp [intOf]; omega
      case rel => exact ⟨k + 1, by omega, by go_num, hkw.trans hk1⟩
    · go_wp2_with fail
      go_ret
      exact ⟨rfl, hkw⟩
theorem has37_no {a : Option Addr} {n c P : Nat} {p : Int} {h : List Ln} {w : World} (hx : LnsV w a n c h) (hc : w.cell? ⟨P, 0, none⟩ = some (.int .i64 p)) (hp : ∀ x ∈ h, x.q = p) :
    Calls Try.prog 37 #[.slice a n c, .func (.func 38) #[] #[.pointer (some ⟨P, 0, none⟩)]] w fun e w' => e = .returned (.bool false) ∧ Keep [] w w' := by
  have H := Lib.hid (ix68_no hx hc hp)
  clear hx hc hp
  go_enter Try.func37, Try.ntmps37
  go_wp2_with (first | (go_at_call 68; refine H.out.mono ?_; rintro e w1 ⟨rfl, hk1⟩))
  go_ret
  exact ⟨rfl, hk1⟩
end Go.Proofs.Ytkhchfjhmplaiaa
