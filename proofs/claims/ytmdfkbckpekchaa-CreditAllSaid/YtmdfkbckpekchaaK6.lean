import Derived.Test.YtmdfkbckpekchaaK5
namespace Go.Proofs.Ytmdfkbckpekchaa
open Go.RowKit
theorem PoolOk.put {room : Int} {n t i : Nat} {cs : List Ln} (h : PoolOk room n t cs) (hi : i < n) (L : Ln) (hL : LnOk L) (hh : L.g + L.u ≤ (cs.getD i ⟨0, 0, 0⟩).g + (cs.getD i ⟨0, 0, 0⟩).u) : PoolOk room n t (cs.set i L) := by
  have hlen := h.len
  have hheld := h.held
  refine ⟨by simpa using hlen, h.lo, h.hi, h.turn, fun l hm => ?_, h.r0, h.r1, ?_⟩
  · rcases List.mem_or_eq_of_mem_set hm with h3 | h3
    · exact h.ok l h3
    · rw [h3]; exact hL
  · rw [held_set cs i L (by omega)]; omega
set_option maxHeartbeats 400000 in
theorem use_no {bp bl : Nat} {room : Int} {turn n : Nat} {ls : List Ln} {w : World} (h : PoolAt w bp bl room turn n ls) (hok : PoolOk room n turn ls) {i : Nat} (hi : i < n) {q g u : Int} (hL : ls.getD i ⟨0, 0, 0⟩ = ⟨q, g, u⟩) (hg : g = 0) :
    Calls Try.prog 35 #[.pointer (some ⟨bp, 0, none⟩), .int .i64 i] w fun e w' => e = .returned (.int .i64 9) ∧ Keep [] w w' := by
  obtain ⟨h0, h1, h2, hf⟩ := row3 h.p
  obtain ⟨l0, l1, l2⟩ := h.lane hi
  have lf := thaw h.l
  have hne := h.ne
  have HT := Lib.hid (there_in h hi)
  have hb := getD_ok hok.ok i
  rw [hL] at l0 l1 l2 hb
  unfold LnOk at hb
  dsimp only at hb
  have HP := Lib.hid h
  have HOK := Lib.hid hok
  have HL := Lib.hid hL
  clear h hok hL
  go_enter Try.func35, Try.ntmps35
  go_wp2_with (first | (go_at_call 47; (with_reducible refine (HT.out).mono ?_); rintro e w' ⟨rfl, rfl⟩))
  all_goals go_ret
  all_goals first | exact ⟨rfl, Keep.refl _ _⟩ | (exfalso; simp_all; done) | (exfalso; simp_all; omega)
set_option maxHeartbeats 400000 in
theorem want_full {bp bl : Nat} {room : Int} {turn n : Nat} {ls : List Ln} {w : World} (h : PoolAt w bp bl room turn n ls) (hok : PoolOk room n turn ls) {i : Nat} (hi : i < n) {q g u : Int} (hL : ls.getD i ⟨0, 0, 0⟩ = ⟨q, g, u⟩) {m : Int} (hm : 1 ≤ m) (hm1 : m ≤ 64) (hq : 64 < q + m) :
    Calls Try.prog 34 #[.pointer (some ⟨bp, 0, none⟩), .int .i64 i, .int .i64 m] w fun e w' => e = .returned (.int .i64 6) ∧ Keep [] w w' := by
  obtain ⟨h0, h1, h2, hf⟩ := row3 h.p
  obtain ⟨l0, l1, l2⟩ := h.lane hi
  have lf := thaw h.l
  have hne := h.ne
  have HT := Lib.hid (there_in h hi)
  have hb := getD_ok hok.ok i
  rw [hL] at l0 l1 l2 hb
  unfold LnOk at hb
  dsimp only at hb
  have HP := Lib.hid h
  have HOK := Lib.hid hok
  have HL := Lib.hid hL
  clear h hok hL
  go_enter Try.func34, Try.ntmps34
  go_wp2_with (first | (go_at_call 47; (with_reducible refine (HT.out).mono ?_); rintro e w' ⟨rfl, rfl⟩))
  all_goals go_ret
  all_goals first | exact ⟨rfl, Keep.refl _ _⟩ | (exfalso; simp_all; done) | (exfalso; simp_all; omega)
set_option maxHeartbeats 400000 in
theorem free_no {bp bl : Nat} {room : Int} {turn n : Nat} {ls : List Ln} {w : World} (h : PoolAt w bp bl room turn n ls) (hok : PoolOk room n turn ls) {i : Nat} (hi : i < n) {q g u : Int} (hL : ls.getD i ⟨0, 0, 0⟩ = ⟨q, g, u⟩) (hu : u = 0) :
    Calls Try.prog 36 #[.pointer (some ⟨bp, 0, none⟩), .int .i64 i] w fun e w' => e = .returned (.int .i64 8) ∧ Keep [] w w' := by
  obtain ⟨h0, h1, h2, hf⟩ := row3 h.p
  obtain ⟨l0, l1, l2⟩ := h.lane hi
  have lf := thaw h.l
  have hne := h.ne
  have HT := Lib.hid (there_in h hi)
  have hb := getD_ok hok.ok i
  rw [hL] at l0 l1 l2 hb
  unfold LnOk at hb
  dsimp only at hb
  have HP := Lib.hid h
  have HOK := Lib.hid hok
  have HL := Lib.hid hL
  clear h hok hL
  go_enter Try.func36, Try.ntmps36
  go_wp2_with (first | (go_at_call 47; (with_reducible refine (HT.out).mono ?_); rintro e w' ⟨rfl, rfl⟩))
  all_goals go_ret
  all_goals first | exact ⟨rfl, Keep.refl _ _⟩ | (exfalso; simp_all; done) | (exfalso; simp_all; omega)
set_option maxHeartbeats 600000 in
theorem want_ok {bp bl : Nat} {room : Int} {turn n : Nat} {ls : List Ln} {w : World} (h : PoolAt w bp bl room turn n ls) (hok : PoolOk room n turn ls) {i : Nat} (hi : i < n) {q g u : Int} (hL : ls.getD i ⟨0, 0, 0⟩ = ⟨q, g, u⟩) {m : Int} (hm : 1 ≤ m) (hm1 : m ≤ 64) (hq : q + m ≤ 64) :
    Calls Try.prog 34 #[.pointer (some ⟨bp, 0, none⟩), .int .i64 i, .int .i64 m] w fun e w' => e = .returned (.int .i64 0) ∧ Keep [bp, bl] w w' ∧
      PoolAt w' bp bl room (grantL room (ls.set i ⟨q + m, g, u⟩) turn).2 n (grantL room (ls.set i ⟨q + m, g, u⟩) turn).1 ∧ PoolOk room n turn (ls.set i ⟨q + m, g, u⟩) := by
  have hnew : PoolOk room n turn (ls.set i ⟨q + m, g, u⟩) := hok.put hi ⟨q + m, g, u⟩ (by have := getD_ok hok.ok i; rw [hL] at this; unfold LnOk at *; dsimp only at *; omega) (by rw [hL]; dsimp only; omega)
  obtain ⟨h0, h1, h2, hf⟩ := row3 h.p
  obtain ⟨l0, l1, l2⟩ := h.lane hi
  have lf := thaw h.l
  have hne := h.ne
  have HT := Lib.hid (there_in h hi)
  have hb := getD_ok hok.ok i
  rw [hL] at l0 l1 l2 hb
  unfold LnOk at hb
  dsimp only at hb
  have HP := Lib.hid h
  have HOK := Lib.hid hok
  have HL := Lib.hid hL
  clear h hok hL
  have HNEW := Lib.hid hnew
  clear hnew
  go_enter Try.func34, Try.ntmps34
  go_wp2_with (first | (go_at_call 47; (with_reducible refine (HT.out).mono ?_); rintro e w' ⟨rfl, rfl⟩))
  all_goals first | (exfalso; simp_all; done) | (exfalso; simp_all; omega) | skip
  have hp2 := (HP.out.put hi 0 (by omega) (.int .i64 (q + m)) ⟨q + m, g, u⟩ (by rw [HL.out]; rfl))
  refine (grant_any (by exact hp2) HNEW.out).mono ?_
  rintro e w2 ⟨rfl, hk2, hp3⟩
  go_wp2_with fail
  go_ret
  refine ⟨rfl, Keep.call ?_ hk2 (by simp), hp3, HNEW.out⟩
  repeat (first | exact Keep.refl _ _ | apply Keep.drew | apply Keep.alloc | refine Keep.setCell ?_ (by simp) _)
set_option maxHeartbeats 600000 in
theorem free_ok {bp bl : Nat} {room : Int} {turn n : Nat} {ls : List Ln} {w : World} (h : PoolAt w bp bl room turn n ls) (hok : PoolOk room n turn ls) {i : Nat} (hi : i < n) {q g u : Int} (hL : ls.getD i ⟨0, 0, 0⟩ = ⟨q, g, u⟩) (hu : 0 < u) :
    Calls Try.prog 36 #[.pointer (some ⟨bp, 0, none⟩), .int .i64 i] w fun e w' => e = .returned (.int .i64 0) ∧ Keep [bp, bl] w w' ∧
      PoolAt w' bp bl room (grantL room (ls.set i ⟨q, g, u - 1⟩) turn).2 n (grantL room (ls.set i ⟨q, g, u - 1⟩) turn).1 ∧ PoolOk room n turn (ls.set i ⟨q, g, u - 1⟩) := by
  have hnew : PoolOk room n turn (ls.set i ⟨q, g, u - 1⟩) := hok.put hi ⟨q, g, u - 1⟩ (by have := getD_ok hok.ok i; rw [hL] at this; unfold LnOk at *; dsimp only at *; omega) (by rw [hL]; dsimp only; omega)
  obtain ⟨h0, h1, h2, hf⟩ := row3 h.p
  obtain ⟨l0, l1, l2⟩ := h.lane hi
  have lf := thaw h.l
  have hne := h.ne
  have HT := Lib.hid (there_in h hi)
  have hb := getD_ok hok.ok i
  rw [hL] at l0 l1 l2 hb
  unfold LnOk at hb
  dsimp only at hb
  have HP := Lib.hid h
  have HOK := Lib.hid hok
  have HL := Lib.hid hL
  clear h hok hL
  have HNEW := Lib.hid hnew
  clear hnew
  go_enter Try.func36, Try.ntmps36
  go_wp2_with (first | (go_at_call 47; (with_reducible refine (HT.out).mono ?_); rintro e w' ⟨rfl, rfl⟩))
  all_goals first | (exfalso; simp_all; done) | (exfalso; simp_all; omega) | skip
  have hp2 := (HP.out.put hi 2 (by omega) (.int .i64 (u - 1)) ⟨q, g, u - 1⟩ (by rw [HL.out]; rfl))
  refine (grant_any (by exact hp2) HNEW.out).mono ?_
  rintro e w2 ⟨rfl, hk2, hp3⟩
  go_wp2_with fail
  go_ret
  refine ⟨rfl, Keep.call ?_ hk2 (by simp), hp3, HNEW.out⟩
  repeat (first | exact Keep.refl _ _ | apply Keep.drew | apply Keep.alloc | refine Keep.setCell ?_ (by simp) _)
end Go.Proofs.Ytmdfkbckpekchaa
