import Derived.Test.YtmdfkbckpekchaaK6
namespace Go.Proofs.Ytmdfkbckpekchaa
open Go.RowKit
set_option maxHeartbeats 600000 in
theorem drop_ok {bp bl : Nat} {room : Int} {turn n : Nat} {ls : List Ln} {w : World} (h : PoolAt w bp bl room turn n ls) (hok : PoolOk room n turn ls) {i : Nat} (hi : i < n) :
    Calls Try.prog 40 #[.pointer (some ⟨bp, 0, none⟩), .int .i64 i] w fun e w' => e = .returned (.int .i64 0) ∧ Keep [bp, bl] w w' ∧
      PoolAt w' bp bl room (grantL room (ls.set i ⟨0, 0, 0⟩) turn).2 n (grantL room (ls.set i ⟨0, 0, 0⟩) turn).1 ∧ PoolOk room n turn (ls.set i ⟨0, 0, 0⟩) := by
  have hnew : PoolOk room n turn (ls.set i ⟨0, 0, 0⟩) := hok.put hi ⟨0, 0, 0⟩ (by simp [LnOk]) (by have := getD_ok hok.ok i; unfold LnOk at this; dsimp only; omega)
  obtain ⟨h0, h1, h2, hf⟩ := row3 h.p
  obtain ⟨l0, l1, l2⟩ := h.lane hi
  have lf := thaw h.l
  have hne := h.ne
  have HT := Lib.hid (there_in h hi)
  have HP := Lib.hid h
  have HNEW := Lib.hid hnew
  generalize (ls.getD i ⟨0, 0, 0⟩).q = q at *
  generalize (ls.getD i ⟨0, 0, 0⟩).g = g at *
  generalize (ls.getD i ⟨0, 0, 0⟩).u = u at *
  clear h hok hnew
  go_enter Try.func40, Try.ntmps40
  go_wp2_with (first | (go_at_call 47; (with_reducible refine (HT.out).mono ?_); rintro e w' ⟨rfl, rfl⟩))
  have e1 := HP.out.put hi 0 (by omega) (.int .i64 0) ⟨0, (ls.getD i ⟨0, 0, 0⟩).g, (ls.getD i ⟨0, 0, 0⟩).u⟩ rfl
  have hlen : i < ls.length := by rw [HP.out.len]; exact hi
  have e2 := e1.put hi 1 (by omega) (.int .i64 0) ⟨0, 0, (ls.getD i ⟨0, 0, 0⟩).u⟩ (by rw [getD_set_same _ _ _ hlen]; rfl)
  rw [set_set_same] at e2
  have e3 := e2.put hi 2 (by omega) (.int .i64 0) ⟨0, 0, 0⟩ (by rw [getD_set_same _ _ _ hlen]; rfl)
  rw [set_set_same] at e3
  refine (grant_any (by exact e3) HNEW.out).mono ?_
  rintro e w2 ⟨rfl, hk2, hp3⟩
  clear e1 e2 e3 hlen
  go_wp2_with fail
  go_ret
  refine ⟨rfl, Keep.call ?_ hk2 (by simp), hp3, HNEW.out⟩
  repeat (first | exact Keep.refl _ _ | apply Keep.drew | apply Keep.alloc | refine Keep.setCell ?_ (by simp) _)
set_option maxHeartbeats 600000 in
theorem lane_any {bp bl : Nat} {room turn : Int} {n : Nat} {ls : List Ln} {w : World} (h : PoolAt w bp bl room turn n ls) {i : Nat} (hi : i < n) :
    Calls Try.prog 37 #[.pointer (some ⟨bp, 0, none⟩), .int .i64 i] w fun e w' => e = .returned (.tuple #[.int .i64 (ls.getD i ⟨0, 0, 0⟩).q, .int .i64 (ls.getD i ⟨0, 0, 0⟩).g, .int .i64 (ls.getD i ⟨0, 0, 0⟩).u, .int .i64 0]) ∧ Keep [] w w' := by
  obtain ⟨h0, h1, h2, hf⟩ := row3 h.p
  obtain ⟨l0, l1, l2⟩ := h.lane hi
  have HT := Lib.hid (there_in h hi)
  generalize (ls.getD i ⟨0, 0, 0⟩).q = q at *
  generalize (ls.getD i ⟨0, 0, 0⟩).g = g at *
  generalize (ls.getD i ⟨0, 0, 0⟩).u = u at *
  clear h
  go_enter Try.func37, Try.ntmps37
  go_wp2_with (first | (go_at_call 47; (with_reducible refine (HT.out).mono ?_); rintro e w' ⟨rfl, rfl⟩) | (with_reducible refine Txt.wp_region_text mixed quiet (by kernel_rfl) ?_) | (with_reducible refine Txt.text_done (by kernel_rfl) ?_))
  refine bodyPost_ret (v := .tuple #[.int .i64 q, .int .i64 g, .int .i64 u, .int .i64 0]) (by simp [results, Try.results37, go_sem]) rfl ⟨rfl, ?_⟩
  repeat (first | exact Keep.refl _ _ | apply Keep.drew | apply Keep.alloc | refine Keep.setCell ?_ (by simp) _)
end Go.Proofs.Ytmdfkbckpekchaa
