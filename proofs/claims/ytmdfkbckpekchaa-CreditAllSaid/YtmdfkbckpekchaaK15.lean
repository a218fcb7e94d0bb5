import Derived.Test.YtmdfkbckpekchaaK14
namespace Go
theorem tot_append (f : Ln → Int) (a b : List Ln) : tot f (a ++ b) = tot f a + tot f b := by
  induction a with
  | nil => simp [tot]
  | cons l a ih => simp [tot, ih]; omega
theorem tot_take_succ (f : Ln → Int) (ls : List Ln) (k : Nat) (h : k < ls.length) : tot f (ls.take (k + 1)) = tot f (ls.take k) + f (lat ls k) := by
  rw [List.take_succ_eq_append_getElem h, tot_append]
  simp [tot, lat, List.getD_eq_getElem?_getD, h]
theorem tot_bd {f : Ln → Int} {ls : List Ln} {b : Int} (h : ∀ l ∈ ls, 0 ≤ f l ∧ f l ≤ b) (k : Nat) : 0 ≤ tot f (ls.take k) ∧ tot f (ls.take k) ≤ b * ls.length := by
  refine ⟨tot_nonneg fun l hl => (h l (List.mem_of_mem_take hl)).1, ?_⟩
  by_cases hl : ls = []
  · subst hl; simp [tot]
  · have hb : 0 ≤ b := by
      obtain ⟨l, hl⟩ := List.exists_mem_of_ne_nil _ hl
      have := h l hl; omega
    refine Int.le_trans (tot_le (b := b) fun l hl => (h l (List.mem_of_mem_take hl)).2) ?_
    rw [List.length_take]
    exact Int.mul_le_mul_of_nonneg_left (by omega) hb
end Go
namespace Go.Proofs.Ytmdfkbckpekchaa
open Go.RowKit
theorem pool_at {N room : Int} {n : Nat} (hN : Hid (N = n)) {a : Option Addr} {len cap : Nat} {zs : List Int} (w : World) (hr0 : 1 ≤ room) (hr1 : room ≤ 64) (h1 : 1 ≤ N) (h8 : N ≤ 8) (hv : IntsV w a len cap zs) :
    Calls Try.prog 38 #[.int .i64 room, .int .i64 N, .slice a len cap] w fun e w' => ∃ bp bl, e = .returned (.tuple #[.pointer (some ⟨bp, 0, none⟩), .bool true]) ∧ w.heap.size ≤ bp ∧ w.heap.size ≤ bl ∧ Keep [] w w' ∧ Pg w' bp bl room n := by
  have := hN.out
  subst this
  exact pool_any room n w hr0 hr1 (by omega) (by omega) hv
theorem rest_nat (k n : Int) (hn : 0 < n) : ∃ q : Nat, restI k n = q ∧ (q : Int) < n := by
  have h0 := restI_lo k hn
  have h1 := restI_hi k hn
  exact ⟨(restI k n).toNat, by omega, by omega⟩
theorem left_acc {bp bl : Nat} {room turn : Int} {n : Nat} {ls : List Ln} {w : World} (h : PoolAt w bp bl room turn n ls) (hok : ∀ l ∈ ls, LnOk l) (hn : n ≤ 8) (hr0 : 0 ≤ room) (hr1 : room ≤ 64) (w' : World) (hk : Keep [] w w') :
    Calls Try.prog 39 #[.pointer (some ⟨bp, 0, none⟩)] w' fun e w'' => e = .returned (.int .i64 (room - held ls)) ∧ Keep [] w w'' :=
  (left_any (h.keep hk (by simp) (by simp)) hok hn hr0 hr1).mono fun _ _ ⟨he, hk'⟩ => ⟨he, hk.call hk' (by simp)⟩
set_option maxHeartbeats 1000000 in
theorem creditRoom_walk (x y : Int) (a : Option Addr) (len cap : Nat) (zs : List Int) (w : World) (hv : IntsV w a len cap zs) :
    Calls Try.prog 9 #[.int .i64 x, .int .i64 y, .slice a len cap] w fun e w' => e = .returned (.bool true) ∧ Keep [] w w' := by
  obtain ⟨r, hr, hr1⟩ := rest_nat x 64 (by omega)
  obtain ⟨q, hq, hq1⟩ := rest_nat y 8 (by omega)
  have HR := Lib.hid hr
  have HQ := Lib.hid hq
  have HN : Hid ((1 : Int) + q = (q + 1 : Nat)) := Lib.hid (by omega)
  have HV := Lib.hid hv
  clear hr hq hv
  go_enter Try.func9, Try.ntmps9
  go_wp2_with (first | (go_at_call 32; refine (begun_any _).mono ?_; rintro e w0 ⟨rfl, hk0⟩) | (go_at_call 20; (with_reducible refine (rest_at HR (by omega) (by omega)).mono ?_); rintro e w' ⟨rfl, rfl⟩) | (go_at_call 20; (with_reducible refine (rest_at HQ (by omega) (by omega)).mono ?_); rintro e w' ⟨rfl, rfl⟩) | (with_reducible refine Txt.wp_region_text mixed quiet (by kernel_rfl) ?_) | (with_reducible refine Txt.text_done (by kernel_rfl) ?_) | (go_at_call 38; refine (pool_at HN _ (by omega) (by omega) (by omega) (by omega) (HV.out.keep hk0 (by simp))).mono ?_; rintro e w1 ⟨bp, bl, rfl, hbp, hbl, hk1, hpg⟩; obtain ⟨t, ls, hp, hok, hd⟩ := hpg; have HP := Lib.hid hp; have HOK := Lib.hid hok; have HD := Lib.hid hd; clear hp hok hd; have hL0 := Lib.hid (left_any HP.out HOK.out.ok HOK.out.hi (by have := HOK.out.r0; omega) HOK.out.r1)) | (go_at_call 39; refine hL0.out.mono ?_; rintro e w2 ⟨rfl, hk2⟩))
  have hp2 := HP.out.keep hk2 (by simp) (by simp)
  have HP2 := Lib.hid hp2
  clear hp2
  have hbd := held_bd ls HOK.out.ok
  have hn8 := HOK.out.hi
  have hln := Lib.hid HOK.out.len
  have hheld := HOK.out.held
  rw [hln.out] at hbd
  have hkw2 : Keep [] w w2 := ((hk0).call hk1 (by simp)).call hk2 (by simp)
  clear hk0 hk1 hk2
  go_loopw [9, 10, 36] (fun s t i wr => ∃ k : Nat, k ≤ q + 1 ∧ i = .int .i64 k ∧ s = .int .i64 (1 + r - held ls + held (ls.take k)) ∧ t = .int .i64 (sq (ls.take k)) ∧ Keep [] w wr ∧ Keep [] w2 wr) (fun _ _ i _ => q + 1 - (intOf i).toNat)
  case atStart => exact ⟨0, by omega, rfl, by simp [held], by simp [sq, tot], hkw2, Keep.refl _ _⟩
  case round =>
    obtain ⟨k, hk, rfl, rfl, rfl, hkw, hkw3⟩ := hrel
    have hb1 := held_bd (ls.take k) (fun l hl => HOK.out.ok l (List.mem_of_mem_take hl))
    have hb2 := tot_bd (f := fun l => l.q) (ls := ls) (b := 64) (fun l hl => ⟨(HOK.out.ok l hl).1, (HOK.out.ok l hl).2.1⟩) k
    rw [List.length_take, hln.out] at hb1
    rw [hln.out] at hb2
    have hb2 : 0 ≤ sq (ls.take k) ∧ sq (ls.take k) ≤ 64 * ((q + 1 : Nat) : Int) := hb2
    by_cases hlt : k < q + 1
    · have HLANE := Lib.hid (lane_any (HP2.out.keep hkw3 (by simp) (by simp)) hlt)
      have hs1 := Lib.hid (held_take_succ ls k (by rw [hln.out]; exact hlt))
      have hs2 := Lib.hid (show sq (ls.take (k + 1)) = sq (ls.take k) + (ls.getD k ⟨0, 0, 0⟩).q from tot_take_succ (fun l => l.q) ls k (by rw [hln.out]; exact hlt))
      have hL := getD_ok HOK.out.ok k
      generalize ls.getD k ⟨0, 0, 0⟩ = L at *
      obtain ⟨q1, g1, u1⟩ := L
      unfold LnOk at hL
      dsimp only at hL HLANE hs1 hs2
      generalize held (ls.take k) = h1 at *
      generalize sq (ls.take k) = h2 at *
      generalize held ls = h3 at *
      go_wp2_with (first | (go_at_call 37; refine HLANE.out.mono ?_; rintro e w3 ⟨rfl, hk3⟩) | (with_reducible refine Txt.wp_region_text mixed quiet (by kernel_rfl) ?_) | (with_reducible refine Txt.text_done (by kernel_rfl) ?_))
      all_goals go_roundw
      all_goals first | (case rel => exact ⟨k + 1, by omega, by go_num, by rw [hs1.out]; first | go_num | (congr 1; omega), by rw [hs2.out], hkw.call hk3 (by simp), hkw3.call hk3 (by simp)⟩) | (case measure => simp [intOf]; omega) | skip
    · have hkn : k = q + 1 := by omega
      have e1 : ls.take k = ls := by rw [hkn, ← hln.out, List.take_length]
      rw [e1] at hb1 hb2
      have e2 : (1 : Int) + r - held ls + held (ls.take k) = 1 + r := by rw [e1]; omega
      have e3 : sq (ls.take k) = sq ls := by rw [e1]
      simp only [e2, e3]
      have hdn : held ls = 1 + r ∨ sq ls = 0 := by
        rcases HD.out with h | h
        · exact .inl h
        · exact .inr (tot_zero h)
      have hok := HOK.out.ok
      have HLEFT := Lib.hid (left_acc HP2.out hok HOK.out.hi (by omega) HOK.out.r1)
      clear hok
      clear e1 e2 e3 hb1
      generalize held ls = h3 at *
      generalize sq ls = h2 at *
      rcases hdn with hdn | hdn
      · subst hdn
        go_wp2_with (first | (go_at_call 39; refine (HLEFT.out _ (by first | exact hk3 | exact hkw3 | exact hkw3.drew)).mono ?_; rintro e w3 ⟨rfl, hk3⟩) | (with_reducible refine Txt.wp_region_text mixed quiet (by kernel_rfl) ?_) | (with_reducible refine Txt.text_done (by kernel_rfl) ?_))
        go_ret
        exact ⟨rfl, hkw2.trans hk3⟩
      · subst hdn
        go_wp2_with (first | (go_at_call 39; refine (HLEFT.out _ (by first | exact hk3 | exact hkw3 | exact hkw3.drew)).mono ?_; rintro e w3 ⟨rfl, hk3⟩) | (with_reducible refine Txt.wp_region_text mixed quiet (by kernel_rfl) ?_) | (with_reducible refine Txt.text_done (by kernel_rfl) ?_))
        all_goals go_ret
        all_goals exact ⟨rfl, hkw2.trans hk3⟩
end Go.Proofs.Ytmdfkbckpekchaa
