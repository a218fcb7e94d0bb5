import Derived.Test.YtmdfkbckpekchaaK9
namespace Go
theorem Keep.more {S S' : List Nat} {w w' : World} (h : Keep S w w') (hs : ∀ b ∈ S, b ∈ S') : Keep S' w w' :=
  ⟨h.os, h.tape, h.output, h.size, fun k hk hn => h.block k hk fun hm => hn (hs k hm)⟩
end Go
namespace Go.Proofs.Ytmdfkbckpekchaa
open Go.RowKit
/-- A pool that is in order. -/
def Pg (w : World) (bp bl : Nat) (room : Int) (n : Nat) : Prop := ∃ (t : Nat) (ls : List Ln), PoolAt w bp bl room t n ls ∧ PoolOk room n t ls ∧ Done room ls
theorem Pg.keep {w w' : World} {bp bl n : Nat} {room : Int} {S : List Nat} (h : Pg w bp bl room n) (k : Keep S w w') (h1 : bp ∉ S) (h2 : bl ∉ S) : Pg w' bp bl room n :=
  let ⟨t, ls, a, b, c⟩ := h; ⟨t, ls, a.keep k h1 h2, b, c⟩
theorem done_use {room : Int} {n t i : Nat} {ls : List Ln} {q g u : Int} (h : PoolOk room n t ls) (hd : Done room ls) (hi : i < n) (hL : ls.getD i ⟨0, 0, 0⟩ = ⟨q, g, u⟩) : Done room (ls.set i ⟨q, g - 1, u + 1⟩) := by
  have hlen : i < ls.length := by rw [h.len]; exact hi
  rcases hd with hd | hd
  · left
    rw [held_set ls i _ hlen, hL]; dsimp only; rw [← hd]; omega
  · right
    intro l hl
    rcases List.mem_or_eq_of_mem_set hl with h3 | h3
    · exact hd l h3
    · rw [h3]
      have : ls.getD i ⟨0, 0, 0⟩ ∈ ls := by
        rw [List.getD_eq_getElem?_getD, List.getElem?_eq_getElem hlen]; exact List.getElem_mem hlen
      have := hd _ this
      rw [hL] at this; exact this
theorem use_gen {bp bl n : Nat} {room : Int} {w : World} (h : Pg w bp bl room n) {i : Nat} (hi : i < n) :
    Calls Try.prog 35 #[.pointer (some ⟨bp, 0, none⟩), .int .i64 i] w fun e w' => ∃ r, e = .returned (.int .i64 r) ∧ Keep [bp, bl] w w' ∧ Pg w' bp bl room n := by
  obtain ⟨t, ls, hp, hok, hd⟩ := h
  obtain ⟨⟨q, g, u⟩, hL⟩ : ∃ L, ls.getD i ⟨0, 0, 0⟩ = L := ⟨_, rfl⟩
  have hb := getD_ok hok.ok i
  have hg := held_ge hok.ok i
  have hr := hok.held
  have hr1 := hok.r1
  rw [hL] at hb hg
  unfold LnOk at hb
  dsimp only at hb hg
  by_cases hg0 : g = 0
  · exact (use_no hp hok hi hL hg0).mono fun e w' ⟨he, hk⟩ => ⟨_, he, hk.more (by simp), t, ls, hp.keep hk (by simp) (by simp), hok, hd⟩
  · exact (use_ok hp hi hL (by omega) (by omega) (by omega) (by omega)).mono fun e w' ⟨he, hk, hp'⟩ => ⟨_, he, hk.more (by simp), t, _, hp', hok.put hi _ (by unfold LnOk; dsimp only; omega) (by rw [hL]; dsimp only; omega), done_use hok hd hi hL⟩
theorem want_gen {bp bl n : Nat} {room : Int} {w : World} (h : Pg w bp bl room n) {i : Nat} (hi : i < n) (m : Int) (hm : 1 ≤ m) (hm1 : m ≤ 64) :
    Calls Try.prog 34 #[.pointer (some ⟨bp, 0, none⟩), .int .i64 i, .int .i64 m] w fun e w' => ∃ r, e = .returned (.int .i64 r) ∧ Keep [bp, bl] w w' ∧ Pg w' bp bl room n := by
  obtain ⟨t, ls, hp, hok, hd⟩ := h
  obtain ⟨⟨q, g, u⟩, hL⟩ : ∃ L, ls.getD i ⟨0, 0, 0⟩ = L := ⟨_, rfl⟩
  by_cases hq : 64 < q + m
  · exact (want_full hp hok hi hL hm hm1 hq).mono fun e w' ⟨he, hk⟩ => ⟨_, he, hk.more (by simp), t, ls, hp.keep hk (by simp) (by simp), hok, hd⟩
  · exact (want_ok hp hok hi hL hm hm1 (by omega)).mono fun e w' ⟨he, hk, hp', hok'⟩ => ⟨_, he, hk, _, _, hp', (grantL_ok hok').1, (grantL_ok hok').2⟩
theorem free_gen {bp bl n : Nat} {room : Int} {w : World} (h : Pg w bp bl room n) {i : Nat} (hi : i < n) :
    Calls Try.prog 36 #[.pointer (some ⟨bp, 0, none⟩), .int .i64 i] w fun e w' => ∃ r, e = .returned (.int .i64 r) ∧ Keep [bp, bl] w w' ∧ Pg w' bp bl room n := by
  obtain ⟨t, ls, hp, hok, hd⟩ := h
  obtain ⟨⟨q, g, u⟩, hL⟩ : ∃ L, ls.getD i ⟨0, 0, 0⟩ = L := ⟨_, rfl⟩
  have hb := getD_ok hok.ok i
  rw [hL] at hb
  unfold LnOk at hb
  dsimp only at hb
  by_cases hu : u = 0
  · exact (free_no hp hok hi hL hu).mono fun e w' ⟨he, hk⟩ => ⟨_, he, hk.more (by simp), t, ls, hp.keep hk (by simp) (by simp), hok, hd⟩
  · exact (free_ok hp hok hi hL (by omega)).mono fun e w' ⟨he, hk, hp', hok'⟩ => ⟨_, he, hk, _, _, hp', (grantL_ok hok').1, (grantL_ok hok').2⟩
theorem drop_gen {bp bl n : Nat} {room : Int} {w : World} (h : Pg w bp bl room n) {i : Nat} (hi : i < n) :
    Calls Try.prog 40 #[.pointer (some ⟨bp, 0, none⟩), .int .i64 i] w fun e w' => ∃ r, e = .returned (.int .i64 r) ∧ Keep [bp, bl] w w' ∧ Pg w' bp bl room n := by
  obtain ⟨t, ls, hp, hok, hd⟩ := h
  exact (drop_ok hp hok hi).mono fun e w' ⟨he, hk, hp', hok'⟩ => ⟨_, he, hk, _, _, hp', (grantL_ok hok').1, (grantL_ok hok').2⟩
theorem rest_ex (k n : Int) (w : World) (hn : 0 < n) (hn1 : n ≤ 1000000000) : Calls Try.prog 20 #[.int .i64 k, .int .i64 n] w fun e w' => ∃ q : Nat, e = .returned (.int .i64 q) ∧ (q : Int) < n ∧ w = w' :=
  (rest_any k n w hn hn1).mono fun e w' ⟨he, hw⟩ => by
    have h0 := restI_lo k hn
    have h1 := restI_hi k hn
    exact ⟨(restI k n).toNat, by rw [he, Int.toNat_of_nonneg h0], by rw [Int.toNat_of_nonneg h0]; exact h1, hw⟩
set_option maxRecDepth 100000 in
set_option maxHeartbeats 1000000 in
theorem pool_any (room : Int) (n : Nat) {a : Option Addr} {len cap : Nat} {zs : List Int} (w : World) (hr0 : 1 ≤ room) (hr1 : room ≤ 64) (h1 : 1 ≤ n) (h8 : n ≤ 8) (hv : IntsV w a len cap zs) :
    Calls Try.prog 38 #[.int .i64 room, .int .i64 n, .slice a len cap] w fun e w' => ∃ bp bl, e = .returned (.tuple #[.pointer (some ⟨bp, 0, none⟩), .bool true]) ∧ w.heap.size ≤ bp ∧ w.heap.size ≤ bl ∧ Keep [] w w' ∧ Pg w' bp bl room n := by
  have hc := hv.room
  have hm := hv.most
  unfold maxLen at hm
  obtain ⟨N, hN, hNl, hN1⟩ : ∃ N : Nat, (if (200 : Int) < (len : Int) then (200 : Int) else (len : Int)) = (N : Int) ∧ N ≤ len ∧ N ≤ 200 :=
    ⟨min 200 len, by split <;> omega, by omega, by omega⟩
  go_enter Try.func38, Try.ntmps38
  go_wp2_with (first | (go_at_call 33; refine (new_any _ _ _ hr0 hr1 h1 h8).mono ?_; rintro e w1 ⟨bp, bl, rfl, hbp, hbl, hk1, hp1, hok1⟩))
  have hpg : Pg w1 bp bl room n := ⟨0, _, hp1, hok1, .inr fun l hl => by rw [zeros, List.mem_replicate] at hl; rw [hl.2]⟩
  clear hp1 hok1
  go_loopw [31] (fun i wr => ∃ k : Nat, k ≤ N ∧ i = .int .i64 k ∧ Keep [] w wr ∧ Pg wr bp bl room n) (fun i _ => 200 - (intOf i).toNat)
  case atStart => exact ⟨0, by omega, rfl, hk1, hpg⟩
  case round =>
    obtain ⟨k, hk, rfl, hkw, hp⟩ := hrel
    by_cases hlt : k < N
    · obtain ⟨b, off, rfl, hcell⟩ := hv.cells (by omega)
      have hck := hkw.cell (hcell k (by omega)) (by simp)
      clear hcell
      generalize zs.getD k 0 = z at *
      have HP := Lib.hid hp
      clear hp hv hpg
      go_wp2_with (first | (go_at_call 20; refine (rest_ex _ _ _ (by omega) (by omega)).mono ?_; rintro e w' ⟨q, rfl, hq, rfl⟩) | (go_at_call 34; refine (want_gen HP.out (by omega) _ (by omega) (by omega)).mono ?_; rintro e w2 ⟨r, rfl, hk2, hp2⟩) | (go_at_call 35; refine (use_gen HP.out (by omega)).mono ?_; rintro e w2 ⟨r, rfl, hk2, hp2⟩) | (go_at_call 36; refine (free_gen HP.out (by omega)).mono ?_; rintro e w2 ⟨r, rfl, hk2, hp2⟩) | (go_at_call 40; refine (drop_gen HP.out (by omega)).mono ?_; rintro e w2 ⟨r, rfl, hk2, hp2⟩))
      all_goals go_roundw
      all_goals first | (case rel => exact ⟨k + 1, by omega, by go_num, hkw.call hk2 (by simp; omega), hp2⟩) | (case rel => exact ⟨k + 1, by omega, by go_num, hkw, HP.out⟩) | (case measure => simp [intOf]; omega) | skip
    · go_wp2_with fail
      go_ret2
      exact ⟨bp, bl, rfl, hbp, hbl, hkw, hp⟩
end Go.Proofs.Ytmdfkbckpekchaa
