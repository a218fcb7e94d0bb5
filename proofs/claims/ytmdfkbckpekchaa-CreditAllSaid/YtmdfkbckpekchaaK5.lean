import Derived.Test.YtmdfkbckpekchaaK4
import Derived.Deep.LoopGhost
namespace Go
def give (ls : List Ln) (j : Nat) : List Ln := ls.set j ⟨(ls.getD j ⟨0, 0, 0⟩).q - 1, (ls.getD j ⟨0, 0, 0⟩).g + 1, (ls.getD j ⟨0, 0, 0⟩).u⟩
def grantGo : Nat → List Ln → Nat → List Ln × Nat
  | 0, ls, turn => (ls, turn)
  | m + 1, ls, turn => match nextL ls turn with
    | none => (ls, turn)
    | some j => grantGo m (give ls j) ((j + 1) % ls.length)
def grantL (room : Int) (ls : List Ln) (turn : Nat) : List Ln × Nat := grantGo (room - held ls).toNat ls turn
theorem give_len (ls : List Ln) (j : Nat) : (give ls j).length = ls.length := by simp [give]
theorem held_set (ls : List Ln) : ∀ (j : Nat) (L : Ln), j < ls.length → held (ls.set j L) = held ls - ((ls.getD j ⟨0, 0, 0⟩).g + (ls.getD j ⟨0, 0, 0⟩).u) + (L.g + L.u) := by
  induction ls with
  | nil => intro j L h; simp at h
  | cons l ls ih =>
    intro j L h
    cases j with
    | zero => simp [held]; omega
    | succ j =>
      have := ih j L (by simpa using h)
      simp only [List.set_cons_succ, held, List.getD_cons_succ, this]
      omega
theorem held_give (ls : List Ln) (j : Nat) (h : j < ls.length) : held (give ls j) = held ls + 1 := by
  rw [give, held_set ls j _ h]; dsimp only; omega
theorem nextGo_spec (ls : List Ln) (turn n : Nat) (hn : 0 < n) : ∀ (m k j : Nat), nextGo ls turn n m k = some j → j < n ∧ 0 < (ls.getD j ⟨0, 0, 0⟩).q := by
  intro m
  induction m with
  | zero => intro k j h; cases h
  | succ m ih =>
    intro k j h
    rw [nextGo] at h
    split at h
    · rename_i hq
      obtain rfl := Option.some.inj h
      exact ⟨Nat.mod_lt _ hn, hq⟩
    · exact ih _ _ h
theorem nextL_spec {ls : List Ln} {turn j : Nat} (h : nextL ls turn = some j) : j < ls.length ∧ 0 < (ls.getD j ⟨0, 0, 0⟩).q := by
  by_cases hn : 0 < ls.length
  · exact nextGo_spec ls turn _ hn _ _ _ h
  · rw [nextL, show ls.length = 0 by omega] at h; cases h
end Go
namespace Go.Proofs.Ytmdfkbckpekchaa
open Go.RowKit
/-- What is kept of a pool: small numbers, no more held than there is room. -/
structure PoolOk (room : Int) (n turn : Nat) (ls : List Ln) : Prop where
  len : ls.length = n
  lo : 1 ≤ n
  hi : n ≤ 8
  turn : turn < n
  ok : ∀ l ∈ ls, LnOk l
  r0 : 1 ≤ room
  r1 : room ≤ 64
  held : held ls ≤ room
theorem held_ge {ls : List Ln} (h : ∀ l ∈ ls, LnOk l) (j : Nat) : (ls.getD j ⟨0, 0, 0⟩).g + (ls.getD j ⟨0, 0, 0⟩).u ≤ Go.held ls := by
  by_cases hj : j < ls.length
  · have h1 := held_set ls j ⟨0, 0, 0⟩ hj
    have h2 := held_bd (ls.set j ⟨0, 0, 0⟩) (fun l hl => by
      rcases List.mem_or_eq_of_mem_set hl with h3 | h3
      · exact h l h3
      · rw [h3]; simp [LnOk])
    dsimp only at h1
    omega
  · have := held_bd ls h
    simp only [List.getD_eq_getElem?_getD, List.getElem?_eq_none (show ls.length ≤ j by omega), Option.getD_none]
    omega
theorem PoolOk.give {room : Int} {n t j : Nat} {cs : List Ln} (h : PoolOk room n t cs) (hn : nextL cs t = some j) (hl : Go.held cs < room) : PoolOk room n ((j + 1) % n) (Go.give cs j) := by
  obtain ⟨hj, hq⟩ := nextL_spec hn
  have hlo := h.lo
  have hlen := h.len
  refine ⟨by rw [give_len, hlen], h.lo, h.hi, Nat.mod_lt _ (by omega), fun l hm => ?_, h.r0, h.r1, by rw [held_give _ _ hj]; omega⟩
  rcases List.mem_or_eq_of_mem_set hm with h3 | h3
  · exact h.ok l h3
  · have h1 := getD_ok h.ok j
    have h2 := held_ge h.ok j
    have := h.r1
    rw [h3]
    unfold LnOk at *
    dsimp only
    omega
set_option maxHeartbeats 1000000 in
theorem grant_any {bp bl : Nat} {room : Int} {turn n : Nat} {ls : List Ln} {w : World} (h : PoolAt w bp bl room turn n ls) (hok : PoolOk room n turn ls) :
    Calls Try.prog 48 #[.pointer (some ⟨bp, 0, none⟩)] w fun e w' => e = .returned (.tuple #[]) ∧ Keep [bp, bl] w w' ∧ PoolAt w' bp bl room (grantL room ls turn).2 n (grantL room ls turn).1 := by
  have HP := Lib.hid h
  have HOK := Lib.hid hok
  clear h hok
  go_enter Try.func48, Try.ntmps48
  go_wp2_with fail
  go_loopg [] ((room - held ls).toNat) (fun m wr => ∃ (t : Nat) (cs : List Ln), Hid (grantL room ls turn = grantGo m cs t) ∧ Hid (PoolOk room n t cs) ∧ Hid (m = (room - held cs).toNat) ∧ Keep [bp, bl] w wr ∧ PoolAt wr bp bl room t n cs)
  case atStart => exact ⟨turn, ls, rfl, HOK.out, rfl, Keep.refl _ _, HP.out⟩
  case round =>
    obtain ⟨t, cs, hg, hok, hm, hkw, hp⟩ := hrel
    have hr0 := hok.out.r0
    have hr1 := hok.out.r1
    have hn8 := hok.out.hi
    have ht := hok.out.turn
    have hbd := held_bd cs hok.out.ok
    have HL := Lib.hid (left_any hp hok.out.ok hn8 (by omega) hr1)
    have HHP := Lib.hid hp
    clear hp
    by_cases hl : held cs < room
    · obtain ⟨m, hm1⟩ : ∃ m, gk = m + 1 := ⟨gk - 1, by have := hm.out; omega⟩
      cases hnx : nextL cs t with
      | none =>
        have hend := Lib.hid (show grantL room ls turn = (cs, t) by rw [hg.out, hm1, grantGo, hnx])
        have HNX := Lib.hid hnx
        have HM1 := Lib.hid hm1
        clear hnx hm1
        generalize held cs = hc at *
        go_wp2_with (first | (go_at_call 39; refine (HL.out).mono ?_; rintro e w2 ⟨rfl, hk2⟩; have hp2 := HHP.out.keep hk2 (by simp) (by simp)) | (go_at_call 50; refine (next_any hp2 hn8 ht).mono ?_; rw [HNX.out]; rintro e w3 ⟨rfl, hk3⟩; have hp3 := hp2.keep hk3 (by simp) (by simp)))
        refine bodyPost_ret (results_none rfl _ _ _) rfl ⟨rfl, ?_, ?_⟩
        · exact (hkw.call hk2 (by simp)).call hk3 (by simp)
        · rw [hend.out]; exact hp3
      | some j =>
        have hj := nextL_spec hnx
        have hlen := hok.out.len
        have hjn : j < n := by omega
        have hend := Lib.hid (show grantL room ls turn = grantGo m (give cs j) ((j + 1) % n) by rw [hg.out, hm1, grantGo, hnx, hlen])
        have hnok := Lib.hid (hok.out.give hnx hl)
        have hjl : j < cs.length := hj.1
        have hq := hj.2
        have hh := Lib.hid (held_give cs j hjl)
        have hL := getD_ok hok.out.ok j
        have HNX := Lib.hid hnx
        have HM1 := Lib.hid hm1
        have hmod : ((j : Int) + 1).tmod (n : Int) = (((j + 1) % n : Nat) : Int) := by
          rw [Int.tmod_eq_emod_of_nonneg (by omega)]; simp
        have HG := Lib.hid (show give cs j = cs.set j ⟨(cs.getD j ⟨0, 0, 0⟩).q - 1, (cs.getD j ⟨0, 0, 0⟩).g + 1, (cs.getD j ⟨0, 0, 0⟩).u⟩ from rfl)
        clear hnx hm1 hj hjl hlen
        obtain ⟨L, hLL⟩ : ∃ L, cs.getD j ⟨0, 0, 0⟩ = L := ⟨_, rfl⟩
        rw [hLL] at hL hq HG
        have HLL := Lib.hid hLL
        clear hLL
        obtain ⟨q, g, u⟩ := L
        unfold LnOk at hL
        dsimp only at hL hq HG
        have HC := Lib.hid hm.out
        generalize held cs = hc at *
        go_wp2_with (first | (go_at_call 39; refine (HL.out).mono ?_; rintro e w2 ⟨rfl, hk2⟩; have hp2 := HHP.out.keep hk2 (by simp) (by simp)) | (go_at_call 50; refine (next_any hp2 hn8 ht).mono ?_; rw [HNX.out]; rintro e w3 ⟨rfl, hk3⟩; have hp3 := hp2.keep hk3 (by simp) (by simp); obtain ⟨p0, p1, p2, pf⟩ := row3 hp3.p; obtain ⟨l0, l1, l2⟩ := hp3.lane hjn; rw [HLL.out] at l0 l1 l2; have lf := thaw hp3.l; have hne := hp3.ne; simp only [optI]))
        go_roundg m
        case measure => rw [HM1.out]; omega
        case rel =>
          refine ⟨(j + 1) % n, give cs j, hend, hnok, ?_, ?_, ?_⟩
          · show m = (room - held (give cs j)).toNat
            rw [hh.out]
            have h1 := HM1.out
            have h2 := HC.out
            omega
          · refine Keep.setCell (Keep.setCell (Keep.setCell ?_ (by simp) _) (by simp) _) (by simp) _
            exact (hkw.call hk2 (by simp)).call hk3 (by simp)
          · have e1 := hp3.put hjn 0 (by omega) (.int .i64 (q - 1)) ⟨q - 1, g, u⟩ (by rw [HLL.out]; rfl)
            have e2 := e1.put hjn 1 (by omega) (.int .i64 (g + 1)) ⟨q - 1, g + 1, u⟩ (by rw [getD_set_same _ _ _ (by rw [hp3.len]; omega)]; rfl)
            rw [set_set_same, ← HG.out] at e2
            exact e2.putTurn _
    · have hend := Lib.hid (show grantL room ls turn = (cs, t) by
        have := hm.out
        rw [hg.out, show gk = 0 by omega, grantGo])
      generalize held cs = hc at *
      go_wp2_with (first | (go_at_call 39; refine (HL.out).mono ?_; rintro e w2 ⟨rfl, hk2⟩; have hp2 := HHP.out.keep hk2 (by simp) (by simp)))
      go_end0
      exact ⟨rfl, hkw.call hk2 (by simp), by rw [hend.out]; exact hp2⟩
end Go.Proofs.Ytmdfkbckpekchaa
