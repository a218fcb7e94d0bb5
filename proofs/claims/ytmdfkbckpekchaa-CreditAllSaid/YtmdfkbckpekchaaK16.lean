import Derived.Test.YtmdfkbckpekchaaK15
namespace Go.Proofs.Ytmdfkbckpekchaa
open Go.RowKit
/-- All is held. -/
structure St (w : World) (bp bl : Nat) (room : Int) (t n : Nat) (ls : List Ln) : Prop where
  p : PoolAt w bp bl room t n ls
  ok : PoolOk room n t ls
  full : Go.held ls = room
theorem St.keep {w w' : World} {bp bl t n : Nat} {room : Int} {ls : List Ln} {S : List Nat} (h : St w bp bl room t n ls) (k : Keep S w w') (h1 : bp ∉ S) (h2 : bl ∉ S) : St w' bp bl room t n ls := ⟨h.p.keep k h1 h2, h.ok, h.full⟩
def usedL (n : Nat) (room : Int) (k : Nat) : List Ln := pl n fun x => if x = 0 then ⟨0, room - k, k⟩ else ⟨0, 0, 0⟩
def wantedL (n : Nat) (room : Int) (i : Nat) : List Ln := pl n fun x => ⟨if x < i then 64 else 0, 0, if x = 0 then room else 0⟩
def freedL (n : Nat) (room : Int) (k : Nat) : List Ln := pl n fun x => ⟨64 - cnt n x k, cnt n x k, if x = 0 then room - k else 0⟩
theorem zeros_lonely (n : Nat) : zeros n = lonely n 0 0 := by
  unfold zeros lonely pl
  refine List.ext_getElem? fun x => ?_
  by_cases hx : x < n
  · simp [hx]
  · simp [hx]
theorem lonely_held (n : Nat) (g : Int) (h1 : 1 ≤ n) : Go.held (lonely n 0 g) = g := by
  have h := held_set (zeros n) 0 ⟨0, g, 0⟩ (by simp [zeros]; omega)
  have h2 : Go.held (zeros n) = 0 := by rw [held_tot]; exact tot_zero fun l hl => by rw [zeros, List.mem_replicate] at hl; rw [hl.2]; rfl
  have h3 : (zeros n).set 0 ⟨0, g, 0⟩ = lonely n 0 g := by
    rw [zeros_lonely, lonely, pl_set]
    refine pl_congr fun x _ => ?_
    by_cases e : x = 0 <;> simp [e]
  have h4 : (zeros n).getD 0 ⟨0, 0, 0⟩ = ⟨0, 0, 0⟩ := by
    rw [zeros_lonely]
    have := pl_lat n (fun x => if x = 0 then (⟨0, 0, 0⟩ : Ln) else ⟨0, 0, 0⟩) 0 (by omega)
    unfold lat at this
    rw [lonely, this]; rfl
  rw [h3, h2, h4] at h
  dsimp only at h
  omega
variable {bp bl n : Nat} {room : Int} {w : World}
theorem turns_first (h1 : 1 ≤ n) (hr1 : room ≤ 64) (hr0 : 1 ≤ room) (h : PoolAt w bp bl room (0 : Nat) n (zeros n)) (hok : PoolOk room n 0 (zeros n)) :
    Calls Try.prog 34 #[.pointer (some ⟨bp, 0, none⟩), .int .i64 0, .int .i64 room] w fun e w' => e = .returned (.int .i64 0) ∧ Keep [bp, bl] w w' ∧ St w' bp bl room (1 % n) n (usedL n room 0) := by
  have hz : (zeros n).getD 0 ⟨0, 0, 0⟩ = ⟨0, 0, 0⟩ := by
    rw [zeros_lonely]
    have := pl_lat n (fun x => if x = 0 then (⟨0, 0, 0⟩ : Ln) else ⟨0, 0, 0⟩) 0 (by omega)
    unfold lat at this
    rw [lonely, this]; rfl
  refine (want_ok h hok (i := 0) (by omega) (q := 0) (g := 0) (u := 0) hz (m := room) hr0 hr1 (by omega)).mono fun e w' ⟨a, b, c, d⟩ => ⟨a, b, ?_⟩
  have e1 : (zeros n).set 0 ⟨0 + room, 0, 0⟩ = lonely n room 0 := by
    rw [zeros_lonely, lonely, pl_set]
    refine pl_congr fun x _ => ?_
    by_cases e : x = 0 <;> simp [e]
  have e2 : Go.held (lonely n room 0) = 0 := by
    have h0 := lonely_held n 0 h1
    rw [held_tot] at h0 ⊢
    have h5 := tot_set (fun l => l.g + l.u) (lonely n 0 0) 0 ⟨room, 0, 0⟩ (by rw [lonely, pl_len]; omega)
    have h6 : (lonely n 0 0).set 0 ⟨room, 0, 0⟩ = lonely n room 0 := by
      rw [lonely, pl_set]
      refine pl_congr fun x _ => ?_
      by_cases e : x = 0 <;> simp [e]
    have h7 : lat (lonely n 0 0) 0 = ⟨0, 0, 0⟩ := by rw [lonely, pl_lat _ _ _ (by omega)]; rfl
    rw [h6, h7, h0] at h5
    simpa using h5
  rw [e1] at c d
  have e3 : grantL room (lonely n room 0) 0 = (usedL n room 0, 1 % n) := by
    rw [grantL, e2, lonely_grant n h1 _ _ _ _ (by omega) (by omega), if_neg (by omega)]
    congr 1
    refine pl_congr fun x _ => ?_
    by_cases e : x = 0
    · simp [e]; omega
    · simp [e]
  have hk := grantL_ok d
  rw [e3] at c hk
  refine ⟨c, hk.1, ?_⟩
  have : usedL n room 0 = lonely n 0 room := pl_congr fun x _ => by by_cases e : x = 0 <;> simp [e]
  rw [this]
  exact lonely_held n room h1
theorem turns_use (h1 : 1 ≤ n) (hr1 : room ≤ 64) {k t : Nat} (hk : (k : Int) < room) (h : St w bp bl room t n (usedL n room k)) :
    Calls Try.prog 35 #[.pointer (some ⟨bp, 0, none⟩), .int .i64 0] w fun e w' => e = .returned (.int .i64 0) ∧ Keep [bl] w w' ∧ St w' bp bl room t n (usedL n room (k + 1)) := by
  have hz : (usedL n room k).getD 0 ⟨0, 0, 0⟩ = ⟨0, room - k, k⟩ := pl_lat n _ 0 (by omega)
  refine (use_ok h.p (i := 0) (by omega) hz (by omega) (by omega) (by omega) (by omega)).mono fun e w' ⟨a, b, c⟩ => ⟨a, b, ?_⟩
  have e1 : (usedL n room k).set 0 ⟨0, room - k - 1, (k : Int) + 1⟩ = usedL n room (k + 1) := by
    rw [usedL, pl_set]
    refine pl_congr fun x _ => ?_
    by_cases e : x = 0
    · simp [e]; omega
    · simp [e]
  have hok := h.ok.put (i := 0) (by omega) ⟨0, room - k - 1, (k : Int) + 1⟩ (by unfold LnOk; dsimp only; omega) (by rw [hz]; dsimp only; omega)
  have hh := held_set (usedL n room k) 0 ⟨0, room - k - 1, (k : Int) + 1⟩ (by rw [usedL, pl_len]; omega)
  rw [hz, h.full] at hh
  dsimp only at hh
  rw [e1] at c hok hh
  exact ⟨c, hok, by omega⟩
theorem turns_want {i t : Nat} (hi : i < n) (h : St w bp bl room t n (wantedL n room i)) :
    Calls Try.prog 34 #[.pointer (some ⟨bp, 0, none⟩), .int .i64 i, .int .i64 64] w fun e w' => e = .returned (.int .i64 0) ∧ Keep [bp, bl] w w' ∧ St w' bp bl room t n (wantedL n room (i + 1)) := by
  have hz : (wantedL n room i).getD i ⟨0, 0, 0⟩ = ⟨0, 0, if i = 0 then room else 0⟩ := by
    have := pl_lat n (fun x => (⟨if x < i then 64 else 0, 0, if x = 0 then room else 0⟩ : Ln)) i hi
    unfold lat at this
    rw [wantedL, this, if_neg (by omega)]
  have hzi : i < (wantedL n room i).length := by rw [wantedL, pl_len]; exact hi
  refine (want_ok h.p h.ok hi hz (m := 64) (by omega) (by omega) (by omega)).mono fun e w' ⟨a, b, c, d⟩ => ⟨a, b, ?_⟩
  have e1 : (wantedL n room i).set i ⟨0 + 64, 0, if i = 0 then room else 0⟩ = wantedL n room (i + 1) := by
    rw [wantedL, pl_set]
    refine pl_congr fun x _ => ?_
    by_cases e : x = i
    · subst e; simp
    · rw [if_neg e]
      congr 1
      by_cases e2 : x < i
      · rw [if_pos e2, if_pos (by omega)]
      · rw [if_neg e2, if_neg (by omega)]
  have hh := held_set (wantedL n room i) i ⟨0 + 64, 0, if i = 0 then room else 0⟩ hzi
  rw [hz, h.full] at hh
  dsimp only at hh
  rw [e1] at c d hh
  have e3 : grantL room (wantedL n room (i + 1)) t = (wantedL n room (i + 1), t) := by
    rw [grantL, show (room - Go.held (wantedL n room (i + 1))).toNat = 0 by omega, grantGo]
  rw [e3] at c
  exact ⟨c, d, by omega⟩
theorem turns_free (h1 : 1 ≤ n) (h8 : n ≤ 8) (hr1 : room ≤ 64) {k : Nat} (hk : (k : Int) < room) (h : St w bp bl room ((1 + k) % n) n (freedL n room k)) :
    Calls Try.prog 36 #[.pointer (some ⟨bp, 0, none⟩), .int .i64 0] w fun e w' => e = .returned (.int .i64 0) ∧ Keep [bp, bl] w w' ∧ St w' bp bl room ((1 + (k + 1)) % n) n (freedL n room (k + 1)) := by
  have hm : (1 + k) % n < n := Nat.mod_lt _ (by omega)
  have hz : (freedL n room k).getD 0 ⟨0, 0, 0⟩ = ⟨64 - cnt n 0 k, cnt n 0 k, room - k⟩ := pl_lat n _ 0 (by omega)
  refine (free_ok h.p h.ok (i := 0) (by omega) hz (by omega)).mono fun e w' ⟨a, b, c, d⟩ => ⟨a, b, ?_⟩
  have hh := held_set (freedL n room k) 0 ⟨64 - cnt n 0 k, cnt n 0 k, room - k - 1⟩ (by rw [freedL, pl_len]; omega)
  rw [hz, h.full] at hh
  dsimp only at hh
  have e1 : (freedL n room k).set 0 ⟨64 - cnt n 0 k, cnt n 0 k, room - k - 1⟩ = pl n fun x => ⟨64 - cnt n x k, cnt n x k, if x = 0 then room - k - 1 else 0⟩ := by
    rw [freedL, pl_set]
    refine pl_congr fun x _ => ?_
    by_cases e : x = 0
    · subst e; simp
    · simp [e]
  rw [e1] at c d hh
  have hl2 : (pl n fun x => (⟨64 - cnt n x k, cnt n x k, if x = 0 then room - k - 1 else 0⟩ : Ln)).length = n := pl_len _ _
  have hlat : lat (pl n fun x => (⟨64 - cnt n x k, cnt n x k, if x = 0 then room - k - 1 else 0⟩ : Ln)) ((1 + k) % n) = _ := pl_lat n _ _ hm
  have hq : nextL (pl n fun x => (⟨64 - cnt n x k, cnt n x k, if x = 0 then room - k - 1 else 0⟩ : Ln)) ((1 + k) % n) = some ((1 + k) % n) := nextL_here (by rw [hl2]; exact hm) (by
    rw [hlat]; dsimp only; have := cnt_le n ((1 + k) % n) k h1 h8; omega)
  have hg : give (pl n fun x => (⟨64 - cnt n x k, cnt n x k, if x = 0 then room - k - 1 else 0⟩ : Ln)) ((1 + k) % n) = freedL n room (k + 1) := by
    unfold lat at hlat
    rw [give, hlat, freedL, pl_set]
    refine pl_congr fun x hx => ?_
    have hc := cnt_succ n x k h1 h8 hx
    by_cases e : x = (1 + k) % n
    · rw [if_pos e] at hc ⊢
      rw [← e, hc]
      simp only [Ln.mk.injEq]
      refine ⟨by omega, by omega, ?_⟩
      split <;> omega
    · rw [if_neg e] at hc ⊢
      rw [hc]
      simp only [Ln.mk.injEq]
      refine ⟨by omega, by omega, ?_⟩
      split <;> omega
  have hmod : ((1 + k) % n + 1) % n = (1 + (k + 1)) % n := by rw [Nat.mod_add_mod]; congr 1
  have hh2 := held_give _ _ (by rw [hl2]; exact hm : (1 + k) % n < _)
  have e3 : grantL room (pl n fun x => (⟨64 - cnt n x k, cnt n x k, if x = 0 then room - k - 1 else 0⟩ : Ln)) ((1 + k) % n) = (freedL n room (k + 1), (1 + (k + 1)) % n) := by
    rw [grantL, hh, show (room - (room - ((cnt n 0 k : Int) + (room - k)) + ((cnt n 0 k : Int) + (room - k - 1)))).toNat = 1 by omega, grantGo_one, after, hq]
    dsimp only
    rw [hg, hl2, hmod]
  have hk := grantL_ok d
  rw [e3] at c hk
  rw [hg] at hh2
  exact ⟨c, hk.1, by rw [hh2, hh]; omega⟩
theorem used_wanted (n : Nat) {room : Int} {k : Nat} (h : (k : Int) = room) : usedL n room k = wantedL n room 0 := pl_congr fun x _ => by
  by_cases e : x = 0
  · simp [e]; omega
  · simp [e]
theorem wanted_freed {n : Nat} (h1 : 1 ≤ n) (room : Int) : wantedL n room n = freedL n room 0 := pl_congr fun x hx => by
  simp [cnt_zero n x h1, hx]
theorem freed_lane {n x : Nat} (hx : x < n) (room : Int) (k : Nat) : (freedL n room k).getD x ⟨0, 0, 0⟩ = ⟨64 - cnt n x k, cnt n x k, if x = 0 then room - k else 0⟩ := pl_lat n _ x hx
end Go.Proofs.Ytmdfkbckpekchaa
