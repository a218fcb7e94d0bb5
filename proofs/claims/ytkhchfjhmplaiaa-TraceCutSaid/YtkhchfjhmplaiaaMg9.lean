/- Texts laid together: H37 HP17 HP18 H38 R7 H39 H40. -/
import Derived.Test.YtkhchfjhmplaiaaMg8
import Derived.Shelf.Bytes.SlEqualAll
import Derived.Shelf.Spec.SlicesGrow
import Derived.Laws.AppendOwnNone
namespace Go.Proofs.Ytkhchfjhmplaiaa
open Go.RowKit
theorem RdAt.ent {w : World} {R : Nat} {bs : List Int} {bad : Bool} (h : RdAt w R bs bad) : ∃ a c, w.heap[R]? = some (.cells #[.slice a bs.length c, .bool bad] 101 (0, 0)) ∧ bs.length ≤ c ∧ c ≤ maxLen := by
  obtain ⟨a, c, h1, h2, h3, h4, _⟩ := h
  exact ⟨a, c, h1, h3, h4⟩
/-- A reader: what is left, or that it is spoilt. -/
def RdSt (w : World) (R : Nat) : Option (List Int) → Prop
  | some bs => RdAt w R bs false
  | none => ∃ bs, RdAt w R bs true
def NumP (R : Nat) (o : Option (List Int)) (w : World) (e : Ending) (w' : World) : Prop :=
  ∃ (n : Nat) (o' : Option (List Int)), e = .returned (.int .i64 n) ∧ n < 9223372036854775808 ∧ Keep [R] w w' ∧ RdSt w' R o' ∧ (∀ m r, o.bind rdN = some (m, r) → o' = some r ∧ n = m) ∧ (o.bind rdN = none → o' = none)
set_option maxRecDepth 100000 in
set_option maxHeartbeats 4000000 in
theorem unsigned95_bad {w : World} {R : Nat} {bs : List Int} (h : RdAt w R bs true) :
    Calls Try.prog 95 #[.pointer (some ⟨R, 0, none⟩)] w fun e w' => e = .returned (.int .u64 0) ∧ Keep [R] w w' ∧ RdSt w' R none := by
  have HR := Lib.hid h
  clear h
  go_enter Try.func95, Try.ntmps95
  go_wp2_with fail
  go_loopw [3, 4, 5] (fun u s _ wr => s = .int .i64 0 ∧ u = .int .u64 0 ∧ wr = w) (fun _ _ _ _ => 0)
  case atStart => exact ⟨rfl, rfl, rfl⟩
  case round =>
    obtain ⟨rfl, rfl, rfl⟩ := hrel
    cases bs with
    | nil =>
      go_wp2_with (first | (go_at_call 102; refine (byte102_nil HR.out).mono ?_; rintro e w1 ⟨rfl, hk1, hr1⟩; obtain ⟨v1, hb1, hb1'⟩ := RdAt.blk hr1; obtain ⟨c0, c1, _⟩ := row2 hb1; have hz1 := thaw hb1; have HB1 := Lib.hid hb1; have HB1' := Lib.hid hb1'; have hbl1 := lt_of_blk hb1; clear hr1 hb1 hb1'))
      go_ret
      exact ⟨rfl, hk1.setCell (.inl (by simp)) _, _, bads HB1.out HB1'.out⟩
    | cons b0 r =>
      have hb0 : 0 ≤ b0 ∧ b0 < 256 := by obtain ⟨_, _, _, _, _, _, h5, _⟩ := HR.out; exact h5 b0 (by simp)
      go_wp2_with (first | (go_at_call 102; refine (byte102_cons HR.out).mono ?_; rintro e w1 ⟨rfl, hk1, hr1⟩; obtain ⟨v1, hb1, hb1'⟩ := RdAt.blk hr1; obtain ⟨c0, c1, _⟩ := row2 hb1; have hz1 := thaw hb1; have HB1 := Lib.hid hb1; have HB1' := Lib.hid hb1'; have hbl1 := lt_of_blk hb1; clear hr1 hb1 hb1'))
      go_ret
      exact ⟨rfl, hk1.setCell (.inl (by simp)) _, _, bads HB1.out HB1'.out⟩
set_option maxRecDepth 100000 in
set_option maxHeartbeats 1000000 in
theorem nat83_any {w : World} {R : Nat} {bs : List Int} (h : RdAt w R bs false) :
    Calls Try.prog 83 #[.pointer (some ⟨R, 0, none⟩)] w fun e w' => UnP .i64 9223372036854775808 R bs w e w' := by
  have HBY : Hid (Bytes bs) := Lib.hid (by obtain ⟨_, _, _, _, _, _, h5, _⟩ := h; exact h5)
  have HC := Lib.hid (unsigned95_any h)
  clear h
  go_enter Try.func83, Try.ntmps83
  go_wp2_with (first | (go_at_call 95; refine HC.out.mono ?_; rintro e w1 ⟨u, bs', bad', rfl, hu, hk1, hr1, hg1, hn1⟩; obtain ⟨v1, hb1, hb1'⟩ := RdAt.blk hr1; obtain ⟨c0, c1, _⟩ := row2 hb1; have hz1 := thaw hb1; have HB1 := Lib.hid hb1; have HB1' := Lib.hid hb1'; have HR1 := Lib.hid hr1; have HG1 := Lib.hid hg1; have HN1 := Lib.hid hn1; have hbl1 := lt_of_blk hb1; clear hr1 hb1 hb1' hg1 hn1))
  all_goals go_ret
  · exact ⟨0, bs', true, rfl, by decide, hk1.setCell (.inl (by simp)) _, bads HB1.out HB1'.out, fun n r h => (by
      have h2 := (rdN_some HBY.out h).1
      have h3 := (HG1.out n r h).2.2
      omega), fun _ => .inl rfl⟩
  · exact ⟨u, bs', bad', rfl, by omega, hk1, HR1.out, HG1.out, HN1.out⟩
set_option maxRecDepth 100000 in
theorem nat83_bad {w : World} {R : Nat} {bs : List Int} (h : RdAt w R bs true) :
    Calls Try.prog 83 #[.pointer (some ⟨R, 0, none⟩)] w fun e w' => e = .returned (.int .i64 0) ∧ Keep [R] w w' ∧ RdSt w' R none := by
  have HC := Lib.hid (unsigned95_bad h)
  clear h
  go_enter Try.func83, Try.ntmps83
  go_wp2_with (first | (go_at_call 95; refine HC.out.mono ?_; rintro e w1 ⟨rfl, hk1, hr1⟩; have HR1 := Lib.hid hr1; clear hr1))
  go_ret
  exact ⟨rfl, hk1, HR1.out⟩
set_option maxRecDepth 100000 in
set_option maxHeartbeats 1000000 in
theorem number75_any {w : World} {R : Nat} {o : Option (List Int)} (h : RdSt w R o) :
    Calls Try.prog 75 #[.pointer (some ⟨R, 0, none⟩)] w fun e w' => NumP R o w e w' := by
  cases o with
  | some bs =>
    have h : RdAt w R bs false := h
    have HBY : Hid (Bytes bs) := Lib.hid (by obtain ⟨_, _, _, _, _, _, h5, _⟩ := h; exact h5)
    have HC := Lib.hid (nat83_any h)
    obtain ⟨a, c, hb, hl, hm⟩ := RdAt.ent h
    obtain ⟨c0, c1, _⟩ := row2 hb
    unfold maxLen at hm
    obtain ⟨n, hn⟩ : ∃ n, bs.length = n := ⟨_, rfl⟩
    rw [hn] at c0 hl
    have HL := Lib.hid hn
    clear h hb hn
    go_enter Try.func75, Try.ntmps75
    go_wp2_with (first | (go_at_call 83; refine HC.out.mono ?_; rintro e w1 ⟨u, bs', bad', rfl, hu, hk1, hr1, hg1, hn1⟩; have HR1 := Lib.hid hr1; obtain ⟨a1, c1', hb1, hl1, hm1⟩ := RdAt.ent hr1; obtain ⟨v1, hb2, hb1'⟩ := RdAt.blk hr1; unfold maxLen at hm1; obtain ⟨n1, hn1'⟩ : ∃ n1, bs'.length = n1 := ⟨_, rfl⟩; rw [hn1'] at hb1 hl1; have HL1 := Lib.hid hn1'; obtain ⟨d0, d1, _⟩ := row2 hb1; have hz1 := thaw hb1; have HB1 := Lib.hid hb2; have HB1' := Lib.hid hb1'; have HG1 := Lib.hid hg1; have HN1 := Lib.hid hn1; have hbl1 := lt_of_blk hb1; clear hr1 hb1 hb1' hb2 hg1 hn1 hn1'))
    all_goals go_ret
    · refine ⟨u, none, rfl, hu, hk1.setCell (.inl (by simp)) _, ⟨_, bads HB1.out HB1'.out⟩, fun m r h => ?_, fun _ => rfl⟩
      have h2 := HG1.out m r h
      have h3 := rdN_len HBY.out h
      have := HL.out; have := HL1.out
      rw [h2.2.1] at this
      omega
    · cases bad' with
      | true =>
        refine ⟨u, none, rfl, hu, hk1, ⟨_, HR1.out⟩, fun m r h => ?_, fun _ => rfl⟩
        have h2 := HG1.out m r h
        cases h2.1
      | false =>
        refine ⟨u, some bs', rfl, hu, hk1, HR1.out, fun m r h => ?_, fun h => ?_⟩
        · have h2 := HG1.out m r h
          exact ⟨by rw [h2.2.1], h2.2.2⟩
        · rcases HN1.out h with h2 | h2
          · cases h2
          · have := HL.out; have := HL1.out; omega
  | none =>
    obtain ⟨bs, h⟩ := h
    have HC := Lib.hid (nat83_bad h)
    obtain ⟨a, c, hb, hl, hm⟩ := RdAt.ent h
    obtain ⟨c0, c1, _⟩ := row2 hb
    unfold maxLen at hm
    obtain ⟨n, hn⟩ : ∃ n, bs.length = n := ⟨_, rfl⟩
    rw [hn] at c0 hl
    clear h hb hn
    go_enter Try.func75, Try.ntmps75
    go_wp2_with (first | (go_at_call 83; refine HC.out.mono ?_; rintro e w1 ⟨rfl, hk1, bs', hr1⟩; have HR1 := Lib.hid hr1; obtain ⟨a1, c1', hb1, hl1, hm1⟩ := RdAt.ent hr1; obtain ⟨v1, hb2, hb1'⟩ := RdAt.blk hr1; unfold maxLen at hm1; obtain ⟨n1, hn1'⟩ : ∃ n1, bs'.length = n1 := ⟨_, rfl⟩; rw [hn1'] at hb1 hl1; obtain ⟨d0, d1, _⟩ := row2 hb1; have hz1 := thaw hb1; have HB1 := Lib.hid hb2; have HB1' := Lib.hid hb1'; have hbl1 := lt_of_blk hb1; clear hr1 hb1 hb1' hb2 hn1'))
    all_goals go_ret
    · exact ⟨0, none, rfl, by decide, hk1.setCell (.inl (by simp)) _, ⟨_, bads HB1.out HB1'.out⟩, fun m r h => (by cases h), fun _ => rfl⟩
    · exact ⟨0, none, rfl, by decide, hk1, ⟨_, HR1.out⟩, fun m r h => (by cases h), fun _ => rfl⟩
set_option maxRecDepth 100000 in
theorem done76_any {w : World} {R : Nat} {o : Option (List Int)} {A : Bool} (h : RdSt w R o) (hA : Hid (decide (o = some []) = A)) :
    Calls Try.prog 76 #[.pointer (some ⟨R, 0, none⟩)] w fun e w' => e = .returned (.bool A) ∧ Keep [] w w' := by
  cases o with
  | none =>
    obtain ⟨bs, h⟩ := h
    obtain ⟨a, c, hb, hl, hm⟩ := RdAt.ent h
    obtain ⟨c0, c1, _⟩ := row2 hb
    have HT : Hid (A = false) := Lib.hid (by rw [← hA.out]; rfl)
    clear h hb hA
    go_enter Try.func76, Try.ntmps76
    go_wp2_with (first | (with_reducible refine Txt.wp_region_text mixed quiet (by decide +kernel) ?_) | (with_reducible refine Txt.text_done (by kernel_rfl) ?_))
    go_ret
    exact ⟨by rw [HT.out]; rfl, by repeat (first | exact Keep.refl _ _ | apply Keep.drew)⟩
  | some bs =>
    have h : RdAt w R bs false := h
    obtain ⟨a, c, hb, hl, hm⟩ := RdAt.ent h
    obtain ⟨c0, c1, _⟩ := row2 hb
    obtain ⟨n, hn⟩ : ∃ n, bs.length = n := ⟨_, rfl⟩
    rw [hn] at c0 hl
    have HD : Hid (A = decide (n = 0)) := Lib.hid (by
      rw [← hn, ← hA.out]
      cases bs <;> simp)
    clear h hb hn hA
    by_cases h0 : n = 0
    · subst h0
      go_enter Try.func76, Try.ntmps76
      go_wp2_with (first | (with_reducible refine Txt.wp_region_text mixed quiet (by decide +kernel) ?_) | (with_reducible refine Txt.text_done (by kernel_rfl) ?_))
      go_ret
      exact ⟨by rw [HD.out]; rfl, by repeat (first | exact Keep.refl _ _ | apply Keep.drew)⟩
    · have hb : ((n : Int) == 0) = false := beq_eq_false_iff_ne.2 (by omega)
      go_enter Try.func76, Try.ntmps76
      go_wp2_with (first | (with_reducible refine Txt.wp_region_text mixed quiet (by decide +kernel) ?_) | (with_reducible refine Txt.text_done (by kernel_rfl) ?_))
      go_ret
      exact ⟨by rw [HD.out, decide_eq_false h0]; rfl, by repeat (first | exact Keep.refl _ _ | apply Keep.drew)⟩
end Go.Proofs.Ytkhchfjhmplaiaa
namespace Go
open Go.RowKit
/-- An event as it was read. -/
structure EvOk (L : Ln) : Prop where
  q : 0 ≤ L.q ∧ 3 * L.q + L.g ≤ 2097152
  g : 1 ≤ L.g ∧ L.g ≤ 3
  u : 0 ≤ L.u ∧ L.u < 2097152
  loc : L.g = 1 → L.u = 0
def rdE (bs : List Int) : Option (Ln × List Int) := (rdN bs).bind fun p => if p.1 % 3 = 0 then some (⟨(p.1 / 3 : Nat), 1, 0⟩, p.2) else (rdN p.2).bind fun p2 => some (⟨(p.1 / 3 : Nat), ((p.1 % 3 + 1 : Nat) : Int), (p2.1 : Nat)⟩, p2.2)
def decTo : Nat → List Int → Option (List Ln × List Int)
  | 0, bs => some ([], bs)
  | k + 1, bs => (decTo k bs).bind fun p => (rdE p.2).bind fun p2 => some (p.1 ++ [p2.1], p2.2)
def evsB (l : List Ln) : List Int := l.flatMap evB
theorem evsB_snoc (l : List Ln) (L : Ln) : evsB (l ++ [L]) = evsB l ++ evB L := by simp [evsB]
theorem packB_eq (h : List Ln) : packB h = encN h.length ++ evsB h := by
  have key : ∀ k, k ≤ h.length → packTo h k = encN h.length ++ evsB (h.take k) := by
    intro k
    induction k with
    | zero => intro _; simp [packTo, evsB]
    | succ k ih =>
      intro hk
      have e : h.take (k + 1) = h.take k ++ [lat h k] := by
        rw [List.take_succ_eq_append_getElem (by omega)]
        congr 2
        simp [lat, List.getD_eq_getElem?_getD, show k < h.length by omega]
      rw [packTo, ih (by omega), e, evsB_snoc, List.append_assoc]
  have := key h.length (Nat.le_refl _)
  rw [List.take_length] at this
  exact this
theorem rdE_some {bs r : List Int} {L : Ln} (hb : Bytes bs) (h : rdE bs = some (L, r)) : EvOk L ∧ bs = evB L ++ r ∧ Bytes r := by
  unfold rdE at h
  cases h1 : rdN bs with
  | none => rw [h1] at h; cases h
  | some p =>
    obtain ⟨k, r1⟩ := p
    obtain ⟨hk, he⟩ := rdN_some hb h1
    obtain ⟨_, _, hb1⟩ := rdN_len hb h1
    rw [h1, Option.bind_some] at h
    dsimp only at h
    by_cases e : k % 3 = 0
    · rw [if_pos e] at h
      obtain ⟨rfl, rfl⟩ := Prod.mk.inj (Option.some.inj h)
      refine ⟨⟨by dsimp only; omega, by dsimp only; omega, by dsimp only; omega, fun _ => rfl⟩, ?_, hb1⟩
      rw [he]
      unfold evB
      rw [if_pos rfl, List.append_nil]
      congr 2
      dsimp only; omega
    · rw [if_neg e] at h
      cases h2 : rdN r1 with
      | none => rw [h2] at h; cases h
      | some p2 =>
        obtain ⟨m, r2⟩ := p2
        obtain ⟨hm, he2⟩ := rdN_some hb1 h2
        obtain ⟨_, _, hb2⟩ := rdN_len hb1 h2
        rw [h2, Option.bind_some] at h
        obtain ⟨rfl, rfl⟩ := Prod.mk.inj (Option.some.inj h)
        refine ⟨⟨by dsimp only; omega, by dsimp only; omega, by dsimp only; omega, fun h9 => absurd h9 (by dsimp only; omega)⟩, ?_, hb2⟩
        rw [he, he2]
        unfold evB
        rw [if_neg (by dsimp only; omega), List.append_assoc]
        congr 2
        dsimp only; omega
theorem rdE_enc {L : Ln} (h : EvOk L) (r : List Int) : rdE (evB L ++ r) = some (L, r) := by
  obtain ⟨q, g, u⟩ := L
  have h1 := h.q; have h2 := h.g; have h3 := h.u; have h4 := h.loc
  dsimp only at h1 h2 h3 h4
  unfold rdE evB
  dsimp only
  by_cases e : g = 1
  · have h5 := h4 e
    subst e; subst h5
    rw [if_pos rfl, List.append_nil, rdN_enc (by omega), Option.bind_some]
    dsimp only
    rw [if_pos (by omega)]
    congr 2
    rw [Ln.mk.injEq]
    exact ⟨by omega, rfl, rfl⟩
  · rw [if_neg e, List.append_assoc, rdN_enc (by omega), Option.bind_some]
    dsimp only
    rw [if_neg (by omega), rdN_enc (by omega), Option.bind_some]
    congr 2
    rw [Ln.mk.injEq]
    exact ⟨by omega, by omega, by omega⟩
theorem rdE_more {bs r : List Int} {L : Ln} (h : rdE bs = some (L, r)) (s : List Int) : rdE (bs ++ s) = some (L, r ++ s) := by
  unfold rdE at h ⊢
  cases h1 : rdN bs with
  | none => rw [h1] at h; cases h
  | some p =>
    obtain ⟨k, r1⟩ := p
    rw [rdN_more h1 s]
    rw [h1, Option.bind_some] at h
    rw [Option.bind_some]
    dsimp only at h ⊢
    by_cases e : k % 3 = 0
    · rw [if_pos e] at h ⊢
      obtain ⟨rfl, rfl⟩ := Prod.mk.inj (Option.some.inj h); rfl
    · rw [if_neg e] at h ⊢
      cases h2 : rdN r1 with
      | none => rw [h2] at h; cases h
      | some p2 =>
        obtain ⟨m, r2⟩ := p2
        rw [rdN_more h2 s]
        rw [h2, Option.bind_some] at h
        rw [Option.bind_some]
        obtain ⟨rfl, rfl⟩ := Prod.mk.inj (Option.some.inj h); rfl
theorem decTo_some {bs : List Int} (hb : Bytes bs) : ∀ (k : Nat) (l : List Ln) (r : List Int), decTo k bs = some (l, r) → l.length = k ∧ (∀ L ∈ l, EvOk L) ∧ bs = evsB l ++ r ∧ Bytes r := by
  intro k
  induction k with
  | zero =>
    intro l r h
    obtain ⟨rfl, rfl⟩ := Prod.mk.inj (Option.some.inj h)
    exact ⟨rfl, fun L h => absurd h (by simp), by simp [evsB], hb⟩
  | succ k ih =>
    intro l r h
    rw [decTo] at h
    cases h1 : decTo k bs with
    | none => rw [h1] at h; cases h
    | some p =>
      obtain ⟨l1, r1⟩ := p
      obtain ⟨i1, i2, i3, i4⟩ := ih l1 r1 h1
      rw [h1, Option.bind_some] at h
      dsimp only at h
      cases h2 : rdE r1 with
      | none => rw [h2] at h; cases h
      | some p2 =>
        obtain ⟨L, r2⟩ := p2
        obtain ⟨j1, j2, j3⟩ := rdE_some i4 h2
        rw [h2, Option.bind_some] at h
        obtain ⟨rfl, rfl⟩ := Prod.mk.inj (Option.some.inj h)
        refine ⟨by simp [i1], fun M hM => ?_, ?_, j3⟩
        · rcases List.mem_append.1 hM with h9 | h9
          · exact i2 M h9
          · rw [List.mem_singleton.1 h9]; exact j1
        · rw [evsB_snoc, List.append_assoc, ← j2]; exact i3
theorem decTo_enc {h : List Ln} (he : ∀ L ∈ h, EvOk L) (r : List Int) : ∀ (k : Nat), k ≤ h.length → decTo k (evsB h ++ r) = some (h.take k, evsB (h.drop k) ++ r) := by
  intro k
  induction k with
  | zero => intro _; rw [decTo]; simp
  | succ k ih =>
    intro hk
    have e : h.take (k + 1) = h.take k ++ [h[k]] := List.take_succ_eq_append_getElem (by omega)
    have e2 : h.drop k = h[k] :: h.drop (k + 1) := List.drop_eq_getElem_cons (by omega)
    rw [decTo, ih (by omega), Option.bind_some]
    dsimp only
    rw [e2, show evsB (h[k] :: h.drop (k + 1)) = evB h[k] ++ evsB (h.drop (k + 1)) from List.flatMap_cons, List.append_assoc, rdE_enc (he _ (List.getElem_mem _)), Option.bind_some, e]
theorem decTo_more {bs : List Int} (s : List Int) : ∀ (k : Nat) (l : List Ln) (r : List Int), decTo k bs = some (l, r) → decTo k (bs ++ s) = some (l, r ++ s) := by
  intro k
  induction k with
  | zero =>
    intro l r h
    obtain ⟨rfl, rfl⟩ := Prod.mk.inj (Option.some.inj h); rfl
  | succ k ih =>
    intro l r h
    rw [decTo] at h ⊢
    cases h1 : decTo k bs with
    | none => rw [h1] at h; cases h
    | some p =>
      obtain ⟨l1, r1⟩ := p
      rw [ih l1 r1 h1, Option.bind_some]
      rw [h1, Option.bind_some] at h
      dsimp only at h ⊢
      cases h2 : rdE r1 with
      | none => rw [h2] at h; cases h
      | some p2 =>
        obtain ⟨L, r2⟩ := p2
        rw [rdE_more h2 s, Option.bind_some]
        rw [h2, Option.bind_some] at h
        obtain ⟨rfl, rfl⟩ := Prod.mk.inj (Option.some.inj h); rfl
/-- What the bytes are of: a history, not yet examined. -/
def decB (bs : List Int) : Option (List Ln) := (rdN bs).bind fun p => if 200 < p.1 then none else (decTo p.1 p.2).bind fun p2 => if p2.2 = [] then some p2.1 else none
/-- The bytes end too early, or too late. -/
def Short (bs : List Int) : Prop := rdN bs = none ∨ ∃ k r, rdN bs = some (k, r) ∧ k ≤ 200 ∧ ∀ l, decTo k r ≠ some (l, [])
theorem decB_pack {bs : List Int} (hb : Bytes bs) {h : List Ln} (hd : decB bs = some h) : packB h = bs ∧ ∀ L ∈ h, EvOk L := by
  unfold decB at hd
  cases h1 : rdN bs with
  | none => rw [h1] at hd; cases hd
  | some p =>
    obtain ⟨k, r⟩ := p
    obtain ⟨_, he⟩ := rdN_some hb h1
    obtain ⟨_, _, hb1⟩ := rdN_len hb h1
    rw [h1, Option.bind_some] at hd
    dsimp only at hd
    by_cases e : 200 < k
    · rw [if_pos e] at hd; cases hd
    · rw [if_neg e] at hd
      cases h2 : decTo k r with
      | none => rw [h2] at hd; cases hd
      | some p2 =>
        obtain ⟨l, r2⟩ := p2
        obtain ⟨i1, i2, i3, _⟩ := decTo_some hb1 k l r2 h2
        rw [h2, Option.bind_some] at hd
        dsimp only at hd
        by_cases e2 : r2 = []
        · rw [if_pos e2] at hd
          obtain rfl := Option.some.inj hd
          refine ⟨?_, i2⟩
          rw [packB_eq, i1, he, i3, e2, List.append_nil]
        · rw [if_neg e2] at hd; cases hd
theorem pack_dec {h : List Ln} (hl : h.length ≤ 200) (he : ∀ L ∈ h, EvOk L) : decB (packB h) = some h := by
  unfold decB
  rw [packB_eq, rdN_enc (by omega), Option.bind_some]
  dsimp only
  have := decTo_enc he [] h.length (Nat.le_refl _)
  rw [List.append_nil, List.take_length, List.drop_length] at this
  rw [if_neg (by omega), this, Option.bind_some]
  rfl
theorem pack_inj {h g : List Ln} (hl : h.length ≤ 200) (he : ∀ L ∈ h, EvOk L) (gl : g.length ≤ 200) (ge : ∀ L ∈ g, EvOk L) (e : packB h = packB g) : h = g := by
  have h1 := pack_dec hl he
  rw [e, pack_dec gl ge] at h1
  exact (Option.some.inj h1).symm
theorem pack_cut {h : List Ln} (hl : h.length ≤ 200) (he : ∀ L ∈ h, EvOk L) {p s : List Int} (hs : s ≠ []) (e : packB h = p ++ s) : Short p := by
  cases h1 : rdN p with
  | none => exact .inl h1
  | some x =>
    obtain ⟨k, r⟩ := x
    have h2 := rdN_more h1 s
    rw [← e, packB_eq, rdN_enc (by omega)] at h2
    obtain ⟨rfl, hr⟩ := Prod.mk.inj (Option.some.inj h2)
    refine .inr ⟨h.length, r, h1, hl, fun l h3 => hs ?_⟩
    have h4 := decTo_more s _ _ _ h3
    have h5 := decTo_enc he [] h.length (Nat.le_refl _)
    rw [List.append_nil, List.take_length, List.drop_length, hr] at h5
    rw [h5] at h4
    have h6 := (Prod.mk.inj (Option.some.inj h4)).2
    simpa [evsB] using h6.symm
theorem pack_long {h : List Ln} (hl : h.length ≤ 200) (he : ∀ L ∈ h, EvOk L) {s : List Int} (hs : s ≠ []) : Short (packB h ++ s) := by
  refine .inr ⟨h.length, evsB h ++ s, ?_, hl, fun l h3 => hs ?_⟩
  · rw [packB_eq, List.append_assoc, rdN_enc (by omega)]
  · have h5 := decTo_enc he s h.length (Nat.le_refl _)
    rw [List.take_length, List.drop_length] at h5
    rw [h5] at h3
    have h6 := (Prod.mk.inj (Option.some.inj h3)).2
    simpa [evsB] using h6
theorem short_dec {bs : List Int} (h : Short bs) : decB bs = none := by
  unfold decB
  rcases h with h | ⟨k, r, h1, h2, h3⟩
  · rw [h]; rfl
  · rw [h1, Option.bind_some]
    dsimp only
    rw [if_neg (by omega)]
    cases h4 : decTo k r with
    | none => rfl
    | some p =>
      obtain ⟨l, r2⟩ := p
      rw [Option.bind_some]
      dsimp only
      by_cases e : r2 = []
      · subst e; exact absurd h4 (h3 l)
      · rw [if_neg e]
end Go
namespace Go
/-- What a number that was read says of what is left. -/
structure Took (o : Option (List Int)) (n : Nat) (o' : Option (List Int)) : Prop where
  some : ∀ m r, o.bind rdN = some (m, r) → o' = some r ∧ n = m
  none : o.bind rdN = none → o' = none
theorem took_local {o o' : Option (List Int)} {n : Nat} (t : Took o n o') (e : n % 3 = 0) : o' = (o.bind rdE).map (·.2) ∧ ∀ L r, o.bind rdE = some (L, r) → L = ⟨(n / 3 : Nat), 1, 0⟩ := by
  cases o with
  | none => exact ⟨t.none rfl, fun L r h => by cases h⟩
  | some bs =>
    have t1 := t.some
    have t2 := t.none
    rw [Option.bind_some] at t1 t2 ⊢
    unfold rdE
    cases h : rdN bs with
    | none => exact ⟨t2 h, fun L r h => by cases h⟩
    | some p =>
      obtain ⟨m, r⟩ := p
      obtain ⟨h1, rfl⟩ := t1 m r h
      rw [Option.bind_some]
      dsimp only
      rw [if_pos e]
      exact ⟨h1, fun L r h => (Prod.mk.inj (Option.some.inj h)).1.symm⟩
theorem took_msg {o o' o2 : Option (List Int)} {n m : Nat} (t : Took o n o') (t' : Took o' m o2) (e : ¬ n % 3 = 0) : o2 = (o.bind rdE).map (·.2) ∧ ∀ L r, o.bind rdE = some (L, r) → L = ⟨(n / 3 : Nat), ((n % 3 + 1 : Nat) : Int), (m : Nat)⟩ := by
  cases o with
  | none =>
    have h1 := t.none rfl
    subst h1
    exact ⟨t'.none rfl, fun L r h => by cases h⟩
  | some bs =>
    have t1 := t.some
    have t2 := t.none
    rw [Option.bind_some] at t1 t2 ⊢
    unfold rdE
    cases h : rdN bs with
    | none =>
      have h1 := t2 h
      subst h1
      exact ⟨t'.none rfl, fun L r h => by cases h⟩
    | some p =>
      obtain ⟨m1, r⟩ := p
      obtain ⟨h1, rfl⟩ := t1 m1 r h
      subst h1
      rw [Option.bind_some]
      dsimp only
      rw [if_neg e]
      have t3 := t'.some
      have t4 := t'.none
      rw [Option.bind_some] at t3 t4
      cases h2 : rdN r with
      | none => exact ⟨t4 h2, fun L r h => by cases h⟩
      | some p2 =>
        obtain ⟨m2, r2⟩ := p2
        obtain ⟨h3, rfl⟩ := t3 m2 r2 h2
        exact ⟨h3, fun L r h => (Prod.mk.inj (Option.some.inj h)).1.symm⟩
theorem dec_map (k : Nat) (bs : List Int) : (decTo (k + 1) bs).map (·.2) = (((decTo k bs).map (·.2)).bind rdE).map (·.2) := by
  rw [decTo]
  cases decTo k bs with
  | none => rfl
  | some p =>
    rw [Option.bind_some, Option.map_some, Option.bind_some]
    cases rdE p.2 <;> rfl
theorem dec_last {k : Nat} {bs r : List Int} {l : List Ln} (h : decTo (k + 1) bs = some (l, r)) : ∃ l0 r0 L, decTo k bs = some (l0, r0) ∧ ((decTo k bs).map (·.2)).bind rdE = some (L, r) ∧ l = l0 ++ [L] := by
  rw [decTo] at h
  cases h1 : decTo k bs with
  | none => rw [h1] at h; cases h
  | some p =>
    obtain ⟨l0, r0⟩ := p
    rw [h1, Option.bind_some] at h
    dsimp only at h
    cases h2 : rdE r0 with
    | none => rw [h2] at h; cases h
    | some p2 =>
      obtain ⟨L, r2⟩ := p2
      rw [h2, Option.bind_some] at h
      obtain ⟨rfl, rfl⟩ := Prod.mk.inj (Option.some.inj h)
      exact ⟨l0, r0, L, rfl, h2, rfl⟩
/-- The events so far. -/
structure DecAt (bs : List Int) (k : Nat) (l : List Ln) : Prop where
  len : l.length = k
  is : ∀ l' r, decTo k bs = some (l', r) → l = l'
theorem DecAt.step {bs : List Int} {k : Nat} {l : List Ln} (d : DecAt bs k l) {L : Ln} (h : ∀ L' r, ((decTo k bs).map (·.2)).bind rdE = some (L', r) → L' = L) : DecAt bs (k + 1) (l ++ [L]) := by
  refine ⟨by simp [d.len], fun l' r h1 => ?_⟩
  obtain ⟨l0, r0, L', h2, h3, rfl⟩ := dec_last h1
  rw [d.is _ _ h2, h _ _ h3]
end Go
namespace Go.Proofs.Ytkhchfjhmplaiaa
open Go.RowKit
/-- What Unpack tells of the bytes. -/
def UpP (bs : List Int) (w : World) (e : Ending) (w' : World) : Prop :=
  ∃ (v : Value) (x : Int), e = .returned (.tuple #[v, .int .i64 x]) ∧ Keep [] w w' ∧ (x = 0 → ∃ a c h n, v = .slice a n c ∧ n = h.length ∧ LnsV w' a n c h ∧ HOk h ∧ decB bs = some h) ∧ (x ≠ 0 → v = .slice none 0 0) ∧ (∀ h, decB bs = some h → HOk h → bs.length ≤ 4000 → x = 0) ∧ (Short bs → bs.length ≤ 4000 → x = 3)
theorem cells_set (w : World) (a i : Nat) (v : Value) (vs : List Value) (T : TypeId) : ∀ j u, vs[j]? = some u → ((w.setCell ⟨a, i, none⟩ v).alloc (.cells vs.toArray T)).cell? ((⟨w.heap.size, 0, none⟩ : Addr).add j) = some u := by
  have h := cells_new (w.setCell ⟨a, i, none⟩ v) vs T (0, 0)
  have e : (w.setCell ⟨a, i, none⟩ v).heap.size = w.heap.size := by simp [World.setCell]
  rw [e] at h
  exact h
theorem RdSt.keep {w w' : World} {R : Nat} {o : Option (List Int)} (h : RdSt w R o) (hk : Keep [] w w') : RdSt w' R o := by
  cases o with
  | some bs => exact RdAt.keep (show RdAt w R bs false from h) hk
  | none =>
    obtain ⟨bs, h⟩ := h
    exact ⟨bs, RdAt.keep h hk⟩
theorem RdAt.above {S : List Nat} {w w' : World} {R : Nat} {bs : List Int} {bad : Bool} (h : RdAt w R bs bad) (hk : Keep S w w') (hS : ∀ s ∈ S, R < s) : RdAt w' R bs bad := by
  obtain ⟨a, c, h1, h2, h3, h4, h5, h6⟩ := h
  exact ⟨a, c, hk.at h1 (fun h => Nat.lt_irrefl _ (hS _ h)), fun hn => (by
    obtain ⟨b, o, e, hc⟩ := h2 hn
    have hlt : b < R := h6 hn _ e
    exact ⟨b, o, e, fun i hi => hk.cell (hc i hi) (fun h => by have := hS _ h; simp at this; omega)⟩), h3, h4, h5, h6⟩
theorem RdSt.above {S : List Nat} {w w' : World} {R : Nat} {o : Option (List Int)} (h : RdSt w R o) (hk : Keep S w w') (hS : ∀ s ∈ S, R < s) : RdSt w' R o := by
  cases o with
  | some bs => exact RdAt.above (show RdAt w R bs false from h) hk hS
  | none =>
    obtain ⟨bs, h⟩ := h
    exact ⟨bs, RdAt.above h hk hS⟩
theorem RdSt.badCell {w : World} {R : Nat} {o : Option (List Int)} (h : RdSt w R o) : w.cell? ⟨R, 1, none⟩ = some (.bool o.isNone) ∧ R < w.heap.size := by
  cases o with
  | some bs =>
    obtain ⟨a, c, hb, _⟩ := RdAt.ent (show RdAt w R bs false from h)
    exact ⟨(row2 hb).2.1, lt_of_blk hb⟩
  | none =>
    obtain ⟨bs, h⟩ := h
    obtain ⟨a, c, hb, _⟩ := RdAt.ent h
    exact ⟨(row2 hb).2.1, lt_of_blk hb⟩
theorem took_first {bs : List Int} {N : Nat} {o : Option (List Int)} (t : Took (some bs) N o) : (o.isNone = true → rdN bs = none) ∧ (∀ r, o = some r → rdN bs = some (N, r)) := by
  have t1 := t.some
  have t2 := t.none
  rw [Option.bind_some] at t1 t2
  cases h : rdN bs with
  | none =>
    rw [t2 h]
    exact ⟨fun _ => rfl, fun r h => (by cases h)⟩
  | some p =>
    obtain ⟨m, r⟩ := p
    obtain ⟨h1, rfl⟩ := t1 m r h
    subst h1
    exact ⟨fun h => (by cases h), fun r' h => (by cases h; rfl)⟩
set_option maxRecDepth 100000 in
set_option maxHeartbeats 4000000 in
theorem unpack49_any {a : Option Addr} {n c : Nat} {bs : List Int} {w : World} (hb : Lib.BytesIn w a n bs) (hl : bs.length = n) (hc : n ≤ c) (hcm : c ≤ maxLen) (hby : Bytes bs) :
    Calls Try.prog 49 #[.slice a n c] w fun e w' => UpP bs w e w' := by
  have HLEN := Lib.hid hl
  have HBY := Lib.hid hby
  have hcm' := hcm
  unfold maxLen at hcm'
  obtain ⟨i0, hi0, hz0, hz1, hz2⟩ := info_parts info27
  by_cases hbig : 4000 < n
  · clear hb hby
    go_enter Try.func49, Try.ntmps49
    go_wp2_with fail
    go_ret2
    exact ⟨.slice none 0 0, 2, rfl, Keep.refl _ _, fun h => absurd h (by decide), fun _ => rfl, fun h _ _ h4 => absurd h4 (by have := HLEN.out; omega), fun _ h4 => absurd h4 (by have := HLEN.out; omega)⟩
  · have hRb := blk_new w (.cells #[.slice a n c, .bool false] 101)
    have hkR : Keep [] w (w.alloc (.cells #[.slice a n c, .bool false] 101)) := (Keep.refl _ _).alloc _
    have HRD : Hid (RdSt (w.alloc (.cells #[.slice a n c, .bool false] 101)) w.heap.size (some bs)) := Lib.hid ⟨a, c, by rw [hl]; exact hRb, by rw [hl]; exact bytes_keep hb hkR, by omega, hcm, hby, fun h0 x hx => by
      obtain ⟨b, o, h1, h2⟩ := hb (by omega)
      rw [h1] at hx
      cases hx
      have h3 := h2 0 (by omega)
      have := World.block_lt_of_cell? w _ h3
      exact this⟩
    obtain ⟨R, hR⟩ : ∃ R, w.heap.size = R := ⟨_, rfl⟩
    have HRS := Lib.hid hR
    clear hb hby hRb
    go_enter Try.func49, Try.ntmps49
    rw [hR] at HRD
    go_wp2_with (first | (go_at_call 75; (with_reducible refine (number75_any HRD.out).mono ?_); rintro e w1 ⟨N, o1, rfl, hN, hk1, hr1, hs1, hn1⟩; have HR1 := Lib.hid hr1; have HT1 : Hid (Took (some bs) N o1) := Lib.hid ⟨hs1, hn1⟩; obtain ⟨b1, hbl1⟩ := RdSt.badCell hr1; obtain ⟨Bd, hBd⟩ : ∃ B, o1.isNone = B := ⟨_, rfl⟩; rw [hBd] at b1; have HBD := Lib.hid hBd; clear hr1 hs1 hn1 hBd))
    · have hn := (took_first HT1.out).1 (HBD.out.trans (by assumption))
      go_ret2
      exact ⟨.slice none 0 0, 3, rfl, Keep.call hkR hk1 (fun z hz => .inr (by simp at hz; rw [hz, ← HRS.out]; exact Nat.le_refl _)), fun h => absurd h (by decide), fun _ => rfl, fun h h1 => (by rw [short_dec (.inl hn)] at h1; cases h1), fun _ _ => rfl⟩
    · have hn := (took_first HT1.out).2
      obtain ⟨r1, rfl⟩ : ∃ r, o1 = some r := by
        have h9 : o1.isNone = false := HBD.out.trans (by assumption)
        cases o1 with
        | none => cases h9
        | some r => exact ⟨r, rfl⟩
      have hn1 := hn r1 rfl
      have hd : decB bs = none := by
        unfold decB
        rw [hn1, Option.bind_some]
        dsimp only
        rw [if_pos (by omega)]
      go_ret2
      exact ⟨.slice none 0 0, 2, rfl, Keep.call hkR hk1 (fun z hz => .inr (by simp at hz; rw [hz, ← HRS.out]; exact Nat.le_refl _)), fun h => absurd h (by decide), fun _ => rfl, fun h h1 => (by rw [hd] at h1; cases h1), fun h => (by
        exfalso
        rcases h with h | ⟨k, r, h, hk, _⟩
        · rw [hn1] at h; cases h
        · rw [hn1] at h
          obtain ⟨rfl, _⟩ := Prod.mk.inj (Option.some.inj h)
          omega)⟩
    · obtain ⟨r1, rfl⟩ : ∃ r, o1 = some r := by
        have h9 : o1.isNone = false := HBD.out.trans (by assumption)
        cases o1 with
        | none => cases h9
        | some r => exact ⟨r, rfl⟩
      have hBf : Bd = false := by assumption
      subst hBf
      have hN2 : N ≤ 200 := by omega
      have HN1 := Lib.hid ((took_first HT1.out).2 r1 rfl)
      clear HBD HT1 HRD b1
      go_loopw [6, 7, 8, 27] (fun v _ _ j wr => ∃ (k : Nat) (l : List Ln), k ≤ N ∧ j = .int .i64 k ∧ Keep [R] w1 wr ∧ Hid (RdSt wr R ((decTo k r1).map (·.2))) ∧ Hid (DecAt r1 k l) ∧ Hid (wr.ownsRow w1.heap.size 27 3 v k (lanesC l))) (fun _ _ _ j _ => N - (intOf j).toNat)
      case atStart => exact ⟨0, [], by omega, rfl, Keep.refl _ _, HR1, Lib.hid ⟨rfl, fun l' r h => (by cases h; rfl)⟩, Lib.hid (World.ownsRow_nil _ _ _ _)⟩
      case round =>
        obtain ⟨k, l, hk, rfl, hkw, HRk, HDk, HOW⟩ := hrel
        have hsw := hkw.size
        by_cases hlt : k < N
        · have hNb : N ≤ 200 := hN2
          go_wp2_with (first | (go_at_call 75; (with_reducible refine (number75_any HRk.out).mono ?_); rintro e w2 ⟨n1, o2, rfl, hn1, hk2, hr2, hs2, hn2⟩; have HR2 := Lib.hid hr2; have HT2 : Hid (Took _ n1 o2) := Lib.hid ⟨hs2, hn2⟩; have hs3 := hk2.size; have HO2 := Lib.hid (own_keep HOW.out hk2 (fun g hg hm => by have := (HOW.out.lt g hg).1; simp at hm; omega)); clear hr2 hs2 hn2) | (go_at_call 75; (with_reducible refine (number75_any (RdSt.keep HR2.out ((Keep.refl [] _).alloc _))).mono ?_); rintro e w3 ⟨n2, o3, rfl, hn3, hk3, hr3, hs4, hn4⟩; have HR3 := Lib.hid hr3; have HT3 : Hid (Took _ n2 o3) := Lib.hid ⟨hs4, hn4⟩; have hs5 := hk3.size; have hE3 := hk3.at (blk_new w2 _) (by simp; omega); obtain ⟨e0, e1, e2, _⟩ := row3 hE3; have hz3 := thaw hE3; have hbl3 := lt_of_blk hE3; have HE3 := Lib.hid hE3; have hkE3 : Keep [R, w2.heap.size] w2 (w3.setCell ⟨w2.heap.size, 2, none⟩ (.int .i64 n2)) := (((Keep.refl [R, w2.heap.size] w2).alloc _).trans (hk3.more (by simp))).setCell (.inl (by simp)) _; have HO3 := Lib.hid (own_keep HO2.out hkE3 (fun g hg hm => by have h8 := HOW.out.lt g hg; simp at hm; omega)); have HKE := Lib.hid hkE3; clear hr3 hs4 hn4 hE3 hkE3) | (at_builtin; refine wpList_append_own _ rfl _ _ 28 rfl w1.heap.size 27 i0 (.agg #[.int .i64 0, .int .i64 0, .int .i64 0]) 3 24 Try.underlying28 hi0 hz0 hz1 hz2 rfl (by decide) _ _ _ rfl ((HO2.out.alloc _).alloc _) ⟨w2.heap.size + 1, 0, none⟩ 1 1 [.int .i64 ((n1 : Int) / 3), .int .i64 ((n1 : Int) % 3 + 1), .int .i64 0] rfl rfl (cells_new2 _ _ _ _) (by intro u hu; simp at hu; rcases hu with hu | hu | hu <;> (subst hu; rfl)) (by unfold maxLen; omega) (by omega) (by simp; omega) ?_; intro v6 w6 hown6 hgr6 _; have HO6 := Lib.hid hown6; have HGR6 := Lib.hid hgr6; clear hown6 hgr6) | (at_builtin; refine wpList_append_own _ rfl _ _ 28 rfl w1.heap.size 27 i0 (.agg #[.int .i64 0, .int .i64 0, .int .i64 0]) 3 24 Try.underlying28 hi0 hz0 hz1 hz2 rfl (by decide) _ _ _ rfl (HO3.out.alloc _) ⟨w3.heap.size, 0, none⟩ 1 1 [.int .i64 ((n1 : Int) / 3), .int .i64 ((n1 : Int) % 3 + 1), .int .i64 n2] rfl rfl (cells_set _ _ _ _ _ _) (by intro u hu; simp at hu; rcases hu with hu | hu | hu <;> (subst hu; rfl)) (by unfold maxLen; omega) (by omega) (by simp; omega) ?_; intro v6 w6 hown6 hgr6 _; have HO6 := Lib.hid hown6; have HGR6 := Lib.hid hgr6; clear hown6 hgr6))
          · go_roundw
            case measure => simp [intOf]; omega
            case rel =>
              have hb : ((n1 : Int) % 3 + 1 != 1) = true := by assumption
              have hb2 : ¬ n1 % 3 = 0 := by simp at hb; omega
              obtain ⟨hst, hev⟩ := took_msg HT2.out HT3.out hb2
              have hgr : ((w3.setCell ⟨w2.heap.size, 2, none⟩ (.int .i64 n2)).alloc (.cells #[.int .i64 ((n1 : Int) / 3), .int .i64 ((n1 : Int) % 3 + 1), .int .i64 n2] 27)).grownBy w6 u6.ownBlock := HGR6.out
              have hkq : Keep (w2.heap.size :: u6.ownBlock.toList) w3 w6 := (((Keep.refl _ w3).setCell (.inl (by simp)) _).alloc _).grown hgr (fun x hx => .inl (by simp [hx]))
              refine ⟨k + 1, l ++ [⟨(n1 / 3 : Nat), ((n1 % 3 + 1 : Nat) : Int), (n2 : Nat)⟩], by omega, by go_num, ?_, Lib.hid ?_, Lib.hid (HDk.out.step hev), Lib.hid ?_⟩
              · exact ((((((hkw.trans hk2).alloc _).trans hk3).setCell (.inr (by omega)) _).alloc _).grown hgr (fun x hx => .inr (HOW.out.lt x hx).1))
              · rw [dec_map, ← hst]
                exact RdSt.above HR3.out hkq (fun s hs => by
                  rcases List.mem_cons.1 hs with h | h
                  · omega
                  · have := (HOW.out.lt s (by simpa using h)).1; omega)
              · rw [lanesC_snoc]; exact HO6.out
          · go_roundw
            case measure => simp [intOf]; omega
            case rel =>
              have hb2 : n1 % 3 = 0 := by
                first | omega | (have hb : ((n1 : Int) % 3 + 1 != 1) = false := by assumption
                                 simp at hb; omega)
              obtain ⟨hst, hev⟩ := took_local HT2.out hb2
              have hgr : ((w2.alloc (.cells #[.int .i64 ((n1 : Int) / 3), .int .i64 ((n1 : Int) % 3 + 1), .int .i64 0] 27)).alloc (.cells #[.int .i64 ((n1 : Int) / 3), .int .i64 ((n1 : Int) % 3 + 1), .int .i64 0] 27)).grownBy w6 u6.ownBlock := HGR6.out
              have hkq : Keep u6.ownBlock.toList w2 w6 := (((Keep.refl _ w2).alloc _).alloc _).grown hgr (fun x hx => .inl (by simp [hx]))
              refine ⟨k + 1, l ++ [⟨(n1 / 3 : Nat), 1, 0⟩], by omega, by go_num, ?_, Lib.hid ?_, Lib.hid (HDk.out.step hev), Lib.hid ?_⟩
              · exact ((((hkw.trans hk2).alloc _).alloc _).grown hgr (fun x hx => .inr (HOW.out.lt x hx).1))
              · rw [dec_map, ← hst]
                exact RdSt.above HR2.out hkq (fun s hs => by
                  have := (HOW.out.lt s (by simpa using hs)).1; omega)
              · rw [lanesC_snoc]
                have h9 := HO6.out
                rw [show (n1 : Int) % 3 + 1 = 1 by omega] at h9
                exact h9
        · have hkN := Lib.hid (show k = N by omega)
          have hD : Hid ((decTo N r1).map (·.2) = some [] ↔ ∃ l', decTo N r1 = some (l', [])) := Lib.hid (by
            cases decTo N r1 with
            | none => simp
            | some p => obtain ⟨l', r'⟩ := p; simp)
          obtain ⟨A, hA⟩ : ∃ A, decide ((decTo k r1).map (·.2) = some []) = A := ⟨_, rfl⟩
          have HA := Lib.hid hA
          have hkQ := Lib.hid (Keep.call hkR (hk1.trans hkw) (fun z hz => .inr (by simp at hz; rw [hz, ← HRS.out]; exact Nat.le_refl _)))
          clear hA
          cases A with
          | false =>
            go_wp2_with (first | (go_at_call 76; (with_reducible refine (done76_any HRk.out HA).mono ?_); rintro e w2 ⟨rfl, hk2⟩))
            have hno : ∀ l', decTo N r1 ≠ some (l', []) := fun l' h => by
              have h9 := of_decide_eq_false HA.out
              rw [hkN.out] at h9
              exact h9 (hD.out.2 ⟨l', h⟩)
            have hsh : Short bs := .inr ⟨N, r1, HN1.out, hN2, hno⟩
            go_ret2
            exact ⟨.slice none 0 0, 3, rfl, hkQ.out.trans hk2, fun h => absurd h (by decide), fun _ => rfl, fun h h1 => (by rw [short_dec hsh] at h1; cases h1), fun _ _ => rfl⟩
          | true =>
            obtain ⟨l', hl'⟩ := hD.out.1 (by have h9 := of_decide_eq_true HA.out; rw [hkN.out] at h9; exact h9)
            have hll : l = l' := by have h9 := HDk.out; rw [hkN.out] at h9; exact h9.is _ _ hl'
            subst hll
            have HL' := Lib.hid hl'
            have hdec : decB bs = some l := by
              unfold decB
              rw [HN1.out, Option.bind_some]
              dsimp only
              rw [if_neg (by omega), hl', Option.bind_some]; rfl
            have HDEC := Lib.hid hdec
            have hnsh : ¬ Short bs := fun h => by rw [short_dec h] at hdec; cases hdec
            have HNS := Lib.hid hnsh
            obtain ⟨av, cv, rfl, hlv, _⟩ := LnsV.ofOwn HOW.out
            have HLV := Lib.hid hlv
            have hln := HDk.out.len
            clear hl' hdec hnsh hlv
            by_cases hok : HOk l
            · have HOKL := Lib.hid hok
              clear hok
              go_wp2_with (first | (go_at_call 76; (with_reducible refine (done76_any HRk.out HA).mono ?_); rintro e w2 ⟨rfl, hk2⟩) | (go_at_call 51; (with_reducible refine (check_ok (HLV.out.keep hk2 (by simp)) HOKL.out).mono ?_); rintro e w3 ⟨rfl, hk3⟩))
              go_ret2
              exact ⟨_, 0, rfl, (hkQ.out.trans hk2).trans hk3, fun _ => ⟨av, cv, l, k, rfl, hln.symm, HLV.out.keep (hk2.trans hk3) (by simp), HOKL.out, HDEC.out⟩, fun h => absurd rfl h, fun _ _ _ _ => rfl, fun h => absurd h HNS.out⟩
            · have HNOK := Lib.hid hok
              have HLOC : Hid (∀ i, i < k → (lat l i).g = 1 → 0 ≤ (lat l i).u ∧ (lat l i).u ≤ 999) := Lib.hid (fun i hi hg => by
                have hm : lat l i ∈ l := by
                  unfold lat
                  rw [List.getD_eq_getElem?_getD, List.getElem?_eq_getElem (by omega)]
                  exact List.getElem_mem _
                have := ((decB_pack HBY.out HDEC.out).2 _ hm).loc hg
                omega)
              clear hok
              go_wp2_with (first | (go_at_call 76; (with_reducible refine (done76_any HRk.out HA).mono ?_); rintro e w2 ⟨rfl, hk2⟩) | (go_at_call 51; (with_reducible refine (check_gen (HLV.out.keep hk2 (by simp)) HLOC.out).mono ?_); rintro e w3 ⟨x, rfl, hk3, hx⟩; have hx0 : (x != 0) = true := (by simp; exact fun h => HNOK.out (hx h)); have hx1 : x ≠ 0 := (by simpa using hx0); clear hx))
              go_ret2
              exact ⟨.slice none 0 0, x, rfl, (hkQ.out.trans hk2).trans hk3, fun h => absurd h hx1, fun _ => rfl, fun h h1 h2 => absurd (by rw [HDEC.out] at h1; rw [Option.some.inj h1]; exact h2) HNOK.out, fun h => absurd h HNS.out⟩
end Go.Proofs.Ytkhchfjhmplaiaa
namespace Go
open Go.ChangeShapes Go.WideShapes Go.ChangeAt Go.RowKit Go.Deep
/-- A slice of bytes in memory. -/
structure BytesV (w : World) (a : Option Addr) (n c : Nat) (bs : List Int) : Prop where
  len : bs.length = n
  room : n ≤ c
  most : c ≤ maxLen
  wf : ∀ z ∈ bs, 0 ≤ z ∧ z < 256
  cells : Lib.BytesIn w a n bs
  onNil : a = none → c = 0
theorem byte_wf {z : Int} (h : (Lit.int .u8 z).wf = true) : 0 ≤ z ∧ z < 256 := by
  have h2 : IntKind.u8.min = 0 := by decide
  have h3 : IntKind.u8.max = 255 := by decide
  simp [Lit.wf, h2, h3] at h
  omega
theorem BytesV.keep {S : List Nat} {w w' : World} {a : Option Addr} {n c : Nat} {bs : List Int} (h : BytesV w a n c bs) (hk : Keep S w w') (hS : ∀ x, a = some x → x.block ∉ S) : BytesV w' a n c bs :=
  ⟨h.len, h.room, h.most, h.wf, fun hn =>
    let ⟨b, o, h1, h2⟩ := h.cells hn
    ⟨b, o, h1, fun i hi => hk.cell (h2 i hi) (hS ⟨b, o, none⟩ h1)⟩, h.onNil⟩
section
variable {H : Type} {enc : TypeId × Value → H} {P : Program} {W : World}
theorem BytesV.empty (W : World) : BytesV W none 0 0 [] := ⟨rfl, Nat.le_refl _, Nat.zero_le _, by simp, Lib.BytesIn.nil _ _ _, fun _ => rfl⟩
theorem BytesV.ofRow {x : Addr} {n c : Nat} {zs : List Int} (hl : n ≤ c) (hm : c ≤ maxLen) (hz : zs.length = c) (hc : ∀ i, i < zs.length → W.cell? (x.add i) = some (.int .u8 (zs.getD i 0))) (hw : ∀ z ∈ zs, (Lit.int .u8 z).wf = true) :
    BytesV W (some x) n c (zs.take n) := by
  refine ⟨by simp; omega, hl, hm, fun z hz => byte_wf (hw z (List.mem_of_mem_take hz)), fun hn => ?_, fun h => by cases h⟩
  obtain ⟨b, off, spot⟩ := x
  have hspot : spot = none := by simpa [Addr.add] using World.cell?_spot (hc 0 (by omega))
  subst hspot
  refine ⟨b, off, rfl, fun i hi => ?_⟩
  have := hc i (by omega)
  rw [add_plain] at this
  rw [this]
  congr 2
  simp [List.getD_eq_getElem?_getD, hi]
theorem bytes_of {t e : TypeId} {a : Option Addr} {n c : Nat} {d : DataW H} {ps : List MemPlace} (ht : P.underlying t = some (.slice e)) (he : P.underlying e = some (.int .u8)) (ce : P.cellsOf e = 1)
    (h : DataW.Trod enc P W 0 (fun _ => true) true t (.slice a n c) d ps) : ∃ bs, BytesV W a n c bs := by
  obtain ⟨fuel, hf⟩ := h
  rcases open_ints ht he ce hf with ⟨hcs, _⟩ | ⟨x, l, c', zs, hcs, _, hl, hm, hz, _, hcell, hwz⟩
  · simp [Value.cells] at hcs
    obtain ⟨rfl, rfl, rfl⟩ := hcs
    exact ⟨[], BytesV.empty W⟩
  · simp [Value.cells] at hcs
    obtain ⟨rfl, rfl, rfl⟩ := hcs
    exact ⟨_, BytesV.ofRow hl hm (by simpa using hz) hcell hwz⟩
theorem bytes_room {ts : List TypeId} {ds : List (DataW H)} {j : Nat} {t e : TypeId} {a : Option Addr} {n c : Nat} {d : DataW H} {ps : List MemPlace} (ht : P.underlying t = some (.slice e)) (he : P.underlying e = some (.int .u8)) (ce : P.cellsOf e = 1) (be : P.bytesOf e = 1)
    (hs : (DataW.weightsEach P ts ds).all (· ≤ reachBytes) = true) (htj : ts[j]? = some t) (hdj : ds[j]? = some d)
    (h : DataW.Trod enc P W 0 (fun _ => true) true t (.slice a n c) d ps) : n ≤ 140737488351232 := by
  obtain ⟨fuel, hf⟩ := h
  rcases open_ints ht he ce hf with ⟨hcs, _⟩ | ⟨x, l, c', zs, hcs, _, hl, hm, hz, hx, hcell, hwz⟩
  · simp [Value.cells] at hcs
    omega
  · simp [Value.cells] at hcs
    obtain ⟨rfl, rfl, rfl⟩ := hcs
    simp only [Prod.mk.injEq] at hx
    obtain ⟨rfl, _⟩ := hx
    have := sized_slice hs htj hdj ht
    rw [be] at this
    simp only [lits, List.length_map, List.length_take, List.length_drop, reachBytes] at this
    simp only [if_true] at hz
    omega
end
end Go
namespace Go
theorem hist_loc (xs : List Int) : ∀ L ∈ hist xs, L.g = 1 → L.u = 0 := by
  have key : ∀ (ys : List Int) (s : List Ln × List Int), (∀ L ∈ s.1, L.g = 1 → L.u = 0) → ∀ L ∈ (ys.foldl histStep s).1, L.g = 1 → L.u = 0 := by
    intro ys
    induction ys with
    | nil => intro s h; exact h
    | cons y ys ih =>
      intro s h
      refine ih _ ?_
      intro L hL
      unfold histStep at hL
      split at hL
      · rcases List.mem_append.1 hL with h1 | h1
        · exact h L h1
        · rw [List.mem_singleton.1 h1]; intro h2; exact absurd h2 (show ¬ ((2 : Int) = 1) by decide)
      · split at hL
        · rcases List.mem_append.1 hL with h1 | h1
          · exact h L h1
          · rw [List.mem_singleton.1 h1]; intro h2; exact absurd h2 (show ¬ ((3 : Int) = 1) by decide)
        · rcases List.mem_append.1 hL with h1 | h1
          · exact h L h1
          · rw [List.mem_singleton.1 h1]; intro _; rfl
  exact key _ _ (fun L h => absurd h (by simp))
theorem hist_ev (xs : List Int) : ∀ L ∈ hist xs, EvOk L := fun L hL => by
  have hk : HOk (hist xs) := (hist_inv xs).ok
  obtain ⟨i, hi, rfl⟩ := List.getElem_of_mem hL
  have he := hk.ev i hi
  have e : lat (hist xs) i = (hist xs)[i] := by simp [lat, List.getD_eq_getElem?_getD, hi]
  rw [e] at he
  exact ⟨by omega, by omega, by omega, hist_loc xs _ hL⟩
theorem pack_bytes {h : List Ln} (hl : h.length ≤ 200) (he : ∀ L ∈ h, EvOk L) : Bytes (packB h) := by
  have hn : ∀ n : Nat, n < 2097152 → ∀ z ∈ encN n, 0 ≤ z ∧ z < 256 := fun n hn z hz => by
    by_cases e0 : n < 128
    · rw [encN_small e0] at hz; simp at hz; omega
    · rw [encN_big e0] at hz
      by_cases e1 : n / 128 < 128
      · rw [encN_small e1] at hz; simp at hz; omega
      · rw [encN_big e1, encN_small (by omega)] at hz; simp at hz; omega
  intro z hz
  rw [packB_eq] at hz
  rcases List.mem_append.1 hz with h1 | h1
  · exact hn _ (by omega) z h1
  · obtain ⟨L, hL, h2⟩ := List.mem_flatMap.1 h1
    have hE := he L hL
    have h3 := hE.q; have h4 := hE.g; have h5 := hE.u
    unfold evB at h2
    rcases List.mem_append.1 h2 with h6 | h6
    · exact hn _ (by omega) z h6
    · by_cases e : L.g = 1
      · rw [if_pos e] at h6; cases h6
      · rw [if_neg e] at h6; exact hn _ (by omega) z h6
end Go
namespace Go.Proofs.Ytkhchfjhmplaiaa
open Go.RowKit
theorem pack_len {h : List Ln} (hk : HOk h) : (packB h).length ≤ 2 + 4 * h.length := packTo_len hk h.length (Nat.le_refl _)
set_option maxRecDepth 100000 in
set_option maxHeartbeats 4000000 in
theorem traceBack_walk (a : Option Addr) (len cap : Nat) (zs : List Int) (b : Option Addr) (lenb capb : Nat) (bs : List Int) (w : World) (hv : IntsV w a len cap zs) (hvb : BytesV w b lenb capb bs) :
    Calls Try.prog 14 #[.slice a len cap, .slice b lenb capb] w fun e w' => e = .returned (.bool true) ∧ Keep [] w w' := by
  obtain ⟨N, hN⟩ : ∃ N, (hist zs).length = N := ⟨_, rfl⟩
  have hok : HOk (hist zs) := (hist_inv zs).ok
  have HEV := Lib.hid (hist_ev zs)
  have HLE := Lib.hid hok.len
  have HV := Lib.hid hv
  have HVB := Lib.hid hvb
  have HOK := Lib.hid hok
  have HN := Lib.hid hN
  have HBY : Hid (Bytes bs) := Lib.hid hvb.wf
  clear hv hvb hok hN
  go_enter Try.func14, Try.ntmps14
  go_wp2_with (first | (go_at_call 35; refine (tbegun_any _).mono ?_; rintro e w0 ⟨rfl, hk0⟩) | (go_at_call 20; refine (history_at (HV.out.keep hk0 (by simp)) HN).mono ?_; rintro e w2 ⟨a2, c2, rfl, hk2, hv2⟩; have HV2 := Lib.hid hv2; have hD2 := hk0.trans hk2; clear hv2) | (go_at_call 48; (with_reducible refine (pack_any HV2.out HOK.out).mono ?_); rintro e w3 ⟨v3, rfl, hk3, ho3⟩; obtain ⟨a3, c3, rfl, hb3, hl3, hr3, hm3⟩ := own_bytes ho3; have HB3 := Lib.hid hb3; have HV3 := Lib.hid (HV2.out.keep hk3 (by simp)); have hD3 := hD2.trans hk3; clear hb3 ho3 hl3) | (go_at_call 49; (with_reducible refine (unpack49_any HB3.out rfl hr3 hm3 (pack_bytes HLE.out HEV.out)).mono ?_); rintro e w4 ⟨v4, x4, rfl, hk4, hz4, _, hd4, _⟩; have hx4 := hd4 _ (pack_dec HLE.out HEV.out) HOK.out (by have h8 := pack_len HOK.out; have h9 := HLE.out; omega); subst hx4; obtain ⟨a4, c4, h4, n4, rfl, hn4, hlv4, _, hdec4⟩ := hz4 rfl; have he4 : h4 = hist zs := (by rw [pack_dec HLE.out HEV.out] at hdec4; exact (Option.some.inj hdec4).symm); subst he4; have hn4' : N = n4 := (hn4.trans HN.out).symm; clear hn4; subst hn4'; have HY4 := Lib.hid hlv4; have HV4 := Lib.hid (HV3.out.keep hk4 (by simp)); have hD4 := hD3.trans hk4; clear hz4 hd4 hdec4 hlv4) | (go_at_call 44; (with_reducible refine (eqe_same HY4.out HV4.out).mono ?_); rintro e w5 ⟨rfl, hk5⟩; have hD5 := hD4.trans hk5; have HVB5 := Lib.hid (HVB.out.keep hD5 (by simp))))
  refine (unpack49_any HVB5.out.cells HVB5.out.len HVB5.out.room HVB5.out.most HBY.out).mono ?_
  rintro e w6 ⟨v6, x6, rfl, hk6, hz6, hnz6, _, _⟩
  have HZ6 := Lib.hid hz6
  have HNZ6 := Lib.hid hnz6
  have hD6 := hD5.trans hk6
  clear hz6 hnz6
  by_cases hx0 : x6 = 0
  · subst hx0
    obtain ⟨a7, c7, h7, n7, rfl, hn7, hlv7, hok7, hdec7⟩ := HZ6.out rfl
    clear hn7
    have HP7 := Lib.hid (decB_pack HBY.out hdec7).1
    have HV7 := Lib.hid hlv7
    have HOK7 := Lib.hid hok7
    have HVB6 := Lib.hid (HVB.out.keep hD6 (by simp))
    have HLB := Lib.hid HVB.out.len
    clear hlv7 hok7 hdec7
    go_wp2_with (first | (go_at_call 48; (with_reducible refine (pack_any HV7.out HOK7.out).mono ?_); rintro e w8 ⟨v8, rfl, hk8, ho8⟩; rw [HP7.out, HLB.out] at ho8; obtain ⟨a8, c8, rfl, hb8, _, hr8, hm8⟩ := own_bytes ho8; have HB8 := Lib.hid hb8; have hD8 := hD6.trans hk8; clear hb8 ho8) | (go_at_call 50; (with_reducible refine (eqb_same HLB.out HB8.out (HVB.out.keep hD8 (by simp)).cells).mono ?_); rintro e w9 ⟨rfl, rfl⟩))
    go_ret
    exact ⟨rfl, hD8⟩
  · have hxb : (x6 != 0) = true := by simpa using hx0
    obtain rfl := HNZ6.out hx0
    go_wp2_with fail
    go_ret
    exact ⟨rfl, hD6⟩
end Go.Proofs.Ytkhchfjhmplaiaa
namespace Go.Proofs
open Go.Shelf
def Try.growB_ren : Go.Shelf.Ren := ⟨fun | 4 => 77 | n => n, fun | 22 => 60 | 25 => 5 | 3 => 3 | 4 => 4 | 9 => 9 | 20 => 20 | 0 => 0 | n => n, fun | n => n⟩
theorem Try.growB : Go.Proofs.Lays8.n4 Try.prog Try.growB_ren := {
  mixed := by kernel_rfl
  f4 := ⟨Try.f77.name, by decide, Try.func77.trans (congrArg some (by kernel_rfl))⟩
  t0 := Try.underlying0
  a0 := Try.isAgg0
  z0 := Try.sizeOf0
  v0 := Try.zeroValue0
  t3 := Try.underlying3
  a3 := Try.isAgg3
  z3 := Try.sizeOf3
  v3 := Try.zeroValue3
  t4 := Try.underlying4
  a4 := Try.isAgg4
  z4 := Try.sizeOf4
  v4 := Try.zeroValue4
  t9 := Try.underlying9
  a9 := Try.isAgg9
  z9 := Try.sizeOf9
  v9 := Try.zeroValue9
  t20 := Try.underlying20
  a20 := Try.isAgg20
  z20 := Try.sizeOf20
  v20 := Try.zeroValue20
  t22 := Try.underlying60
  a22 := Try.isAgg60
  z22 := Try.sizeOf60
  v22 := Try.zeroValue60 }
end Go.Proofs
namespace Go
/-- How many bytes the first k rows hold; the bytes. -/
def sumN (N : Nat → Nat) : Nat → Nat
  | 0 => 0
  | k + 1 => sumN N k + N k
def catZ (Z : Nat → List Int) : Nat → List Int
  | 0 => []
  | k + 1 => catZ Z k ++ Z k
theorem sumN_mono (N : Nat → Nat) {i k : Nat} (h : i ≤ k) : sumN N i ≤ sumN N k := by
  induction k with
  | zero => rw [show i = 0 by omega]; exact Nat.le_refl _
  | succ k ih =>
    by_cases e : i = k + 1
    · rw [e]; exact Nat.le_refl _
    · have := ih (by omega); rw [sumN]; omega
end Go
namespace Go.Proofs.Ytkhchfjhmplaiaa
open Go.RowKit
theorem grow77_any {n : Nat} {w : World} (hn : 0 < n) (hb : n ≤ 140737488355328) :
    Calls Try.prog 77 #[.slice none 0 0, .int .i64 n] w fun e w' => ∃ v, e = .returned v ∧ Keep [] w w' ∧ w'.ownsRow w.heap.size 5 1 v 0 [] := by
  obtain ⟨i5, hi5, hy0, hy1, hy2⟩ := info_parts info5
  refine (Any8.slices_Grow_grow Try.growB i5 (.int .u8 0) hi5 hy0 (by omega) none 0 0 n [] w (by omega) (by omega) (by rw [hy2]; omega) (by omega) (by simp) (fun _ => rfl) (fun a h => by cases h)).mono ?_
  rintro e w' ⟨rfl, rfl⟩
  refine ⟨_, rfl, ?_, rfl, .inr ?_⟩
  · exact ((Keep.refl [] w).drew).alloc _
  · have e5 : Try.growB_ren.t 25 = 5 := rfl
    have h1 := grownCap_ge w (0 + n) 0 5
    have h2 := grownCap_le_maxLen w (0 + n) 0 5 (by unfold maxLen; omega)
    rw [e5]
    refine ⟨w.heap.size, _, #[] ++ Builtin.zeroCells (Value.int IntKind.u8 0).cells (0 + n - 0) ++ Builtin.zeroCells (Value.int IntKind.u8 0).cells (grownCap w (0 + n) 0 5 - (0 + n)), rfl, Nat.le_refl _, ?_, Nat.zero_le _, h2, ?_, by simp⟩
    · have := blk_new w.drew (.cells (#[] ++ Builtin.zeroCells (Value.int IntKind.u8 0).cells (0 + n - 0) ++ Builtin.zeroCells (Value.int IntKind.u8 0).cells (grownCap w (0 + n) 0 5 - (0 + n))) 5)
      exact this
    · rw [Nat.zero_add] at h1 ⊢
      simp only [Array.size_append, size_zeroCells, List.size_toArray, Value.cells]
      simp
      omega
/-- Rows of bytes in memory. -/
def BRows (w : World) (Q m : Nat) (A : Nat → Option Addr) (N C : Nat → Nat) (Z : Nat → List Int) : Prop :=
  ∀ k, k < m → w.cell? ⟨Q, k, none⟩ = some (.slice (A k) (N k) (C k)) ∧ BytesV w (A k) (N k) (C k) (Z k)
theorem BRows.keep {w w' : World} {Q m : Nat} {A : Nat → Option Addr} {N C : Nat → Nat} {Z : Nat → List Int} (h : BRows w Q m A N C Z) (hk : Keep [] w w') : BRows w' Q m A N C Z := fun k hkm =>
  ⟨hk.cell (h k hkm).1 (by simp), (h k hkm).2.keep hk (by simp)⟩
set_option maxRecDepth 100000 in
set_option maxHeartbeats 2000000 in
theorem concat53_any {Q m c : Nat} {A : Nat → Option Addr} {N C : Nat → Nat} {Z : Nat → List Int} {w : World} (h : BRows w Q m A N C Z) (hm : m ≤ 1000) (hmc : m ≤ c) (hcm : c ≤ maxLen) (h0 : 0 < sumN N m) (hb : sumN N m ≤ 140737488355328) :
    Calls Try.prog 53 #[.slice (some ⟨Q, 0, none⟩) m c] w fun e w' => ∃ v, e = .returned v ∧ Keep [] w w' ∧ w'.ownsRow w.heap.size 5 1 v (sumN N m) (bytesC (catZ Z m)) := by
  have HR := Lib.hid h
  have HM : Hid (∀ k, k ≤ m → sumN N k ≤ sumN N m) := Lib.hid (fun k hk => sumN_mono N hk)
  unfold maxLen at hcm
  obtain ⟨i5, hi5, hy0, hy1, hy2⟩ := info_parts info5
  clear h
  go_enter Try.func53, Try.ntmps53
  go_wp2_with fail
  go_loopw [3, 5, 11] (fun s _ j wr => ∃ k : Nat, k ≤ m ∧ j = .int .i64 k ∧ s = .int .i64 (sumN N k) ∧ Keep [] w wr) (fun _ _ j _ => m - (intOf j).toNat)
  case atStart => exact ⟨0, by omega, rfl, rfl, Keep.refl _ _⟩
  case round =>
    obtain ⟨k, hk, rfl, rfl, hkw⟩ := hrel
    by_cases hlt : k < m
    · obtain ⟨hc, hv⟩ := HR.out.keep hkw k hlt
      have h1 := HM.out (k + 1) hlt
      have HS : Hid (sumN N (k + 1) = sumN N k + N k) := Lib.hid rfl
      rw [HS.out] at h1
      obtain ⟨s, hs⟩ : ∃ s, sumN N k = s := ⟨_, rfl⟩
      obtain ⟨x, hx⟩ : ∃ x, N k = x := ⟨_, rfl⟩
      rw [hx] at hc h1
      rw [hs] at h1 ⊢
      rw [hs, hx] at HS
      clear hv hs hx
      go_wp2_with (first | (with_reducible refine Txt.wp_region_text mixed quiet (by decide +kernel) ?_) | (with_reducible refine Txt.text_done (by kernel_rfl) ?_))
      exact ⟨⟨k + 1, hlt, by go_num, by rw [HS.out]; go_num, hkw⟩, by simp [intOf]; omega⟩
    · have hkm := Lib.hid (show k = m by omega)
      rw [show sumN N k = sumN N m by rw [hkm.out]]
      obtain ⟨T, hT⟩ : ∃ T, sumN N m = T := ⟨_, rfl⟩
      rw [hT] at h0 hb HM ⊢
      have HT := Lib.hid hT
      clear hT
      go_wp2_with (first | (go_at_call 77; (with_reducible refine (grow77_any h0 hb).mono ?_); rintro e w2 ⟨v2, rfl, hk2, ho2⟩; have HO2 := Lib.hid ho2; clear ho2))
      have hkw2 := hkw.trans hk2
      have hsz2 := hkw.size
      have HO3 := Lib.hid (HO2.out.mono hsz2)
      clear HO2 hk2
      go_loopw [6, 8, 27] (fun v _ j wr' => ∃ k : Nat, k ≤ m ∧ j = .int .i64 k ∧ Keep [] w wr' ∧ Hid (wr'.ownsRow w.heap.size 5 1 v (sumN N k) (bytesC (catZ Z k)))) (fun _ _ j _ => m - (intOf j).toNat)
      case atStart => exact ⟨0, by omega, rfl, hkw2, HO3⟩
      case round =>
        obtain ⟨i, hi, rfl, hkq, HO⟩ := hrel
        have hsq := hkq.size
        by_cases hli : i < m
        · obtain ⟨hc, hv⟩ := HR.out.keep hkq i hli
          have h1 := HM.out (i + 1) hli
          have HS : Hid (sumN N (i + 1) = sumN N i + N i) := Lib.hid rfl
          have HZ : Hid (catZ Z (i + 1) = catZ Z i ++ Z i) := Lib.hid rfl
          rw [HS.out] at h1
          obtain ⟨s, hs⟩ : ∃ s, sumN N i = s := ⟨_, rfl⟩
          obtain ⟨x, hx⟩ : ∃ x, N i = x := ⟨_, rfl⟩
          obtain ⟨y, hy⟩ : ∃ y, C i = y := ⟨_, rfl⟩
          rw [hx, hy] at hc hv
          rw [hs, hx] at h1 HS
          rw [hs] at HO
          have HV := Lib.hid hv
          clear hs hx hy
          cases hA : A i with
          | none =>
            rw [hA] at hc hv
            have hy0' := hv.onNil rfl
            have hx0' := hv.room
            obtain rfl : y = 0 := hy0'
            obtain rfl : x = 0 := by omega
            have HZ0 : Hid (Z i = []) := Lib.hid (List.eq_nil_of_length_eq_zero hv.len)
            clear hv HV hA
            go_wp2_with (first | (at_builtin; refine wpList_append_own_none rfl _ _ 60 rfl w.heap.size 5 i5 1 Try.underlying60 hi5 _ _ _ rfl HO.out rfl ?_))
            exact ⟨⟨i + 1, hli, by go_num, hkq, Lib.hid (by rw [HS.out, HZ.out, HZ0.out, List.append_nil]; exact HO.out)⟩, by simp [intOf]; omega⟩
          | some ad =>
            rw [hA] at hc hv
            have HNW : Hid (∀ j u, (bytesC (Z i))[j]? = some u → wr.cell? (ad.add j) = some u) := Lib.hid (fun j u hu => by
              have hj : j < x := by have := (List.getElem?_eq_some_iff.1 hu).1; rw [bytesC, List.length_map, hv.len] at this; exact this
              obtain ⟨b, o, e1, h2⟩ := hv.cells (by omega)
              cases e1
              rw [Go.WideShapes.add_plain, h2 j hj, ← hu, bytesC, List.getElem?_map]
              have : j < (Z i).length := by rw [hv.len]; exact hj
              simp [List.getD_eq_getElem?_getD, this])
            have HLN : Hid ((bytesC (Z i)).length = x * 1) := Lib.hid (by rw [bytesC, List.length_map, hv.len, Nat.mul_one])
            have HOC : Hid (∀ u ∈ bytesC (Z i), u.oneCell' = true) := Lib.hid (fun u hu => by obtain ⟨z, _, rfl⟩ := List.mem_map.1 hu; rfl)
            clear hv HV hA
            go_wp2_with (first | (at_builtin; refine wpList_append_own _ rfl _ _ 60 rfl w.heap.size 5 i5 (.int .u8 0) 1 1 Try.underlying60 hi5 hy0 hy1 hy2 rfl (by decide) _ _ _ rfl HO.out ad x y (bytesC (Z i)) rfl HLN.out HNW.out HOC.out (by unfold maxLen; omega) (by omega) (by omega) ?_; intro v6 w6 hown6 hgr6 _; have HO6 := Lib.hid hown6; have HGR6 := Lib.hid hgr6; clear hown6 hgr6))
            exact ⟨⟨i + 1, hli, by go_num, hkq.grown HGR6.out (fun g hg => .inr (HO.out.lt g hg).1), Lib.hid (by rw [HS.out, HZ.out, bytesC, List.map_append]; exact HO6.out)⟩, by simp [intOf]; omega⟩
        · have him := Lib.hid (show i = m by omega)
          go_wp2_with fail
          go_ret
          have h9 := HO.out
          rw [him.out, HT.out] at h9
          exact ⟨_, rfl, hkq, by rw [HT.out]; exact h9⟩
end Go.Proofs.Ytkhchfjhmplaiaa
