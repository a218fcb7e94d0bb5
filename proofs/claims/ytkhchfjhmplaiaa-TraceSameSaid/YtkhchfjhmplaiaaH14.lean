import Derived.Test.YtkhchfjhmplaiaaH12
namespace Go
open Go.RowKit
/-- A natural number in groups of 7 bits. -/
def encN (u : Nat) : List Int := if u < 128 then [(u : Int)] else ((u % 128 + 128 : Nat) : Int) :: encN (u / 128)
termination_by u
decreasing_by omega
def bytesC (xs : List Int) : List Value := xs.map (Value.int .u8)
end Go
namespace Go.Proofs.Ytkhchfjhmplaiaa
open Go.RowKit
theorem info5 : (Try.prog.info? 5).map (fun i => (i.zero, i.size, i.bytes)) = some (some (.int .u8 0), 1, 1) := by kernel_rfl
/-- What is not of bytes stays. -/
def Else (w w' : World) : Prop := ∀ (b : Nat) (cs : Array Value) (T : TypeId) (f : Nat × Nat), w.heap[b]? = some (Obj.cells cs T f) → T ≠ 5 → w'.heap[b]? = some (Obj.cells cs T f)
theorem Else.refl (w : World) : Else w w := fun _ _ _ _ h _ => h
theorem Else.trans {w w' w'' : World} (h : Else w w') (k : Else w' w'') : Else w w'' := fun b cs T f hb hT => k b cs T f (h b cs T f hb hT) hT
theorem Else.keep {w w' : World} (h : Keep [] w w') : Else w w' := fun _ _ _ _ hb _ => h.at hb (by simp)
theorem Else.grown {B n : Nat} {w w' : World} {v : Value} {xs : List Value} (ho : w.ownsRow B 5 1 v n xs) (hg : w.grownBy w' v.ownBlock) : Else w w' := fun b cs T f hb hT => by
  rw [hg.block b (lt_of_blk hb) (fun e => own_ne ho hb (fun e => hT e.symm) b e.symm rfl)]
  exact hb
theorem or128 (k : Nat) : bits BinOp.or IntKind.u8 ((k : Int) % 256) 128 = ((k % 128 + 128 : Nat) : Int) := by
  have h : ∀ x : Nat, x < 256 → bits BinOp.or IntKind.u8 (x : Int) 128 = ((x % 128 + 128 : Nat) : Int) := by decide +kernel
  have h1 := h (k % 256) (by omega)
  rw [show ((k % 256 : Nat) : Int) = (k : Int) % 256 by omega, show k % 256 % 128 = k % 128 by omega] at h1
  exact h1
set_option maxRecDepth 100000 in
theorem unsigned_any {n u : Nat} {v : Value} {xs : List Int} {w0 w : World} (hk0 : Keep [] w0 w) (ho : w.ownsRow w0.heap.size 5 1 v n (bytesC xs)) (hu : u < 16384) (hn : n ≤ 5000) :
    Calls Try.prog 82 #[v, .int .u64 u] w fun e w' => ∃ v' n', e = .returned v' ∧ Keep [] w0 w' ∧ w'.ownsRow w0.heap.size 5 1 v' n' (bytesC (xs ++ encN u)) ∧ Else w w' := by
  have HO0 := Lib.hid ho
  have hB := hk0.size
  obtain ⟨i5, hi5, hy0, hy1, hy2⟩ := info_parts info5
  clear ho
  go_enter Try.func82, Try.ntmps82
  go_wp2_with fail
  go_loopw [0, 1] (fun v' u' wr => ∃ (m k : Nat) (ys : List Int), u' = .int .u64 k ∧ Keep [] w0 wr ∧ Hid (Else w wr) ∧ Hid (wr.ownsRow w0.heap.size 5 1 v' m (bytesC ys)) ∧ Hid (ys ++ encN k = xs ++ encN u) ∧ k < 16384 ∧ m ≤ n + 1 ∧ (m = n ∨ k < 128)) (fun _ u' _ => (intOf u').toNat)
  case atStart => exact ⟨n, u, xs, rfl, hk0, Lib.hid (Else.refl _), HO0, Lib.hid rfl, hu, by omega, .inl rfl⟩
  case round =>
    obtain ⟨m, k, ys, rfl, hkw, HE, HO, HX, hk, hm, hmk⟩ := hrel
    have hsz := hkw.size
    clear HO0
    by_cases hlt : k < 128
    · go_wp2_with (first | (with_reducible refine Txt.wp_region_text mixed quiet (by decide +kernel) ?_) | (with_reducible refine Txt.text_done (by kernel_rfl) ?_) | (at_builtin; refine wpList_append_own _ rfl _ _ 60 rfl w0.heap.size 5 i5 (.int .u8 0) 1 1 Try.underlying60 hi5 hy0 hy1 hy2 rfl (by decide) _ _ _ rfl (HO.out.alloc _) ⟨wr.heap.size, 0, none⟩ 1 1 [.int .u8 (k : Int)] rfl rfl (cell_one_at rfl _ _) (by intro u hu; simp at hu; subst hu; rfl) (by unfold maxLen; omega) (by omega) (by simp; omega) ?_; intro v6 w6 hown6 hgr6 _; have HO6 := Lib.hid hown6; have HGR6 := Lib.hid hgr6; clear hown6 hgr6))
      go_ret
      have hgr : (wr.alloc (.cells #[.int .u8 k] 5)).grownBy w6 u0.ownBlock := HGR6.out
      refine ⟨v6, m + 1, rfl, (hkw.alloc _).grown hgr (fun g hg => .inr ((HO.out.lt g hg).1)), ?_, (HE.out.trans (Else.keep ((Keep.refl [] _).alloc _))).trans (Else.grown (HO.out.alloc _) hgr)⟩
      rw [← HX.out, encN, if_pos hlt]
      have h9 := HO6.out
      simpa [bytesC] using h9
    · obtain ⟨x, hx⟩ : ∃ x, bits BinOp.or IntKind.u8 ((k : Int) % 256) 128 = x := ⟨_, rfl⟩
      have HB := Lib.hid ((or128 k).symm.trans hx)
      go_wp2_with (first | (with_reducible refine Txt.wp_region_text mixed quiet (by decide +kernel) ?_) | (with_reducible refine Txt.text_done (by kernel_rfl) ?_) | (at_builtin; refine wpList_append_own _ rfl _ _ 60 rfl w0.heap.size 5 i5 (.int .u8 0) 1 1 Try.underlying60 hi5 hy0 hy1 hy2 rfl (by decide) _ _ _ rfl (HO.out.alloc _) ⟨wr.heap.size, 0, none⟩ 1 1 [.int .u8 x] rfl rfl (cell_one_at rfl _ _) (by intro u hu; simp at hu; subst hu; rfl) (by unfold maxLen; omega) (by omega) (by simp; omega) ?_; intro v6 w6 hown6 hgr6 _; have HO6 := Lib.hid hown6; have HGR6 := Lib.hid hgr6; clear hown6 hgr6))
      go_roundw
      case measure => simp [intOf]; omega
      case rel =>
        have hgr : (wr.alloc (.cells #[.int .u8 x] 5)).grownBy w6 u0.ownBlock := HGR6.out
        refine ⟨m + 1, k / 128, ys ++ [x], by rw [Int.natCast_ediv]; rfl, (hkw.alloc _).grown hgr (fun g hg => .inr ((HO.out.lt g hg).1)), Lib.hid ((HE.out.trans (Else.keep ((Keep.refl [] _).alloc _))).trans (Else.grown (HO.out.alloc _) hgr)), Lib.hid (by simpa [bytesC] using HO6.out), Lib.hid ?_, by omega, by omega, .inr (by omega)⟩
        rw [← HX.out, encN.eq_1 k, if_neg hlt, ← HB.out]
        simp
theorem encN_len (u : Nat) (hu : u < 16384) : (encN u).length ≤ 2 := by
  rw [encN]
  split
  · simp
  · rw [encN, if_pos (by omega)]; simp
set_option maxRecDepth 100000 in
theorem nat_any {n : Nat} {u : Int} {v : Value} {xs : List Int} {w0 w : World} (hk0 : Keep [] w0 w) (ho : w.ownsRow w0.heap.size 5 1 v n (bytesC xs)) (hu0 : 0 ≤ u) (hu : u < 16384) (hn : n ≤ 5000) :
    Calls Try.prog 74 #[v, .int .i64 u] w fun e w' => ∃ v' n', e = .returned v' ∧ Keep [] w0 w' ∧ w'.ownsRow w0.heap.size 5 1 v' n' (bytesC (xs ++ encN u.toNat)) ∧ Else w w' := by
  have h := unsigned_any hk0 ho (u := u.toNat) (by omega) hn
  have hcast : ((u.toNat : Nat) : Int) = u := by omega
  rw [hcast] at h
  have H := Lib.hid h
  clear h ho hcast
  go_enter Try.func74, Try.ntmps74
  go_wp2_with (first | (go_at_call 82; refine H.out.mono ?_; rintro e w1 ⟨v1, n1, rfl, hk1, ho1, he1⟩; have HO1 := Lib.hid ho1; have HE1 := Lib.hid he1; clear ho1 he1))
  go_ret
  exact ⟨v1, n1, rfl, hk1, HO1.out, HE1.out⟩
end Go.Proofs.Ytkhchfjhmplaiaa
namespace Go
/-- An event in bytes; a history. -/
def evB (L : Ln) : List Int := encN (3 * L.q + L.g - 1).toNat ++ (if L.g = 1 then [] else encN L.u.toNat)
def packTo (h : List Ln) : Nat → List Int
  | 0 => encN h.length
  | k + 1 => packTo h k ++ evB (lat h k)
def packB (h : List Ln) : List Int := packTo h h.length
end Go
namespace Go.Proofs.Ytkhchfjhmplaiaa
open Go.RowKit
theorem packTo_len {h : List Ln} (hk : HOk h) : ∀ k, k ≤ h.length → (packTo h k).length ≤ 2 + 4 * k := by
  intro k
  induction k with
  | zero => intro _; have := hk.len; exact encN_len _ (by omega)
  | succ k ih =>
    intro hl
    have he := hk.ev k (by omega)
    have h1 := encN_len (3 * (lat h k).q + (lat h k).g - 1).toNat (by omega)
    have h2 := encN_len (lat h k).u.toNat (by omega)
    have h3 := ih (by omega)
    rw [packTo, evB]
    generalize lat h k = L at *
    have e1 : (packTo h k).length + (encN (3 * L.q + L.g - 1).toNat).length + (encN L.u.toNat).length ≤ 2 + 4 * (k + 1) := by omega
    split
    · rw [List.append_nil, List.length_append]; omega
    · rw [List.length_append, List.length_append]; omega
set_option maxRecDepth 100000 in
theorem pack_any {a : Option Addr} {n c : Nat} {h : List Ln} {w : World} (hv : LnsV w a n c h) (hk : HOk h) :
    Calls Try.prog 48 #[.slice a n c] w fun e w' => ∃ v, e = .returned (.tuple #[v, .int .i64 0]) ∧ Keep [] w w' ∧ w'.ownsRow w.heap.size 5 1 v (packB h).length (bytesC (packB h)) := by
  have hn2 : n ≤ 200 := by have := hk.len; have := hv.len; omega
  have HV := Lib.hid hv
  have HK := Lib.hid hk
  have HL := Lib.hid hv.len
  clear hv hk
  go_enter Try.func48, Try.ntmps48
  go_wp2_with (first | (go_at_call 51; refine (check_ok HV.out HK.out).mono ?_; rintro e w1 ⟨rfl, hk1⟩) | (go_at_call 74; refine (nat_any hk1 (xs := []) (World.ownsRow_nil _ _ _ _) (by omega) (by omega) (by omega)).mono ?_; rintro e w2 ⟨v2, n2, rfl, hk2, ho2, he2⟩; have HO2 := Lib.hid ho2; have hl2 := ho2.1; clear ho2 he2))
  go_loopw [5, 18] (fun v i wr => ∃ (k m : Nat), k ≤ n ∧ i = .int .i64 k ∧ Keep [] w wr ∧ Hid (wr.ownsRow w.heap.size 5 1 v m (bytesC (packTo h k)))) (fun _ i _ => n - (intOf i).toNat)
  case atStart => exact ⟨0, n2, by omega, rfl, hk2, Lib.hid (by rw [packTo, HL.out]; simpa using HO2.out)⟩
  case round =>
    obtain ⟨k, m, hk, rfl, hkw, HO⟩ := hrel
    have hm : m ≤ 2 + 4 * k := by have h1 := HO.out.1; have h2 := packTo_len HK.out k (by rw [HL.out]; exact hk); simp [bytesC] at h1; omega
    clear HO2
    by_cases hlk : k < n
    · have hlh : k < h.length := by rw [HL.out]; exact hlk
      have he := HK.out.ev k hlh
      obtain ⟨b, off, rfl, c0, c1, c2⟩ := (HV.out.keep hkw (by simp)).at_ hlk
      have hpk : packTo h (k + 1) = packTo h k ++ evB (lat h k) := rfl
      obtain ⟨⟨q, g, u⟩, hL⟩ : ∃ L, lat h k = L := ⟨_, rfl⟩
      rw [hL] at he c0 c1 c2 hpk
      dsimp only at he c0 c1 c2
      have HP := Lib.hid hpk
      clear hL hpk
      have hkA : Keep [] wr (wr.alloc (.cells #[.int .i64 q, .int .i64 g, .int .i64 u] 27)) := (Keep.refl [] _).alloc _
      have HOA := Lib.hid (own_keep HO.out hkA (by simp))
      have hkwA := hkw.trans hkA
      have HEV := Lib.hid (blk_new wr (.cells #[.int .i64 q, .int .i64 g, .int .i64 u] 27))
      have hq1 : 0 ≤ 3 * q + g - 1 := by omega
      have hq2 : 3 * q + g - 1 < 16384 := by omega
      have HN3 : Hid (∀ n3 : Nat, (bytesC (packTo h k ++ encN (3 * q + g - 1).toNat)).length = n3 * 1 → n3 ≤ 1000) := Lib.hid (fun n3 h3 => by
        have he1 := encN_len (3 * q + g - 1).toNat (by omega)
        have h1 := HO.out.1
        rw [bytesC, List.length_map] at h1 h3
        rw [List.length_append] at h3
        omega)
      by_cases hg : g = 1
      · subst hg
        have e31 : 3 * q + 1 - 1 = 3 * q := by omega
        have hev1 : evB ⟨q, 1, u⟩ = encN (3 * q).toNat := by unfold evB; rw [if_pos rfl, List.append_nil, e31]
        rw [e31] at HN3
        rw [hev1] at HP
        clear e31 hev1
        go_wp2_with (first | (go_at_call 74; (with_reducible refine (nat_any hkwA HOA.out (by omega) (by omega) (by omega)).mono ?_); rintro e w3 ⟨v3, n3, rfl, hk3, ho3, he3⟩; have HO3 := Lib.hid ho3; have hl3 := HN3.out _ ho3.1; have hev := he3 _ _ _ _ HEV.out (by decide); obtain ⟨n0, n1, n2, _⟩ := row3 hev; clear ho3 he3 hev))
        go_roundw
        case measure => simp [intOf]; omega
        case rel => exact ⟨k + 1, n3, by omega, by go_num, hk3, Lib.hid (by rw [HP.out]; exact HO3.out)⟩
      · have hgb : (g == 1) = false := by simpa using hg
        go_wp2_with (first | (go_at_call 74; (with_reducible refine (nat_any hkwA HOA.out (by omega) (by omega) (by omega)).mono ?_); rintro e w3 ⟨v3, n3, rfl, hk3, ho3, he3⟩; have HO3 := Lib.hid ho3; have hl3 := HN3.out _ ho3.1; have hev := he3 _ _ _ _ HEV.out (by decide); obtain ⟨n0, n1, n2, _⟩ := row3 hev; clear ho3 he3 hev) | (go_at_call 74; (with_reducible refine (nat_any hk3 HO3.out (by omega) (by omega) (by omega)).mono ?_); rintro e w4 ⟨v4, n4, rfl, hk4, ho4, he4⟩; have HO4 := Lib.hid ho4; clear ho4 he4))
        go_roundw
        case measure => simp [intOf]; omega
        case rel => exact ⟨k + 1, n4, by omega, by go_num, hk4, Lib.hid (by rw [HP.out]; simpa [evB, hg] using HO4.out)⟩
    · have hkn := Lib.hid (show k = n by omega)
      go_wp2_with fail
      go_ret2
      have h9 := HO.out
      rw [hkn.out, ← HL.out] at h9
      have h10 : m = (packB h).length := by have := h9.1; simpa [bytesC, packB] using this.symm
      exact ⟨_, rfl, hkw, by rw [← h10]; exact h9⟩
end Go.Proofs.Ytkhchfjhmplaiaa
