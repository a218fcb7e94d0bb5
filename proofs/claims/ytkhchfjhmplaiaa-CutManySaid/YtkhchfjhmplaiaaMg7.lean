/- Texts laid together: H14 H15 H16 HP11 H17 H18. -/
import Derived.Test.YtkhchfjhmplaiaaMg6
import Derived.Shelf.Bytes.SlEqualAll
namespace Go
open Go.RowKit
/-- A natural number in groups of 7 bits. -/
def encN (u : Nat) : List Int := if u < 128 then [(u : Int)] else ((u % 128 + 128 : Nat) : Int) :: encN (u / 128)
termination_by u
decreasing_by omega
def bytesC (xs : List Int) : List Value := xs.map (Value.int .u8)
end Go
namespace Go.Proofs.Ytkhchfjhmplaiaa
open Go.RowKit
theorem info5 : (Try.prog.info? 5).map (fun i => (i.zero, i.size, i.bytes)) = some (some (.int .u8 0), 1, 1) := by kernel_rfl
/-- What is not of bytes stays. -/
def Else (w w' : World) : Prop := ∀ (b : Nat) (cs : Array Value) (T : TypeId) (f : Nat × Nat), w.heap[b]? = some (Obj.cells cs T f) → T ≠ 5 → w'.heap[b]? = some (Obj.cells cs T f)
theorem Else.refl (w : World) : Else w w := fun _ _ _ _ h _ => h
theorem Else.trans {w w' w'' : World} (h : Else w w') (k : Else w' w'') : Else w w'' := fun b cs T f hb hT => k b cs T f (h b cs T f hb hT) hT
theorem Else.keep {w w' : World} (h : Keep [] w w') : Else w w' := fun _ _ _ _ hb _ => h.at hb (by simp)
theorem Else.grown {B n : Nat} {w w' : World} {v : Value} {xs : List Value} (ho : w.ownsRow B 5 1 v n xs) (hg : w.grownBy w' v.ownBlock) : Else w w' := fun b cs T f hb hT => by
  rw [hg.block b (lt_of_blk hb) (fun e => own_ne ho hb (fun e => hT e.symm) b e.symm rfl)]
  exact hb
theorem or128 (k : Nat) : bits BinOp.or IntKind.u8 ((k : Int) % 256) 128 = ((k % 128 + 128 : Nat) : Int) := by
  have h : ∀ x : Nat, x < 256 → bits BinOp.or IntKind.u8 (x : Int) 128 = ((x % 128 + 128 : Nat) : Int) := by decide +kernel
  have h1 := h (k % 256) (by omega)
  rw [show ((k % 256 : Nat) : Int) = (k : Int) % 256 by omega, show k % 256 % 128 = k % 128 by omega] at h1
  exact h1
set_option maxRecDepth 100000 in
theorem unsigned_any {n u : Nat} {v : Value} {xs : List Int} {w0 w : World} (hk0 : Keep [] w0 w) (ho : w.ownsRow w0.heap.size 5 1 v n (bytesC xs)) (hu : u < 16384) (hn : n ≤ 5000) :
    Calls Try.prog 82 #[v, .int .u64 u] w fun e w' => ∃ v' n', e = .returned v' ∧ Keep [] w0 w' ∧ w'.ownsRow w0.heap.size 5 1 v' n' (bytesC (xs ++ encN u)) ∧ Else w w' := by
  have HO0 := Lib.hid ho
  have hB := hk0.size
  obtain ⟨i5, hi5, hy0, hy1, hy2⟩ := info_parts info5
  clear ho
  go_enter Try.func82, Try.ntmps82
  go_wp2_with fail
  go_loopw [0, 1] (fun v' u' wr => ∃ (m k : Nat) (ys : List Int), u' = .int .u64 k ∧ Keep [] w0 wr ∧ Hid (Else w wr) ∧ Hid (wr.ownsRow w0.heap.size 5 1 v' m (bytesC ys)) ∧ Hid (ys ++ encN k = xs ++ encN u) ∧ k < 16384 ∧ m ≤ n + 1 ∧ (m = n ∨ k < 128)) (fun _ u' _ => (intOf u').toNat)
  case atStart => exact ⟨n, u, xs, rfl, hk0, Lib.hid (Else.refl _), HO0, Lib.hid rfl, hu, by omega, .inl rfl⟩
  case round =>
    obtain ⟨m, k, ys, rfl, hkw, HE, HO, HX, hk, hm, hmk⟩ := hrel
    have hsz := hkw.size
    clear HO0
    by_cases hlt : k < 128
    · go_wp2_with (first | (with_reducible refine Txt.wp_region_text mixed quiet (by decide +kernel) ?_) | (with_reducible refine Txt.text_done (by kernel_rfl) ?_) | (at_builtin; refine wpList_append_own _ rfl _ _ 60 rfl w0.heap.size 5 i5 (.int .u8 0) 1 1 Try.underlying60 hi5 hy0 hy1 hy2 rfl (by decide) _ _ _ rfl (HO.out.alloc _) ⟨wr.heap.size, 0, none⟩ 1 1 [.int .u8 (k : Int)] rfl rfl (cell_one_at rfl _ _) (by intro u hu; simp at hu; subst hu; rfl) (by unfold maxLen; omega) (by omega) (by simp; omega) ?_; intro v6 w6 hown6 hgr6 _; have HO6 := Lib.hid hown6; have HGR6 := Lib.hid hgr6; clear hown6 hgr6))
      go_ret
      have hgr : (wr.alloc (.cells #[.int .u8 k] 5)).grownBy w6 u0.ownBlock := HGR6.out
      refine ⟨v6, m + 1, rfl, (hkw.alloc _).grown hgr (fun g hg => .inr ((HO.out.lt g hg).1)), ?_, (HE.out.trans (Else.keep ((Keep.refl [] _).alloc _))).trans (Else.grown (HO.out.alloc _) hgr)⟩
      rw [← HX.out, encN, if_pos hlt]
      have h9 := HO6.out
      simpa [bytesC] using h9
    · obtain ⟨x, hx⟩ : ∃ x, bits BinOp.or IntKind.u8 ((k : Int) % 256) 128 = x := ⟨_, rfl⟩
      have HB := Lib.hid ((or128 k).symm.trans hx)
      go_wp2_with (first | (with_reducible refine Txt.wp_region_text mixed quiet (by decide +kernel) ?_) | (with_reducible refine Txt.text_done (by kernel_rfl) ?_) | (at_builtin; refine wpList_append_own _ rfl _ _ 60 rfl w0.heap.size 5 i5 (.int .u8 0) 1 1 Try.underlying60 hi5 hy0 hy1 hy2 rfl (by decide) _ _ _ rfl (HO.out.alloc _) ⟨wr.heap.size, 0, none⟩ 1 1 [.int .u8 x] rfl rfl (cell_one_at rfl _ _) (by intro u hu; simp at hu; subst hu; rfl) (by unfold maxLen; omega) (by omega) (by simp; omega) ?_; intro v6 w6 hown6 hgr6 _; have HO6 := Lib.hid hown6; have HGR6 := Lib.hid hgr6; clear hown6 hgr6))
      go_roundw
      case measure => simp [intOf]; omega
      case rel =>
        have hgr : (wr.alloc (.cells #[.int .u8 x] 5)).grownBy w6 u0.ownBlock := HGR6.out
        refine ⟨m + 1, k / 128, ys ++ [x], by rw [Int.natCast_ediv]; rfl, (hkw.alloc _).grown hgr (fun g hg => .inr ((HO.out.lt g hg).1)), Lib.hid ((HE.out.trans (Else.keep ((Keep.refl [] _).alloc _))).trans (Else.grown (HO.out.alloc _) hgr)), Lib.hid (by simpa [bytesC] using HO6.out), Lib.hid ?_, by omega, by omega, .inr (by omega)⟩
        rw [← HX.out, encN.eq_1 k, if_neg hlt, ← HB.out]
        simp
theorem encN_len (u : Nat) (hu : u < 16384) : (encN u).length ≤ 2 := by
  rw [encN]
  split
  · simp
  · rw [encN, if_pos (by omega)]; simp
set_option maxRecDepth 100000 in
theorem nat_any {n : Nat} {u : Int} {v : Value} {xs : List Int} {w0 w : World} (hk0 : Keep [] w0 w) (ho : w.ownsRow w0.heap.size 5 1 v n (bytesC xs)) (hu0 : 0 ≤ u) (hu : u < 16384) (hn : n ≤ 5000) :
    Calls Try.prog 74 #[v, .int .i64 u] w fun e w' => ∃ v' n', e = .returned v' ∧ Keep [] w0 w' ∧ w'.ownsRow w0.heap.size 5 1 v' n' (bytesC (xs ++ encN u.toNat)) ∧ Else w w' := by
  have h := unsigned_any hk0 ho (u := u.toNat) (by omega) hn
  have hcast : ((u.toNat : Nat) : Int) = u := by omega
  rw [hcast] at h
  have H := Lib.hid h
  clear h ho hcast
  go_enter Try.func74, Try.ntmps74
  go_wp2_with (first | (go_at_call 82; refine H.out.mono ?_; rintro e w1 ⟨v1, n1, rfl, hk1, ho1, he1⟩; have HO1 := Lib.hid ho1; have HE1 := Lib.hid he1; clear ho1 he1))
  go_ret
  exact ⟨v1, n1, rfl, hk1, HO1.out, HE1.out⟩
end Go.Proofs.Ytkhchfjhmplaiaa
namespace Go
/-- An event in bytes; a history. -/
def evB (L : Ln) : List Int := encN (3 * L.q + L.g - 1).toNat ++ (if L.g = 1 then [] else encN L.u.toNat)
def packTo (h : List Ln) : Nat → List Int
  | 0 => encN h.length
  | k + 1 => packTo h k ++ evB (lat h k)
def packB (h : List Ln) : List Int := packTo h h.length
end Go
namespace Go.Proofs.Ytkhchfjhmplaiaa
open Go.RowKit
theorem packTo_len {h : List Ln} (hk : HOk h) : ∀ k, k ≤ h.length → (packTo h k).length ≤ 2 + 4 * k := by
  intro k
  induction k with
  | zero => intro _; have := hk.len; exact encN_len _ (by omega)
  | succ k ih =>
    intro hl
    have he := hk.ev k (by omega)
    have h1 := encN_len (3 * (lat h k).q + (lat h k).g - 1).toNat (by omega)
    have h2 := encN_len (lat h k).u.toNat (by omega)
    have h3 := ih (by omega)
    rw [packTo, evB]
    generalize lat h k = L at *
    have e1 : (packTo h k).length + (encN (3 * L.q + L.g - 1).toNat).length + (encN L.u.toNat).length ≤ 2 + 4 * (k + 1) := by omega
    split
    · rw [List.append_nil, List.length_append]; omega
    · rw [List.length_append, List.length_append]; omega
set_option maxRecDepth 100000 in
theorem pack_any {a : Option Addr} {n c : Nat} {h : List Ln} {w : World} (hv : LnsV w a n c h) (hk : HOk h) :
    Calls Try.prog 48 #[.slice a n c] w fun e w' => ∃ v, e = .returned (.tuple #[v, .int .i64 0]) ∧ Keep [] w w' ∧ w'.ownsRow w.heap.size 5 1 v (packB h).length (bytesC (packB h)) := by
  have hn2 : n ≤ 200 := by have := hk.len; have := hv.len; omega
  have HV := Lib.hid hv
  have HK := Lib.hid hk
  have HL := Lib.hid hv.len
  clear hv hk
  go_enter Try.func48, Try.ntmps48
  go_wp2_with (first | (go_at_call 51; refine (check_ok HV.out HK.out).mono ?_; rintro e w1 ⟨rfl, hk1⟩) | (go_at_call 74; refine (nat_any hk1 (xs := []) (World.ownsRow_nil _ _ _ _) (by omega) (by omega) (by omega)).mono ?_; rintro e w2 ⟨v2, n2, rfl, hk2, ho2, he2⟩; have HO2 := Lib.hid ho2; have hl2 := ho2.1; clear ho2 he2))
  go_loopw [5, 18] (fun v i wr => ∃ (k m : Nat), k ≤ n ∧ i = .int .i64 k ∧ Keep [] w wr ∧ Hid (wr.ownsRow w.heap.size 5 1 v m (bytesC (packTo h k)))) (fun _ i _ => n - (intOf i).toNat)
  case atStart => exact ⟨0, n2, by omega, rfl, hk2, Lib.hid (by rw [packTo, HL.out]; simpa using HO2.out)⟩
  case round =>
    obtain ⟨k, m, hk, rfl, hkw, HO⟩ := hrel
    have hm : m ≤ 2 + 4 * k := by have h1 := HO.out.1; have h2 := packTo_len HK.out k (by rw [HL.out]; exact hk); simp [bytesC] at h1; omega
    clear HO2
    by_cases hlk : k < n
    · have hlh : k < h.length := by rw [HL.out]; exact hlk
      have he := HK.out.ev k hlh
      obtain ⟨b, off, rfl, c0, c1, c2⟩ := (HV.out.keep hkw (by simp)).at_ hlk
      have hpk : packTo h (k + 1) = packTo h k ++ evB (lat h k) := rfl
      obtain ⟨⟨q, g, u⟩, hL⟩ : ∃ L, lat h k = L := ⟨_, rfl⟩
      rw [hL] at he c0 c1 c2 hpk
      dsimp only at he c0 c1 c2
      have HP := Lib.hid hpk
      clear hL hpk
      have hkA : Keep [] wr (wr.alloc (.cells #[.int .i64 q, .int .i64 g, .int .i64 u] 27)) := (Keep.refl [] _).alloc _
      have HOA := Lib.hid (own_keep HO.out hkA (by simp))
      have hkwA := hkw.trans hkA
      have HEV := Lib.hid (blk_new wr (.cells #[.int .i64 q, .int .i64 g, .int .i64 u] 27))
      have hq1 : 0 ≤ 3 * q + g - 1 := by omega
      have hq2 : 3 * q + g - 1 < 16384 := by omega
      have HN3 : Hid (∀ n3 : Nat, (bytesC (packTo h k ++ encN (3 * q + g - 1).toNat)).length = n3 * 1 → n3 ≤ 1000) := Lib.hid (fun n3 h3 => by
        have he1 := encN_len (3 * q + g - 1).toNat (by omega)
        have h1 := HO.out.1
        rw [bytesC, List.length_map] at h1 h3
        rw [List.length_append] at h3
        omega)
      by_cases hg : g = 1
      · subst hg
        have e31 : 3 * q + 1 - 1 = 3 * q := by omega
        have hev1 : evB ⟨q, 1, u⟩ = encN (3 * q).toNat := by unfold evB; rw [if_pos rfl, List.append_nil, e31]
        rw [e31] at HN3
        rw [hev1] at HP
        clear e31 hev1
        go_wp2_with (first | (go_at_call 74; (with_reducible refine (nat_any hkwA HOA.out (by omega) (by omega) (by omega)).mono ?_); rintro e w3 ⟨v3, n3, rfl, hk3, ho3, he3⟩; have HO3 := Lib.hid ho3; have hl3 := HN3.out _ ho3.1; have hev := he3 _ _ _ _ HEV.out (by decide); obtain ⟨n0, n1, n2, _⟩ := row3 hev; clear ho3 he3 hev))
        go_roundw
        case measure => simp [intOf]; omega
        case rel => exact ⟨k + 1, n3, by omega, by go_num, hk3, Lib.hid (by rw [HP.out]; exact HO3.out)⟩
      · have hgb : (g == 1) = false := by simpa using hg
        go_wp2_with (first | (go_at_call 74; (with_reducible refine (nat_any hkwA HOA.out (by omega) (by omega) (by omega)).mono ?_); rintro e w3 ⟨v3, n3, rfl, hk3, ho3, he3⟩; have HO3 := Lib.hid ho3; have hl3 := HN3.out _ ho3.1; have hev := he3 _ _ _ _ HEV.out (by decide); obtain ⟨n0, n1, n2, _⟩ := row3 hev; clear ho3 he3 hev) | (go_at_call 74; (with_reducible refine (nat_any hk3 HO3.out (by omega) (by omega) (by omega)).mono ?_); rintro e w4 ⟨v4, n4, rfl, hk4, ho4, he4⟩; have HO4 := Lib.hid ho4; clear ho4 he4))
        go_roundw
        case measure => simp [intOf]; omega
        case rel => exact ⟨k + 1, n4, by omega, by go_num, hk4, Lib.hid (by rw [HP.out]; simpa [evB, hg] using HO4.out)⟩
    · have hkn := Lib.hid (show k = n by omega)
      go_wp2_with fail
      go_ret2
      have h9 := HO.out
      rw [hkn.out, ← HL.out] at h9
      have h10 : m = (packB h).length := by have := h9.1; simpa [bytesC, packB] using this.symm
      exact ⟨_, rfl, hkw, by rw [← h10]; exact h9⟩
end Go.Proofs.Ytkhchfjhmplaiaa
namespace Go.Proofs
open Go.Shelf
def Try.laysEq50_ren : Go.Shelf.Ren := ⟨fun | 115 => 50 | n => n, fun | 37 => 60 | 5 => 5 | 4 => 4 | 9 => 9 | n => n, fun | n => n⟩
theorem Try.laysEq50 : Go.Proofs.Lays.nb115 Try.prog Try.laysEq50_ren := {
  mixed := by kernel_rfl
  f115 := Try.func50.trans (congrArg some (by kernel_rfl))
  t4 := Try.underlying4
  a4 := Try.isAgg4
  z4 := Try.sizeOf4
  v4 := Try.zeroValue4
  t9 := Try.underlying9
  a9 := Try.isAgg9
  z9 := Try.sizeOf9
  v9 := Try.zeroValue9
  t37 := Try.underlying60
  a37 := Try.isAgg60
  z37 := Try.sizeOf60
  v37 := Try.zeroValue60
  t5 := Try.underlying5
  a5 := Try.isAgg5
  z5 := Try.sizeOf5
  v5 := Try.zeroValue5 }
end Go.Proofs
namespace Go.Proofs.Ytkhchfjhmplaiaa
open Go.RowKit
/-- bytes.Equal of equal bytes. -/
theorem eqb_same {p1 p2 : Option Addr} {n c d : Nat} {xs : List Int} {w : World} (hx : xs.length = n) (h1 : Lib.BytesIn w p1 n xs) (h2 : Lib.BytesIn w p2 n xs) :
    Calls Try.prog 50 #[.slice p1 n c, .slice p2 n d] w fun e w' => e = .returned (.bool true) ∧ w' = w := by
  have h : Calls Try.prog 50 #[.slice p1 n c, .slice p2 n d] w fun e w' => e = .returned (.bool (Lib.bytesOf xs == Lib.bytesOf xs)) ∧ w' = w :=
    Any.bytes_Equal_all Try.laysEq50 p1 p2 n c n d xs xs w hx hx h1 h2
  rw [beq_self_eq_true] at h
  exact h
/-- A row of bytes of one's own, as an argument. -/
theorem own_bytes {w : World} {B n : Nat} {v : Value} {xs : List Int} (ho : w.ownsRow B 5 1 v n (bytesC xs)) : ∃ a c, v = .slice a n c ∧ Lib.BytesIn w a n xs ∧ xs.length = n ∧ n ≤ c ∧ c ≤ maxLen := by
  obtain ⟨hl, h⟩ := ho
  have hlen : xs.length = n := by simpa [bytesC] using hl
  rcases h with ⟨rfl, h0⟩ | ⟨g, cap, cur, rfl, hb, hg, hnc, hcm, hcs, ht⟩
  · subst h0
    exact ⟨none, 0, rfl, Lib.BytesIn.nil _ _ _, hlen, Nat.le_refl _, Nat.zero_le _⟩
  · refine ⟨_, _, rfl, fun _ => ⟨g, 0, rfl, fun i hi => ?_⟩, hlen, hnc, hcm⟩
    rw [Nat.zero_add, cell_of_row w g i cur 5 (0, 0) hg]
    have : (cur.toList.take (n * 1))[i]? = (bytesC xs)[i]? := by rw [ht]
    rw [List.getElem?_take, if_pos (by omega)] at this
    simp only [Array.getElem?_toList] at this
    rw [this]
    simp [bytesC, List.getD_eq_getElem?_getD, hlen ▸ hi]
theorem bytes_keep {w w' : World} {a : Option Addr} {n : Nat} {xs : List Int} (h : Lib.BytesIn w a n xs) (hk : Keep [] w w') : Lib.BytesIn w' a n xs := fun hn =>
  let ⟨b, o, h1, h2⟩ := h hn
  ⟨b, o, h1, fun i hi => hk.cell (h2 i hi) (by simp)⟩
theorem bytes_new (w : World) (xs : List Int) : Lib.BytesIn (w.alloc (.cells (bytesC xs).toArray 5)) (some ⟨w.heap.size, 0, none⟩) xs.length xs := fun _ => ⟨_, 0, rfl, fun i hi => by
  rw [Nat.zero_add, cell_of_row _ _ _ _ _ _ (blk_new w _)]
  simp [bytesC, List.getD_eq_getElem?_getD, hi]⟩
def one1 : List Ln := [⟨2, 1, 0⟩]
theorem one1_ok : HOk one1 := by
  refine ⟨by decide, fun i hi => ?_, fun i j h1 h2 => ?_, fun i j h1 h2 => ?_, fun i hi hg => ?_⟩
  · have : i = 0 := by simp [one1] at hi; exact hi
    subst this; decide
  · simp [one1] at h2; omega
  · simp [one1] at h2; omega
  · have : i = 0 := by simp [one1] at hi; exact hi
    subst this; exact absurd hg (by decide)
theorem one1_pack : packB one1 = [1, 6] := by
  simp [packB, packTo, evB, one1, encN]
set_option maxRecDepth 100000 in
theorem tbegun_any (w : World) : Calls Try.prog 35 #[] w fun e w' => e = .returned (.bool true) ∧ Keep [] w w' := by
  have hp := fun (v : LnsV (w.alloc (.cells #[.int .i64 2, .int .i64 1, .int .i64 0] 27)) (some ⟨w.heap.size, 0, none⟩) 1 1 one1) => pack_any v one1_ok
  rw [one1_pack] at hp
  have HV : LnsV (w.alloc (.cells #[.int .i64 2, .int .i64 1, .int .i64 0] 27)) (some ⟨w.heap.size, 0, none⟩) 1 1 one1 := by
    refine ⟨rfl, Nat.le_refl _, by unfold maxLen; omega, fun _ => ⟨w.heap.size, 0, rfl, fun j hj => ?_⟩⟩
    rw [Nat.zero_add, cell_of_row _ _ _ _ _ _ (blk_new w _)]
    simp [lanesC, one1, Ln.cells]
  have hkw : Keep [] w (w.alloc (.cells #[.int .i64 2, .int .i64 1, .int .i64 0] 27)) := (Keep.refl _ _).alloc _
  have HP := Lib.hid (hp HV)
  clear hp HV
  go_enter Try.func35, Try.ntmps35
  go_wp2_with (first | (go_at_call 48; refine HP.out.mono ?_; rintro e w1 ⟨v1, rfl, hk1, ho1⟩; obtain ⟨a1, c1, rfl, hb1, _⟩ := own_bytes ho1; have HB1 := Lib.hid (bytes_keep hb1 ((Keep.refl [] w1).alloc (.cells #[.int .u8 1, .int .u8 6] 5))); clear hb1 ho1) | (go_at_call 50; refine (eqb_same (xs := [1, 6]) rfl HB1.out (bytes_new w1 [1, 6])).mono ?_; rintro e w2 ⟨rfl, rfl⟩))
  go_ret
  exact ⟨rfl, hkw.trans (hk1.alloc _)⟩
end Go.Proofs.Ytkhchfjhmplaiaa
namespace Go
open Go.RowKit
def ledB (h : List Ln) (i k : Nat) : Bool := decide (k = i) || lessL (clk h k) (clk h i)
/-- The event i and what led to it, of the first k. -/
def ledTo (h : List Ln) (i k : Nat) : List Ln := ((List.range k).filter (ledB h i)).map (lat h)
theorem ledTo_succ (h : List Ln) (i k : Nat) : ledTo h i (k + 1) = ledTo h i k ++ (if ledB h i k = true then [lat h k] else []) := by
  unfold ledTo
  rw [List.range_succ, List.filter_append, List.map_append]
  congr 1
  by_cases e : ledB h i k = true
  · rw [if_pos e]; simp [e]
  · rw [if_neg e]; simp [e]
theorem ledTo_len (h : List Ln) (i k : Nat) : (ledTo h i k).length ≤ k := by
  unfold ledTo
  rw [List.length_map]
  exact Nat.le_trans (List.length_filter_le _ _) (by simp)
end Go
namespace Go.Proofs.Ytkhchfjhmplaiaa
open Go.RowKit
set_option maxRecDepth 100000 in
set_option maxHeartbeats 1000000 in
/-- slices.Equal of equal histories. -/
theorem eqe_same {a1 a2 : Option Addr} {n c1 c2 : Nat} {h : List Ln} {w : World} (hx : LnsV w a1 n c1 h) (hy : LnsV w a2 n c2 h) :
    Calls Try.prog 44 #[.slice a1 n c1, .slice a2 n c2] w fun e w' => e = .returned (.bool true) ∧ Keep [] w w' := by
  have HX := Lib.hid hx
  have HY := Lib.hid hy
  have h1 := hx.room
  have h2 := hx.most
  have h3 := hy.room
  have h4 := hy.most
  unfold maxLen at h2 h4
  clear hx hy
  go_enter Try.func44, Try.ntmps44
  go_wp2_with fail
  go_loopw [13] (fun i wr => ∃ k : Nat, k ≤ n ∧ i = .int .i64 k ∧ Keep [] w wr) (fun i _ => n - (intOf i).toNat)
  case atStart => exact ⟨0, by omega, rfl, Keep.refl _ _⟩
  case round =>
    obtain ⟨k, hk, rfl, hkw⟩ := hrel
    by_cases hlt : k < n
    · obtain ⟨b, off, rfl, c0, c1', c2'⟩ := (HX.out.keep hkw (by simp)).at_ hlt
      obtain ⟨b', off', rfl, d0, d1, d2⟩ := (HY.out.keep hkw (by simp)).at_ hlt
      obtain ⟨⟨q, g, u⟩, hL⟩ : ∃ L, lat h k = L := ⟨_, rfl⟩
      rw [hL] at c0 c1' c2' d0 d1 d2
      dsimp only at c0 c1' c2' d0 d1 d2
      clear hL
      go_wp2_with fail
      go_region
      go_wp2_with fail
      go_roundw
      case measure => simp [intOf]; omega
      case rel => exact ⟨k + 1, by omega, by go_num, by repeat (first | exact hkw | apply Keep.drew)⟩
    · go_wp2_with fail
      go_ret
      exact ⟨rfl, hkw⟩
set_option maxRecDepth 100000 in
set_option maxHeartbeats 1000000 in
/-- slices.Equal of equal histories, in a region that only reads. -/
theorem eqe_q {a1 a2 : Option Addr} {n c1 c2 : Nat} {h : List Ln} {r : Nat} {w : World} (hx : LnsV w a1 n c1 h) (hy : LnsV w a2 n c2 h) :
    Calls Try.prog 44 #[.slice a1 n c1, .slice a2 n c2] (w.drewN r) fun e w' => e = .returned (.bool true) ∧ ∃ m, w' = w.drewN m := by
  have HX := Lib.hid hx
  have HY := Lib.hid hy
  have h1 := hx.room
  have h2 := hx.most
  have h3 := hy.room
  have h4 := hy.most
  unfold maxLen at h2 h4
  clear hx hy
  go_enter Try.func44, Try.ntmps44
  go_wp2_with fail
  go_loopw [13] (fun i wr => ∃ k : Nat, k ≤ n ∧ i = .int .i64 k ∧ ∃ m, wr = w.drewN m) (fun i _ => n - (intOf i).toNat)
  case atStart => exact ⟨0, by omega, rfl, r, rfl⟩
  case round =>
    obtain ⟨k, hk, rfl, m, hwm⟩ := hrel
    have HW := Lib.hid hwm
    have hkw : Keep [] w wr := by rw [hwm]; exact keep_drewN (Keep.refl _ _) _
    clear hwm
    by_cases hlt : k < n
    · obtain ⟨b, off, rfl, c0, c1', c2'⟩ := (HX.out.keep hkw (by simp)).at_ hlt
      obtain ⟨b', off', rfl, d0, d1, d2⟩ := (HY.out.keep hkw (by simp)).at_ hlt
      obtain ⟨⟨q, g, u⟩, hL⟩ : ∃ L, lat h k = L := ⟨_, rfl⟩
      rw [hL] at c0 c1' c2' d0 d1 d2
      dsimp only at c0 c1' c2' d0 d1 d2
      clear hL
      go_wp2_with fail
      go_region
      go_wp2_with fail
      go_roundw
      case measure => simp [intOf]; omega
      case rel => exact ⟨k + 1, by omega, by go_num, m + 1, by rw [HW.out]; rfl⟩
    · go_wp2_with fail
      go_ret
      exact ⟨rfl, m, HW.out⟩
set_option maxHeartbeats 1000000 in
theorem eqi_q {a1 a2 : Option Addr} {n c1 c2 r : Nat} {xs ys : List Int} {w : World} (hx : IntsV w a1 n c1 xs) (hy : IntsV w a2 n c2 ys) (he : Hid (xs = ys)) :
    Calls Try.prog 34 #[.slice a1 n c1, .slice a2 n c2] (w.drewN r) fun e w' => e = .returned (.bool true) ∧ ∃ m, w' = w.drewN m := by
  obtain rfl := he.out
  have hb1 := hx.room
  have hb2 := hx.most
  have hb3 := hy.room
  have hb4 := hy.most
  unfold maxLen at hb2 hb4
  have HX := Lib.hid hx
  have HY := Lib.hid hy
  clear hx hy he
  go_enter Try.func34, Try.ntmps34
  go_wp2_with fail
  go_loopw [13] (fun i wr => ∃ k : Nat, k ≤ n ∧ i = .int .i64 k ∧ ∃ m, wr = w.drewN m) (fun i _ => n - (intOf i).toNat)
  case atStart => exact ⟨0, by omega, rfl, r, rfl⟩
  case round =>
    obtain ⟨k, hk, rfl, m, hwm⟩ := hrel
    have HW := Lib.hid hwm
    have hkw : Keep [] w wr := by rw [hwm]; exact keep_drewN (Keep.refl _ _) _
    clear hwm
    by_cases hlt : k < n
    · obtain ⟨b1, o1, rfl, hc1⟩ := HX.out.cells (by omega)
      obtain ⟨b2, o2, rfl, hc2⟩ := HY.out.cells (by omega)
      have hd1 := hkw.cell (hc1 k hlt) (by simp)
      have hd2 := hkw.cell (hc2 k hlt) (by simp)
      clear hc1 hc2 HX HY
      generalize xs.getD k 0 = x at *
      go_wp2_with fail
      go_region
      go_wp2_with fail
      go_roundw
      case measure => simp [intOf]; omega
      case rel => exact ⟨k + 1, by omega, by go_num, m + 1, by rw [HW.out]; rfl⟩
    · go_wp2_with fail
      go_ret
      exact ⟨rfl, m, HW.out⟩
set_option maxRecDepth 100000 in
set_option maxHeartbeats 2000000 in
theorem led_any {a : Option Addr} {n c i : Nat} {h : List Ln} {w : World} (hv : LnsV w a n c h) (hk : HOk h) (hi : i < n) :
    Calls Try.prog 43 #[.slice a n c, .int .i64 i] w fun e w' => ∃ v m, e = .returned (.tuple #[v, .int .i64 0]) ∧ Keep [] w w' ∧ w'.ownsRow w.heap.size 27 3 v m (lanesC (ledTo h i n)) := by
  have hc := Lib.hid (clocks_at hv hk (by omega))
  have HV := Lib.hid hv
  have HL := Lib.hid hv.len
  have hn2 : n ≤ 200 := by have := hk.len; have := hv.len; omega
  have HK := Lib.hid hk
  obtain ⟨i0, hi0, hz0, hz1, hz2⟩ := info_parts info27
  clear hv hk
  have hd1 : decide ((i : Int) < 0) = false := by simp
  have hd2 : decide ((n : Int) ≤ (i : Int)) = false := by simp; omega
  have hd3 : decide (n ≤ i) = false := by simp; omega
  go_enter Try.func43, Try.ntmps43
  go_wp2_with (first | (go_at_call 25; refine hc.out.mono ?_; rintro e w1 ⟨g1, cap, rfl, hk1, hg, hgl, hnc, hcm, hcs⟩; have HCS : Hid (ClksV w1 g1 n h) := Lib.hid hcs; unfold maxLen at hcm; clear hcs))
  go_loopw [8, 9, 10, 31] (fun v _ _ j wr => ∃ (k m : Nat), k ≤ n ∧ j = .int .i64 k ∧ Keep [] w1 wr ∧ Hid (wr.ownsRow w1.heap.size 27 3 v m (lanesC (ledTo h i k)))) (fun _ _ _ j _ => n - (intOf j).toNat)
  case atStart => exact ⟨0, 0, by omega, rfl, Keep.refl _ _, Lib.hid (World.ownsRow_nil _ _ _ _)⟩
  case round =>
    obtain ⟨k, m, hk, rfl, hkw, HO⟩ := hrel
    have HX := Lib.hid (HCS.out.keep hkw)
    have hm : m ≤ k := by have h1 := HO.out.1; have h2 := ledTo_len h i k; rw [lanesC_len] at h1; omega
    have hsw := hkw.size
    by_cases hlt : k < n
    · obtain ⟨b, off, rfl, c0, c1, c2⟩ := (HV.out.keep (hk1.trans hkw) (by simp)).at_ hlt
      obtain ⟨gi, ci, hci, hii⟩ := HX.out i hi
      obtain ⟨gk, ck, hck, hik⟩ := HX.out k hlt
      have hls := ledTo_succ h i k
      obtain ⟨⟨q, g, u⟩, hL⟩ : ∃ L, lat h k = L := ⟨_, rfl⟩
      rw [hL] at c0 c1 c2 hls
      dsimp only at c0 c1 c2
      clear hL
      have hkA : Keep [] wr (wr.alloc (.cells #[.int .i64 q, .int .i64 g, .int .i64 u] 27)) := (Keep.refl [] _).alloc _
      have HII := Lib.hid (hii.keep hkA (by simp))
      have HIK := Lib.hid (hik.keep hkA (by simp))
      have HOA := Lib.hid (own_keep HO.out hkA (by simp))
      have hkwA := hkw.trans hkA
      have hci' := hkA.cell hci (by simp)
      have hck' := hkA.cell hck (by simp)
      have HEV := Lib.hid (blk_new wr (.cells #[.int .i64 q, .int .i64 g, .int .i64 u] 27))
      have f1 : (i : Int) < (n : Int) := by omega
      have f2 : (k : Int) < (n : Int) := by omega
      clear hii hik hci hck
      by_cases hki : k = i
      · have hee : ((k : Int) == (i : Int)) = true := by rw [hki]; exact beq_self_eq_true _
        have hled : ledB h i k = true := by unfold ledB; rw [decide_eq_true hki]; rfl
        rw [hled, if_pos rfl] at hls
        have HLS := Lib.hid hls
        clear hls hled hki
        go_wp2_with fail
        go_quiet (first | (go_at_call 27; exact less_q HIK.out HII.out HB))
        obtain ⟨w5, hw5⟩ : ∃ w5, (wr.alloc (.cells #[.int .i64 q, .int .i64 g, .int .i64 u] 27)).drewN nq = w5 := ⟨_, rfl⟩
        have hk5 : Keep [] (wr.alloc (.cells #[.int .i64 q, .int .i64 g, .int .i64 u] 27)) ((wr.alloc (.cells #[.int .i64 q, .int .i64 g, .int .i64 u] 27)).drewN nq) := keep_drewN (Keep.refl [] _) _
        rw [hw5] at hk5 ⊢
        have HO5 := Lib.hid (own_keep HOA.out hk5 (by simp))
        have hkw5 := hkwA.trans hk5
        have hs5 := hkw5.size
        obtain ⟨n0, n1, n2, _⟩ := row3 (hk5.at HEV.out (by simp))
        clear hw5 hk5
        go_wp2_with (first | (with_reducible refine Txt.wp_region_text mixed quiet (by decide +kernel) ?_) | (with_reducible refine Txt.text_done (by kernel_rfl) ?_) | (at_builtin; refine wpList_append_own _ rfl _ _ 28 rfl w1.heap.size 27 i0 (.agg #[.int .i64 0, .int .i64 0, .int .i64 0]) 3 24 Try.underlying28 hi0 hz0 hz1 hz2 rfl (by decide) _ _ _ rfl (HO5.out.alloc _) ⟨w5.heap.size, 0, none⟩ 1 1 [.int .i64 q, .int .i64 g, .int .i64 u] rfl rfl (cells_new _ _ _ _) (by intro u hu; simp at hu; rcases hu with hu | hu | hu <;> (subst hu; rfl)) (by unfold maxLen; omega) (by omega) (by simp; omega) ?_; intro v6 w6 hown6 hgr6 _; have HO6 := Lib.hid hown6; have HGR6 := Lib.hid hgr6; clear hown6 hgr6))
        go_roundw
        case measure => simp [intOf]; omega
        case rel =>
          have hgr : (w5.alloc (.cells #[.int .i64 q, .int .i64 g, .int .i64 u] 27)).grownBy w6 u8.ownBlock := HGR6.out
          exact ⟨k + 1, m + 1, by omega, by go_num, (hkw5.alloc _).grown hgr (fun x hx => .inr (HO.out.lt x hx).1), Lib.hid (by rw [HLS.out]; simpa [lanesC_snoc, Ln.cells] using HO6.out)⟩
      · have hne : ((k : Int) == (i : Int)) = false := beq_eq_false_iff_ne.2 (fun e => hki (by omega))
        obtain ⟨bb, hb⟩ : ∃ bb, lessL (clk h k) (clk h i) = bb := ⟨_, rfl⟩
        have hled : ledB h i k = bb := by unfold ledB; rw [hb, decide_eq_false hki]; rfl
        rw [hled] at hls
        have HB := Lib.hid hb
        clear hb hled
        cases bb
        · have HLS := Lib.hid hls
          clear hls
          go_wp2_with fail
          go_quiet (first | (go_at_call 27; exact less_q HIK.out HII.out HB))
          go_wp2_with fail
          go_roundw
          case measure => simp [intOf]; omega
          case rel => exact ⟨k + 1, m, by omega, by go_num, keep_drewN hkwA _, Lib.hid (by rw [HLS.out]; simpa using own_keep HOA.out (keep_drewN (Keep.refl [] _) _) (by simp))⟩
        · have HLS := Lib.hid hls
          clear hls
          go_wp2_with fail
          go_quiet (first | (go_at_call 27; exact less_q HIK.out HII.out HB))
          obtain ⟨w5, hw5⟩ : ∃ w5, (wr.alloc (.cells #[.int .i64 q, .int .i64 g, .int .i64 u] 27)).drewN nq = w5 := ⟨_, rfl⟩
          have hk5 : Keep [] (wr.alloc (.cells #[.int .i64 q, .int .i64 g, .int .i64 u] 27)) ((wr.alloc (.cells #[.int .i64 q, .int .i64 g, .int .i64 u] 27)).drewN nq) := keep_drewN (Keep.refl [] _) _
          rw [hw5] at hk5 ⊢
          have HO5 := Lib.hid (own_keep HOA.out hk5 (by simp))
          have hkw5 := hkwA.trans hk5
          have hs5 := hkw5.size
          obtain ⟨n0, n1, n2, _⟩ := row3 (hk5.at HEV.out (by simp))
          clear hw5 hk5
          go_wp2_with (first | (with_reducible refine Txt.wp_region_text mixed quiet (by decide +kernel) ?_) | (with_reducible refine Txt.text_done (by kernel_rfl) ?_) | (at_builtin; refine wpList_append_own _ rfl _ _ 28 rfl w1.heap.size 27 i0 (.agg #[.int .i64 0, .int .i64 0, .int .i64 0]) 3 24 Try.underlying28 hi0 hz0 hz1 hz2 rfl (by decide) _ _ _ rfl (HO5.out.alloc _) ⟨w5.heap.size, 0, none⟩ 1 1 [.int .i64 q, .int .i64 g, .int .i64 u] rfl rfl (cells_new _ _ _ _) (by intro u hu; simp at hu; rcases hu with hu | hu | hu <;> (subst hu; rfl)) (by unfold maxLen; omega) (by omega) (by simp; omega) ?_; intro v6 w6 hown6 hgr6 _; have HO6 := Lib.hid hown6; have HGR6 := Lib.hid hgr6; clear hown6 hgr6))
          go_roundw
          case measure => simp [intOf]; omega
          case rel =>
            have hgr : (w5.alloc (.cells #[.int .i64 q, .int .i64 g, .int .i64 u] 27)).grownBy w6 u8.ownBlock := HGR6.out
            exact ⟨k + 1, m + 1, by omega, by go_num, (hkw5.alloc _).grown hgr (fun x hx => .inr (HO.out.lt x hx).1), Lib.hid (by rw [HLS.out]; simpa [lanesC_snoc, Ln.cells] using HO6.out)⟩
    · have hkn := Lib.hid (show k = n by omega)
      go_wp2_with fail
      go_ret2
      exact ⟨_, m, rfl, hk1.trans hkw, by rw [← hkn.out]; exact HO.out.mono hk1.size⟩
end Go.Proofs.Ytkhchfjhmplaiaa
namespace Go
open Go.RowKit
/-- The last one below m of which c is so. -/
def lastB (c : Nat → Bool) : Nat → Option Nat
  | 0 => none
  | m + 1 => if c m = true then some m else lastB c m
theorem lastIx_B (h : List Ln) (p : Int) (m : Nat) : lastIx h p m = lastB (fun j => decide ((lat h j).q = p)) m := by
  induction m with
  | zero => rfl
  | succ m ih => rw [lastIx, lastB, ih]; simp only [decide_eq_true_eq]
theorem sendIx_B (h : List Ln) (u : Int) (m : Nat) : sendIx h u m = lastB (fun j => decide ((lat h j).g = 2 ∧ (lat h j).u = u)) m := by
  induction m with
  | zero => rfl
  | succ m ih => rw [sendIx, lastB, ih]; simp only [decide_eq_true_eq]
theorem lastB_lt {c : Nat → Bool} {m j : Nat} (h : lastB c m = some j) : j < m ∧ c j = true := by
  induction m with
  | zero => cases h
  | succ m ih =>
    rw [lastB] at h
    split at h
    · cases h; exact ⟨by omega, by assumption⟩
    · have := ih h; exact ⟨by omega, this.2⟩
theorem lastB_none {c : Nat → Bool} {m : Nat} (h : lastB c m = none) : ∀ j, j < m → c j = false := by
  induction m with
  | zero => intro j hj; omega
  | succ m ih =>
    rw [lastB] at h
    split at h
    · cases h
    · rename_i hc
      intro j hj
      by_cases e : j = m
      · subst e; simpa using hc
      · exact ih h j (by omega)
theorem lastB_and {P c : Nat → Bool} {m : Nat} (hP : ∀ j, lastB c m = some j → P j = true) : lastB (fun j => P j && c j) m = lastB c m := by
  induction m with
  | zero => rfl
  | succ m ih =>
    rw [lastB, lastB]
    by_cases e : c m = true
    · have := hP m (by rw [lastB, if_pos e])
      rw [if_pos e, if_pos (by rw [this, e]; rfl)]
    · rw [if_neg e, if_neg (by simp [e])]
      exact ih fun j hj => hP j (by rw [lastB, if_neg e]; exact hj)
/-- How many below k are chosen. -/
def rk (P : Nat → Bool) (k : Nat) : Nat := ((List.range k).filter P).length
theorem rk_succ (P : Nat → Bool) (k : Nat) : rk P (k + 1) = rk P k + (if P k = true then 1 else 0) := by
  unfold rk
  rw [List.range_succ, List.filter_append, List.length_append]
  by_cases e : P k = true
  · simp [e]
  · simp [e]
theorem rk_mono (P : Nat → Bool) {i k : Nat} (h : i ≤ k) : rk P i ≤ rk P k := by
  induction k with
  | zero => rw [show i = 0 by omega]; exact Nat.le_refl _
  | succ k ih =>
    by_cases e : i = k + 1
    · rw [e]; exact Nat.le_refl _
    · have := ih (by omega); rw [rk_succ]; omega
theorem rk_lt {P : Nat → Bool} {i k : Nat} (h : i < k) (hi : P i = true) : rk P i < rk P k := by
  have h1 := rk_mono P (show i + 1 ≤ k from h)
  rw [rk_succ, if_pos hi] at h1
  omega
theorem rk_inv {P : Nat → Bool} {n x : Nat} (h : x < rk P n) : ∃ k, k < n ∧ P k = true ∧ rk P k = x := by
  induction n with
  | zero => simp [rk] at h
  | succ n ih =>
    rw [rk_succ] at h
    by_cases e : x < rk P n
    · obtain ⟨k, h1, h2⟩ := ih e
      exact ⟨k, by omega, h2⟩
    · by_cases hp : P n = true
      · rw [if_pos hp] at h
        exact ⟨n, by omega, hp, by omega⟩
      · rw [if_neg hp] at h; omega
/-- The chosen events. -/
def subL (h : List Ln) (P : Nat → Bool) (n : Nat) : List Ln := ((List.range n).filter P).map (lat h)
theorem subL_len (h : List Ln) (P : Nat → Bool) (n : Nat) : (subL h P n).length = rk P n := by simp [subL, rk]
theorem subL_at (h : List Ln) {P : Nat → Bool} {n k : Nat} (hk : k < n) (hp : P k = true) : lat (subL h P n) (rk P k) = lat h k := by
  induction n with
  | zero => omega
  | succ n ih =>
    have hs : subL h P (n + 1) = subL h P n ++ (if P n = true then [lat h n] else []) := by
      unfold subL
      rw [List.range_succ, List.filter_append, List.map_append]
      by_cases e : P n = true
      · simp [e]
      · simp [e]
    rw [hs]
    by_cases e : k = n
    · subst e
      rw [if_pos hp]
      have hl := subL_len h P k
      show List.getD _ _ _ = _
      rw [List.getD_eq_getElem?_getD, List.getElem?_append_right (by omega), show rk P k - (subL h P k).length = 0 by omega]
      rfl
    · have h1 := ih (by omega)
      have h2 := rk_lt (show k < n by omega) hp
      show List.getD _ _ _ = _
      rw [List.getD_eq_getElem?_getD, List.getElem?_append_left (by rw [subL_len]; omega), ← List.getD_eq_getElem?_getD]
      exact h1
theorem lastB_rk {P c c' : Nat → Bool} {m : Nat} (hc : ∀ j, j < m → P j = true → c' (rk P j) = c j) : lastB c' (rk P m) = (lastB (fun j => P j && c j) m).map (rk P) := by
  induction m with
  | zero => rfl
  | succ m ih =>
    have h1 := ih fun j hj => hc j (by omega)
    rw [rk_succ, lastB]
    by_cases e : P m = true
    · rw [if_pos e, lastB, hc m (by omega) e, h1]
      by_cases e2 : c m = true
      · rw [if_pos e2, if_pos (by rw [e, e2]; rfl)]; rfl
      · rw [if_neg e2, if_neg (by simp [e2])]
    · rw [if_neg e, if_neg (by simp [e]), Nat.add_zero, h1]
/-- A choice that is closed downwards. -/
structure Closed (h : List Ln) (P : Nat → Bool) : Prop where
  edge : ∀ j k, j < k → k < h.length → P k = true → edgeB h j k = true → P j = true
section
variable {h : List Ln} {P : Nat → Bool}
theorem sub_last (hc : Closed h P) {n k : Nat} (hn : n ≤ h.length) (hk : k < n) (hp : P k = true) : lastIx (subL h P n) (lat h k).q (rk P k) = (lastIx h (lat h k).q k).map (rk P) := by
  rw [lastIx_B, lastIx_B, lastB_rk (c := fun j => decide ((lat h j).q = (lat h k).q)) (fun j hj hpj => by rw [subL_at h (by omega) hpj]), lastB_and]
  intro j hj
  obtain ⟨h1, h2⟩ := lastB_lt hj
  exact hc.edge j k h1 (by omega) hp (by unfold edgeB; rw [h2]; rfl)
theorem sub_send (hc : Closed h P) {n k : Nat} (hn : n ≤ h.length) (hk : k < n) (hp : P k = true) (hg : (lat h k).g = 3) : sendIx (subL h P n) (lat h k).u (rk P k) = (sendIx h (lat h k).u k).map (rk P) := by
  rw [sendIx_B, sendIx_B, lastB_rk (c := fun j => decide ((lat h j).g = 2 ∧ (lat h j).u = (lat h k).u)) (fun j hj hpj => by rw [subL_at h (by omega) hpj]), lastB_and]
  intro j hj
  obtain ⟨h1, h2⟩ := lastB_lt hj
  have h3 := of_decide_eq_true h2
  exact hc.edge j k h1 (by omega) hp (by unfold edgeB; rw [h3.1, h3.2, hg]; simp)
/-- The clocks stay. -/
theorem sub_clk (hk : HOk h) (hc : Closed h P) {n : Nat} (hn : n ≤ h.length) : ∀ (m k : Nat), k < m → k < n → P k = true → clk (subL h P n) (rk P k) = clk h k := by
  intro m
  induction m with
  | zero => intro k h; omega
  | succ m ih =>
    intro k hm hkn hp
    rw [clk_eq (subL h P n), clk_eq h k, subL_at h hkn hp, sub_last hc hn hkn hp]
    have h1 : ((lastIx h (lat h k).q k).map (rk P)).elim zeros8 (clk (subL h P n)) = (lastIx h (lat h k).q k).elim zeros8 (clk h) := by
      cases hx : lastIx h (lat h k).q k with
      | none => rfl
      | some j =>
        have hj := lastIx_lt hx
        have hpj := hc.edge j k hj.1 (by omega) hp (by unfold edgeB; rw [hj.2.1]; simp)
        exact ih j (by omega) (by omega) hpj
    rw [h1]
    by_cases hg : (lat h k).g = 3
    · rw [if_pos hg, if_pos hg, sub_send hc hn hkn hp hg]
      obtain ⟨j, hj⟩ := sendIx_take hk (show k < h.length by omega) hg
      have hjl := sendIx_lt hj
      have hpj := hc.edge j k hjl.1 (by omega) hp (by unfold edgeB; rw [hjl.2.1, hjl.2.2, hg]; simp)
      have h2 := ih j (by omega) (by omega) hpj
      rw [hj]
      show bump (joinL _ (clk (subL h P n) (rk P j))) _ = bump (joinL _ (clk h j)) _
      rw [h2]
    · rw [if_neg hg, if_neg hg]
theorem sub_ok (hk : HOk h) (hc : Closed h P) {n : Nat} (hn : n ≤ h.length) : HOk (subL h P n) := by
  have hlen := subL_len h P n
  have hrn : rk P n ≤ n := by unfold rk; exact Nat.le_trans (List.length_filter_le _ _) (by simp)
  have hl := hk.len
  have uniq : ∀ g : Int, (∀ x y, x < y → y < h.length → (lat h x).g = g → (lat h y).g = g → (lat h x).u ≠ (lat h y).u) → ∀ x y, x < y → y < (subL h P n).length → (lat (subL h P n) x).g = g → (lat (subL h P n) y).g = g → (lat (subL h P n) x).u ≠ (lat (subL h P n) y).u := fun g hu x y hxy hy h1 h2 => by
    rw [hlen] at hy
    obtain ⟨i, hi, hpi, rfl⟩ := rk_inv (show x < rk P n by omega)
    obtain ⟨j, hj, hpj, rfl⟩ := rk_inv hy
    rw [subL_at h hi hpi] at h1 ⊢
    rw [subL_at h hj hpj] at h2 ⊢
    have hij : i < j := by
      by_cases e : i < j
      · exact e
      · have := rk_mono P (show j ≤ i by omega); omega
    exact hu i j hij (by omega) h1 h2
  refine ⟨by omega, fun x hx => ?_, uniq 2 hk.sends, uniq 3 hk.takes, fun x hx hg => ?_⟩
  · rw [hlen] at hx
    obtain ⟨i, hi, hpi, rfl⟩ := rk_inv hx
    rw [subL_at h hi hpi]; exact hk.ev i (by omega)
  · rw [hlen] at hx
    obtain ⟨i, hi, hpi, rfl⟩ := rk_inv hx
    rw [subL_at h hi hpi] at hg ⊢
    obtain ⟨j, hj, h1, h2⟩ := hk.sent i (by omega) hg
    have hpj := hc.edge j i hj (by omega) hpi (by unfold edgeB; rw [h1, h2, hg]; simp)
    exact ⟨rk P j, rk_lt hj hpj, by rw [subL_at h (by omega) hpj]; exact h1, by rw [subL_at h (by omega) hpj]; exact h2⟩
end
end Go
namespace Go
open Go.RowKit
theorem led_closed {h : List Ln} (hk : HOk h) {i : Nat} (_ : i < h.length) : Closed h (ledB h i) := ⟨fun j k hjk hkl hp he => by
  have h1 := reach_le hk (.step .here hjk he) hkl
  have h2 := le_less hk hjk hkl h1
  unfold ledB at hp ⊢
  rw [Bool.or_eq_true, decide_eq_true_eq] at hp ⊢
  rcases hp with hp | hp
  · rw [← hp]; exact .inr h2
  · exact .inr (lessL_trans h2 hp)⟩
theorem led_le {h : List Ln} (hk : HOk h) {i k : Nat} (hi : i < h.length) (hl : k < h.length) (hp : ledB h i k = true) : k ≤ i := by
  unfold ledB at hp
  rw [Bool.or_eq_true, decide_eq_true_eq] at hp
  rcases hp with hp | hp
  · omega
  · have := lessL_lt hk hl hi hp; omega
theorem led_self (h : List Ln) (i : Nat) : ledB h i i = true := by unfold ledB; simp
theorem led_last {h : List Ln} (hk : HOk h) {i : Nat} (hi : i < h.length) : rk (ledB h i) h.length = rk (ledB h i) i + 1 := by
  have h1 : ∀ m, i + 1 ≤ m → m ≤ h.length → rk (ledB h i) m = rk (ledB h i) (i + 1) := fun m => by
    induction m with
    | zero => intro h; omega
    | succ m ih =>
      intro h2 h3
      by_cases e : i = m
      · rw [e]
      · rw [rk_succ, ih (by omega) (by omega), if_neg, Nat.add_zero]
        intro hp
        have := led_le hk hi (show m < h.length by omega) hp
        omega
  rw [h1 _ (by omega) (Nat.le_refl _), rk_succ, if_pos (led_self h i)]
/-- The past of the last of a past is all of it. -/
theorem led_again {h : List Ln} (hk : HOk h) {i : Nat} (hi : i < h.length) : ledTo (ledTo h i h.length) (rk (ledB h i) i) (ledTo h i h.length).length = ledTo h i h.length := by
  have hc := led_closed hk hi
  have hlen : (ledTo h i h.length).length = rk (ledB h i) h.length := subL_len h (ledB h i) h.length
  have hall : ∀ x, x < (ledTo h i h.length).length → ledB (ledTo h i h.length) (rk (ledB h i) i) x = true := fun x hx => by
    rw [hlen] at hx
    obtain ⟨k, h1, h2, rfl⟩ := rk_inv hx
    unfold ledB
    rw [Bool.or_eq_true, decide_eq_true_eq]
    have e1 : clk (ledTo h i h.length) (rk (ledB h i) k) = clk h k := sub_clk hk hc (Nat.le_refl _) (k + 1) k (by omega) h1 h2
    have e2 : clk (ledTo h i h.length) (rk (ledB h i) i) = clk h i := sub_clk hk hc (Nat.le_refl _) (i + 1) i (by omega) hi (led_self h i)
    have h3 := h2
    unfold ledB at h3
    rw [Bool.or_eq_true, decide_eq_true_eq] at h3
    rcases h3 with h3 | h3
    · rw [h3]; exact .inl rfl
    · exact .inr (by rw [show clk (ledTo h i h.length) (rk (fun k => decide (k = i) || lessL (clk h k) (clk h i)) k) = clk h k from e1, show clk (ledTo h i h.length) (rk (fun k => decide (k = i) || lessL (clk h k) (clk h i)) i) = clk h i from e2]; exact h3)
  generalize ledTo h i h.length = a at *
  rw [ledTo, List.filter_eq_self.2 (fun x hx => hall x (List.mem_range.1 hx))]
  refine List.ext_getElem (by simp) fun p h1 h2 => ?_
  simp [lat, List.getD_eq_getElem?_getD, h2]
end Go
namespace Go.Proofs.Ytkhchfjhmplaiaa
open Go.RowKit
theorem led_at {a : Option Addr} {n c i M : Nat} {I : Int} {h g : List Ln} {w : World} (hv : LnsV w a n c h) (hk : HOk h) (hi : i < n) (hI : I = (i : Int)) (hg : ledTo h i n = g) (hM : g.length = M) :
    Calls Try.prog 43 #[.slice a n c, .int .i64 I] w fun e w' => ∃ a' c', e = .returned (.tuple #[.slice a' M c', .int .i64 0]) ∧ Keep [] w w' ∧ LnsV w' a' M c' g := by
  subst hI
  refine (led_any hv hk hi).mono ?_
  rintro e w' ⟨v, m, rfl, hk1, ho⟩
  rw [hg] at ho
  obtain ⟨a', c', rfl, hv', _⟩ := LnsV.ofOwn ho
  have : m = M := by rw [← hM]; exact hv'.len.symm
  subst this
  exact ⟨a', c', rfl, hk1, hv'⟩
theorem equal_same {a1 a2 : Option Addr} {n1 c1 n2 c2 : Nat} {xs ys : List Int} {w : World} (hx : IntsV w a1 n1 c1 xs) (hy : IntsV w a2 n2 c2 ys) (he : xs = ys) :
    Calls Try.prog 34 #[.slice a1 n1 c1, .slice a2 n2 c2] w fun e w' => e = .returned (.bool true) ∧ Keep [] w w' := by
  have h := equal_any hx hy
  rw [decide_eq_true he] at h
  exact h
set_option maxRecDepth 100000 in
set_option maxHeartbeats 4000000 in
theorem traceLed_walk (a : Option Addr) (len cap : Nat) (zs : List Int) (x : Int) (w : World) (hv : IntsV w a len cap zs) :
    Calls Try.prog 11 #[.slice a len cap, .int .i64 x] w fun e w' => e = .returned (.bool true) ∧ Keep [] w w' := by
  obtain ⟨N, hN⟩ : ∃ N, (hist zs).length = N := ⟨_, rfl⟩
  have hok : HOk (hist zs) := (hist_inv zs).ok
  have hN60 := hist_len zs
  rw [hN] at hN60
  have hNle : N ≤ 60 := by omega
  have HV := Lib.hid hv
  have HOK := Lib.hid hok
  clear hv hN60
  by_cases h0 : N = 0
  · have HN := Lib.hid (hN.trans h0)
    clear hN h0 hNle hok
    go_enter Try.func11, Try.ntmps11
    go_wp2_with (first | (go_at_call 35; refine (tbegun_any _).mono ?_; rintro e w0 ⟨rfl, hk0⟩) | (go_at_call 22; refine (begun_any _).mono ?_; rintro e w1 ⟨rfl, hk1⟩) | (go_at_call 20; refine (history_at (HV.out.keep (hk0.trans hk1) (by simp)) HN).mono ?_; rintro e w2 ⟨a2, c2, rfl, hk2, hv2⟩; clear hv2))
    go_ret
    exact ⟨rfl, (hk0.trans hk1).trans hk2⟩
  · obtain ⟨i, hi, hi1⟩ := at_nat x (show 0 < N by omega)
    obtain ⟨A, hA⟩ : ∃ A, ledTo (hist zs) i N = A := ⟨_, rfl⟩
    obtain ⟨M, hM⟩ : ∃ M, A.length = M := ⟨_, rfl⟩
    have hMr : M = rk (ledB (hist zs) i) i + 1 := by
      rw [← hM, ← hA, ← hN]
      exact (subL_len _ _ _).trans (led_last hok (by omega))
    have hMN : M ≤ N := by rw [← hM, ← hA]; exact ledTo_len _ _ _
    have hAok : HOk A := by rw [← hA, ← hN]; exact sub_ok hok (led_closed hok (by omega)) (Nat.le_refl _)
    have hag : ledTo A (M - 1) M = A := by
      have h9 := led_again hok (show i < (hist zs).length by omega)
      rw [hN, hA, hM] at h9
      rw [show M - 1 = rk (ledB (hist zs) i) i by omega]; exact h9
    have hcl : clk A (M - 1) = clk (hist zs) i := by
      rw [show M - 1 = rk (ledB (hist zs) i) i by omega, ← hA, ← hN]
      exact sub_clk hok (led_closed hok (by omega)) (Nat.le_refl _) (i + 1) i (by omega) (by omega) (led_self _ _)
    have HI := Lib.hid hi
    have HN := Lib.hid hN
    have HA := Lib.hid hA
    have HM := Lib.hid hM
    have HAOK := Lib.hid hAok
    have HAG := Lib.hid hag
    have HCL := Lib.hid hcl.symm
    have hM0 : 0 < M := by omega
    clear hi hN hA hM hMr hAok hag hcl hok
    go_enter Try.func11, Try.ntmps11
    go_wp2_with (first | (go_at_call 35; refine (tbegun_any _).mono ?_; rintro e w0 ⟨rfl, hk0⟩) | (go_at_call 22; refine (begun_any _).mono ?_; rintro e w1 ⟨rfl, hk1⟩) | (go_at_call 20; refine (history_at (HV.out.keep (hk0.trans hk1) (by simp)) HN).mono ?_; rintro e w2 ⟨a2, c2, rfl, hk2, hv2⟩; have HV2 := Lib.hid hv2; clear hv2) | (go_at_call 21; (with_reducible refine (rest_at HI (by omega) (by omega)).mono ?_); rintro e w' ⟨rfl, rfl⟩) | (go_at_call 43; (with_reducible refine (led_at HV2.out HOK.out hi1 rfl HA.out HM.out).mono ?_); rintro e w3 ⟨a3, c3, rfl, hk3, hv3⟩; have HV3 := Lib.hid (HV2.out.keep hk3 (by simp)); have HA3 := Lib.hid hv3; clear hv3) | (go_at_call 25; (with_reducible refine (clocks_at HV3.out HOK.out (by omega)).mono ?_); rintro e w4 ⟨g4, cg4, rfl, hk4, _, _, hnc4, hcm4, hcs4⟩; have HQ4 := Lib.hid hcs4; have HA4 := Lib.hid (HA3.out.keep hk4 (by simp)); unfold maxLen at hcm4; clear hcs4) | (go_at_call 25; (with_reducible refine (clocks_at HA4.out HAOK.out hM0).mono ?_); rintro e w5 ⟨g5, cg5, rfl, hk5, _, _, hnc5, hcm5, hcs5⟩; have HQ5 := Lib.hid hcs5; have HA5 := Lib.hid (HA4.out.keep hk5 (by simp)); unfold maxLen at hcm5; clear hcs5) | (go_at_call 43; (with_reducible refine (led_at HA5.out HAOK.out (show M - 1 < M by omega) (by omega) HAG.out HM.out).mono ?_); rintro e w6 ⟨a6, c6, rfl, hk6, hv6⟩; have HA6 := Lib.hid (HA5.out.keep hk6 (by simp)); have HB6 := Lib.hid hv6; clear hv6))
    have hIN : (i : Int) < (N : Int) := by omega
    have hMi : (M : Int) - 1 < (M : Int) := by omega
    obtain ⟨gi, ci, hci, hii⟩ := HQ4.out i hi1
    have hci6 := hk6.cell (hk5.cell hci (by simp)) (by simp)
    obtain ⟨gm, cm, hcm, him⟩ := HQ5.out (M - 1) (by omega)
    have hcm6 := hk6.cell hcm (by simp)
    have HII := Lib.hid ((hii.keep hk5 (by simp)).keep hk6 (by simp))
    have HIM := Lib.hid (him.keep hk6 (by simp))
    clear hci hii hcm him
    go_quiet (first | (go_at_call 44; exact eqe_q HB6.out HA6.out) | (go_at_call 34; exact eqi_q HII.out HIM.out HCL))
    go_wp2_with fail
    go_ret
    exact ⟨rfl, keep_drewN ((((((hk0.trans hk1).trans hk2).trans hk3).trans hk4).trans hk5).trans hk6) _⟩
end Go.Proofs.Ytkhchfjhmplaiaa
namespace Go
open Go.RowKit
/-- The events of a place. -/
def plB (h : List Ln) (p : Int) (j : Nat) : Bool := decide ((lat h j).q = p)
def atTo (h : List Ln) (p : Int) (k : Nat) : List Ln := subL h (plB h p) k
def atL (h : List Ln) (p : Int) : List Ln := atTo h p h.length
theorem subL_succ (h : List Ln) (P : Nat → Bool) (k : Nat) : subL h P (k + 1) = subL h P k ++ (if P k = true then [lat h k] else []) := by
  unfold subL
  rw [List.range_succ, List.filter_append, List.map_append]
  by_cases e : P k = true
  · simp [e]
  · simp [e]
theorem rk_le (P : Nat → Bool) (k : Nat) : rk P k ≤ k := by unfold rk; exact Nat.le_trans (List.length_filter_le _ _) (by simp)
end Go
namespace Go.Proofs.Ytkhchfjhmplaiaa
open Go.RowKit
set_option maxRecDepth 100000 in
set_option maxHeartbeats 1000000 in
theorem at67_any {a : Option Addr} {n c : Nat} {p : Int} {h : List Ln} {w : World} (hv : LnsV w a n c h) (hn2 : n ≤ 200) :
    Calls Try.prog 67 #[.slice a n c, .int .i64 p] w fun e w' => ∃ a' m c', e = .returned (.slice a' m c') ∧ Keep [] w w' ∧ LnsV w' a' m c' (atL h p) := by
  have HV := Lib.hid hv
  have HL := Lib.hid hv.len
  obtain ⟨i0, hi0, hz0, hz1, hz2⟩ := info_parts info27
  clear hv
  go_enter Try.func67, Try.ntmps67
  go_wp2_with fail
  go_loopw [5, 7, 10] (fun v _ j wr => ∃ (k m : Nat), k ≤ n ∧ j = .int .i64 k ∧ Keep [] w wr ∧ Hid (wr.ownsRow w.heap.size 27 3 v m (lanesC (atTo h p k)))) (fun _ _ j _ => n - (intOf j).toNat)
  case atStart => exact ⟨0, 0, by omega, rfl, Keep.refl _ _, Lib.hid (World.ownsRow_nil _ _ _ _)⟩
  case round =>
    obtain ⟨k, m, hk, rfl, hkw, HO⟩ := hrel
    have hm : m ≤ k := by
      have h1 := HO.out.1
      have h2 := rk_le (plB h p) k
      rw [lanesC_len, atTo, subL_len] at h1
      omega
    have hsw := hkw.size
    by_cases hlt : k < n
    · obtain ⟨b, off, rfl, c0, c1, c2⟩ := (HV.out.keep hkw (by simp)).at_ hlt
      have hls := subL_succ h (plB h p) k
      have hpl : plB h p k = decide ((lat h k).q = p) := rfl
      obtain ⟨⟨q, g, u⟩, hL⟩ : ∃ L, lat h k = L := ⟨_, rfl⟩
      rw [hL] at c0 c1 c2 hls hpl
      dsimp only at c0 c1 c2 hpl
      rw [hpl] at hls
      clear hL hpl
      have hkA : Keep [] wr (wr.alloc (.cells #[.int .i64 q, .int .i64 g, .int .i64 u] 27)) := (Keep.refl [] _).alloc _
      have HOA := Lib.hid (own_keep HO.out hkA (by simp))
      have hkwA := hkw.trans hkA
      by_cases hq : q = p
      · have hqb : (q == p) = true := by rw [hq]; exact beq_self_eq_true _
        have HLS : Hid (atTo h p (k + 1) = atTo h p k ++ [⟨q, g, u⟩]) := Lib.hid (by unfold atTo; rw [hls, decide_eq_true hq, if_pos rfl])
        clear hls hq
        go_wp2_with (first | (with_reducible refine Txt.wp_region_text mixed quiet (by decide +kernel) ?_) | (with_reducible refine Txt.text_done (by kernel_rfl) ?_) | (at_builtin; refine wpList_append_own _ rfl _ _ 28 rfl w.heap.size 27 i0 (.agg #[.int .i64 0, .int .i64 0, .int .i64 0]) 3 24 Try.underlying28 hi0 hz0 hz1 hz2 rfl (by decide) _ _ _ rfl (HOA.out.alloc _) ⟨wr.heap.size + 1, 0, none⟩ 1 1 [.int .i64 q, .int .i64 g, .int .i64 u] rfl rfl (cells_new2 _ _ _ _) (by intro u hu; simp at hu; rcases hu with hu | hu | hu <;> (subst hu; rfl)) (by unfold maxLen; omega) (by omega) (by simp; omega) ?_; intro v6 w6 hown6 hgr6 _; have HO6 := Lib.hid hown6; have HGR6 := Lib.hid hgr6; clear hown6 hgr6))
        go_roundw
        case measure => simp [intOf]; omega
        case rel =>
          have hgr : ((wr.alloc (.cells #[.int .i64 q, .int .i64 g, .int .i64 u] 27)).alloc (.cells #[.int .i64 q, .int .i64 g, .int .i64 u] 27)).grownBy w6 u5.ownBlock := HGR6.out
          exact ⟨k + 1, m + 1, by omega, by go_num, (hkwA.alloc _).grown hgr (fun x hx => .inr (HO.out.lt x hx).1), Lib.hid (by rw [HLS.out]; simpa [lanesC_snoc, Ln.cells] using HO6.out)⟩
      · have hqb : (q == p) = false := beq_eq_false_iff_ne.2 hq
        have HLS : Hid (atTo h p (k + 1) = atTo h p k) := Lib.hid (by unfold atTo; rw [hls, decide_eq_false hq]; simp)
        clear hls hq
        go_wp2_with fail
        go_roundw
        case measure => simp [intOf]; omega
        case rel => exact ⟨k + 1, m, by omega, by go_num, hkwA, Lib.hid (by rw [HLS.out]; exact HOA.out)⟩
    · have hkn := Lib.hid (show k = n by omega)
      go_wp2_with fail
      go_ret
      have h9 := HO.out
      rw [hkn.out, ← HL.out] at h9
      obtain ⟨a', c', rfl, hv', _⟩ := LnsV.ofOwn h9
      exact ⟨a', m, c', rfl, hkw, hv'⟩
set_option maxRecDepth 100000 in
theorem ev69_same (q g u : Int) (w : World) :
    Calls Try.prog 69 #[.agg #[.int .i64 q, .int .i64 g, .int .i64 u], .agg #[.int .i64 q, .int .i64 g, .int .i64 u]] w fun e w' => e = .returned (.bool true) ∧ Keep [] w w' := by
  go_enter Try.func69, Try.ntmps69
  go_wp2_with fail
  all_goals go_ret
  all_goals exact ⟨rfl, ((Keep.refl _ _).alloc _).alloc _⟩
set_option maxRecDepth 100000 in
set_option maxHeartbeats 1000000 in
theorem ev70_same {a1 a2 : Option Addr} {n c1 c2 : Nat} {h : List Ln} {w : World} (hx : LnsV w a1 n c1 h) (hy : LnsV w a2 n c2 h) :
    Calls Try.prog 70 #[.slice a1 n c1, .slice a2 n c2, .func (.func 69) #[] #[]] w fun e w' => e = .returned (.bool true) ∧ Keep [] w w' := by
  have HX := Lib.hid hx
  have HY := Lib.hid hy
  have h1 := hx.room
  have h2 := hx.most
  have h3 := hy.room
  have h4 := hy.most
  unfold maxLen at h2 h4
  clear hx hy
  go_enter Try.func70, Try.ntmps70
  go_wp2_with fail
  go_loopw [17] (fun i wr => ∃ k : Nat, k ≤ n ∧ i = .int .i64 k ∧ Keep [] w wr) (fun i _ => n - (intOf i).toNat)
  case atStart => exact ⟨0, by omega, rfl, Keep.refl _ _⟩
  case round =>
    obtain ⟨k, hk, rfl, hkw⟩ := hrel
    by_cases hlt : k < n
    · obtain ⟨b, off, rfl, c0, c1', c2'⟩ := (HX.out.keep hkw (by simp)).at_ hlt
      obtain ⟨b', off', rfl, d0, d1, d2⟩ := (HY.out.keep hkw (by simp)).at_ hlt
      obtain ⟨⟨q, g, u⟩, hL⟩ : ∃ L, lat h k = L := ⟨_, rfl⟩
      rw [hL] at c0 c1' c2' d0 d1 d2
      dsimp only at c0 c1' c2' d0 d1 d2
      clear hL
      have hkA : Keep [] wr (wr.alloc (.cells #[.int .i64 q, .int .i64 g, .int .i64 u] 27)) := (Keep.refl [] _).alloc _
      have e0 := hkA.cell d0 (by simp)
      have e1 := hkA.cell d1 (by simp)
      have e2 := hkA.cell d2 (by simp)
      go_wp2_with (first | (go_at_call 69; refine (ev69_same q g u _).mono ?_; rintro e w1 ⟨rfl, hk1⟩))
      go_roundw
      case measure => simp [intOf]; omega
      case rel => exact ⟨k + 1, by omega, by go_num, ((hkw.alloc _).alloc _).trans hk1⟩
    · go_wp2_with fail
      go_ret
      exact ⟨rfl, hkw⟩
theorem ev70_len {a1 a2 : Option Addr} {n1 n2 c1 c2 : Nat} {w : World} (hn : n1 ≠ n2) :
    Calls Try.prog 70 #[.slice a1 n1 c1, .slice a2 n2 c2, .func (.func 69) #[] #[]] w fun e w' => e = .returned (.bool false) ∧ Keep [] w w' := by
  have hb : ((n1 : Int) == (n2 : Int)) = false := beq_eq_false_iff_ne.2 (fun e => hn (by omega))
  go_enter Try.func70, Try.ntmps70
  go_wp2_with fail
  go_ret
  exact ⟨rfl, Keep.refl _ _⟩
set_option maxRecDepth 100000 in
theorem at36_any {a : Option Addr} {n c p : Nat} {h : List Ln} {w : World} (hv : LnsV w a n c h) (hk : HOk h) (hp : p < 8) :
    Calls Try.prog 36 #[.slice a n c, .int .i64 p] w fun e w' => ∃ a' m c', e = .returned (.tuple #[.slice a' m c', .int .i64 0]) ∧ Keep [] w w' ∧ LnsV w' a' m c' (atL h p) := by
  have hn2 : n ≤ 200 := by have := hk.len; have := hv.len; omega
  have HV := Lib.hid hv
  have HK := Lib.hid hk
  have hd1 : ¬ ((p : Int) < 0) := by omega
  have hd2 : ¬ (8 ≤ (p : Int)) := by omega
  clear hv hk
  go_enter Try.func36, Try.ntmps36
  go_wp2_with (first | (go_at_call 51; refine (check_ok HV.out HK.out).mono ?_; rintro e w1 ⟨rfl, hk1⟩) | (go_at_call 67; refine (at67_any (HV.out.keep hk1 (by simp)) hn2).mono ?_; rintro e w2 ⟨a2, m, c2, rfl, hk2, hv2⟩; have HV2 := Lib.hid hv2; clear hv2))
  go_ret2
  exact ⟨a2, m, c2, rfl, hk1.trans hk2, HV2.out⟩
/-- The two histories part at place r, or nowhere. -/
structure Part8 (a b : List Ln) (r : Nat) : Prop where
  le : r ≤ 8
  same : ∀ p : Nat, p < r → atL a p = atL b p
  diff : r < 8 → (atL a (r : Nat)).length ≠ (atL b (r : Nat)).length
set_option maxRecDepth 100000 in
set_option maxHeartbeats 2000000 in
theorem same40_any {a1 a2 : Option Addr} {n1 n2 c1 c2 r : Nat} {x y : List Ln} {w : World} {R : Bool} (hx : LnsV w a1 n1 c1 x) (hy : LnsV w a2 n2 c2 y) (hkx : HOk x) (hky : HOk y) (hp : Part8 x y r) (hR : R = decide (r = 8)) :
    Calls Try.prog 40 #[.slice a1 n1 c1, .slice a2 n2 c2] w fun e w' => e = .returned (.tuple #[.bool R, .int .i64 0]) ∧ Keep [] w w' := by
  have hn1 : n1 ≤ 200 := by have := hkx.len; have := hx.len; omega
  have hn2 : n2 ≤ 200 := by have := hky.len; have := hy.len; omega
  have HX := Lib.hid hx
  have HY := Lib.hid hy
  have HKX := Lib.hid hkx
  have HKY := Lib.hid hky
  have HP := Lib.hid hp
  have HR := Lib.hid hR
  have hr8 := hp.le
  clear hx hy hkx hky hp hR
  have HB := Lib.hid (blk_new w (.cells #[.slice a1 n1 c1, .slice a2 n2 c2] 28))
  go_enter Try.func40, Try.ntmps40
  go_wp2_with fail
  go_loopw [7, 8, 15] (fun _ _ j wr => ∃ k : Nat, k ≤ 2 ∧ j = .int .i64 k ∧ Keep [] (w.alloc (.cells #[.slice a1 n1 c1, .slice a2 n2 c2] 28)) wr) (fun _ _ j _ => 2 - (intOf j).toNat)
  case atStart => exact ⟨0, by omega, rfl, Keep.refl _ _⟩
  case round =>
    obtain ⟨k, hk, rfl, hkw⟩ := hrel
    have hb := hkw.at HB.out (by simp)
    have hkw0 : Keep [] w wr := ((Keep.refl _ _).alloc _).trans hkw
    by_cases hlt : k < 2
    · have hcases : k = 0 ∨ k = 1 := by omega
      rcases hcases with rfl | rfl
      · have c0 : wr.cell? ⟨w.heap.size, 0, none⟩ = some (.slice a1 n1 c1) := by rw [cellAt hb]; rfl
        clear hb
        go_wp2_with (first | (go_at_call 51; refine (check_ok (HX.out.keep hkw0 (by simp)) HKX.out).mono ?_; rintro e w1 ⟨rfl, hk1⟩))
        go_roundw
        case measure => simp [intOf]
        case rel => exact ⟨1, by omega, by go_num, hkw.trans hk1⟩
      · have c0 : wr.cell? ⟨w.heap.size, 1, none⟩ = some (.slice a2 n2 c2) := by rw [cellAt hb]; rfl
        clear hb
        go_wp2_with (first | (go_at_call 51; refine (check_ok (HY.out.keep hkw0 (by simp)) HKY.out).mono ?_; rintro e w1 ⟨rfl, hk1⟩))
        go_roundw
        case measure => simp [intOf]
        case rel => exact ⟨2, by omega, by go_num, hkw.trans hk1⟩
    · have hdec : decide ((k : Int) < 2) = false := by simp; omega
      clear hb hkw
      go_wp2_with fail
      obtain ⟨wo, rfl⟩ : ∃ wo : World, wo = wr := ⟨_, rfl⟩
      go_loopw [10, 25] (fun _ j wr => ∃ p : Nat, p ≤ r ∧ j = .int .i64 p ∧ Keep [] w wr) (fun _ j _ => 8 - (intOf j).toNat)
      case atStart => exact ⟨0, by omega, rfl, hkw0⟩
      case round =>
        obtain ⟨p, hpr, rfl, hkp⟩ := hrel
        by_cases hlp : p < 8
        · by_cases hpe : p = r
          · have hdf := HP.out.diff (by omega)
            rw [← hpe] at hdf
            have HDF := Lib.hid hdf
            have hRf := Lib.hid (show R = false by rw [HR.out]; exact decide_eq_false (by omega))
            clear hpe hdf
            go_wp2_with (first | (go_at_call 67; (with_reducible refine (at67_any (p := (p : Int)) (HX.out.keep hkp (by simp)) hn1).mono ?_); rintro e w3 ⟨a3, m3, c3, rfl, hk3, hv3⟩; have HV3 := Lib.hid hv3; clear hv3) | (go_at_call 67; (with_reducible refine (at67_any (p := (p : Int)) ((HY.out.keep hkp (by simp)).keep hk3 (by simp)) hn2).mono ?_); rintro e w4 ⟨a4, m4, c4, rfl, hk4, hv4⟩; have HV4 := Lib.hid hv4; have HNE : Hid (m3 ≠ m4) := Lib.hid (by rw [← HV3.out.len, ← hv4.len]; exact HDF.out); clear hv4) | (go_at_call 70; refine (ev70_len HNE.out).mono ?_; rintro e w5 ⟨rfl, hk5⟩))
            go_ret2
            exact ⟨by rw [hRf.out]; rfl, ((hkp.trans hk3).trans hk4).trans hk5⟩
          · have HSM := Lib.hid (HP.out.same p (by omega))
            go_wp2_with (first | (go_at_call 67; (with_reducible refine (at67_any (p := (p : Int)) (HX.out.keep hkp (by simp)) hn1).mono ?_); rintro e w3 ⟨a3, m3, c3, rfl, hk3, hv3⟩; have HV3 := Lib.hid hv3; clear hv3) | (go_at_call 67; (with_reducible refine (at67_any (p := (p : Int)) ((HY.out.keep hkp (by simp)).keep hk3 (by simp)) hn2).mono ?_); rintro e w4 ⟨a4, m4, c4, rfl, hk4, hv4⟩; have hm34 : m4 = m3 := (by rw [← HV3.out.len, ← hv4.len, HSM.out]); subst hm34; rw [← HSM.out] at hv4; have HV4 := Lib.hid hv4; clear hv4) | (go_at_call 70; refine (ev70_same (HV3.out.keep hk4 (by simp)) HV4.out).mono ?_; rintro e w5 ⟨rfl, hk5⟩))
            go_roundw
            case measure => simp [intOf]; omega
            case rel => exact ⟨p + 1, by omega, by go_num, ((hkp.trans hk3).trans hk4).trans hk5⟩
        · have hr : r = 8 := by omega
          have hRt := Lib.hid (show R = true by rw [HR.out]; exact decide_eq_true hr)
          go_wp2_with fail
          go_ret2
          exact ⟨by rw [hRt.out]; rfl, hkp⟩
end Go.Proofs.Ytkhchfjhmplaiaa
