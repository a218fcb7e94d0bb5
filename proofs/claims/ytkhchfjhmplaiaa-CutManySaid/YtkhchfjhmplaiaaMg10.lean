/- Texts laid together: H24. -/
import Derived.Test.YtkhchfjhmplaiaaMg9
import Derived.Deep.RegionHeldLaw
import Derived.Deep.AppendLies
namespace Go.Proofs.Ytkhchfjhmplaiaa
open Go.RowKit
/-- Two rows of one's own share no block. -/
structure Hst (w : World) (B H S T k : Nat) (h : List Ln) (V : Nat → Value) : Prop where
  blk : w.heap[H]? = some (.cells (((List.range 8).map V) ++ [Value.map (some S), Value.map (some T)]).toArray 112 (0, 0))
  row : ∀ p : Nat, p < 8 → ∃ xs, w.ownsRow B 27 3 (V p) (rk (plQ h p) k) xs
  sep : ∀ p q, p < 8 → q < 8 → p ≠ q → Sep2 (V p) (V q)
  snd : MapF w Try.prog 3 S k (FG h 2 k)
  tak : MapF w Try.prog 3 T k (FG h 3 k)
theorem zero89 (w : World) : (zeroValue 89).run Try.prog w = .ok (.agg #[.int .i64 0, .int .i64 0]) w := by kernel_rfl
theorem Hst.cell {w : World} {B H S T k : Nat} {h : List Ln} {V : Nat → Value} (q : Hst w B H S T k h V) {p : Nat} (hp : p < 8) : w.cell? ⟨H, p, none⟩ = some (V p) := by
  rw [cellAt q.blk, List.getElem?_toArray, List.getElem?_append_left (by simpa using hp), List.getElem?_map, List.getElem?_range hp]; rfl
theorem Hst.cellS {w : World} {B H S T k : Nat} {h : List Ln} {V : Nat → Value} (q : Hst w B H S T k h V) : w.cell? ⟨H, 8, none⟩ = some (.map (some S)) ∧ w.cell? ⟨H, 9, none⟩ = some (.map (some T)) := by
  constructor <;> (rw [cellAt q.blk, List.getElem?_toArray, List.getElem?_append_right (by simp)]; simp)
theorem Hst.keep {w w' : World} {B H S T k : Nat} {h : List Ln} {V : Nat → Value} (q : Hst w B H S T k h V) (hk : Keep [] w w') : Hst w' B H S T k h V :=
  ⟨hk.at q.blk (by simp), fun p hp => let ⟨xs, hx⟩ := q.row p hp; ⟨xs, own_keep hx hk (by simp)⟩, q.sep, q.snd.keep hk (by simp), q.tak.keep hk (by simp)⟩
theorem grown_blk {W w6 : World} {row : Option Nat} {H : Nat} {o : Obj} (hgr : W.grownBy w6 row) (hb : W.heap[H]? = some o) (hne : some H ≠ row) : w6.heap[H]? = some o := by
  have hl : H < W.heap.size := (Array.getElem?_eq_some_iff.1 hb).1
  rw [hgr.block H hl hne]; exact hb
theorem blk_place {w : World} {H S T p : Nat} {V : Nat → Value} (hb : w.heap[H]? = some (.cells (((List.range 8).map V) ++ [Value.map (some S), Value.map (some T)]).toArray 112 (0, 0))) (hp : p < 8) : w.cell? ⟨H, p, none⟩ = some (V p) := by
  rw [cellAt hb, List.getElem?_toArray, List.getElem?_append_left (by simpa using hp), List.getElem?_map, List.getElem?_range hp]; rfl
theorem sep_grow {W : World} {x x' y : Value} {B e m n : Nat} {xs : List Value} (h : Sep2 x y) (hat : x'.ownBlock = x.ownBlock ∨ x'.ownBlock = some W.heap.size) (hy : W.ownsRow B e m y n xs) : Sep2 x' y := fun g h1 h2 => by
  rcases hat with e | e
  · exact h g (by rw [← e]; exact h1) h2
  · rw [h1] at e
    have := (hy.lt g h2).2
    cases e
    omega
theorem Hst.step {w5 w6 : World} {B H S T k p m : Nat} {h : List Ln} {V : Nat → Value} {v6 : Value} {xs' : List Value}
    (blk : w5.heap[H]? = some (.cells (((List.range 8).map V) ++ [Value.map (some S), Value.map (some T)]).toArray 112 (0, 0)))
    (row : ∀ x : Nat, x < 8 → ∃ xs, w5.ownsRow B 27 3 (V x) (rk (plQ h x) k) xs) (sep : ∀ x y, x < 8 → y < 8 → x ≠ y → Sep2 (V x) (V y))
    (snd : MapF w5 Try.prog 3 S (k + 1) (FG h 2 (k + 1))) (tak : MapF w5 Try.prog 3 T (k + 1) (FG h 3 (k + 1))) (hq : ∀ x : Nat, plQ h x k = decide ((p : Int) = x)) (hp : p < 8) (hB : H < B) (hS : S < B) (hT : T < B) (hm : rk (plQ h p) k = m)
    (own6 : w6.ownsRow B 27 3 v6 (m + 1) xs') (hgr : w5.grownBy w6 (V p).ownBlock) (hat : v6.ownBlock = (V p).ownBlock ∨ v6.ownBlock = some w5.heap.size) :
    Hst (w6.setCell ⟨H, p, none⟩ v6) B H S T (k + 1) h (fun x => if x = p then v6 else V x) := by
  have hrow : ∀ g, (V p).ownBlock = some g → B ≤ g := fun g hg => by obtain ⟨xs, hx⟩ := row p hp; exact (hx.lt g hg).1
  have hb6 : w6.heap[H]? = some (.cells (((List.range 8).map V) ++ [Value.map (some S), Value.map (some T)]).toArray 112 (0, 0)) := by
    rw [hgr.block H (lt_of_blk blk) (fun e => by have := hrow H e.symm; omega)]; exact blk
  have hks : Keep [H] w6 (w6.setCell ⟨H, p, none⟩ v6) := (Keep.refl _ _).setCell (.inl (by simp)) _
  have hne : ∀ {v : Value} {n : Nat} {xs : List Value}, w6.ownsRow B 27 3 v n xs → (w6.setCell ⟨H, p, none⟩ v6).ownsRow B 27 3 v n xs := fun ho => own_keep ho hks (fun g hg hmm => by have := (ho.lt g hg).1; simp at hmm; omega)
  have hmap : ∀ {b n : Nat} {f : Int → Option Value}, b < B → MapF w5 Try.prog 3 b n f → MapF (w6.setCell ⟨H, p, none⟩ v6) Try.prog 3 b n f := fun hb hf => by
    have h1 := hf.grown hgr (fun e => by have := hrow _ e.symm; omega)
    exact h1.keep hks (by simpa using h1.notCells hb6)
  refine ⟨?_, fun x hx => ?_, fun x y hx hy hxy => ?_, hmap hS snd, hmap hT tak⟩
  · rw [blk_setCell, if_pos rfl, hb6]
    simp only [Option.map_some, Obj.put_cells, List.setIfInBounds_toArray]
    congr 3
    rw [List.set_append_left _ _ (by simpa using hp)]
    congr 1
    refine List.ext_getElem (by simp) fun z h1 h2 => ?_
    simp only [List.getElem_set, List.getElem_map, List.getElem_range]
    by_cases e : p = z
    · rw [if_pos e, if_pos e.symm]
    · rw [if_neg e, if_neg (fun h => e h.symm)]
  · rw [rk_succ, hq]
    show ∃ xs, World.ownsRow _ _ _ _ (if x = p then v6 else V x) _ xs
    by_cases e : x = p
    · subst e
      rw [if_pos rfl, decide_eq_true rfl, if_pos rfl, hm]
      exact ⟨_, hne own6⟩
    · rw [if_neg e, decide_eq_false (by omega)]
      obtain ⟨xs, hxs⟩ := row x hx
      exact ⟨xs, hne (hxs.kept hgr (sep x p hx hp e).or)⟩
  · show Sep2 (if x = p then v6 else V x) (if y = p then v6 else V y)
    by_cases e : x = p
    · rw [if_pos e, if_neg (fun h => hxy (e.trans h.symm))]
      obtain ⟨xs, hxs⟩ := row y hy
      exact sep_grow (sep p y hp hy (fun h => hxy (e.trans h))) hat hxs
    · rw [if_neg e]
      by_cases e2 : y = p
      · rw [if_pos e2]
        obtain ⟨xs, hxs⟩ := row x hx
        exact (sep_grow (sep p x hp hx (fun h => e h.symm)) hat hxs).sym
      · rw [if_neg e2]; exact sep x y hx hy hxy
/-- Cuts of a history that came in. -/
def CutsV (w : World) (a : Option Addr) (m : Nat) (h : List Ln) (C : Nat → List Int) : Prop := ∀ j, j < m → ∃ b o aj cj, a = some ⟨b, o, none⟩ ∧ w.cell? ⟨b, o + j, none⟩ = some (.slice aj 8 cj) ∧ IntsV w aj 8 cj (C j) ∧ ∀ p, p < 8 → 0 ≤ (C j).getD p 0 ∧ (C j).getD p 0 ≤ rk (plQ h p) h.length
theorem CutsV.keep {w w' : World} {a : Option Addr} {m : Nat} {h : List Ln} {C : Nat → List Int} (q : CutsV w a m h C) (hk : Keep [] w w') : CutsV w' a m h C := fun j hj =>
  let ⟨b, o, aj, cj, h1, h2, h3, h4⟩ := q j hj
  ⟨b, o, aj, cj, h1, hk.cell h2 (by simp), h3.keep hk (by simp), h4⟩
theorem list8 {l : List Int} (h : l.length = 8) : ∃ x0 x1 x2 x3 x4 x5 x6 x7, l = [x0, x1, x2, x3, x4, x5, x6, x7] := by
  match l, h with
  | [a, b, c, d, e, f, g, i], _ => exact ⟨a, b, c, d, e, f, g, i, rfl⟩
def flatC (C : Nat → List Int) : Nat → List Value
  | 0 => []
  | k + 1 => flatC C k ++ (C k).map (Value.int .i64)
theorem info76 : (Try.prog.info? 76).map (fun i => (i.zero, i.size, i.bytes)) = some (some (.agg #[.int .i64 0, .int .i64 0, .int .i64 0, .int .i64 0, .int .i64 0, .int .i64 0, .int .i64 0, .int .i64 0]), 8, 64) := by kernel_rfl
set_option maxRecDepth 100000 in
set_option maxHeartbeats 8000000 in
theorem begin_walk {a : Option Addr} {n c : Nat} {h : List Ln} {ca : Option Addr} {cm cc : Nat} {C : Nat → List Int} {w : World} (hv : LnsV w a n c h) (hk : HOk h) (hcs : CutsV w ca cm h C) (hcm : cm ≤ 2) (hcc : cm ≤ cc) (hcc2 : cc ≤ maxLen) :
    Calls Try.prog 58 #[.slice a n c, .slice ca cm cc] w fun e w' => ∃ H S T V v, e = .returned (.tuple #[.pointer (some ⟨H, 0, none⟩), v, .int .i64 0]) ∧ Keep [] w w' ∧ w.heap.size ≤ S ∧ S < T ∧ T < H ∧ Hst w' (H + 1) H S T n h V ∧ w'.ownsRow (H + 1) 76 8 v cm (flatC C cm) := by
  have HCS := Lib.hid hcs
  unfold maxLen at hcc2
  clear hcs
  have hmm := @run_makeMap Try.prog
  have hn2 : n ≤ 200 := by have := hk.len; have := hv.len; omega
  have HV := Lib.hid hv
  have HK := Lib.hid hk
  have HL := Lib.hid hv.len
  obtain ⟨i0, hi0, hz0, hz1, hz2⟩ := info_parts info27
  clear hv hk
  go_enter Try.func58, Try.ntmps58
  go_wp2_with (first | (go_at_call 51; refine (check_ok HV.out HK.out).mono ?_; rintro e w1 ⟨rfl, hk1⟩))
  have hsz1 := hk1.size
  have hst : Hst (((w1.alloc (.map #[] 0)).alloc (.map #[] 0)).alloc (.cells #[.slice none 0 0, .slice none 0 0, .slice none 0 0, .slice none 0 0, .slice none 0 0, .slice none 0 0, .slice none 0 0, .slice none 0 0, .map (some w1.heap.size), .map (some (w1.heap.size + 1))] 112)) (w1.heap.size + 1 + 1 + 1) (w1.heap.size + 1 + 1) w1.heap.size (w1.heap.size + 1) 0 h (fun _ => .slice none 0 0) := by
    have e2 : (w1.alloc (.map #[] 0)).heap.size = w1.heap.size + 1 := by simp
    have e3 : ((w1.alloc (.map #[] 0)).alloc (.map #[] 0)).heap.size = w1.heap.size + 1 + 1 := by simp
    refine ⟨?_, fun p _ => ⟨[], World.ownsRow_nil _ _ _ _⟩, (fun _ _ _ _ _ g hg => absurd hg (by simp [Value.ownBlock])), ?_, ?_⟩
    · have h9 := blk_new ((w1.alloc (.map #[] 0)).alloc (.map #[] 0)) (.cells #[.slice none 0 0, .slice none 0 0, .slice none 0 0, .slice none 0 0, .slice none 0 0, .slice none 0 0, .slice none 0 0, .slice none 0 0, .map (some w1.heap.size), .map (some (w1.heap.size + 1))] 112)
      rw [e3] at h9
      exact h9
    · rw [FG_zero]
      exact ((MapF.made w1 Try.prog 3).keep ((Keep.refl [] _).alloc _) (by simp)).keep ((Keep.refl [] _).alloc _) (by simp)
    · rw [FG_zero]
      have h9 := MapF.made (w1.alloc (.map #[] 0)) Try.prog 3
      rw [e2] at h9
      exact h9.keep ((Keep.refl [] _).alloc _) (by simp)
  have hk2 : Keep [] w (((w1.alloc (.map #[] 0)).alloc (.map #[] 0)).alloc (.cells #[.slice none 0 0, .slice none 0 0, .slice none 0 0, .slice none 0 0, .slice none 0 0, .slice none 0 0, .slice none 0 0, .slice none 0 0, .map (some w1.heap.size), .map (some (w1.heap.size + 1))] 112)) := ((hk1.alloc _).alloc _).alloc _
  have hs2 : (((w1.alloc (.map #[] 0)).alloc (.map #[] 0)).alloc (.cells #[.slice none 0 0, .slice none 0 0, .slice none 0 0, .slice none 0 0, .slice none 0 0, .slice none 0 0, .slice none 0 0, .slice none 0 0, .map (some w1.heap.size), .map (some (w1.heap.size + 1))] 112)).heap.size = w1.heap.size + 1 + 1 + 1 := by simp
  obtain ⟨S, hS⟩ : ∃ S, w1.heap.size = S := ⟨_, rfl⟩
  obtain ⟨T, hT⟩ : ∃ T, S + 1 = T := ⟨_, rfl⟩
  obtain ⟨H, hH⟩ : ∃ H, T + 1 = H := ⟨_, rfl⟩
  rw [hS] at hst hk2 hs2 hsz1 ⊢
  rw [hT] at hst hk2 hs2 ⊢
  rw [hH] at hst hs2 ⊢
  obtain ⟨w2, hw2⟩ : ∃ w2, (((w1.alloc (.map #[] 0)).alloc (.map #[] 0)).alloc (.cells #[.slice none 0 0, .slice none 0 0, .slice none 0 0, .slice none 0 0, .slice none 0 0, .slice none 0 0, .slice none 0 0, .slice none 0 0, .map (some S), .map (some T)] 112)) = w2 := ⟨_, rfl⟩
  rw [hw2] at hst hk2 hs2 ⊢
  have HST0 := Lib.hid hst
  clear hst hw2 hmm
  go_loopw [10, 11, 28] (fun _ _ j wr => ∃ (k : Nat) (V : Nat → Value), k ≤ n ∧ j = .int .i64 k ∧ Keep [] w wr ∧ H < wr.heap.size ∧ Hid (Hst wr (H + 1) H S T k h V)) (fun _ _ j _ => n - (intOf j).toNat)
  case atStart => exact ⟨0, fun _ => .slice none 0 0, by omega, rfl, hk2, by omega, HST0⟩
  case round =>
    obtain ⟨k, V, hk, rfl, hkw, hHl, HS⟩ := hrel
    by_cases hlt : k < n
    · have hlh : k < h.length := by rw [HL.out]; exact hlt
      have he := HK.out.ev k hlh
      obtain ⟨b, off, rfl, c0, c1, c2⟩ := (HV.out.keep hkw (by simp)).at_ hlt
      have hput2 := Lib.hid (FG_put (h := h) (g := 2) (k := k))
      have hput3 := Lib.hid (FG_put (h := h) (g := 3) (k := k))
      have hsame2 := Lib.hid (FG_same (h := h) (g := 2) (k := k))
      have hsame3 := Lib.hid (FG_same (h := h) (g := 3) (k := k))
      have hrk := Lib.hid (fun p : Nat => rk_succ (plQ h p) k)
      have hpl := Lib.hid (show ∀ p : Nat, plQ h p k = decide ((lat h k).q = p) from fun _ => rfl)
      have hsp := Lib.hid (show spotV h k = .agg #[.int .i64 (lat h k).q, .int .i64 (rk (plQ h (lat h k).q) k)] from rfl)
      obtain ⟨⟨q, g, u⟩, hL⟩ : ∃ L, lat h k = L := ⟨_, rfl⟩
      rw [hL] at he c0 c1 c2 hput2 hput3 hsame2 hsame3 hpl hsp
      dsimp only at he c0 c1 c2 hput2 hput3 hsame2 hsame3 hpl hsp
      clear hL
      obtain ⟨p, rfl⟩ : ∃ p : Nat, q = p := ⟨q.toNat, by omega⟩
      have hp8 : p < 8 := by omega
      have HWF := Lib.hid (wf_msg he.2.2.2.2.1 he.2.2.2.2.2)
      obtain ⟨xs, hx⟩ := HS.out.row p hp8
      have hcp := HS.out.cell hp8
      obtain ⟨m, hm⟩ : ∃ m, rk (plQ h p) k = m := ⟨_, rfl⟩
      have hmk : m ≤ k := by rw [← hm]; exact rk_le _ _
      rw [hm] at hx hsp
      obtain ⟨ap, cp, hVp⟩ := own_slice hx
      have HX := Lib.hid hx
      have HM := Lib.hid hm
      rw [hVp] at hcp
      have HVP := Lib.hid hVp
      clear hx hm hVp
      have hkA : Keep [] wr (wr.alloc (.cells #[.int .i64 p, .int .i64 g, .int .i64 u] 27)) := (Keep.refl [] _).alloc _
      have hcpA := hkA.cell hcp (by simp)
      go_upto_region 8 with fail
      have hev := blk_new wr (.cells #[.int .i64 p, .int .i64 g, .int .i64 u] 27)
      obtain ⟨E, hE⟩ : ∃ E, wr.heap.size = E := ⟨_, rfl⟩
      have hs3 : (wr.alloc (.cells #[.int .i64 p, .int .i64 g, .int .i64 u] 27)).heap.size = E + 1 := by simp [hE]
      obtain ⟨w3, hw3⟩ : ∃ w3, wr.alloc (.cells #[.int .i64 p, .int .i64 g, .int .i64 u] 27) = w3 := ⟨_, rfl⟩
      have hkw3 := hkw.trans hkA
      have HS3 := Lib.hid (HS.out.keep hkA)
      have hx3 := own_keep HX.out hkA (by simp)
      have HXE : Hid (∀ g, (V p).ownBlock = some g → g < E) := Lib.hid (fun g hg => by rw [← hE]; exact (HX.out.lt g hg).2)
      rw [hw3] at hev hs3 hkA hcpA hkw3 HS3 hx3 ⊢
      rw [hE] at hev hHl ⊢
      have HX3 := Lib.hid hx3
      have HEV := Lib.hid hev
      obtain ⟨n0, n1, n2, _⟩ := row3 hev
      clear hw3 hcp c0 c1 c2 HS HX hx3 hev hkA hkw
      go_region
      have hkA2 : Keep [] w3 (w3.alloc (.cells #[.int .i64 p, .int .i64 m] 89)).drew := ((Keep.refl [] _).alloc _).drew
      have hsv : ((w3.alloc (.cells #[.int .i64 p, .int .i64 m] 89)).drew).heap[w3.heap.size]? = some (.cells #[.int .i64 p, .int .i64 m] 89 (0, 0)) := blk_new w3 _
      have hs4 : ((w3.alloc (.cells #[.int .i64 p, .int .i64 m] 89)).drew).heap.size = E + 2 := by show (w3.alloc (.cells #[.int .i64 p, .int .i64 m] 89)).heap.size = E + 2; simp [hs3]
      obtain ⟨w4, hw4⟩ : ∃ w4, (w3.alloc (.cells #[.int .i64 p, .int .i64 m] 89)).drew = w4 := ⟨_, rfl⟩
      have hkw4 := hkw3.trans hkA2
      have HS4 := Lib.hid (HS3.out.keep hkA2)
      have hx4 := own_keep HX3.out hkA2 (by simp)
      have hev4 := hkA2.at HEV.out (by simp)
      rw [hs3] at hsv
      rw [hw4] at hsv hs4 hkw4 HS4 hx4 hev4 ⊢
      have HX4 := Lib.hid hx4
      have HEV4 := Lib.hid hev4
      have HSV4 := Lib.hid hsv
      clear n0 n1 n2 hw4 HS3 HX3 HEV hx4 hkA2 hkw3 hcpA hs3
      obtain ⟨n0, n1, n2, _⟩ := row3 hev4
      obtain ⟨r0, r1, _⟩ := row2 hsv
      obtain ⟨s8, s9⟩ := HS4.out.cellS
      have hcp4 := HS4.out.cell hp8
      rw [HVP.out] at hcp4
      clear hev4 hsv
      rcases (by omega : g = 1 ∨ g = 2 ∨ g = 3) with hg | hg | hg
      · subst hg
        go_upto_region 14 with fail
        have hk45 : Keep [] w4 w4 := Keep.refl _ _
        obtain ⟨w5, hw5⟩ : ∃ w5, w4 = w5 := ⟨_, rfl⟩
        have hkw5 : Keep [] w w5 := by rw [← hw5]; exact hkw4
        have hk45 : Keep [] w4 w5 := by rw [← hw5]; exact Keep.refl _ _
        rw [hw5]
        clear hw5
        have hs5 : E + 2 ≤ w5.heap.size := by have := hk45.size; omega
        have hblk5 := Lib.hid (hk45.at HS4.out.blk (by first | (simp; done) | (simp; omega)))
        have hrow5 : Hid (∀ x : Nat, x < 8 → ∃ xs, w5.ownsRow (H + 1) 27 3 (V x) (rk (plQ h x) k) xs) := Lib.hid (fun x hx => let ⟨xs, hxs⟩ := HS4.out.row x hx; ⟨xs, own_keep hxs hk45 (fun g hg hm => by have := (hxs.lt g hg).1; first | (exfalso; simp at hm; done) | (simp at hm; omega))⟩)
        have hsnd5 : Hid (MapF w5 Try.prog 3 S (k + 1) (FG h 2 (k + 1))) := Lib.hid (by rw [hsame2.out (by decide)]; exact (HS4.out.snd.keep hk45 (by simp)).mono (by omega))
        have htak5 : Hid (MapF w5 Try.prog 3 T (k + 1) (FG h 3 (k + 1))) := Lib.hid (by rw [hsame3.out (by decide)]; exact (HS4.out.tak.keep hk45 (by simp)).mono (by omega))
        have HX5 := Lib.hid (own_keep HX4.out hk45 (fun g hg hm => by have := (HX4.out.lt g hg).1; first | (exfalso; simp at hm; done) | (simp at hm; omega)))
        have hev5 := hk45.at HEV4.out (by first | (simp; done) | (simp; omega))
        have HSEP := Lib.hid HS4.out.sep
        have hc5 := hk45.cell hcp4 (by first | (simp; done) | (simp; omega))
        have hz5 := thaw hblk5.out
        clear n0 n1 n2 r0 r1 s8 s9 hcp4 HS4 HX4 HEV4 HSV4 hk45 hkw4 hs4
        obtain ⟨n0, n1, n2, _⟩ := row3 hev5
        have HEV5 := Lib.hid hev5
        clear hev5
        have HBA : Hid (((w5.alloc (.cells #[.int .i64 p, .int .i64 1, .int .i64 u] 27)).drew).heap[H]? = some (.cells (((List.range 8).map V) ++ [Value.map (some S), Value.map (some T)]).toArray 112 (0, 0))) := Lib.hid ((((Keep.refl [] w5).alloc _).drew).at hblk5.out (by simp))
        have HNE : Hid (some H ≠ (V p).ownBlock) := Lib.hid (fun e => by have := (HX5.out.lt H e.symm).1; omega)
        have HEA : Hid (((w5.alloc (.cells #[.int .i64 p, .int .i64 1, .int .i64 u] 27)).drew).heap[E]? = some (.cells #[.int .i64 p, .int .i64 1, .int .i64 u] 27 (0, 0))) := Lib.hid ((((Keep.refl [] w5).alloc _).drew).at HEV5.out (by simp))
        have hx5 := HX5.out
        rw [HVP.out] at hx5
        have HXS := Lib.hid hx5
        have hne5 := HNE.out
        rw [HVP.out] at hne5
        have HNS := Lib.hid hne5
        have HNV : Hid (some E ≠ (Value.slice ap m cp).ownBlock) := Lib.hid (fun e => by have := HXE.out E (by rw [HVP.out]; exact e.symm); omega)
        clear hx5 hne5
        have HXD : Hid (((w5.alloc (.cells #[.int .i64 p, .int .i64 1, .int .i64 u] 27)).drew).ownsRow (H + 1) 27 3 (.slice ap m cp) m xs) := Lib.hid (own_keep HXS.out (((Keep.refl [] w5).alloc _).drew) (by simp))
        have HNW : Hid (∀ j v, [Value.int .i64 p, .int .i64 1, .int .i64 u][j]? = some v → ((w5.alloc (.cells #[.int .i64 p, .int .i64 1, .int .i64 u] 27)).drew).cell? ((⟨w5.heap.size, 0, none⟩ : Addr).add j) = some v) := Lib.hid (cells_new w5 [.int .i64 p, .int .i64 1, .int .i64 u] 27 (0, 0))
        have HOC : Hid (∀ v ∈ [Value.int .i64 p, .int .i64 1, .int .i64 u], v.oneCell' = true) := Lib.hid (by intro v hv; simp at hv; rcases hv with hv | hv | hv <;> (subst hv; rfl))
        have HB1 : Hid (m + 1 ≤ maxLen) := Lib.hid (by unfold maxLen; omega)
        have HB2 : Hid ((m + 1) * 24 ≤ 140737488355328) := Lib.hid (by omega)
        have HB4 : Hid (((w5.alloc (.cells #[.int .i64 p, .int .i64 1, .int .i64 u] 27)).drew).heap.size = w5.heap.size + 1) := Lib.hid (by show (w5.alloc (.cells #[.int .i64 p, .int .i64 1, .int .i64 u] 27)).heap.size = _; simp)
        have HB3 : Hid (H + 1 ≤ ((w5.alloc (.cells #[.int .i64 p, .int .i64 1, .int .i64 u] 27)).drew).heap.size) := Lib.hid (by rw [HB4.out]; omega)
        have hkT : Keep [] w5 (w5.alloc (.cells #[.int .i64 p, .int .i64 1, .int .i64 u] 27)) := (Keep.refl _ _).alloc _
        have hcA := hkT.cell hc5 (by simp)
        have nA0 := hkT.cell n0 (by simp)
        have nA1 := hkT.cell n1 (by simp)
        have nA2 := hkT.cell n2 (by simp)
        refine wp_region_held_drew (S := fun w' => w'.cell? ⟨E, 0, none⟩ = some (.int .i64 p) ∧ w'.cell? ⟨E, 1, none⟩ = some (.int .i64 1) ∧ w'.cell? ⟨E, 2, none⟩ = some (.int .i64 u)) (by kernel_rfl) ?_ (fun hHeld1 => ?_)
        · (try dsimp only)
          first | exact ⟨m0, m1, m2⟩ | exact ⟨nA0, nA1, nA2⟩ | exact ⟨((Keep.refl [H] _).setCell (.inl (by simp)) _).cell m0 (by first | (simp; done) | (simp; omega)), ((Keep.refl [H] _).setCell (.inl (by simp)) _).cell m1 (by first | (simp; done) | (simp; omega)), ((Keep.refl [H] _).setCell (.inl (by simp)) _).cell m2 (by first | (simp; done) | (simp; omega))⟩ | go_keep
        refine wpAnyH_take (i := 0) (v := ?_) rfl (by kernel_rfl) (by kernel_rfl) (by kernel_rfl) (fun _ _ _ h => h) (Or.inl ⟨by rfl, ?_⟩) (by assumption) ?_
        rotate_left
        · (intro w hSw; (try dsimp only at hSw); go_simp; (try with_reducible rfl))
        try simp only [Act.put]
        try simp only [List.setIfInBounds_toArray]
        try simp only [List.set_cons_succ]
        try simp only [List.set_cons_zero]
        refine wpAnyH_take (i := 1) (v := ?_) rfl (by kernel_rfl) (by kernel_rfl) (by kernel_rfl) (fun _ _ _ h => h) (Or.inl ⟨by rfl, ?_⟩) (by assumption) ?_
        rotate_left
        · (intro w hSw; (try dsimp only at hSw); go_simp; (try with_reducible rfl))
        try simp only [Act.put]
        try simp only [List.setIfInBounds_toArray]
        try simp only [List.set_cons_succ]
        try simp only [List.set_cons_zero]
        refine wpAnyH_take (i := 2) (v := ?_) rfl (by kernel_rfl) (by kernel_rfl) (by kernel_rfl) (fun _ _ _ h => h) (Or.inl ⟨by rfl, ?_⟩) (by assumption) ?_
        rotate_left
        · (intro w hSw; (try dsimp only at hSw); go_simp; (try with_reducible rfl))
        try simp only [Act.put]
        try simp only [List.setIfInBounds_toArray]
        try simp only [List.set_cons_succ]
        try simp only [List.set_cons_zero]
        refine wpAnyH_take (i := 3) (v := ?_) rfl (by kernel_rfl) (by kernel_rfl) (by kernel_rfl) (fun _ _ _ h => h) (Or.inl ⟨by rfl, ?_⟩) (by assumption) ?_
        rotate_left
        · (intro w hSw; (try dsimp only at hSw); go_simp; (try with_reducible rfl))
        try simp only [Act.put]
        try simp only [List.setIfInBounds_toArray]
        try simp only [List.set_cons_succ]
        try simp only [List.set_cons_zero]
        refine wpAnyH_take (i := 4) (v := ?_) rfl (by kernel_rfl) (by kernel_rfl) (by kernel_rfl) (fun _ _ _ h => h) (Or.inl ⟨by rfl, ?_⟩) (by assumption) ?_
        rotate_left
        · (intro w hSw; (try dsimp only at hSw); go_simp; (try with_reducible rfl))
        try simp only [Act.put]
        try simp only [List.setIfInBounds_toArray]
        try simp only [List.set_cons_succ]
        try simp only [List.set_cons_zero]
        refine wpAnyH_take (i := 5) (v := ?_) rfl (by kernel_rfl) (by kernel_rfl) (by kernel_rfl) (fun _ _ _ h => h) (Or.inl ⟨by rfl, ?_⟩) (by assumption) ?_
        rotate_left
        · (intro w hSw; (try dsimp only at hSw); go_simp; (try with_reducible rfl))
        try simp only [Act.put]
        try simp only [List.setIfInBounds_toArray]
        try simp only [List.set_cons_succ]
        try simp only [List.set_cons_zero]
        refine wpAnyH_take (i := 6) (v := ?_) rfl (by kernel_rfl) (by kernel_rfl) (by kernel_rfl) (fun _ _ _ h => h) (Or.inl ⟨by rfl, ?_⟩) (by assumption) ?_
        rotate_left
        · (intro w hSw; (try dsimp only at hSw); go_simp; (try with_reducible rfl))
        try simp only [Act.put]
        try simp only [List.setIfInBounds_toArray]
        try simp only [List.set_cons_succ]
        try simp only [List.set_cons_zero]
        refine wpAnyH_take (i := 7) (v := ?_) rfl (by kernel_rfl) (by kernel_rfl) (by kernel_rfl) (fun _ _ _ h => h) (Or.inl ⟨by rfl, ?_⟩) (by assumption) ?_
        rotate_left
        · (intro w hSw; (try dsimp only at hSw); go_simp; (try with_reducible rfl))
        try simp only [Act.put]
        try simp only [List.setIfInBounds_toArray]
        try simp only [List.set_cons_succ]
        try simp only [List.set_cons_zero]
        refine wpAnyH_take (i := 8) (v := ?_) rfl (by kernel_rfl) (by kernel_rfl) (by kernel_rfl) (fun _ _ _ h => h) (Or.inl ⟨by rfl, ?_⟩) (by assumption) ?_
        rotate_left
        · (intro w hSw; (try dsimp only at hSw); go_simp; (try with_reducible rfl))
        try simp only [Act.put]
        try simp only [List.setIfInBounds_toArray]
        try simp only [List.set_cons_succ]
        try simp only [List.set_cons_zero]
        refine wpAnyH_take (i := 10) (v := ?_) rfl (by kernel_rfl) (by kernel_rfl) (by kernel_rfl) (fun _ _ _ h => h) (Or.inl ⟨by rfl, ?_⟩) (by assumption) ?_
        rotate_left
        · (intro w hSw; (try dsimp only at hSw); go_simp; (try with_reducible rfl))
        try simp only [Act.put]
        try simp only [List.setIfInBounds_toArray]
        try simp only [List.set_cons_succ]
        try simp only [List.set_cons_zero]
        refine wpAnyH_take (i := 13) (v := ?_) rfl (by kernel_rfl) (by kernel_rfl) (by kernel_rfl) (fun _ _ _ h => h) (Or.inl ⟨by rfl, ?_⟩) (by assumption) ?_
        rotate_left
        · (intro w hSw; (try dsimp only at hSw); go_simp; (try with_reducible rfl))
        try simp only [Act.put]
        try simp only [List.setIfInBounds_toArray]
        try simp only [List.set_cons_succ]
        try simp only [List.set_cons_zero]
        refine wpAnyH_take (i := 14) (v := ?_) rfl (by kernel_rfl) (by kernel_rfl) (by kernel_rfl) (fun _ _ _ h => h) (Or.inl ⟨by rfl, ?_⟩) (by assumption) ?_
        rotate_left
        · (intro w hSw; (try dsimp only at hSw); go_simp; (try with_reducible rfl))
        try simp only [Act.put]
        try simp only [List.setIfInBounds_toArray]
        try simp only [List.set_cons_succ]
        try simp only [List.set_cons_zero]
        refine wpAnyH_ready (rs := [9, 11]) (by kernel_rfl) (by simp) ?_
        refine (AllReadyH.cons rfl (fun K hK => ?_) (AllReadyH.cons rfl (fun K hK => ?_) AllReadyH.nil))
        go_simp
        refine hK.out _ _ ?_ (fun hHeld2 => ?_)
        · (try dsimp only)
          first | exact ⟨m0, m1, m2⟩ | exact ⟨nA0, nA1, nA2⟩ | exact ⟨((Keep.refl [H] _).setCell (.inl (by simp)) _).cell m0 (by first | (simp; done) | (simp; omega)), ((Keep.refl [H] _).setCell (.inl (by simp)) _).cell m1 (by first | (simp; done) | (simp; omega)), ((Keep.refl [H] _).setCell (.inl (by simp)) _).cell m2 (by first | (simp; done) | (simp; omega))⟩ | go_keep
        clear hK K
        clear hHeld1
        refine wpAnyH_ready (rs := [11]) (by kernel_rfl) (by simp) ?_
        refine AllReadyH.cons rfl (fun K hK => ?_) AllReadyH.nil
        go_simp
        refine hK.out _ _ ?_ (fun hHeld3 => ?_)
        · (try dsimp only)
          first | exact ⟨m0, m1, m2⟩ | exact ⟨nA0, nA1, nA2⟩ | exact ⟨((Keep.refl [H] _).setCell (.inl (by simp)) _).cell m0 (by first | (simp; done) | (simp; omega)), ((Keep.refl [H] _).setCell (.inl (by simp)) _).cell m1 (by first | (simp; done) | (simp; omega)), ((Keep.refl [H] _).setCell (.inl (by simp)) _).cell m2 (by first | (simp; done) | (simp; omega))⟩ | go_keep
        clear hK K
        clear hHeld2
        refine wpAnyH_ready (rs := [12]) (by kernel_rfl) (by simp) ?_
        refine AllReadyH.cons rfl (fun K hK => ?_) AllReadyH.nil
        (first | (refine step_append_lies _ rfl (.tmp 72) (.tmp 74) 28 rfl (H + 1) 27 i0 (.agg #[.int .i64 0, .int .i64 0, .int .i64 0]) 3 24 Try.underlying28 hi0 hz0 hz1 hz2 rfl (by decide) (.slice ap m cp) m xs (by simp [Act.eval]) HXD.out ⟨w5.heap.size, 0, none⟩ 1 1 [.int .i64 p, .int .i64 1, .int .i64 u] (by simp [Act.eval]) rfl HNW.out HOC.out (by decide) HB1.out HB2.out HB3.out (w5.heap.size + 1) HB4.out ?_; intro gz cz w6 hown6 hgr6 hat6 hlt6; have hb6 := grown_blk hgr6 HBA.out HNS.out; have c6 := blk_place hb6 hp8; rw [HVP.out] at c6; have z6 := thaw hb6 p; have he6 := grown_blk hgr6 HEA.out HNV.out; obtain ⟨m0, m1, m2, _⟩ := row3 he6; have HB6 := Lib.hid hb6; have HO6 := Lib.hid hown6; have HG6 := Lib.hid hgr6; have HA6 := Lib.hid hat6; clear hb6 he6 hown6 hgr6 hat6))
        refine hK.out _ _ ?_ (fun hHeld4 => ?_)
        · (try dsimp only)
          first | exact ⟨m0, m1, m2⟩ | exact ⟨nA0, nA1, nA2⟩ | exact ⟨((Keep.refl [H] _).setCell (.inl (by simp)) _).cell m0 (by first | (simp; done) | (simp; omega)), ((Keep.refl [H] _).setCell (.inl (by simp)) _).cell m1 (by first | (simp; done) | (simp; omega)), ((Keep.refl [H] _).setCell (.inl (by simp)) _).cell m2 (by first | (simp; done) | (simp; omega))⟩ | go_keep
        clear hK K
        clear hHeld3
        refine wpAnyH_take (i := 15) (v := ?_) rfl (by kernel_rfl) (by kernel_rfl) (by kernel_rfl) (fun _ _ _ h => h) (Or.inl ⟨by rfl, ?_⟩) (by assumption) ?_
        rotate_left
        · (intro w hSw; (try dsimp only at hSw); go_simp; (try with_reducible rfl))
        try simp only [Act.put]
        try simp only [List.setIfInBounds_toArray]
        try simp only [List.set_cons_succ]
        try simp only [List.set_cons_zero]
        refine wpAnyH_ready (rs := [16]) (by kernel_rfl) (by simp) ?_
        refine AllReadyH.cons rfl (fun K hK => ?_) AllReadyH.nil
        go_simp
        refine hK.out _ _ ?_ (fun hHeld5 => ?_)
        · (try dsimp only)
          first | exact ⟨m0, m1, m2⟩ | exact ⟨nA0, nA1, nA2⟩ | exact ⟨((Keep.refl [H] _).setCell (.inl (by simp)) _).cell m0 (by first | (simp; done) | (simp; omega)), ((Keep.refl [H] _).setCell (.inl (by simp)) _).cell m1 (by first | (simp; done) | (simp; omega)), ((Keep.refl [H] _).setCell (.inl (by simp)) _).cell m2 (by first | (simp; done) | (simp; omega))⟩ | go_keep
        clear hK K
        clear hHeld4
        refine wpAnyH_done (by kernel_rfl) ?_ _
        rotate_left
        go_simp
        refine hK.out _ _ ?_ (fun hHeld6 => ?_)
        · (try dsimp only)
          first | exact ⟨m0, m1, m2⟩ | exact ⟨nA0, nA1, nA2⟩ | exact ⟨((Keep.refl [H] _).setCell (.inl (by simp)) _).cell m0 (by first | (simp; done) | (simp; omega)), ((Keep.refl [H] _).setCell (.inl (by simp)) _).cell m1 (by first | (simp; done) | (simp; omega)), ((Keep.refl [H] _).setCell (.inl (by simp)) _).cell m2 (by first | (simp; done) | (simp; omega))⟩ | go_keep
        clear hK K
        clear hHeld1
        refine wpAnyH_ready (rs := [9]) (by kernel_rfl) (by simp) ?_
        refine AllReadyH.cons rfl (fun K hK => ?_) AllReadyH.nil
        go_simp
        refine hK.out _ _ ?_ (fun hHeld7 => ?_)
        · (try dsimp only)
          first | exact ⟨m0, m1, m2⟩ | exact ⟨nA0, nA1, nA2⟩ | exact ⟨((Keep.refl [H] _).setCell (.inl (by simp)) _).cell m0 (by first | (simp; done) | (simp; omega)), ((Keep.refl [H] _).setCell (.inl (by simp)) _).cell m1 (by first | (simp; done) | (simp; omega)), ((Keep.refl [H] _).setCell (.inl (by simp)) _).cell m2 (by first | (simp; done) | (simp; omega))⟩ | go_keep
        clear hK K
        clear hHeld6
        refine wpAnyH_ready (rs := [12]) (by kernel_rfl) (by simp) ?_
        refine AllReadyH.cons rfl (fun K hK => ?_) AllReadyH.nil
        (first | (refine step_append_lies _ rfl (.tmp 72) (.tmp 74) 28 rfl (H + 1) 27 i0 (.agg #[.int .i64 0, .int .i64 0, .int .i64 0]) 3 24 Try.underlying28 hi0 hz0 hz1 hz2 rfl (by decide) (.slice ap m cp) m xs (by simp [Act.eval]) HXD.out ⟨w5.heap.size, 0, none⟩ 1 1 [.int .i64 p, .int .i64 1, .int .i64 u] (by simp [Act.eval]) rfl HNW.out HOC.out (by decide) HB1.out HB2.out HB3.out (w5.heap.size + 1) HB4.out ?_; intro gz cz w6 hown6 hgr6 hat6 hlt6; have hb6 := grown_blk hgr6 HBA.out HNS.out; have c6 := blk_place hb6 hp8; rw [HVP.out] at c6; have z6 := thaw hb6 p; have he6 := grown_blk hgr6 HEA.out HNV.out; obtain ⟨m0, m1, m2, _⟩ := row3 he6; have HB6 := Lib.hid hb6; have HO6 := Lib.hid hown6; have HG6 := Lib.hid hgr6; have HA6 := Lib.hid hat6; clear hb6 he6 hown6 hgr6 hat6))
        refine hK.out _ _ ?_ (fun hHeld8 => ?_)
        · (try dsimp only)
          first | exact ⟨m0, m1, m2⟩ | exact ⟨nA0, nA1, nA2⟩ | exact ⟨((Keep.refl [H] _).setCell (.inl (by simp)) _).cell m0 (by first | (simp; done) | (simp; omega)), ((Keep.refl [H] _).setCell (.inl (by simp)) _).cell m1 (by first | (simp; done) | (simp; omega)), ((Keep.refl [H] _).setCell (.inl (by simp)) _).cell m2 (by first | (simp; done) | (simp; omega))⟩ | go_keep
        clear hK K
        clear hHeld7
        refine wpAnyH_take (i := 15) (v := ?_) rfl (by kernel_rfl) (by kernel_rfl) (by kernel_rfl) (fun _ _ _ h => h) (Or.inl ⟨by rfl, ?_⟩) (by assumption) ?_
        rotate_left
        · (intro w hSw; (try dsimp only at hSw); go_simp; (try with_reducible rfl))
        try simp only [Act.put]
        try simp only [List.setIfInBounds_toArray]
        try simp only [List.set_cons_succ]
        try simp only [List.set_cons_zero]
        refine wpAnyH_ready (rs := [16]) (by kernel_rfl) (by simp) ?_
        refine AllReadyH.cons rfl (fun K hK => ?_) AllReadyH.nil
        go_simp
        refine hK.out _ _ ?_ (fun hHeld9 => ?_)
        · (try dsimp only)
          first | exact ⟨m0, m1, m2⟩ | exact ⟨nA0, nA1, nA2⟩ | exact ⟨((Keep.refl [H] _).setCell (.inl (by simp)) _).cell m0 (by first | (simp; done) | (simp; omega)), ((Keep.refl [H] _).setCell (.inl (by simp)) _).cell m1 (by first | (simp; done) | (simp; omega)), ((Keep.refl [H] _).setCell (.inl (by simp)) _).cell m2 (by first | (simp; done) | (simp; omega))⟩ | go_keep
        clear hK K
        clear hHeld8
        refine wpAnyH_done (by kernel_rfl) ?_ _
        rotate_left
        all_goals
          go_wp2_with fail
          go_roundw
          case measure => simp [intOf]; omega
          case rel =>
            have hkT2 : Keep [] w5 (w5.alloc (.cells #[.int .i64 p, .int .i64 1, .int .i64 u] 27)).drew := ((Keep.refl _ _).alloc _).drew
            have hnb : ∀ g, (Value.slice ap m cp).ownBlock = some g → H + 1 ≤ g := fun g hg => (HXS.out.lt g hg).1
            have hat6 : (Value.slice (some ⟨gz, 0, none⟩) (m + 1) cz).ownBlock = (V p).ownBlock ∨ (Value.slice (some ⟨gz, 0, none⟩) (m + 1) cz).ownBlock = some ((w5.alloc (.cells #[.int .i64 p, .int .i64 1, .int .i64 u] 27)).drew).heap.size := by
              rw [HVP.out, HB4.out]
              rcases HA6.out with e | e
              · exact .inl e.symm
              · exact .inr (by rw [← e]; rfl)
            refine ⟨k + 1, _, by omega, by go_num, ?_, ?_, Lib.hid (Hst.step (hkT2.at hblk5.out (by simp)) (fun x hx => let ⟨ys, hys⟩ := hrow5.out x hx; ⟨ys, own_keep hys hkT2 (by simp)⟩) HSEP.out (hsnd5.out.keep hkT2 (by simp)) (htak5.out.keep hkT2 (by simp)) hpl.out hp8 (by omega) (by omega) (by omega) HM.out HO6.out (by rw [HVP.out]; exact HG6.out) hat6)⟩
            · exact ((hkw5.trans hkT2).grown HG6.out (fun x hx => .inr (by have := hnb x hx; omega))).setCell (.inr (by show w.heap.size ≤ H; omega)) _
            · have h9 := HG6.out.size
              rw [HB4.out] at h9
              simp; omega
      · subst hg
        go_upto_region 11 with fail
        with_reducible refine Txt.wp_region_text mixed quiet (by decide +kernel) ?_
        go_wp2_with (first | (at_mapUpdate; refine wpList_update_f _ rfl _ _ _ 110 rfl 3 89 Try.underlying110 Try.underlying3 S k (FG h 2 k) rfl HS4.out.snd (by unfold maxLen; omega) u (.agg #[.int .i64 p, .int .i64 m]) rfl rfl HWF.out ?_; intro w5 hm5 hgr5; have HM5 := Lib.hid hm5; have HGR5 := Lib.hid hgr5; clear hm5 hgr5))
        with_reducible refine Txt.text_done (by kernel_rfl) ?_
        go_upto_region 14 with fail
        have hk45 : Keep [S] w4 w5 := ((Keep.refl [S] w4).drew).trans (Keep.ofGrown HGR5.out (fun x hx => by cases hx; simp))
        have hkw5 : Keep [] w w5 := Keep.call hkw4 hk45 (fun z hz => .inr (by simp at hz; omega))
        have hs5 : E + 2 ≤ w5.heap.size := by have := hk45.size; omega
        have hblk5 := Lib.hid (hk45.at HS4.out.blk (by first | (simp; done) | (simp; omega)))
        have hrow5 : Hid (∀ x : Nat, x < 8 → ∃ xs, w5.ownsRow (H + 1) 27 3 (V x) (rk (plQ h x) k) xs) := Lib.hid (fun x hx => let ⟨xs, hxs⟩ := HS4.out.row x hx; ⟨xs, own_keep hxs hk45 (fun g hg hm => by have := (hxs.lt g hg).1; first | (exfalso; simp at hm; done) | (simp at hm; omega))⟩)
        have hsnd5 : Hid (MapF w5 Try.prog 3 S (k + 1) (FG h 2 (k + 1))) := Lib.hid (by rw [hput2.out (by trivial), hsp.out]; exact HM5.out)
        have htak5 : Hid (MapF w5 Try.prog 3 T (k + 1) (FG h 3 (k + 1))) := Lib.hid (by rw [hsame3.out (by decide)]; exact (HS4.out.tak.keep hk45 (by first | (simp; done) | (simp; omega))).mono (by omega))
        have HX5 := Lib.hid (own_keep HX4.out hk45 (fun g hg hm => by have := (HX4.out.lt g hg).1; first | (exfalso; simp at hm; done) | (simp at hm; omega)))
        have hev5 := hk45.at HEV4.out (by first | (simp; done) | (simp; omega))
        have HSEP := Lib.hid HS4.out.sep
        have hc5 := hk45.cell hcp4 (by first | (simp; done) | (simp; omega))
        have hz5 := thaw hblk5.out
        clear n0 n1 n2 r0 r1 s8 s9 hcp4 HS4 HX4 HEV4 HSV4 hk45 hkw4 hs4
        obtain ⟨n0, n1, n2, _⟩ := row3 hev5
        have HEV5 := Lib.hid hev5
        clear hev5
        have HBA : Hid (((w5.alloc (.cells #[.int .i64 p, .int .i64 2, .int .i64 u] 27)).drew).heap[H]? = some (.cells (((List.range 8).map V) ++ [Value.map (some S), Value.map (some T)]).toArray 112 (0, 0))) := Lib.hid ((((Keep.refl [] w5).alloc _).drew).at hblk5.out (by simp))
        have HNE : Hid (some H ≠ (V p).ownBlock) := Lib.hid (fun e => by have := (HX5.out.lt H e.symm).1; omega)
        have HEA : Hid (((w5.alloc (.cells #[.int .i64 p, .int .i64 2, .int .i64 u] 27)).drew).heap[E]? = some (.cells #[.int .i64 p, .int .i64 2, .int .i64 u] 27 (0, 0))) := Lib.hid ((((Keep.refl [] w5).alloc _).drew).at HEV5.out (by simp))
        have hx5 := HX5.out
        rw [HVP.out] at hx5
        have HXS := Lib.hid hx5
        have hne5 := HNE.out
        rw [HVP.out] at hne5
        have HNS := Lib.hid hne5
        have HNV : Hid (some E ≠ (Value.slice ap m cp).ownBlock) := Lib.hid (fun e => by have := HXE.out E (by rw [HVP.out]; exact e.symm); omega)
        clear hx5 hne5
        have HXD : Hid (((w5.alloc (.cells #[.int .i64 p, .int .i64 2, .int .i64 u] 27)).drew).ownsRow (H + 1) 27 3 (.slice ap m cp) m xs) := Lib.hid (own_keep HXS.out (((Keep.refl [] w5).alloc _).drew) (by simp))
        have HNW : Hid (∀ j v, [Value.int .i64 p, .int .i64 2, .int .i64 u][j]? = some v → ((w5.alloc (.cells #[.int .i64 p, .int .i64 2, .int .i64 u] 27)).drew).cell? ((⟨w5.heap.size, 0, none⟩ : Addr).add j) = some v) := Lib.hid (cells_new w5 [.int .i64 p, .int .i64 2, .int .i64 u] 27 (0, 0))
        have HOC : Hid (∀ v ∈ [Value.int .i64 p, .int .i64 2, .int .i64 u], v.oneCell' = true) := Lib.hid (by intro v hv; simp at hv; rcases hv with hv | hv | hv <;> (subst hv; rfl))
        have HB1 : Hid (m + 1 ≤ maxLen) := Lib.hid (by unfold maxLen; omega)
        have HB2 : Hid ((m + 1) * 24 ≤ 140737488355328) := Lib.hid (by omega)
        have HB4 : Hid (((w5.alloc (.cells #[.int .i64 p, .int .i64 2, .int .i64 u] 27)).drew).heap.size = w5.heap.size + 1) := Lib.hid (by show (w5.alloc (.cells #[.int .i64 p, .int .i64 2, .int .i64 u] 27)).heap.size = _; simp)
        have HB3 : Hid (H + 1 ≤ ((w5.alloc (.cells #[.int .i64 p, .int .i64 2, .int .i64 u] 27)).drew).heap.size) := Lib.hid (by rw [HB4.out]; omega)
        have hkT : Keep [] w5 (w5.alloc (.cells #[.int .i64 p, .int .i64 2, .int .i64 u] 27)) := (Keep.refl _ _).alloc _
        have hcA := hkT.cell hc5 (by simp)
        have nA0 := hkT.cell n0 (by simp)
        have nA1 := hkT.cell n1 (by simp)
        have nA2 := hkT.cell n2 (by simp)
        refine wp_region_held_drew (S := fun w' => w'.cell? ⟨E, 0, none⟩ = some (.int .i64 p) ∧ w'.cell? ⟨E, 1, none⟩ = some (.int .i64 2) ∧ w'.cell? ⟨E, 2, none⟩ = some (.int .i64 u)) (by kernel_rfl) ?_ (fun hHeld10 => ?_)
        · (try dsimp only)
          first | exact ⟨m0, m1, m2⟩ | exact ⟨nA0, nA1, nA2⟩ | exact ⟨((Keep.refl [H] _).setCell (.inl (by simp)) _).cell m0 (by first | (simp; done) | (simp; omega)), ((Keep.refl [H] _).setCell (.inl (by simp)) _).cell m1 (by first | (simp; done) | (simp; omega)), ((Keep.refl [H] _).setCell (.inl (by simp)) _).cell m2 (by first | (simp; done) | (simp; omega))⟩ | go_keep
        refine wpAnyH_take (i := 0) (v := ?_) rfl (by kernel_rfl) (by kernel_rfl) (by kernel_rfl) (fun _ _ _ h => h) (Or.inl ⟨by rfl, ?_⟩) (by assumption) ?_
        rotate_left
        · (intro w hSw; (try dsimp only at hSw); go_simp; (try with_reducible rfl))
        try simp only [Act.put]
        try simp only [List.setIfInBounds_toArray]
        try simp only [List.set_cons_succ]
        try simp only [List.set_cons_zero]
        refine wpAnyH_take (i := 1) (v := ?_) rfl (by kernel_rfl) (by kernel_rfl) (by kernel_rfl) (fun _ _ _ h => h) (Or.inl ⟨by rfl, ?_⟩) (by assumption) ?_
        rotate_left
        · (intro w hSw; (try dsimp only at hSw); go_simp; (try with_reducible rfl))
        try simp only [Act.put]
        try simp only [List.setIfInBounds_toArray]
        try simp only [List.set_cons_succ]
        try simp only [List.set_cons_zero]
        refine wpAnyH_take (i := 2) (v := ?_) rfl (by kernel_rfl) (by kernel_rfl) (by kernel_rfl) (fun _ _ _ h => h) (Or.inl ⟨by rfl, ?_⟩) (by assumption) ?_
        rotate_left
        · (intro w hSw; (try dsimp only at hSw); go_simp; (try with_reducible rfl))
        try simp only [Act.put]
        try simp only [List.setIfInBounds_toArray]
        try simp only [List.set_cons_succ]
        try simp only [List.set_cons_zero]
        refine wpAnyH_take (i := 3) (v := ?_) rfl (by kernel_rfl) (by kernel_rfl) (by kernel_rfl) (fun _ _ _ h => h) (Or.inl ⟨by rfl, ?_⟩) (by assumption) ?_
        rotate_left
        · (intro w hSw; (try dsimp only at hSw); go_simp; (try with_reducible rfl))
        try simp only [Act.put]
        try simp only [List.setIfInBounds_toArray]
        try simp only [List.set_cons_succ]
        try simp only [List.set_cons_zero]
        refine wpAnyH_take (i := 4) (v := ?_) rfl (by kernel_rfl) (by kernel_rfl) (by kernel_rfl) (fun _ _ _ h => h) (Or.inl ⟨by rfl, ?_⟩) (by assumption) ?_
        rotate_left
        · (intro w hSw; (try dsimp only at hSw); go_simp; (try with_reducible rfl))
        try simp only [Act.put]
        try simp only [List.setIfInBounds_toArray]
        try simp only [List.set_cons_succ]
        try simp only [List.set_cons_zero]
        refine wpAnyH_take (i := 5) (v := ?_) rfl (by kernel_rfl) (by kernel_rfl) (by kernel_rfl) (fun _ _ _ h => h) (Or.inl ⟨by rfl, ?_⟩) (by assumption) ?_
        rotate_left
        · (intro w hSw; (try dsimp only at hSw); go_simp; (try with_reducible rfl))
        try simp only [Act.put]
        try simp only [List.setIfInBounds_toArray]
        try simp only [List.set_cons_succ]
        try simp only [List.set_cons_zero]
        refine wpAnyH_take (i := 6) (v := ?_) rfl (by kernel_rfl) (by kernel_rfl) (by kernel_rfl) (fun _ _ _ h => h) (Or.inl ⟨by rfl, ?_⟩) (by assumption) ?_
        rotate_left
        · (intro w hSw; (try dsimp only at hSw); go_simp; (try with_reducible rfl))
        try simp only [Act.put]
        try simp only [List.setIfInBounds_toArray]
        try simp only [List.set_cons_succ]
        try simp only [List.set_cons_zero]
        refine wpAnyH_take (i := 7) (v := ?_) rfl (by kernel_rfl) (by kernel_rfl) (by kernel_rfl) (fun _ _ _ h => h) (Or.inl ⟨by rfl, ?_⟩) (by assumption) ?_
        rotate_left
        · (intro w hSw; (try dsimp only at hSw); go_simp; (try with_reducible rfl))
        try simp only [Act.put]
        try simp only [List.setIfInBounds_toArray]
        try simp only [List.set_cons_succ]
        try simp only [List.set_cons_zero]
        refine wpAnyH_take (i := 8) (v := ?_) rfl (by kernel_rfl) (by kernel_rfl) (by kernel_rfl) (fun _ _ _ h => h) (Or.inl ⟨by rfl, ?_⟩) (by assumption) ?_
        rotate_left
        · (intro w hSw; (try dsimp only at hSw); go_simp; (try with_reducible rfl))
        try simp only [Act.put]
        try simp only [List.setIfInBounds_toArray]
        try simp only [List.set_cons_succ]
        try simp only [List.set_cons_zero]
        refine wpAnyH_take (i := 10) (v := ?_) rfl (by kernel_rfl) (by kernel_rfl) (by kernel_rfl) (fun _ _ _ h => h) (Or.inl ⟨by rfl, ?_⟩) (by assumption) ?_
        rotate_left
        · (intro w hSw; (try dsimp only at hSw); go_simp; (try with_reducible rfl))
        try simp only [Act.put]
        try simp only [List.setIfInBounds_toArray]
        try simp only [List.set_cons_succ]
        try simp only [List.set_cons_zero]
        refine wpAnyH_take (i := 13) (v := ?_) rfl (by kernel_rfl) (by kernel_rfl) (by kernel_rfl) (fun _ _ _ h => h) (Or.inl ⟨by rfl, ?_⟩) (by assumption) ?_
        rotate_left
        · (intro w hSw; (try dsimp only at hSw); go_simp; (try with_reducible rfl))
        try simp only [Act.put]
        try simp only [List.setIfInBounds_toArray]
        try simp only [List.set_cons_succ]
        try simp only [List.set_cons_zero]
        refine wpAnyH_take (i := 14) (v := ?_) rfl (by kernel_rfl) (by kernel_rfl) (by kernel_rfl) (fun _ _ _ h => h) (Or.inl ⟨by rfl, ?_⟩) (by assumption) ?_
        rotate_left
        · (intro w hSw; (try dsimp only at hSw); go_simp; (try with_reducible rfl))
        try simp only [Act.put]
        try simp only [List.setIfInBounds_toArray]
        try simp only [List.set_cons_succ]
        try simp only [List.set_cons_zero]
        refine wpAnyH_ready (rs := [9, 11]) (by kernel_rfl) (by simp) ?_
        refine (AllReadyH.cons rfl (fun K hK => ?_) (AllReadyH.cons rfl (fun K hK => ?_) AllReadyH.nil))
        go_simp
        refine hK.out _ _ ?_ (fun hHeld11 => ?_)
        · (try dsimp only)
          first | exact ⟨m0, m1, m2⟩ | exact ⟨nA0, nA1, nA2⟩ | exact ⟨((Keep.refl [H] _).setCell (.inl (by simp)) _).cell m0 (by first | (simp; done) | (simp; omega)), ((Keep.refl [H] _).setCell (.inl (by simp)) _).cell m1 (by first | (simp; done) | (simp; omega)), ((Keep.refl [H] _).setCell (.inl (by simp)) _).cell m2 (by first | (simp; done) | (simp; omega))⟩ | go_keep
        clear hK K
        clear hHeld10
        refine wpAnyH_ready (rs := [11]) (by kernel_rfl) (by simp) ?_
        refine AllReadyH.cons rfl (fun K hK => ?_) AllReadyH.nil
        go_simp
        refine hK.out _ _ ?_ (fun hHeld12 => ?_)
        · (try dsimp only)
          first | exact ⟨m0, m1, m2⟩ | exact ⟨nA0, nA1, nA2⟩ | exact ⟨((Keep.refl [H] _).setCell (.inl (by simp)) _).cell m0 (by first | (simp; done) | (simp; omega)), ((Keep.refl [H] _).setCell (.inl (by simp)) _).cell m1 (by first | (simp; done) | (simp; omega)), ((Keep.refl [H] _).setCell (.inl (by simp)) _).cell m2 (by first | (simp; done) | (simp; omega))⟩ | go_keep
        clear hK K
        clear hHeld11
        refine wpAnyH_ready (rs := [12]) (by kernel_rfl) (by simp) ?_
        refine AllReadyH.cons rfl (fun K hK => ?_) AllReadyH.nil
        (first | (refine step_append_lies _ rfl (.tmp 72) (.tmp 74) 28 rfl (H + 1) 27 i0 (.agg #[.int .i64 0, .int .i64 0, .int .i64 0]) 3 24 Try.underlying28 hi0 hz0 hz1 hz2 rfl (by decide) (.slice ap m cp) m xs (by simp [Act.eval]) HXD.out ⟨w5.heap.size, 0, none⟩ 1 1 [.int .i64 p, .int .i64 2, .int .i64 u] (by simp [Act.eval]) rfl HNW.out HOC.out (by decide) HB1.out HB2.out HB3.out (w5.heap.size + 1) HB4.out ?_; intro gz cz w6 hown6 hgr6 hat6 hlt6; have hb6 := grown_blk hgr6 HBA.out HNS.out; have c6 := blk_place hb6 hp8; rw [HVP.out] at c6; have z6 := thaw hb6 p; have he6 := grown_blk hgr6 HEA.out HNV.out; obtain ⟨m0, m1, m2, _⟩ := row3 he6; have HB6 := Lib.hid hb6; have HO6 := Lib.hid hown6; have HG6 := Lib.hid hgr6; have HA6 := Lib.hid hat6; clear hb6 he6 hown6 hgr6 hat6))
        refine hK.out _ _ ?_ (fun hHeld13 => ?_)
        · (try dsimp only)
          first | exact ⟨m0, m1, m2⟩ | exact ⟨nA0, nA1, nA2⟩ | exact ⟨((Keep.refl [H] _).setCell (.inl (by simp)) _).cell m0 (by first | (simp; done) | (simp; omega)), ((Keep.refl [H] _).setCell (.inl (by simp)) _).cell m1 (by first | (simp; done) | (simp; omega)), ((Keep.refl [H] _).setCell (.inl (by simp)) _).cell m2 (by first | (simp; done) | (simp; omega))⟩ | go_keep
        clear hK K
        clear hHeld12
        refine wpAnyH_take (i := 15) (v := ?_) rfl (by kernel_rfl) (by kernel_rfl) (by kernel_rfl) (fun _ _ _ h => h) (Or.inl ⟨by rfl, ?_⟩) (by assumption) ?_
        rotate_left
        · (intro w hSw; (try dsimp only at hSw); go_simp; (try with_reducible rfl))
        try simp only [Act.put]
        try simp only [List.setIfInBounds_toArray]
        try simp only [List.set_cons_succ]
        try simp only [List.set_cons_zero]
        refine wpAnyH_ready (rs := [16]) (by kernel_rfl) (by simp) ?_
        refine AllReadyH.cons rfl (fun K hK => ?_) AllReadyH.nil
        go_simp
        refine hK.out _ _ ?_ (fun hHeld14 => ?_)
        · (try dsimp only)
          first | exact ⟨m0, m1, m2⟩ | exact ⟨nA0, nA1, nA2⟩ | exact ⟨((Keep.refl [H] _).setCell (.inl (by simp)) _).cell m0 (by first | (simp; done) | (simp; omega)), ((Keep.refl [H] _).setCell (.inl (by simp)) _).cell m1 (by first | (simp; done) | (simp; omega)), ((Keep.refl [H] _).setCell (.inl (by simp)) _).cell m2 (by first | (simp; done) | (simp; omega))⟩ | go_keep
        clear hK K
        clear hHeld13
        refine wpAnyH_done (by kernel_rfl) ?_ _
        rotate_left
        go_simp
        refine hK.out _ _ ?_ (fun hHeld15 => ?_)
        · (try dsimp only)
          first | exact ⟨m0, m1, m2⟩ | exact ⟨nA0, nA1, nA2⟩ | exact ⟨((Keep.refl [H] _).setCell (.inl (by simp)) _).cell m0 (by first | (simp; done) | (simp; omega)), ((Keep.refl [H] _).setCell (.inl (by simp)) _).cell m1 (by first | (simp; done) | (simp; omega)), ((Keep.refl [H] _).setCell (.inl (by simp)) _).cell m2 (by first | (simp; done) | (simp; omega))⟩ | go_keep
        clear hK K
        clear hHeld10
        refine wpAnyH_ready (rs := [9]) (by kernel_rfl) (by simp) ?_
        refine AllReadyH.cons rfl (fun K hK => ?_) AllReadyH.nil
        go_simp
        refine hK.out _ _ ?_ (fun hHeld16 => ?_)
        · (try dsimp only)
          first | exact ⟨m0, m1, m2⟩ | exact ⟨nA0, nA1, nA2⟩ | exact ⟨((Keep.refl [H] _).setCell (.inl (by simp)) _).cell m0 (by first | (simp; done) | (simp; omega)), ((Keep.refl [H] _).setCell (.inl (by simp)) _).cell m1 (by first | (simp; done) | (simp; omega)), ((Keep.refl [H] _).setCell (.inl (by simp)) _).cell m2 (by first | (simp; done) | (simp; omega))⟩ | go_keep
        clear hK K
        clear hHeld15
        refine wpAnyH_ready (rs := [12]) (by kernel_rfl) (by simp) ?_
        refine AllReadyH.cons rfl (fun K hK => ?_) AllReadyH.nil
        (first | (refine step_append_lies _ rfl (.tmp 72) (.tmp 74) 28 rfl (H + 1) 27 i0 (.agg #[.int .i64 0, .int .i64 0, .int .i64 0]) 3 24 Try.underlying28 hi0 hz0 hz1 hz2 rfl (by decide) (.slice ap m cp) m xs (by simp [Act.eval]) HXD.out ⟨w5.heap.size, 0, none⟩ 1 1 [.int .i64 p, .int .i64 2, .int .i64 u] (by simp [Act.eval]) rfl HNW.out HOC.out (by decide) HB1.out HB2.out HB3.out (w5.heap.size + 1) HB4.out ?_; intro gz cz w6 hown6 hgr6 hat6 hlt6; have hb6 := grown_blk hgr6 HBA.out HNS.out; have c6 := blk_place hb6 hp8; rw [HVP.out] at c6; have z6 := thaw hb6 p; have he6 := grown_blk hgr6 HEA.out HNV.out; obtain ⟨m0, m1, m2, _⟩ := row3 he6; have HB6 := Lib.hid hb6; have HO6 := Lib.hid hown6; have HG6 := Lib.hid hgr6; have HA6 := Lib.hid hat6; clear hb6 he6 hown6 hgr6 hat6))
        refine hK.out _ _ ?_ (fun hHeld17 => ?_)
        · (try dsimp only)
          first | exact ⟨m0, m1, m2⟩ | exact ⟨nA0, nA1, nA2⟩ | exact ⟨((Keep.refl [H] _).setCell (.inl (by simp)) _).cell m0 (by first | (simp; done) | (simp; omega)), ((Keep.refl [H] _).setCell (.inl (by simp)) _).cell m1 (by first | (simp; done) | (simp; omega)), ((Keep.refl [H] _).setCell (.inl (by simp)) _).cell m2 (by first | (simp; done) | (simp; omega))⟩ | go_keep
        clear hK K
        clear hHeld16
        refine wpAnyH_take (i := 15) (v := ?_) rfl (by kernel_rfl) (by kernel_rfl) (by kernel_rfl) (fun _ _ _ h => h) (Or.inl ⟨by rfl, ?_⟩) (by assumption) ?_
        rotate_left
        · (intro w hSw; (try dsimp only at hSw); go_simp; (try with_reducible rfl))
        try simp only [Act.put]
        try simp only [List.setIfInBounds_toArray]
        try simp only [List.set_cons_succ]
        try simp only [List.set_cons_zero]
        refine wpAnyH_ready (rs := [16]) (by kernel_rfl) (by simp) ?_
        refine AllReadyH.cons rfl (fun K hK => ?_) AllReadyH.nil
        go_simp
        refine hK.out _ _ ?_ (fun hHeld18 => ?_)
        · (try dsimp only)
          first | exact ⟨m0, m1, m2⟩ | exact ⟨nA0, nA1, nA2⟩ | exact ⟨((Keep.refl [H] _).setCell (.inl (by simp)) _).cell m0 (by first | (simp; done) | (simp; omega)), ((Keep.refl [H] _).setCell (.inl (by simp)) _).cell m1 (by first | (simp; done) | (simp; omega)), ((Keep.refl [H] _).setCell (.inl (by simp)) _).cell m2 (by first | (simp; done) | (simp; omega))⟩ | go_keep
        clear hK K
        clear hHeld17
        refine wpAnyH_done (by kernel_rfl) ?_ _
        rotate_left
        all_goals
          go_wp2_with fail
          go_roundw
          case measure => simp [intOf]; omega
          case rel =>
            have hkT2 : Keep [] w5 (w5.alloc (.cells #[.int .i64 p, .int .i64 2, .int .i64 u] 27)).drew := ((Keep.refl _ _).alloc _).drew
            have hnb : ∀ g, (Value.slice ap m cp).ownBlock = some g → H + 1 ≤ g := fun g hg => (HXS.out.lt g hg).1
            have hat6 : (Value.slice (some ⟨gz, 0, none⟩) (m + 1) cz).ownBlock = (V p).ownBlock ∨ (Value.slice (some ⟨gz, 0, none⟩) (m + 1) cz).ownBlock = some ((w5.alloc (.cells #[.int .i64 p, .int .i64 2, .int .i64 u] 27)).drew).heap.size := by
              rw [HVP.out, HB4.out]
              rcases HA6.out with e | e
              · exact .inl e.symm
              · exact .inr (by rw [← e]; rfl)
            refine ⟨k + 1, _, by omega, by go_num, ?_, ?_, Lib.hid (Hst.step (hkT2.at hblk5.out (by simp)) (fun x hx => let ⟨ys, hys⟩ := hrow5.out x hx; ⟨ys, own_keep hys hkT2 (by simp)⟩) HSEP.out (hsnd5.out.keep hkT2 (by simp)) (htak5.out.keep hkT2 (by simp)) hpl.out hp8 (by omega) (by omega) (by omega) HM.out HO6.out (by rw [HVP.out]; exact HG6.out) hat6)⟩
            · exact ((hkw5.trans hkT2).grown HG6.out (fun x hx => .inr (by have := hnb x hx; omega))).setCell (.inr (by show w.heap.size ≤ H; omega)) _
            · have h9 := HG6.out.size
              rw [HB4.out] at h9
              simp; omega
      · subst hg
        go_upto_region 13 with fail
        with_reducible refine Txt.wp_region_text mixed quiet (by decide +kernel) ?_
        go_wp2_with (first | (at_mapUpdate; refine wpList_update_f _ rfl _ _ _ 110 rfl 3 89 Try.underlying110 Try.underlying3 T k (FG h 3 k) rfl HS4.out.tak (by unfold maxLen; omega) u (.agg #[.int .i64 p, .int .i64 m]) rfl rfl HWF.out ?_; intro w5 hm5 hgr5; have HM5 := Lib.hid hm5; have HGR5 := Lib.hid hgr5; clear hm5 hgr5))
        with_reducible refine Txt.text_done (by kernel_rfl) ?_
        go_upto_region 14 with fail
        have hk45 : Keep [T] w4 w5 := ((Keep.refl [T] w4).drew).trans (Keep.ofGrown HGR5.out (fun x hx => by cases hx; simp))
        have hkw5 : Keep [] w w5 := Keep.call hkw4 hk45 (fun z hz => .inr (by simp at hz; omega))
        have hs5 : E + 2 ≤ w5.heap.size := by have := hk45.size; omega
        have hblk5 := Lib.hid (hk45.at HS4.out.blk (by first | (simp; done) | (simp; omega)))
        have hrow5 : Hid (∀ x : Nat, x < 8 → ∃ xs, w5.ownsRow (H + 1) 27 3 (V x) (rk (plQ h x) k) xs) := Lib.hid (fun x hx => let ⟨xs, hxs⟩ := HS4.out.row x hx; ⟨xs, own_keep hxs hk45 (fun g hg hm => by have := (hxs.lt g hg).1; first | (exfalso; simp at hm; done) | (simp at hm; omega))⟩)
        have hsnd5 : Hid (MapF w5 Try.prog 3 S (k + 1) (FG h 2 (k + 1))) := Lib.hid (by rw [hsame2.out (by decide)]; exact (HS4.out.snd.keep hk45 (by first | (simp; done) | (simp; omega))).mono (by omega))
        have htak5 : Hid (MapF w5 Try.prog 3 T (k + 1) (FG h 3 (k + 1))) := Lib.hid (by rw [hput3.out (by trivial), hsp.out]; exact HM5.out)
        have HX5 := Lib.hid (own_keep HX4.out hk45 (fun g hg hm => by have := (HX4.out.lt g hg).1; first | (exfalso; simp at hm; done) | (simp at hm; omega)))
        have hev5 := hk45.at HEV4.out (by first | (simp; done) | (simp; omega))
        have HSEP := Lib.hid HS4.out.sep
        have hc5 := hk45.cell hcp4 (by first | (simp; done) | (simp; omega))
        have hz5 := thaw hblk5.out
        clear n0 n1 n2 r0 r1 s8 s9 hcp4 HS4 HX4 HEV4 HSV4 hk45 hkw4 hs4
        obtain ⟨n0, n1, n2, _⟩ := row3 hev5
        have HEV5 := Lib.hid hev5
        clear hev5
        have HBA : Hid (((w5.alloc (.cells #[.int .i64 p, .int .i64 3, .int .i64 u] 27)).drew).heap[H]? = some (.cells (((List.range 8).map V) ++ [Value.map (some S), Value.map (some T)]).toArray 112 (0, 0))) := Lib.hid ((((Keep.refl [] w5).alloc _).drew).at hblk5.out (by simp))
        have HNE : Hid (some H ≠ (V p).ownBlock) := Lib.hid (fun e => by have := (HX5.out.lt H e.symm).1; omega)
        have HEA : Hid (((w5.alloc (.cells #[.int .i64 p, .int .i64 3, .int .i64 u] 27)).drew).heap[E]? = some (.cells #[.int .i64 p, .int .i64 3, .int .i64 u] 27 (0, 0))) := Lib.hid ((((Keep.refl [] w5).alloc _).drew).at HEV5.out (by simp))
        have hx5 := HX5.out
        rw [HVP.out] at hx5
        have HXS := Lib.hid hx5
        have hne5 := HNE.out
        rw [HVP.out] at hne5
        have HNS := Lib.hid hne5
        have HNV : Hid (some E ≠ (Value.slice ap m cp).ownBlock) := Lib.hid (fun e => by have := HXE.out E (by rw [HVP.out]; exact e.symm); omega)
        clear hx5 hne5
        have HXD : Hid (((w5.alloc (.cells #[.int .i64 p, .int .i64 3, .int .i64 u] 27)).drew).ownsRow (H + 1) 27 3 (.slice ap m cp) m xs) := Lib.hid (own_keep HXS.out (((Keep.refl [] w5).alloc _).drew) (by simp))
        have HNW : Hid (∀ j v, [Value.int .i64 p, .int .i64 3, .int .i64 u][j]? = some v → ((w5.alloc (.cells #[.int .i64 p, .int .i64 3, .int .i64 u] 27)).drew).cell? ((⟨w5.heap.size, 0, none⟩ : Addr).add j) = some v) := Lib.hid (cells_new w5 [.int .i64 p, .int .i64 3, .int .i64 u] 27 (0, 0))
        have HOC : Hid (∀ v ∈ [Value.int .i64 p, .int .i64 3, .int .i64 u], v.oneCell' = true) := Lib.hid (by intro v hv; simp at hv; rcases hv with hv | hv | hv <;> (subst hv; rfl))
        have HB1 : Hid (m + 1 ≤ maxLen) := Lib.hid (by unfold maxLen; omega)
        have HB2 : Hid ((m + 1) * 24 ≤ 140737488355328) := Lib.hid (by omega)
        have HB4 : Hid (((w5.alloc (.cells #[.int .i64 p, .int .i64 3, .int .i64 u] 27)).drew).heap.size = w5.heap.size + 1) := Lib.hid (by show (w5.alloc (.cells #[.int .i64 p, .int .i64 3, .int .i64 u] 27)).heap.size = _; simp)
        have HB3 : Hid (H + 1 ≤ ((w5.alloc (.cells #[.int .i64 p, .int .i64 3, .int .i64 u] 27)).drew).heap.size) := Lib.hid (by rw [HB4.out]; omega)
        have hkT : Keep [] w5 (w5.alloc (.cells #[.int .i64 p, .int .i64 3, .int .i64 u] 27)) := (Keep.refl _ _).alloc _
        have hcA := hkT.cell hc5 (by simp)
        have nA0 := hkT.cell n0 (by simp)
        have nA1 := hkT.cell n1 (by simp)
        have nA2 := hkT.cell n2 (by simp)
        refine wp_region_held_drew (S := fun w' => w'.cell? ⟨E, 0, none⟩ = some (.int .i64 p) ∧ w'.cell? ⟨E, 1, none⟩ = some (.int .i64 3) ∧ w'.cell? ⟨E, 2, none⟩ = some (.int .i64 u)) (by kernel_rfl) ?_ (fun hHeld19 => ?_)
        · (try dsimp only)
          first | exact ⟨m0, m1, m2⟩ | exact ⟨nA0, nA1, nA2⟩ | exact ⟨((Keep.refl [H] _).setCell (.inl (by simp)) _).cell m0 (by first | (simp; done) | (simp; omega)), ((Keep.refl [H] _).setCell (.inl (by simp)) _).cell m1 (by first | (simp; done) | (simp; omega)), ((Keep.refl [H] _).setCell (.inl (by simp)) _).cell m2 (by first | (simp; done) | (simp; omega))⟩ | go_keep
        refine wpAnyH_take (i := 0) (v := ?_) rfl (by kernel_rfl) (by kernel_rfl) (by kernel_rfl) (fun _ _ _ h => h) (Or.inl ⟨by rfl, ?_⟩) (by assumption) ?_
        rotate_left
        · (intro w hSw; (try dsimp only at hSw); go_simp; (try with_reducible rfl))
        try simp only [Act.put]
        try simp only [List.setIfInBounds_toArray]
        try simp only [List.set_cons_succ]
        try simp only [List.set_cons_zero]
        refine wpAnyH_take (i := 1) (v := ?_) rfl (by kernel_rfl) (by kernel_rfl) (by kernel_rfl) (fun _ _ _ h => h) (Or.inl ⟨by rfl, ?_⟩) (by assumption) ?_
        rotate_left
        · (intro w hSw; (try dsimp only at hSw); go_simp; (try with_reducible rfl))
        try simp only [Act.put]
        try simp only [List.setIfInBounds_toArray]
        try simp only [List.set_cons_succ]
        try simp only [List.set_cons_zero]
        refine wpAnyH_take (i := 2) (v := ?_) rfl (by kernel_rfl) (by kernel_rfl) (by kernel_rfl) (fun _ _ _ h => h) (Or.inl ⟨by rfl, ?_⟩) (by assumption) ?_
        rotate_left
        · (intro w hSw; (try dsimp only at hSw); go_simp; (try with_reducible rfl))
        try simp only [Act.put]
        try simp only [List.setIfInBounds_toArray]
        try simp only [List.set_cons_succ]
        try simp only [List.set_cons_zero]
        refine wpAnyH_take (i := 3) (v := ?_) rfl (by kernel_rfl) (by kernel_rfl) (by kernel_rfl) (fun _ _ _ h => h) (Or.inl ⟨by rfl, ?_⟩) (by assumption) ?_
        rotate_left
        · (intro w hSw; (try dsimp only at hSw); go_simp; (try with_reducible rfl))
        try simp only [Act.put]
        try simp only [List.setIfInBounds_toArray]
        try simp only [List.set_cons_succ]
        try simp only [List.set_cons_zero]
        refine wpAnyH_take (i := 4) (v := ?_) rfl (by kernel_rfl) (by kernel_rfl) (by kernel_rfl) (fun _ _ _ h => h) (Or.inl ⟨by rfl, ?_⟩) (by assumption) ?_
        rotate_left
        · (intro w hSw; (try dsimp only at hSw); go_simp; (try with_reducible rfl))
        try simp only [Act.put]
        try simp only [List.setIfInBounds_toArray]
        try simp only [List.set_cons_succ]
        try simp only [List.set_cons_zero]
        refine wpAnyH_take (i := 5) (v := ?_) rfl (by kernel_rfl) (by kernel_rfl) (by kernel_rfl) (fun _ _ _ h => h) (Or.inl ⟨by rfl, ?_⟩) (by assumption) ?_
        rotate_left
        · (intro w hSw; (try dsimp only at hSw); go_simp; (try with_reducible rfl))
        try simp only [Act.put]
        try simp only [List.setIfInBounds_toArray]
        try simp only [List.set_cons_succ]
        try simp only [List.set_cons_zero]
        refine wpAnyH_take (i := 6) (v := ?_) rfl (by kernel_rfl) (by kernel_rfl) (by kernel_rfl) (fun _ _ _ h => h) (Or.inl ⟨by rfl, ?_⟩) (by assumption) ?_
        rotate_left
        · (intro w hSw; (try dsimp only at hSw); go_simp; (try with_reducible rfl))
        try simp only [Act.put]
        try simp only [List.setIfInBounds_toArray]
        try simp only [List.set_cons_succ]
        try simp only [List.set_cons_zero]
        refine wpAnyH_take (i := 7) (v := ?_) rfl (by kernel_rfl) (by kernel_rfl) (by kernel_rfl) (fun _ _ _ h => h) (Or.inl ⟨by rfl, ?_⟩) (by assumption) ?_
        rotate_left
        · (intro w hSw; (try dsimp only at hSw); go_simp; (try with_reducible rfl))
        try simp only [Act.put]
        try simp only [List.setIfInBounds_toArray]
        try simp only [List.set_cons_succ]
        try simp only [List.set_cons_zero]
        refine wpAnyH_take (i := 8) (v := ?_) rfl (by kernel_rfl) (by kernel_rfl) (by kernel_rfl) (fun _ _ _ h => h) (Or.inl ⟨by rfl, ?_⟩) (by assumption) ?_
        rotate_left
        · (intro w hSw; (try dsimp only at hSw); go_simp; (try with_reducible rfl))
        try simp only [Act.put]
        try simp only [List.setIfInBounds_toArray]
        try simp only [List.set_cons_succ]
        try simp only [List.set_cons_zero]
        refine wpAnyH_take (i := 10) (v := ?_) rfl (by kernel_rfl) (by kernel_rfl) (by kernel_rfl) (fun _ _ _ h => h) (Or.inl ⟨by rfl, ?_⟩) (by assumption) ?_
        rotate_left
        · (intro w hSw; (try dsimp only at hSw); go_simp; (try with_reducible rfl))
        try simp only [Act.put]
        try simp only [List.setIfInBounds_toArray]
        try simp only [List.set_cons_succ]
        try simp only [List.set_cons_zero]
        refine wpAnyH_take (i := 13) (v := ?_) rfl (by kernel_rfl) (by kernel_rfl) (by kernel_rfl) (fun _ _ _ h => h) (Or.inl ⟨by rfl, ?_⟩) (by assumption) ?_
        rotate_left
        · (intro w hSw; (try dsimp only at hSw); go_simp; (try with_reducible rfl))
        try simp only [Act.put]
        try simp only [List.setIfInBounds_toArray]
        try simp only [List.set_cons_succ]
        try simp only [List.set_cons_zero]
        refine wpAnyH_take (i := 14) (v := ?_) rfl (by kernel_rfl) (by kernel_rfl) (by kernel_rfl) (fun _ _ _ h => h) (Or.inl ⟨by rfl, ?_⟩) (by assumption) ?_
        rotate_left
        · (intro w hSw; (try dsimp only at hSw); go_simp; (try with_reducible rfl))
        try simp only [Act.put]
        try simp only [List.setIfInBounds_toArray]
        try simp only [List.set_cons_succ]
        try simp only [List.set_cons_zero]
        refine wpAnyH_ready (rs := [9, 11]) (by kernel_rfl) (by simp) ?_
        refine (AllReadyH.cons rfl (fun K hK => ?_) (AllReadyH.cons rfl (fun K hK => ?_) AllReadyH.nil))
        go_simp
        refine hK.out _ _ ?_ (fun hHeld20 => ?_)
        · (try dsimp only)
          first | exact ⟨m0, m1, m2⟩ | exact ⟨nA0, nA1, nA2⟩ | exact ⟨((Keep.refl [H] _).setCell (.inl (by simp)) _).cell m0 (by first | (simp; done) | (simp; omega)), ((Keep.refl [H] _).setCell (.inl (by simp)) _).cell m1 (by first | (simp; done) | (simp; omega)), ((Keep.refl [H] _).setCell (.inl (by simp)) _).cell m2 (by first | (simp; done) | (simp; omega))⟩ | go_keep
        clear hK K
        clear hHeld19
        refine wpAnyH_ready (rs := [11]) (by kernel_rfl) (by simp) ?_
        refine AllReadyH.cons rfl (fun K hK => ?_) AllReadyH.nil
        go_simp
        refine hK.out _ _ ?_ (fun hHeld21 => ?_)
        · (try dsimp only)
          first | exact ⟨m0, m1, m2⟩ | exact ⟨nA0, nA1, nA2⟩ | exact ⟨((Keep.refl [H] _).setCell (.inl (by simp)) _).cell m0 (by first | (simp; done) | (simp; omega)), ((Keep.refl [H] _).setCell (.inl (by simp)) _).cell m1 (by first | (simp; done) | (simp; omega)), ((Keep.refl [H] _).setCell (.inl (by simp)) _).cell m2 (by first | (simp; done) | (simp; omega))⟩ | go_keep
        clear hK K
        clear hHeld20
        refine wpAnyH_ready (rs := [12]) (by kernel_rfl) (by simp) ?_
        refine AllReadyH.cons rfl (fun K hK => ?_) AllReadyH.nil
        (first | (refine step_append_lies _ rfl (.tmp 72) (.tmp 74) 28 rfl (H + 1) 27 i0 (.agg #[.int .i64 0, .int .i64 0, .int .i64 0]) 3 24 Try.underlying28 hi0 hz0 hz1 hz2 rfl (by decide) (.slice ap m cp) m xs (by simp [Act.eval]) HXD.out ⟨w5.heap.size, 0, none⟩ 1 1 [.int .i64 p, .int .i64 3, .int .i64 u] (by simp [Act.eval]) rfl HNW.out HOC.out (by decide) HB1.out HB2.out HB3.out (w5.heap.size + 1) HB4.out ?_; intro gz cz w6 hown6 hgr6 hat6 hlt6; have hb6 := grown_blk hgr6 HBA.out HNS.out; have c6 := blk_place hb6 hp8; rw [HVP.out] at c6; have z6 := thaw hb6 p; have he6 := grown_blk hgr6 HEA.out HNV.out; obtain ⟨m0, m1, m2, _⟩ := row3 he6; have HB6 := Lib.hid hb6; have HO6 := Lib.hid hown6; have HG6 := Lib.hid hgr6; have HA6 := Lib.hid hat6; clear hb6 he6 hown6 hgr6 hat6))
        refine hK.out _ _ ?_ (fun hHeld22 => ?_)
        · (try dsimp only)
          first | exact ⟨m0, m1, m2⟩ | exact ⟨nA0, nA1, nA2⟩ | exact ⟨((Keep.refl [H] _).setCell (.inl (by simp)) _).cell m0 (by first | (simp; done) | (simp; omega)), ((Keep.refl [H] _).setCell (.inl (by simp)) _).cell m1 (by first | (simp; done) | (simp; omega)), ((Keep.refl [H] _).setCell (.inl (by simp)) _).cell m2 (by first | (simp; done) | (simp; omega))⟩ | go_keep
        clear hK K
        clear hHeld21
        refine wpAnyH_take (i := 15) (v := ?_) rfl (by kernel_rfl) (by kernel_rfl) (by kernel_rfl) (fun _ _ _ h => h) (Or.inl ⟨by rfl, ?_⟩) (by assumption) ?_
        rotate_left
        · (intro w hSw; (try dsimp only at hSw); go_simp; (try with_reducible rfl))
        try simp only [Act.put]
        try simp only [List.setIfInBounds_toArray]
        try simp only [List.set_cons_succ]
        try simp only [List.set_cons_zero]
        refine wpAnyH_ready (rs := [16]) (by kernel_rfl) (by simp) ?_
        refine AllReadyH.cons rfl (fun K hK => ?_) AllReadyH.nil
        go_simp
        refine hK.out _ _ ?_ (fun hHeld23 => ?_)
        · (try dsimp only)
          first | exact ⟨m0, m1, m2⟩ | exact ⟨nA0, nA1, nA2⟩ | exact ⟨((Keep.refl [H] _).setCell (.inl (by simp)) _).cell m0 (by first | (simp; done) | (simp; omega)), ((Keep.refl [H] _).setCell (.inl (by simp)) _).cell m1 (by first | (simp; done) | (simp; omega)), ((Keep.refl [H] _).setCell (.inl (by simp)) _).cell m2 (by first | (simp; done) | (simp; omega))⟩ | go_keep
        clear hK K
        clear hHeld22
        refine wpAnyH_done (by kernel_rfl) ?_ _
        rotate_left
        go_simp
        refine hK.out _ _ ?_ (fun hHeld24 => ?_)
        · (try dsimp only)
          first | exact ⟨m0, m1, m2⟩ | exact ⟨nA0, nA1, nA2⟩ | exact ⟨((Keep.refl [H] _).setCell (.inl (by simp)) _).cell m0 (by first | (simp; done) | (simp; omega)), ((Keep.refl [H] _).setCell (.inl (by simp)) _).cell m1 (by first | (simp; done) | (simp; omega)), ((Keep.refl [H] _).setCell (.inl (by simp)) _).cell m2 (by first | (simp; done) | (simp; omega))⟩ | go_keep
        clear hK K
        clear hHeld19
        refine wpAnyH_ready (rs := [9]) (by kernel_rfl) (by simp) ?_
        refine AllReadyH.cons rfl (fun K hK => ?_) AllReadyH.nil
        go_simp
        refine hK.out _ _ ?_ (fun hHeld25 => ?_)
        · (try dsimp only)
          first | exact ⟨m0, m1, m2⟩ | exact ⟨nA0, nA1, nA2⟩ | exact ⟨((Keep.refl [H] _).setCell (.inl (by simp)) _).cell m0 (by first | (simp; done) | (simp; omega)), ((Keep.refl [H] _).setCell (.inl (by simp)) _).cell m1 (by first | (simp; done) | (simp; omega)), ((Keep.refl [H] _).setCell (.inl (by simp)) _).cell m2 (by first | (simp; done) | (simp; omega))⟩ | go_keep
        clear hK K
        clear hHeld24
        refine wpAnyH_ready (rs := [12]) (by kernel_rfl) (by simp) ?_
        refine AllReadyH.cons rfl (fun K hK => ?_) AllReadyH.nil
        (first | (refine step_append_lies _ rfl (.tmp 72) (.tmp 74) 28 rfl (H + 1) 27 i0 (.agg #[.int .i64 0, .int .i64 0, .int .i64 0]) 3 24 Try.underlying28 hi0 hz0 hz1 hz2 rfl (by decide) (.slice ap m cp) m xs (by simp [Act.eval]) HXD.out ⟨w5.heap.size, 0, none⟩ 1 1 [.int .i64 p, .int .i64 3, .int .i64 u] (by simp [Act.eval]) rfl HNW.out HOC.out (by decide) HB1.out HB2.out HB3.out (w5.heap.size + 1) HB4.out ?_; intro gz cz w6 hown6 hgr6 hat6 hlt6; have hb6 := grown_blk hgr6 HBA.out HNS.out; have c6 := blk_place hb6 hp8; rw [HVP.out] at c6; have z6 := thaw hb6 p; have he6 := grown_blk hgr6 HEA.out HNV.out; obtain ⟨m0, m1, m2, _⟩ := row3 he6; have HB6 := Lib.hid hb6; have HO6 := Lib.hid hown6; have HG6 := Lib.hid hgr6; have HA6 := Lib.hid hat6; clear hb6 he6 hown6 hgr6 hat6))
        refine hK.out _ _ ?_ (fun hHeld26 => ?_)
        · (try dsimp only)
          first | exact ⟨m0, m1, m2⟩ | exact ⟨nA0, nA1, nA2⟩ | exact ⟨((Keep.refl [H] _).setCell (.inl (by simp)) _).cell m0 (by first | (simp; done) | (simp; omega)), ((Keep.refl [H] _).setCell (.inl (by simp)) _).cell m1 (by first | (simp; done) | (simp; omega)), ((Keep.refl [H] _).setCell (.inl (by simp)) _).cell m2 (by first | (simp; done) | (simp; omega))⟩ | go_keep
        clear hK K
        clear hHeld25
        refine wpAnyH_take (i := 15) (v := ?_) rfl (by kernel_rfl) (by kernel_rfl) (by kernel_rfl) (fun _ _ _ h => h) (Or.inl ⟨by rfl, ?_⟩) (by assumption) ?_
        rotate_left
        · (intro w hSw; (try dsimp only at hSw); go_simp; (try with_reducible rfl))
        try simp only [Act.put]
        try simp only [List.setIfInBounds_toArray]
        try simp only [List.set_cons_succ]
        try simp only [List.set_cons_zero]
        refine wpAnyH_ready (rs := [16]) (by kernel_rfl) (by simp) ?_
        refine AllReadyH.cons rfl (fun K hK => ?_) AllReadyH.nil
        go_simp
        refine hK.out _ _ ?_ (fun hHeld27 => ?_)
        · (try dsimp only)
          first | exact ⟨m0, m1, m2⟩ | exact ⟨nA0, nA1, nA2⟩ | exact ⟨((Keep.refl [H] _).setCell (.inl (by simp)) _).cell m0 (by first | (simp; done) | (simp; omega)), ((Keep.refl [H] _).setCell (.inl (by simp)) _).cell m1 (by first | (simp; done) | (simp; omega)), ((Keep.refl [H] _).setCell (.inl (by simp)) _).cell m2 (by first | (simp; done) | (simp; omega))⟩ | go_keep
        clear hK K
        clear hHeld26
        refine wpAnyH_done (by kernel_rfl) ?_ _
        rotate_left
        all_goals
          go_wp2_with fail
          go_roundw
          case measure => simp [intOf]; omega
          case rel =>
            have hkT2 : Keep [] w5 (w5.alloc (.cells #[.int .i64 p, .int .i64 3, .int .i64 u] 27)).drew := ((Keep.refl _ _).alloc _).drew
            have hnb : ∀ g, (Value.slice ap m cp).ownBlock = some g → H + 1 ≤ g := fun g hg => (HXS.out.lt g hg).1
            have hat6 : (Value.slice (some ⟨gz, 0, none⟩) (m + 1) cz).ownBlock = (V p).ownBlock ∨ (Value.slice (some ⟨gz, 0, none⟩) (m + 1) cz).ownBlock = some ((w5.alloc (.cells #[.int .i64 p, .int .i64 3, .int .i64 u] 27)).drew).heap.size := by
              rw [HVP.out, HB4.out]
              rcases HA6.out with e | e
              · exact .inl e.symm
              · exact .inr (by rw [← e]; rfl)
            refine ⟨k + 1, _, by omega, by go_num, ?_, ?_, Lib.hid (Hst.step (hkT2.at hblk5.out (by simp)) (fun x hx => let ⟨ys, hys⟩ := hrow5.out x hx; ⟨ys, own_keep hys hkT2 (by simp)⟩) HSEP.out (hsnd5.out.keep hkT2 (by simp)) (htak5.out.keep hkT2 (by simp)) hpl.out hp8 (by omega) (by omega) (by omega) HM.out HO6.out (by rw [HVP.out]; exact HG6.out) hat6)⟩
            · exact ((hkw5.trans hkT2).grown HG6.out (fun x hx => .inr (by have := hnb x hx; omega))).setCell (.inr (by show w.heap.size ≤ H; omega)) _
            · have h9 := HG6.out.size
              rw [HB4.out] at h9
              simp; omega
    · have hkn := Lib.hid (show k = n by omega)
      obtain ⟨j0, hj0, hy0, hy1, hy2⟩ := info_parts info76
      go_wp2_with fail
      obtain ⟨wn, hwn⟩ : ∃ wn : World, wr = wn := ⟨_, rfl⟩
      have HSn := HS
      rw [hwn] at hkw hHl HSn ⊢
      clear hwn HS
      go_loopw [12, 14, 15, 16, 82] (fun v _ _ _ j wr => ∃ i : Nat, i ≤ cm ∧ j = .int .i64 i ∧ Keep [] wn wr ∧ Hid (wr.ownsRow wn.heap.size 76 8 v i (flatC C i))) (fun _ _ _ _ j _ => cm - (intOf j).toNat)
      case atStart => exact ⟨0, by omega, rfl, Keep.refl _ _, Lib.hid (World.ownsRow_nil _ _ _ _)⟩
      case round =>
        obtain ⟨i, hi, rfl, hkx, HO⟩ := hrel
        by_cases hlt : i < cm
        · obtain ⟨b, o, aj, cj, rfl, d0, hij, hbd⟩ := (HCS.out.keep (hkw.trans hkx)) i hlt
          have hdec : decide ((i : Int) < cm) = true := by simp; omega
          have HIJ := Lib.hid hij
          have HBD := Lib.hid hbd
          have HSx := Lib.hid (HSn.out.keep hkx)
          clear hij hbd
          go_wp2_with fail
          go_loopw [15, 16, 91] (fun _ _ j wx => ∃ p : Nat, p ≤ 8 ∧ j = .int .i64 p ∧ wx = wr) (fun _ _ j _ => 8 - (intOf j).toNat)
          case atStart => exact ⟨0, by omega, rfl, by trivial⟩
          case round =>
            obtain ⟨p, hp, rfl, rfl⟩ := hrel
            by_cases hlp : p < 8
            · obtain ⟨b2, o2, rfl, hcz⟩ := HIJ.out.cells (by omega)
              have hcp := hcz p hlp
              have hbp := HBD.out p hlp
              have hpc := HSx.out.cell hlp
              obtain ⟨xs, hx⟩ := HSx.out.row p hlp
              obtain ⟨ap, cp, hVp⟩ := own_slice hx
              have hlen : rk (plQ h p) h.length = rk (plQ h p) k := by rw [HL.out, hkn.out]
              rw [hVp] at hpc
              rw [hlen] at hbp
              obtain ⟨x, hxx⟩ : ∃ x, (C i).getD p 0 = x := ⟨_, rfl⟩
              obtain ⟨m, hm⟩ : ∃ m, rk (plQ h p) k = m := ⟨_, rfl⟩
              rw [hxx] at hcp hbp
              rw [hm] at hbp hpc
              clear hcz hx hVp hxx hm hlen
              have b1 : decide (x < 0) = false := by simp; omega
              have b3 : decide ((m : Int) < x) = false := by simp; omega
              go_wp2_with fail
              go_roundw
              case measure => simp [intOf]; omega
              case rel => exact ⟨p + 1, by omega, by go_num, by trivial⟩
            · obtain ⟨b2, o2, rfl, hcz⟩ := HIJ.out.cells (by omega)
              have hl8 := HIJ.out.len
              obtain ⟨x0, x1, x2, x3, x4, x5, x6, x7, hC⟩ := list8 hl8
              have HLD : Hid (∀ j v, [Value.int .i64 x0, Value.int .i64 x1, Value.int .i64 x2, Value.int .i64 x3, Value.int .i64 x4, Value.int .i64 x5, Value.int .i64 x6, Value.int .i64 x7][j]? = some v → wr.cell? ((⟨b2, o2, none⟩ : Addr).add j) = some v) := Lib.hid (fun j v hv => by
                have hj : j < 8 := (List.getElem?_eq_some_iff.1 hv).1
                rw [Go.WideShapes.add_plain, hcz j hj, hC, ← hv]
                rcases (by omega : j = 0 ∨ j = 1 ∨ j = 2 ∨ j = 3 ∨ j = 4 ∨ j = 5 ∨ j = 6 ∨ j = 7) with h | h | h | h | h | h | h | h <;> (subst h; rfl))
              have HL8 : Hid ((Try.prog.info? 76).map (·.size) = some [Value.int .i64 x0, Value.int .i64 x1, Value.int .i64 x2, Value.int .i64 x3, Value.int .i64 x4, Value.int .i64 x5, Value.int .i64 x6, Value.int .i64 x7].length) := Lib.hid (by kernel_rfl)
              have HFL : Hid (flatC C (i + 1) = flatC C i ++ [.int .i64 x0, .int .i64 x1, .int .i64 x2, .int .i64 x3, .int .i64 x4, .int .i64 x5, .int .i64 x6, .int .i64 x7]) := Lib.hid (by rw [flatC, hC]; rfl)
              have harr : (Instr.arrayAt 76 (.slice (some ⟨b2, o2, none⟩) 8 cj)).run Try.prog wr = .ok (.pointer (some ⟨b2, o2, none⟩)) wr := by kernel_rfl
              clear hcz hl8 hC
              have hsx := hkx.size
              go_wp2_with (first | (with_reducible refine wpList_load_at rfl 76 _ rfl ⟨b2, o2, none⟩ rfl [.int .i64 x0, .int .i64 x1, .int .i64 x2, .int .i64 x3, .int .i64 x4, .int .i64 x5, .int .i64 x6, .int .i64 x7] _ HLD.out Try.underlying76 rfl HL8.out ?_) | (at_builtin; refine wpList_append_own _ rfl _ _ 73 rfl wn.heap.size 76 j0 (.agg #[.int .i64 0, .int .i64 0, .int .i64 0, .int .i64 0, .int .i64 0, .int .i64 0, .int .i64 0, .int .i64 0]) 8 64 Try.underlying73 hj0 hy0 hy1 hy2 rfl (by decide) _ _ _ rfl (HO.out.alloc _) ⟨wr.heap.size, 0, none⟩ 1 1 [.int .i64 x0, .int .i64 x1, .int .i64 x2, .int .i64 x3, .int .i64 x4, .int .i64 x5, .int .i64 x6, .int .i64 x7] rfl rfl (cells_new _ _ _ _) (by intro u hu; simp at hu; rcases hu with hu | hu | hu | hu | hu | hu | hu | hu <;> (subst hu; rfl)) (by unfold maxLen; omega) (by omega) (by simp; omega) ?_; intro v6 w6 hown6 hgr6 _; have HO6 := Lib.hid hown6; have hgx : (wr.alloc (.cells #[.int .i64 x0, .int .i64 x1, .int .i64 x2, .int .i64 x3, .int .i64 x4, .int .i64 x5, .int .i64 x6, .int .i64 x7] 76)).grownBy w6 u12.ownBlock := hgr6; have HGR6 := Lib.hid hgx; clear hown6 hgr6 hgx))
              go_roundw
              case measure => simp [intOf]; omega
              case rel => exact ⟨i + 1, by omega, by go_num, (hkx.alloc _).grown HGR6.out (fun g hg => .inr (HO.out.lt g hg).1), Lib.hid (by rw [HFL.out]; exact HO6.out)⟩
        · have hin := Lib.hid (show i = cm by omega)
          go_wp2_with fail
          go_ret3
          exact ⟨H, S, T, V, _, rfl, hkw.trans hkx, hsz1, by omega, by omega, by rw [← hkn.out]; exact HSn.out.keep hkx, by rw [← hin.out]; exact HO.out.mono (by omega)⟩
end Go.Proofs.Ytkhchfjhmplaiaa
