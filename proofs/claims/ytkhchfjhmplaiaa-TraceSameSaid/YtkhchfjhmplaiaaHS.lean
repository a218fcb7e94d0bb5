import Derived.Shelf.Slices.Delete
import Derived.Shelf.Slices.Cells
import Derived.Ground.Names2Prog
import Derived.Ground.SlgnProg
import Derived.Shelf.SlicesE.Clone
import Derived.Laws.IdiomCopy
import Derived.Test.YtkhchfjhmplaiaaH3a
namespace Go.Proofs
open Go.Shelf
def Try.laysNm223_ren : Go.Shelf.Ren := ⟨fun | 23 => 60 | n => n, fun | 22 => 22 | 3 => 3 | 4 => 4 | 0 => 0 | n => n, fun | n => n⟩
theorem Try.laysNm223 : Go.Proofs.Lays2.n23 Try.prog Try.laysNm223_ren := {
  mixed := by kernel_rfl
  f23 := Try.func60.trans (congrArg some (by kernel_rfl))
  t0 := Try.underlying0
  a0 := Try.isAgg0
  z0 := Try.sizeOf0
  v0 := Try.zeroValue0
  t3 := Try.underlying3
  a3 := Try.isAgg3
  z3 := Try.sizeOf3
  v3 := Try.zeroValue3
  t4 := Try.underlying4
  a4 := Try.isAgg4
  z4 := Try.sizeOf4
  v4 := Try.zeroValue4
  t22 := Try.underlying22
  a22 := Try.isAgg22
  z22 := Try.sizeOf22
  v22 := Try.zeroValue22
  i3 := by kernel_rfl }
open Go.RowKit Go.Lib Go.Sort in
theorem Try.slices_Delete_int_cells (b off n c i j : Nat) (zs : List Int) (w : World) (hz : n ≤ zs.length) (hcap : n ≤ c) (hm : c ≤ 9223372036854775807) (hij : i ≤ j) (hj : j ≤ n) (hc : ∀ j, j < zs.length → w.cell? ⟨b, off + j, none⟩ = some (.int .i64 (zs.getD j 0))) (hf : ∀ j, j < n → w.frozen? ⟨b, off + j, none⟩ = false) :
    Calls Try.prog 60 #[.slice (some ⟨b, off, none⟩) n c, .int .i64 i, .int .i64 j] w fun e w' => e = .returned (.slice (some ⟨b, off, none⟩) (n - (j - i)) c) ∧ ∃ q, w' = (w.drewN q).setCells b off (((zs.take n).take i ++ (zs.take n).drop j ++ List.replicate (j - i) 0).map (Value.int .i64)) := Any.slices_Delete_int_cells Try.laysNm223 b off n c i j zs w hz hcap hm hij hj hc hf
def Try.laysSlE041_f46_ren : Go.Shelf.Ren := ⟨fun | 41 => 46 | n => n, fun | 22 => 22 | 23 => 3 | 4 => 4 | n => n, fun | n => n⟩
theorem Try.laysSlE041_f46 : Go.Proofs.SlLaysE0.n41 Try.prog Try.laysSlE041_f46_ren := {
  mixed := by kernel_rfl
  f41 := ⟨Try.f46.name, by decide, Try.func46.trans (congrArg some (by kernel_rfl))⟩
  t4 := Try.underlying4
  a4 := Try.isAgg4
  z4 := Try.sizeOf4
  v4 := Try.zeroValue4
  t22 := Try.underlying22
  a22 := Try.isAgg22
  z22 := Try.sizeOf22
  v22 := Try.zeroValue22 }
open Go.RowKit Go.Lib in
theorem Try.slices_Clone (i0 : TypeInfo) (z : Value) (size bytes : Nat) (hi : Try.prog.info? 3 = some i0) (hz0 : i0.zero = some z) (hz1 : i0.size = size) (hz2 : i0.bytes = bytes) (hzs : z.cells.size = size) (hsz : 0 < size) (z23 : ∀ w, (Go.sizeOf 3).run Try.prog w = .ok size w) (b off n c : Nat) (news : List Value) (w : World) (hl : news.length = n * size) (hn : n ≤ maxLen) (hbig : n * bytes ≤ 140737488355328) (hc : ∀ j u, news[j]? = some u → w.cell? ⟨b, off + j, none⟩ = some u) (h1 : ∀ u ∈ news, u.oneCell' = true) :
    Calls Try.prog 46 #[.slice (some ⟨b, off, none⟩) n c] w fun e w' => ∃ v', e = .returned v' ∧ w'.ownsRow w.heap.size 3 size v' n news ∧ v' ≠ .slice none 0 0 ∧ Below w.heap.size w w' := AnyE.slices_Clone Try.laysSlE041_f46 i0 z size bytes hi hz0 hz1 hz2 hzs hsz z23 b off n c news w hl hn hbig hc h1
open Go.RowKit Go.Lib in
theorem Try.slices_Clone_nil (n c : Nat) (w : World) :
    Calls Try.prog 46 #[.slice none n c] w fun e w' => e = .returned (.slice none 0 0) ∧ w' = w := AnyE.slices_Clone_nil Try.laysSlE041_f46 n c w
end Go.Proofs
namespace Go
open Go.RowKit
theorem drewN_heap (w : World) (q : Nat) : (w.drewN q).heap = w.heap := by
  induction q with
  | zero => rfl
  | succ q ih => exact ih
theorem keep_drewN {S : List Nat} {w w' : World} (h : Keep S w w') (q : Nat) : Keep S w (w'.drewN q) := by
  induction q with
  | zero => exact h
  | succ q ih => exact ih.drew
theorem keep_setCells {S : List Nat} {w : World} {b : Nat} (hb : b ∈ S) : ∀ (vs : List Value) (o : Nat) (w' : World), Keep S w w' → Keep S w (w'.setCells b o vs) := by
  intro vs
  induction vs with
  | nil => intro o w' h; exact h
  | cons v vs ih => intro o w' h; exact ih (o + 1) _ (h.setCell (.inl hb) v)
theorem blk_setCells {b : Nat} {e : TypeId} {f : Nat × Nat} : ∀ (vs : List Value) (o : Nat) (w : World) (cur : Array Value), w.heap[b]? = some (.cells cur e f) → o + vs.length ≤ cur.size →
    (w.setCells b o vs).heap[b]? = some (.cells (cur.toList.take o ++ vs ++ cur.toList.drop (o + vs.length)).toArray e f) := by
  intro vs
  induction vs with
  | nil => intro o w cur h _; simp [World.setCells, h]
  | cons v vs ih =>
    intro o w cur h hl
    simp only [List.length_cons] at hl
    have h1 : (w.setCell ⟨b, o, none⟩ v).heap[b]? = some (.cells (cur.setIfInBounds o v) e f) := by rw [blk_setCell, if_pos rfl, h]; rfl
    have h2 := ih (o + 1) _ _ h1 (by simpa using by omega)
    rw [World.setCells, h2]
    congr 3
    simp only [Array.toList_setIfInBounds]
    have hlen : o < cur.toList.length := by simpa using by omega
    rw [List.take_set, List.drop_set_of_lt (by omega), List.take_succ_eq_append_getElem hlen, List.set_append_right _ _ (by simp only [List.length_take]; omega)]
    simp only [List.length_take, List.length_cons]
    rw [show o - min o cur.toList.length = 0 by omega, show o + 1 + vs.length = o + (vs.length + 1) by omega]
    simp
end Go
namespace Go.Proofs.Ytkhchfjhmplaiaa
open Go.RowKit
/-- One element is taken out of a row of one's own. -/
theorem delete_own {B n g cap i : Nat} {I J : Int} {zs : List Int} {w : World} (h : w.ownsRow B 3 1 (.slice (some ⟨g, 0, none⟩) n cap) n (zs.map (Value.int .i64))) (hi : i < n) (hI : Hid (I = i)) (hJ : Hid (J = (i + 1 : Nat))) :
    Calls Try.prog 60 #[.slice (some ⟨g, 0, none⟩) n cap, .int .i64 I, .int .i64 J] w fun e w' => e = .returned (.slice (some ⟨g, 0, none⟩) (n - 1) cap) ∧ Keep [g] w w' ∧ w'.ownsRow B 3 1 (.slice (some ⟨g, 0, none⟩) (n - 1) cap) (n - 1) ((zs.eraseIdx i).map (Value.int .i64)) := by
  obtain rfl := hI.out
  obtain rfl := hJ.out
  have hlen : zs.length = n := by have := h.1; simpa using this
  obtain ⟨g', cap', hv, hB, hlt, hnc, hcm, hcell, hfz⟩ := own_form h (by omega)
  cases hv
  refine (Try.slices_Delete_int_cells g 0 n cap i (i + 1) zs w (by omega) hnc (by unfold maxLen at hcm; omega) (by omega) (by omega) (fun j hj => by rw [Nat.zero_add]; exact hcell j (by omega)) (fun j _ => hfz _)).mono fun e w' ⟨he, q, hw⟩ => ?_
  subst hw
  refine ⟨by rw [he, show n - (i + 1 - i) = n - 1 by omega], keep_setCells (by simp) _ _ _ (keep_drewN (Keep.refl _ _) q), ?_⟩
  rcases h.2 with ⟨h0, _⟩ | ⟨g', cap', cur, hv, hB', hg, hnc', hcm', hcs, ht⟩
  · cases h0
  · cases hv
    have hg' : (w.drewN q).heap[g]? = some (.cells cur 3 (0, 0)) := by rw [drewN_heap]; exact hg
    have hvl : (((zs.take n).take i ++ (zs.take n).drop (i + 1) ++ List.replicate (i + 1 - i) 0).map (Value.int .i64)).length = n := by simp; omega
    have hb := blk_setCells (((zs.take n).take i ++ (zs.take n).drop (i + 1) ++ List.replicate (i + 1 - i) 0).map (Value.int .i64)) 0 (w.drewN q) cur hg' (by rw [hvl]; omega)
    have he2 : zs.eraseIdx i = zs.take i ++ zs.drop (i + 1) := List.eraseIdx_eq_take_drop_succ zs i
    refine ⟨by simp [he2]; omega, .inr ⟨g, cap, _, rfl, hB', hb, by omega, hcm', ?_, ?_⟩⟩
    · simp only [List.size_toArray, List.length_append, hvl]
      simp; omega
    · rw [List.take_of_length_le (show zs.length ≤ n by omega)]
      simp only [List.take_zero, List.nil_append, he2, Nat.mul_one]
      rw [List.take_append_of_le_length (by simp; omega), List.map_append, List.take_append_of_le_length (by simp; omega), List.take_of_length_le (by simp; omega)]
end Go.Proofs.Ytkhchfjhmplaiaa
