/- Texts laid together: Q12 Q13 R8 Q14 Q15. -/
import Derived.Test.YtfcellgjbbfobaaMg5
import Derived.Shelf.Spec.SlicesGrow
import Derived.Laws.AppendOwnNone
import Derived.Laws.IdiomCopy
import Derived.Laws.CopyRow
/- Part: slices.Grow, slices.Concat. -/
namespace Go.Proofs
open Go.Shelf
def Try.grow36_ren : Go.Shelf.Ren := ⟨fun | 4 => 36 | n => n, fun | 22 => 24 | 25 => 29 | 3 => 3 | 4 => 4 | 9 => 9 | 20 => 20 | 0 => 0 | n => n, fun | n => n⟩
theorem Try.grow36 : Go.Proofs.Lays8.n4 Try.prog Try.grow36_ren := {
  mixed := by kernel_rfl
  f4 := ⟨Try.f36.name, by decide, Try.func36.trans (congrArg some (by kernel_rfl))⟩
  t0 := Try.underlying0
  a0 := Try.isAgg0
  z0 := Try.sizeOf0
  v0 := Try.zeroValue0
  t3 := Try.underlying3
  a3 := Try.isAgg3
  z3 := Try.sizeOf3
  v3 := Try.zeroValue3
  t4 := Try.underlying4
  a4 := Try.isAgg4
  z4 := Try.sizeOf4
  v4 := Try.zeroValue4
  t9 := Try.underlying9
  a9 := Try.isAgg9
  z9 := Try.sizeOf9
  v9 := Try.zeroValue9
  t20 := Try.underlying20
  a20 := Try.isAgg20
  z20 := Try.sizeOf20
  v20 := Try.zeroValue20
  t22 := Try.underlying24
  a22 := Try.isAgg24
  z22 := Try.sizeOf24
  v22 := Try.zeroValue24 }
end Go.Proofs
namespace Go.Proofs.Ytfcellgjbbfobaa
open Go.RowKit
theorem grow36_any {n : Nat} {w : World} (hb : n ≤ 1000000) :
    Calls Try.prog 36 #[.slice none 0 0, .int .i64 n] w fun e w' => ∃ a c, e = .returned (.slice a 0 c) ∧ Keep [] w w' ∧ w'.ownsRow w.heap.size 29 3 (.slice a 0 c) 0 [] := by
  by_cases hn : n = 0
  · subst hn
    refine (Any8.slices_Grow_room Try.grow36 none 0 0 0 w (by omega) (by omega) (by omega) (by omega)).mono ?_
    rintro e w' ⟨rfl, rfl⟩
    exact ⟨_, _, rfl, Keep.refl _ _, World.ownsRow_nil _ _ _ _⟩
  obtain ⟨i5, hi5, hy0, hy1, hy2⟩ := infoQ info29
  refine (Any8.slices_Grow_grow Try.grow36 i5 (.agg #[.int .i64 0, .int .i64 0, .int .i64 0]) hi5 hy0 (by omega) none 0 0 n [] w (by omega) (by omega) (by rw [hy2]; omega) (by omega) (by simp) (fun _ => rfl) (fun a h => by cases h)).mono ?_
  rintro e w' ⟨rfl, rfl⟩
  refine ⟨_, _, rfl, ?_, rfl, .inr ?_⟩
  · exact ((Keep.refl [] w).drew).alloc _
  · have e5 : Try.grow36_ren.t 25 = 29 := rfl
    have h1 := grownCap_ge w (0 + n) 0 29
    have h2 := grownCap_le_maxLen w (0 + n) 0 29 (by unfold maxLen; omega)
    rw [e5]
    refine ⟨w.heap.size, _, #[] ++ Builtin.zeroCells (Value.agg #[.int .i64 0, .int .i64 0, .int .i64 0]).cells (0 + n - 0) ++ Builtin.zeroCells (Value.agg #[.int .i64 0, .int .i64 0, .int .i64 0]).cells (grownCap w (0 + n) 0 29 - (0 + n)), rfl, Nat.le_refl _, ?_, Nat.zero_le _, h2, ?_, by simp⟩
    · have := blk_new w.drew (.cells (#[] ++ Builtin.zeroCells (Value.agg #[.int .i64 0, .int .i64 0, .int .i64 0]).cells (0 + n - 0) ++ Builtin.zeroCells (Value.agg #[.int .i64 0, .int .i64 0, .int .i64 0]).cells (grownCap w (0 + n) 0 29 - (0 + n))) 29)
      exact this
    · rw [Nat.zero_add] at h1 ⊢
      simp only [Array.size_append, size_zeroCells, List.size_toArray, Value.cells]
      simp
      omega
theorem flat_take {rs : List (List Ln)} {k : Nat} {l : List Ln} (h : rs[k]? = some l) : (rs.take (k + 1)).flatten = (rs.take k).flatten ++ l := by
  rw [List.take_add_one, h, Option.toList_some, List.flatten_append, List.flatten_singleton]
theorem flat_le (rs : List (List Ln)) (k : Nat) : (rs.take k).flatten.length ≤ rs.flatten.length := by
  have h : rs.flatten = (rs.take k).flatten ++ (rs.drop k).flatten := by rw [← List.flatten_append, List.take_append_drop]
  rw [h, List.length_append]; omega
set_option maxRecDepth 100000 in
set_option maxHeartbeats 2000000 in
theorem concat18_any {w : World} {a : Option Addr} {m c : Nat} {rs : List (List Ln)} (h : RowsL w a m c rs) (hm : m ≤ 1000) (hb : rs.flatten.length ≤ 1000) :
    Calls Try.prog 18 #[.slice a m c] w fun e w' => ∃ v, e = .returned v ∧ Keep [] w w' ∧ w'.ownsRow w.heap.size 29 3 v rs.flatten.length (lanesC rs.flatten) := by
  have HR := Lib.hid h
  have HL := Lib.hid h.len
  have hr := h.room
  have hmm := h.most
  have HF := Lib.hid (flat_le rs)
  obtain ⟨i29, hi29, hz0, hz1, hz2⟩ := infoQ info29
  clear h
  go_enter Try.func18, Try.ntmps18
  go_wp2_with fail
  go_loopw [3, 5, 11] (fun s _ j wr => ∃ k : Nat, k ≤ m ∧ j = .int .i64 k ∧ s = .int .i64 ((rs.take k).flatten.length : Nat) ∧ Keep [] w wr) (fun _ _ j _ => m - (intOf j).toNat)
  case atStart => exact ⟨0, by omega, rfl, rfl, Keep.refl _ _⟩
  case round =>
    obtain ⟨k, hk, rfl, rfl, hkw⟩ := hrel
    by_cases hlt : k < m
    · obtain ⟨l, hl⟩ : ∃ l, rs[k]? = some l := ⟨_, List.getElem?_eq_getElem (by rw [HL.out]; exact hlt)⟩
      obtain ⟨b, off, ar, cr, rfl, hc, hv⟩ := (HR.out.keep hkw).at_ k l hl
      have HS : Hid ((rs.take (k + 1)).flatten.length = (rs.take k).flatten.length + l.length) := Lib.hid (by rw [flat_take hl, List.length_append])
      have h1 := HF.out (k + 1)
      rw [HS.out] at h1
      have hr1 := hv.room
      obtain ⟨s, hs⟩ : ∃ s, (rs.take k).flatten.length = s := ⟨_, rfl⟩
      obtain ⟨x, hx⟩ : ∃ x, l.length = x := ⟨_, rfl⟩
      rw [hx] at hc h1
      rw [hs] at h1 ⊢
      rw [hs, hx] at HS
      clear hv hs hx hl hr1
      go_wp2_with (first | (with_reducible refine Txt.wp_region_text mixed quiet (by decide +kernel) ?_) | (with_reducible refine Txt.text_done (by kernel_rfl) ?_))
      exact ⟨⟨k + 1, hlt, by go_num, by rw [HS.out]; go_num, hkw⟩, by simp [intOf]; omega⟩
    · obtain rfl : k = m := by omega
      have htk : rs.take k = rs := List.take_of_length_le (by rw [HL.out]; exact Nat.le_refl _)
      rw [htk]
      obtain ⟨T, hT⟩ : ∃ T, rs.flatten.length = T := ⟨_, rfl⟩
      rw [hT] at hb HF ⊢
      have HT := Lib.hid hT
      clear hT htk
      go_wp2_with (first | (go_at_call 36; (with_reducible refine (grow36_any (by omega)).mono ?_); rintro e w2 ⟨ga, gc, rfl, hk2, ho2⟩; have HO2 := Lib.hid ho2; clear ho2))
      have hkw2 := hkw.trans hk2
      have hsz2 := hkw.size
      have HO3 := Lib.hid (ownBaseQ HO2.out hsz2)
      clear HO2 hk2
      go_loopw [6, 8, 27] (fun v _ j wr' => ∃ (k' : Nat) (va : Option Addr) (L vc : Nat), k' ≤ k ∧ j = .int .i64 k' ∧ v = .slice va L vc ∧ Hid ((rs.take k').flatten.length = L) ∧ Keep [] w wr' ∧ Hid (wr'.ownsRow w.heap.size 29 3 (.slice va L vc) L (lanesC (rs.take k').flatten))) (fun _ _ j _ => k - (intOf j).toNat)
      case atStart => exact ⟨0, _, _, _, by omega, rfl, rfl, Lib.hid rfl, hkw2, HO3⟩
      case round =>
        obtain ⟨i, va, L, vc, hi, rfl, rfl, HLL, hkq, HO⟩ := hrel
        have hsq := hkq.size
        obtain ⟨hvc1, hvc2⟩ := ownRoomQ HO.out
        by_cases hli : i < k
        · obtain ⟨l, hl⟩ : ∃ l, rs[i]? = some l := ⟨_, List.getElem?_eq_getElem (by rw [HL.out]; exact hli)⟩
          obtain ⟨b, off, ar, cr, rfl, hc, hv⟩ := (HR.out.keep hkq).at_ i l hl
          have HS : Hid ((rs.take (i + 1)).flatten.length = L + l.length) := Lib.hid (by rw [flat_take hl, List.length_append, HLL.out])
          have HZ : Hid (lanesC (rs.take (i + 1)).flatten = lanesC (rs.take i).flatten ++ lanesC l) := Lib.hid (by rw [flat_take hl]; simp [lanesC])
          have h1 := HF.out (i + 1)
          rw [HS.out] at h1
          have hr1 := hv.room
          have HNW := Lib.hid (lnsNews hv)
          have HLN : Hid ((lanesC l).length = l.length * 3) := Lib.hid (by rw [lanesC_len, Nat.mul_comm])
          obtain ⟨x, hx⟩ : ∃ x, l.length = x := ⟨_, rfl⟩
          rw [hx] at hc h1 HS HNW HLN hr1
          clear hv hx hl
          go_wp2_with (first | (at_builtin; refine wpList_append_any rfl _ _ 24 rfl w.heap.size 29 i29 (.agg #[.int .i64 0, .int .i64 0, .int .i64 0]) 3 24 Try.underlying24 hi29 hz0 hz1 hz2 rfl (by decide) (.slice va L vc) L (lanesC (rs.take i).flatten) rfl HO.out ar x cr (lanesC l) rfl HLN.out HNW.out lanesOne (by unfold maxLen; omega) (by omega) hsq ?_; intro a8 c8 w8 hown8 hgr8 hat8; have HO8 := Lib.hid hown8; have HG8 := Lib.hid hgr8; clear hown8 hgr8 hat8))
          exact ⟨⟨i + 1, a8, L + x, c8, hli, by go_num, rfl, HS, hkq.grown HG8.out (fun g hg => .inr (ownLtQ HO.out g hg).1), Lib.hid (by rw [HZ.out]; exact HO8.out)⟩, by simp [intOf]; omega⟩
        · obtain rfl : i = k := by omega
          have htk : rs.take i = rs := List.take_of_length_le (by rw [HL.out]; exact Nat.le_refl _)
          rw [htk] at HO HLL
          have HFIN : Hid (wr.ownsRow w.heap.size 29 3 (.slice va L vc) T (lanesC rs.flatten)) := Lib.hid (by rw [← HT.out, HLL.out]; exact HO.out)
          go_wp2_with fail
          go_ret
          exact ⟨_, rfl, hkq, by rw [HT.out]; exact HFIN.out⟩
end Go.Proofs.Ytfcellgjbbfobaa
/- PartRounds: the walk. -/
namespace Go
open Go.RowKit
theorem rnds_at {ls : List Ln} {r : Nat} {l : List Ln} (h : (Tr.rnds dep Ln.q ls)[r]? = some l) : l = Tr.sortQ Ln.q (Tr.rnd dep ls r) ∧ r < Tr.nr dep ls := by
  have hr := (List.getElem?_eq_some_iff.1 h).1
  unfold Tr.rnds at h hr
  rw [List.length_map, List.length_range] at hr
  rw [List.getElem?_map, List.getElem?_range hr] at h
  injection h with h
  exact ⟨h.symm, hr⟩
theorem rnds_len (ls : List Ln) : (Tr.rnds dep Ln.q ls).length = Tr.nr dep ls := by simp [Tr.rnds]
theorem rnds_sub {ls : List Ln} {r : Nat} {l : List Ln} (h : (Tr.rnds dep Ln.q ls)[r]? = some l) {x : Ln} (hx : x ∈ l) : x ∈ ls := by
  obtain ⟨rfl, _⟩ := rnds_at h
  exact rnd_sub ((Tr.sortQ_perm Ln.q _).mem_iff.1 hx)
theorem rnds_row {ls : List Ln} {r : Nat} {l : List Ln} (h : (Tr.rnds dep Ln.q ls)[r]? = some l) : l.length ≤ ls.length := by
  obtain ⟨rfl, _⟩ := rnds_at h
  rw [(Tr.sortQ_perm Ln.q _).length_eq]
  exact rnd_len ls r
theorem rnds_apart {ls : List Ln} {r : Nat} {l : List Ln} (h : (Tr.rnds dep Ln.q ls)[r]? = some l) {i j : Nat} {s t : Ln} (ht : l[i]? = some t) (hs : l[j]? = some s) (hij : i < j) : dep s t = false := by
  obtain ⟨rfl, _⟩ := rnds_at h
  have h1 : (Tr.sortQ Ln.q (Tr.rnd dep ls r)).Pairwise (fun x y => dep x y = false) := ((Tr.sortQ_perm Ln.q _).pairwise_iff (fun {x y} h => by rw [dep_symm]; exact h)).2 (Tr.rnd_apart dep_symm ls r)
  rw [List.pairwise_iff_getElem] at h1
  obtain ⟨hi, rfl⟩ := List.getElem?_eq_some_iff.1 ht
  obtain ⟨hj, rfl⟩ := List.getElem?_eq_some_iff.1 hs
  rw [dep_symm]
  exact h1 i j hi hj hij
theorem rnds_wit {ls : List Ln} {r : Nat} {l l' : List Ln} (h : (Tr.rnds dep Ln.q ls)[r + 1]? = some l) (h' : (Tr.rnds dep Ln.q ls)[r]? = some l') {s : Ln} (hs : s ∈ l) : l'.any (dep s) = true := by
  obtain ⟨rfl, _⟩ := rnds_at h
  obtain ⟨rfl, _⟩ := rnds_at h'
  obtain ⟨y, hy, hd⟩ := Tr.rnd_wit ((Tr.sortQ_perm Ln.q _).mem_iff.1 hs)
  exact List.any_eq_true.2 ⟨y, (Tr.sortQ_perm Ln.q _).mem_iff.2 hy, hd⟩
theorem rnds_flat (ls : List Ln) : Tr.rnds dep Ln.q ls = Tr.rnds dep Ln.q (Tr.rnds dep Ln.q ls).flatten ∧ (Tr.rnds dep Ln.q ls).flatten.length = ls.length ∧ ∀ x ∈ (Tr.rnds dep Ln.q ls).flatten, x ∈ ls := by
  have h := Tr.flat_same (D := dep) (q := Ln.q) dep_symm ls
  exact ⟨((Tr.same_iff dep_q dep_symm _ _).2 h).symm, (Tr.lv_perm h).length_eq, fun x hx => (Tr.lv_perm h).mem_iff.1 hx⟩
end Go
namespace Go.Proofs.Ytfcellgjbbfobaa
open Go.RowKit
theorem pred_w1 {r p : Nat} (h : p + 1 = r) (h2 : r ≤ 1000) : wrap64 ((r : Int) - 1) = (p : Int) ∧ IntKind.i64.wrap ((r : Int) - 1) = (p : Int) := by
  constructor
  · unfold wrap64; omega
  · simp [IntKind.wrap, IntKind.bits, IntKind.signed]; omega
set_option maxRecDepth 100000 in
set_option maxHeartbeats 8000000 in
theorem partRounds_walk (ap : Option Addr) (len cap : Nat) (zs : List Int) (w : World) (hz : IntsV w ap len cap zs) :
    Calls Try.prog 4 #[.slice ap len cap] w fun e w' => e = .returned (.bool true) ∧ Keep [] w w' := by
  have HZ := Lib.hid hz
  clear hz
  go_enter Try.func4, Try.ntmps4
  go_wp2_with (first | (with_reducible refine Txt.wp_region_text mixed quiet (by decide +kernel) ?_) | (with_reducible refine Txt.text_done (by kernel_rfl) ?_) | (go_at_call 9; (with_reducible refine begun9_any.mono ?_); rintro e w1 ⟨rfl, hk1⟩; have HK1 := Lib.hid hk1; clear hk1) | (go_at_call 10; (with_reducible refine (steps10_any (HZ.out.keep HK1.out (by simp))).mono ?_); rintro e w2 ⟨ls, v, rfl, ho2, hok2, hl2, hk2⟩; obtain ⟨a2, c2, rfl, hv2, -⟩ := LnsV.ofOwn ho2; have HV2 := Lib.hid hv2; have HOK := Lib.hid hok2; have HK2 := Lib.hid (HK1.out.trans hk2); have hr2 := hv2.room; have hm2 := hv2.most; rw [show maxLen = 9223372036854775807 from rfl] at hm2; clear ho2 hv2 hok2 hk2) | (go_at_call 15; (with_reducible refine (rounds15_any HV2.out hl2 HOK.out).mono ?_); rintro e w4 ⟨v4, vals4, rfl, hr4, hk4⟩; obtain ⟨a4, c4, rfl, hrw⟩ := hr4.rows; have HR4 := Lib.hid hrw; have HK4 := Lib.hid (HK2.out.trans hk4); have HV4 := Lib.hid (HV2.out.keep hk4 (by simp)); clear hr4 hk4 hrw))
  obtain ⟨rs, hrs⟩ : ∃ rs, Tr.rnds dep Ln.q ls = rs := ⟨_, rfl⟩
  have HRS := Lib.hid hrs
  rw [hrs] at HR4 ⊢
  obtain ⟨N, hN⟩ : ∃ N, rs.length = N := ⟨_, rfl⟩
  have HN := Lib.hid hN
  rw [hN] at HR4 ⊢
  have hN40 : N ≤ 40 := by rw [← hN, ← hrs, rnds_len]; exact Nat.le_trans (nr_le ls) hl2
  have hrm := HR4.out.room
  have hmm := HR4.out.most
  have HROW : Hid (∀ (r : Nat) (l : List Ln), rs[r]? = some l → l.length ≤ 40 ∧ ∀ x ∈ l, StOk x) := Lib.hid (fun r l h => by rw [← hrs] at h; exact ⟨Nat.le_trans (rnds_row h) hl2, fun x hx => HOK.out x (rnds_sub h hx)⟩)
  have HAP : Hid (∀ (r : Nat) (l : List Ln), rs[r]? = some l → ∀ (i j : Nat) (s t : Ln), l[i]? = some t → l[j]? = some s → i < j → dep s t = false) := Lib.hid (fun r l h i j s t ht hs hij => by rw [← hrs] at h; exact rnds_apart h ht hs hij)
  have HWT : Hid (∀ (r : Nat) (l l' : List Ln), rs[r + 1]? = some l → rs[r]? = some l' → ∀ s ∈ l, l'.any (dep s) = true) := Lib.hid (fun r l l' h h' s hs => by rw [← hrs] at h h'; exact rnds_wit h h' hs)
  have HFL : Hid (Tr.rnds dep Ln.q ls = Tr.rnds dep Ln.q rs.flatten ∧ rs.flatten.length ≤ 40 ∧ ∀ x ∈ rs.flatten, StOk x) := Lib.hid (by
    obtain ⟨h1, h2, h3⟩ := rnds_flat ls
    rw [hrs] at h2 h3
    refine ⟨?_, by omega, fun x hx => HOK.out x (h3 x hx)⟩
    rw [← hrs]
    exact h1)
  clear hrs hN
  go_loopw [28] (fun j wr => ∃ r : Nat, r ≤ N ∧ j = .int .i64 r ∧ Hid (Keep [] w4 wr)) (fun j _ => N - (intOf j).toNat)
  case atStart => exact ⟨0, by omega, rfl, Lib.hid (Keep.refl _ _)⟩
  case round =>
    obtain ⟨r, hr, rfl, HK⟩ := hrel
    by_cases hlt : r < N
    · obtain ⟨l, hl⟩ : ∃ l, rs[r]? = some l := ⟨_, List.getElem?_eq_getElem (by rw [HN.out]; exact hlt)⟩
      obtain ⟨b, off, ar, cr, hab, hc, hv⟩ := (HR4.out.keep HK.out).at_ r l hl
      obtain ⟨hl40, hlok⟩ := HROW.out r l hl
      have HLV := Lib.hid hv
      have HLK := Lib.hid hlok
      have HL := Lib.hid hl
      obtain ⟨M, hM⟩ : ∃ M, l.length = M := ⟨_, rfl⟩
      have HM := Lib.hid hM
      have hrr := hv.room
      have hrm2 := hv.most
      rw [show maxLen = 9223372036854775807 from rfl] at hrm2
      rw [hM] at hc hl40 hrr HLV
      have hdec : decide ((r : Int) < (N : Int)) = true := by simp; omega
      obtain ⟨W1, hW1⟩ : ∃ W1, W1 = wr := ⟨_, rfl⟩
      subst hW1
      subst hab
      clear hl hv hlok hM
      go_wp2_with (first | (with_reducible refine Txt.wp_region_text mixed quiet (by decide +kernel) ?_) | (with_reducible refine Txt.text_done (by kernel_rfl) ?_))
      go_loopw [35] (fun j wr => ∃ k : Nat, k ≤ M ∧ j = .int .i64 k ∧ Hid (Keep [] W1 wr)) (fun j _ => M - (intOf j).toNat)
      case atStart => exact ⟨0, by omega, rfl, Lib.hid (Keep.refl _ _)⟩
      case round =>
        obtain ⟨k, hk, rfl, HK2⟩ := hrel
        by_cases hlt2 : k < M
        · obtain ⟨s, hs⟩ : ∃ s, l[k]? = some s := ⟨_, List.getElem?_eq_getElem (by rw [HM.out]; exact hlt2)⟩
          obtain ⟨b1, off1, hab1, c0, c1, c2'⟩ := lnsAt (HLV.out.keep HK2.out (by simp)) hs
          have HS := Lib.hid hs
          have HSM := Lib.hid (List.mem_of_getElem? hs)
          have HSO := Lib.hid (HLK.out s (List.mem_of_getElem? hs))
          have HSC : Hid (s.cells = [.int .i64 s.q, .int .i64 s.g, .int .i64 s.u]) := Lib.hid rfl
          have HSV : Hid (lnV s = .agg #[.int .i64 s.q, .int .i64 s.g, .int .i64 s.u]) := Lib.hid rfl
          obtain ⟨sq, hsq⟩ : ∃ sq, s.q = sq := ⟨_, rfl⟩
          obtain ⟨sg, hsg⟩ : ∃ sg, s.g = sg := ⟨_, rfl⟩
          obtain ⟨su, hsu⟩ : ∃ su, s.u = su := ⟨_, rfl⟩
          rw [hsq, hsg, hsu] at HSC HSV
          rw [hsq] at c0
          rw [hsg] at c1
          rw [hsu] at c2'
          have hdec2 : decide ((k : Int) < (M : Int)) = true := by simp; omega
          subst hab1
          clear hs hsq hsg hsu
          go_wp2_with (first | (with_reducible refine Txt.wp_region_text mixed quiet (by decide +kernel) ?_) | (with_reducible refine Txt.text_done (by kernel_rfl) ?_))
          have HBX : Hid ((wr.alloc (.cells #[.int .i64 sq, .int .i64 sg, .int .i64 su] 29)).heap[wr.heap.size]? = some (.cells #[.int .i64 sq, .int .i64 sg, .int .i64 su] 29 (0, 0))) := Lib.hid (blk_new wr _)
          have HKA : Hid (Keep [] W1 (wr.alloc (.cells #[.int .i64 sq, .int .i64 sg, .int .i64 su] 29))) := Lib.hid (HK2.out.alloc _)
          obtain ⟨bx, hbx⟩ : ∃ bx, wr.heap.size = bx := ⟨_, rfl⟩
          rw [hbx] at HBX ⊢
          obtain ⟨WA, hWA⟩ : ∃ WA, wr.alloc (.cells #[.int .i64 sq, .int .i64 sg, .int .i64 su] 29) = WA := ⟨_, rfl⟩
          rw [hWA] at HBX HKA ⊢
          clear hWA hbx
          go_loopw [44] (fun j wr => ∃ i : Nat, i ≤ k ∧ j = .int .i64 i ∧ Hid (Keep [] WA wr)) (fun j _ => k - (intOf j).toNat)
          case atStart => exact ⟨0, by omega, rfl, Lib.hid (Keep.refl _ _)⟩
          case round =>
            obtain ⟨i, hi, rfl, HK3⟩ := hrel
            obtain ⟨e0, e1, e2, -⟩ := row3 (HK3.out.at HBX.out (by simp))
            have hbxl := lt_of_blk (HK3.out.at HBX.out (by simp))
            have hne : ¬ bx = wr.heap.size := by omega
            by_cases hlt3 : i < k
            · obtain ⟨t, ht⟩ : ∃ t, l[i]? = some t := ⟨_, List.getElem?_eq_getElem (by rw [HM.out]; omega)⟩
              obtain ⟨b3, off3, hab3, d0, d1, d2⟩ := lnsAt (HLV.out.keep (HKA.out.trans HK3.out) (by simp)) ht
              obtain ⟨rfl, rfl⟩ : b1 = b3 ∧ off1 = off3 := by injection hab3 with h; injection h with h1 h2 _; exact ⟨h1, h2⟩
              have hd := HAP.out r l HL.out i k _ t ht HS.out hlt3
              have hdp := depend13_any _ t HSO.out (HLK.out t (List.mem_of_getElem? ht))
              rw [hd, HSV.out] at hdp
              obtain ⟨tq, tg, tu⟩ := t
              unfold lnV at hdp
              simp only at d0 d1 d2 hdp
              have HDP := Lib.hid hdp
              have hdec3 : decide ((i : Int) < (k : Int)) = true := by simp; omega
              clear hab3 ht hd hdp
              go_wp2_with (first | (with_reducible refine Txt.wp_region_text mixed quiet (by decide +kernel) ?_) | (with_reducible refine Txt.text_done (by kernel_rfl) ?_) | (go_at_call 13; (with_reducible refine (HDP.out _).mono ?_); rintro e6 w6 ⟨rfl, hk6⟩; have HK6 := Lib.hid hk6; clear hk6))
              exact ⟨⟨i + 1, hlt3, by go_num, Lib.hid ((HK3.out.alloc _).trans HK6.out)⟩, by simp [intOf]; omega⟩
            · obtain rfl : i = k := by omega
              have hdec3 : decide ((i : Int) < (i : Int)) = false := by simp
              have HKX := Lib.hid (HKA.out.trans HK3.out)
              by_cases hr0 : r = 0
              · have hdec4 : decide ((r : Int) > 0) = false := by simp; omega
                go_wp2_with (first | (with_reducible refine Txt.wp_region_text mixed quiet (by decide +kernel) ?_) | (with_reducible refine Txt.text_done (by kernel_rfl) ?_))
                exact ⟨⟨i + 1, hlt2, by go_num, HKX⟩, by simp [intOf]; omega⟩
              · have hdec4 : decide ((r : Int) > 0) = true := by simp; omega
                obtain ⟨p, hp⟩ : ∃ p, p + 1 = r := ⟨r - 1, by omega⟩
                obtain ⟨hw1, hw2⟩ := pred_w1 hp (by omega)
                have hpN : p < N := by omega
                obtain ⟨l', hl'⟩ : ∃ l', rs[p]? = some l' := ⟨_, List.getElem?_eq_getElem (by rw [HN.out]; omega)⟩
                obtain ⟨b4, off4, ar4, cr4, hab4, hc4, hv4⟩ := (HR4.out.keep (HK.out.trans HKX.out)).at_ p l' hl'
                obtain ⟨rfl, rfl⟩ : b = b4 ∧ off = off4 := by injection hab4 with h; injection h with h1 h2 _; exact ⟨h1, h2⟩
                have HAN := Lib.hid (HWT.out p l l' (by rw [hp]; exact HL.out) hl' _ HSM.out)
                have HLV4 := Lib.hid hv4
                have hbl : ∀ w', Keep [] wr w' → w'.heap[bx]? = some (.cells #[.int .i64 sq, .int .i64 sg, .int .i64 su] 29 (0, 0)) := fun w' hk => hk.at (HK3.out.at HBX.out (by simp)) (by simp)
                have HC16 := Lib.hid (contains16_17 (g := bx) (p := dep _) (fun y hy w' hk => deps17 HSO.out (by rw [HSC.out]; exact hbl w' hk) y ((HROW.out p l' hl').2 y hy)) hv4)
                rw [HAN.out] at HC16
                obtain ⟨M4, hM4⟩ : ∃ M4, l'.length = M4 := ⟨_, rfl⟩
                rw [hM4] at hc4 HC16 HLV4
                clear hl' hab4 hv4 hbl hM4 hp
                go_wp2_with (first | (with_reducible refine Txt.wp_region_text mixed quiet (by decide +kernel) ?_) | (with_reducible refine Txt.text_done (by kernel_rfl) ?_) | (go_at_call 16; (with_reducible refine HC16.out.mono ?_); rintro e6 w6 ⟨rfl, hk6⟩; have HK6 := Lib.hid hk6; clear hk6))
                clear hw1 hw2
                exact ⟨⟨i + 1, hlt2, by go_num, Lib.hid (by first | exact HKX.out.trans HK6.out | exact (HKX.out.trans HK6.out).drew)⟩, by simp [intOf]; omega⟩
        · obtain rfl : k = M := by omega
          have hdec2 : decide ((k : Int) < (k : Int)) = false := by simp
          go_wp2_with (first | (with_reducible refine Txt.wp_region_text mixed quiet (by decide +kernel) ?_) | (with_reducible refine Txt.text_done (by kernel_rfl) ?_))
          exact ⟨⟨r + 1, hlt, by go_num, Lib.hid (HK.out.trans HK2.out)⟩, by simp [intOf]; omega⟩
    · obtain rfl : r = N := by omega
      have hdec : decide ((r : Int) < (r : Int)) = false := by simp
      have HRX := Lib.hid (HR4.out.keep HK.out)
      have HVX := Lib.hid (HV4.out.keep HK.out (by simp))
      have HKX := Lib.hid (HK4.out.trans HK.out)
      obtain ⟨hf1, hf2, hf3⟩ := HFL.out
      have HF3 := Lib.hid hf3
      have HF1 : Hid (decide (Tr.rnds dep Ln.q ls = Tr.rnds dep Ln.q rs.flatten) = true) := Lib.hid (decide_eq_true hf1)
      obtain ⟨T, hT⟩ : ∃ T, rs.flatten.length = T := ⟨_, rfl⟩
      have HC := Lib.hid (concat18_any HRX.out (by omega) (by omega))
      rw [hT] at HC hf2
      clear hf1 hf3 hT
      go_wp2_with (first | (with_reducible refine Txt.wp_region_text mixed quiet (by decide +kernel) ?_) | (with_reducible refine Txt.text_done (by kernel_rfl) ?_) | (go_at_call 18; (with_reducible refine HC.out.mono ?_); rintro e6 w6 ⟨v6, rfl, hk6, ho6⟩; obtain ⟨a6, c6, rfl, hv6, -⟩ := LnsV.ofOwn ho6; have HV6 := Lib.hid hv6; have HK6 := Lib.hid (HKX.out.trans hk6); have HVY := Lib.hid (HVX.out.keep hk6 (by simp)); clear hk6 ho6 hv6) | (go_at_call 14; (with_reducible refine (same14_any HVY.out HV6.out hl2 hf2 HOK.out HF3.out).mono ?_); rintro e7 w7 ⟨rfl, hk7⟩; rw [HF1.out]; have HK7 := Lib.hid (HK6.out.trans hk7); clear hk7))
      go_ret
      exact ⟨rfl, by first | exact HK7.out | exact HK7.out.drew⟩
end Go.Proofs.Ytfcellgjbbfobaa
/- Writing in place into a row of one's own, elements of however many cells. -/
namespace Go
theorem keep_setRow (w : World) (g : Nat) (cs : Array Value) : Keep [g] w (w.setRow g cs) :=
  ⟨rfl, rfl, rfl, by simp, fun i _ hs => setRow_other w g i cs (by simpa using hs)⟩
section
variable {P : Program}
theorem wpList_append_room {w : World} {ops : Array Oper} {rest : List Oper} {o : Oper} {a : Act} {Q : Exit → Act → World → Prop} (hgd : o.guard = none) (s x : Operand) (t : TypeId)
    (ho : o.op = .call { callee := .builtin .append, args := #[s, x], argTypes := #[t, t] })
    (e : TypeId) (i : TypeInfo) (ht : P.underlying t = some (.slice e)) (hi : P.info? e = some i) (size : Nat) (hsz : i.size = size)
    (g sLen sCap : Nat) (cur : Array Value) (hg : w.heap[g]? = some (.cells cur e (0, 0))) (hs : a.eval s = .slice (some ⟨g, 0, none⟩) sLen sCap)
    (ad : Addr) (m c : Nat) (news : List Value) (hx : a.eval x = .slice (some ad) m c) (hl : news.length = m * size) (hnews : ∀ j u, news[j]? = some u → w.cell? (ad.add j) = some u) (h1 : ∀ u ∈ news, u.oneCell' = true)
    (hroom : sLen + m ≤ sCap) (hfit : sLen * size + news.length ≤ cur.size)
    (h : wpList P ops Q rest (a.put o.dst (.slice (some ⟨g, 0, none⟩) (sLen + m) sCap)) (w.setRow g (cur.toList.take (sLen * size) ++ news ++ cur.toList.drop (sLen * size + news.length)).toArray)) : wpList P ops Q (o :: rest) a w := by
  subst hsz
  refine wpList_plain hgd fun K hK => ?_
  have hrun := run_append_room (P := P) (w := w) t o.type e i ht hi g sLen sCap cur hg ad m c news hl hnews h1 hroom hfit
  unfold Oper.wp
  simp [execOp, ho, resolve, invoke, builtin, hs, hx, hrun, Result.andThen]
  exact hK _ _ (by simpa only [List.append_assoc] using h)
theorem wpList_clear_row {w : World} {ops : Array Oper} {rest : List Oper} {o : Oper} {a : Act} {Q : Exit → Act → World → Prop} (hgd : o.guard = none) (s : Operand) (t : TypeId)
    (ho : o.op = .call { callee := .builtin .clear, args := #[s], argTypes := #[t] })
    (e : TypeId) (z : Value) (ht : P.underlying t = some (.slice e)) (hv : ∀ w, (zeroValue e).run P w = .ok z w) (hz1 : ∀ u ∈ z.cells, u.oneCell' = true)
    (g off n c : Nat) (cur : Array Value) (hg : w.heap[g]? = some (.cells cur e (0, 0))) (hs : a.eval s = .slice (some ⟨g, off, none⟩) (n + 1) c) (hfit : off + (n + 1) * z.cells.size ≤ cur.size)
    (h : ∀ L : List Value, L.length = (n + 1) * z.cells.size → wpList P ops Q rest (a.put o.dst (.tuple #[])) (w.setRow g (cur.toList.take off ++ L ++ cur.toList.drop (off + L.length)).toArray)) : wpList P ops Q (o :: rest) a w := by
  refine wpList_plain hgd fun K hK => ?_
  obtain ⟨L, hL⟩ : ∃ L, (Builtin.zeroCells z.cells (n + 1)).toList = L := ⟨_, rfl⟩
  have hlen : L.length = (n + 1) * z.cells.size := by rw [← hL, Array.length_toList, size_zeroCells]
  have hone : ∀ u ∈ L, u.oneCell' = true := fun u hu => by
    rw [← hL] at hu
    have hu' : u ∈ Builtin.zeroCells z.cells (n + 1) := by simpa using hu
    unfold Builtin.zeroCells at hu'
    obtain ⟨j, hj, rfl⟩ := Array.mem_map.1 hu'
    have hj2 := Array.mem_range.1 hj
    have hs0 : 0 < z.cells.size := by
      rcases Nat.eq_zero_or_pos z.cells.size with h0 | h0
      · rw [h0] at hj2; simp at hj2
      · exact h0
    have hlt := Nat.mod_lt j hs0
    rw [getElem!_pos z.cells (j % z.cells.size) hlt]
    exact hz1 _ (Array.getElem_mem hlt)
  have hst := run_storeCells_at P g off e L 0 cur w hg (by omega) hone
  simp only [Nat.add_zero] at hst
  have hL' : Builtin.zeroCells z.cells (n + 1) = L.toArray := by rw [← hL]
  unfold Oper.wp
  simp [execOp, ho, resolve, invoke, builtin, hs, Builtin.clear_, run_underlying ht, hv, hL, hst, Result.andThen]
  exact hK _ _ (by simpa only [List.append_assoc] using h L hlen)
end
end Go
/- Part: slices.Delete of one step. -/
namespace Go
open Go.RowKit
theorem lanesC_len3 (l : List Ln) : (lanesC l).length = l.length * 3 := by rw [lanesC_len, Nat.mul_comm]
theorem lanesC_app3 (a b : List Ln) : lanesC (a ++ b) = lanesC a ++ lanesC b := by simp [lanesC]
theorem lanesC_take3 (l : List Ln) (k : Nat) : (lanesC l).take (k * 3) = lanesC (l.take k) := by
  by_cases hk : k ≤ l.length
  · have h := congrArg lanesC (List.take_append_drop k l)
    rw [lanesC_app3] at h
    rw [← h, List.take_left' (by rw [lanesC_len3, List.length_take]; omega)]
  · rw [List.take_of_length_le (by rw [lanesC_len3]; omega), List.take_of_length_le (by omega)]
theorem lanesC_drop3 (l : List Ln) (k : Nat) : (lanesC l).drop (k * 3) = lanesC (l.drop k) := by
  by_cases hk : k ≤ l.length
  · have h := congrArg lanesC (List.take_append_drop k l)
    rw [lanesC_app3] at h
    rw [← h, List.drop_left' (by rw [lanesC_len3, List.length_take]; omega)]
  · rw [List.drop_of_length_le (by rw [lanesC_len3]; omega), List.drop_of_length_le (by omega)]; rfl
end Go
namespace Go.Proofs.Ytfcellgjbbfobaa
open Go.RowKit
theorem zero29 : ∀ w, (zeroValue 29).run Try.prog w = .ok (.agg #[.int .i64 0, .int .i64 0, .int .i64 0]) w := fun w => by kernel_rfl
set_option maxRecDepth 100000 in
set_option maxHeartbeats 2000000 in
theorem delete38_any {B i : Nat} {v : Value} {l : List Ln} {w : World} (ho : w.ownsRow B 29 3 v l.length (lanesC l)) (hi : i < l.length) (hl : l.length ≤ 100000) :
    Calls Try.prog 38 #[v, .int .i64 i, .int .i64 ((i : Int) + 1)] w fun e w' => ∃ v', e = .returned v' ∧ v'.ownBlock = v.ownBlock ∧ Keep v.ownBlock.toList w w' ∧ w'.ownsRow B 29 3 v' (l.length - 1) (lanesC (l.eraseIdx i)) := by
  obtain ⟨i0, hi0, hz0, hz1, hz2⟩ := infoQ info29
  rcases ho.2 with ⟨_, h0⟩ | ⟨g, cap, cur, rfl, hb, hg, hnc, hcm, hcs, ht⟩
  · omega
  obtain ⟨k, hk⟩ : ∃ k, l.length = k + 1 := ⟨l.length - 1, by omega⟩
  rw [hk] at hi hl hnc ht
  have hcurl : (k + 1) * 3 ≤ cur.toList.length := by rw [Array.length_toList, hcs]; omega
  have HNEWS : Hid (∀ j u, (lanesC (l.drop (i + 1)))[j]? = some u → w.drew.cell? ((⟨g, (i + 1) * 3, none⟩ : Addr).add j) = some u) := Lib.hid (fun j u hu => by
    rw [Go.WideShapes.add_plain]
    show w.cell? ⟨g, (i + 1) * 3 + j, none⟩ = some u
    rw [cell_of_row w g _ cur 29 (0, 0) hg, ← hu, ← lanesC_drop3, ← ht, List.getElem?_drop, List.getElem?_take]
    have hj := (List.getElem?_eq_some_iff.1 hu).1
    rw [lanesC_len3, List.length_drop, hk] at hj
    rw [if_pos (by omega)]
    simp)
  have HLEN : Hid ((lanesC (l.drop (i + 1))).length = (k - i) * 3) := Lib.hid (by rw [lanesC_len3, List.length_drop, hk]; congr 1; omega)
  have HONE : Hid (∀ u ∈ lanesC (l.drop (i + 1)), u.oneCell' = true) := Lib.hid (fun u hu => by
    exact lanesOne u hu)
  have HG := Lib.hid hg
  have HT := Lib.hid ht
  have HCS := Lib.hid hcs
  have HB := Lib.hid hb
  have hcm' := hcm
  unfold maxLen at hcm'
  clear ho hb hg ht
  have HTI : Hid (cur.toList.take (i * 3) = lanesC (l.take i)) := Lib.hid (by
    rw [← lanesC_take3, ← HT.out, List.take_take, Nat.min_eq_left (by omega)])
  have HSZ : Hid ((cur.toList.take (i * 3) ++ (lanesC (l.drop (i + 1)) ++ cur.toList.drop (i * 3 + (lanesC (l.drop (i + 1))).length))).length = cap * 3) := Lib.hid (by
    rw [List.length_append, List.length_append, HLEN.out, List.length_take, List.length_drop, Array.length_toList, HCS.out]
    omega)
  have HER : Hid (∀ L : List Value, ((cur.toList.take (i * 3) ++ (lanesC (l.drop (i + 1)) ++ cur.toList.drop (i * 3 + (lanesC (l.drop (i + 1))).length))).take (k * 3) ++ L).take (k * 3) = lanesC (l.eraseIdx i)) := Lib.hid (fun L => by
    have h1 : (cur.toList.take (i * 3)).length = i * 3 := by rw [List.length_take, Array.length_toList, HCS.out]; omega
    have h2 : ((cur.toList.take (i * 3) ++ (lanesC (l.drop (i + 1)) ++ cur.toList.drop (i * 3 + (lanesC (l.drop (i + 1))).length))).take (k * 3)).length = k * 3 := by rw [List.length_take, HSZ.out]; omega
    rw [List.take_left' h2, ← List.append_assoc, List.take_left' (by rw [List.length_append, h1, HLEN.out]; omega), HTI.out, ← lanesC_app3, List.eraseIdx_eq_take_drop_succ])
  have HZ1 : Hid (∀ u ∈ (Value.agg #[.int .i64 0, .int .i64 0, .int .i64 0]).cells, u.oneCell' = true) := Lib.hid (by
    intro u hu
    simp [Value.cells] at hu
    subst hu; rfl)
  rw [hk]
  have e1 : i + (k - i) = k := by omega
  have HFIT : Hid (k * 3 + (0 + 1) * (Value.agg #[.int .i64 0, .int .i64 0, .int .i64 0]).cells.size ≤ (cur.toList.take (i * 3) ++ (lanesC (l.drop (i + 1)) ++ cur.toList.drop (i * 3 + (lanesC (l.drop (i + 1))).length))).toArray.size) := Lib.hid (by
    show k * 3 + (0 + 1) * 3 ≤ (List.toArray _).size
    rw [List.size_toArray, HSZ.out]
    omega)
  by_cases hcap : cap = i + 1
  · subst hcap
    have hik : i = k := by omega
    subst hik
    have HNIL : Hid (lanesC (l.drop (i + 1)) = []) := Lib.hid (by rw [List.drop_eq_nil_of_le (by omega)]; rfl)
    have HL0 : Hid ((lanesC (l.drop (i + 1))).length = 0 * 3) := Lib.hid (by rw [HNIL.out]; rfl)
    have HN0 : Hid (∀ j u, (lanesC (l.drop (i + 1)))[j]? = some u → w.drew.cell? ((⟨g, 0, none⟩ : Addr).add j) = some u) := Lib.hid (fun j u hu => by rw [HNIL.out] at hu; simp at hu)
    go_enter Try.func38, Try.ntmps38
    go_wp2_with (first | (with_reducible refine Txt.wp_region_text mixed quiet (by decide +kernel) ?_) | (with_reducible refine Txt.text_done (by kernel_rfl) ?_) | (at_builtin; refine wpList_append_room rfl _ _ 24 rfl 29 i0 Try.underlying24 hi0 3 hz1 g i (i + 1) cur HG.out rfl ⟨g, 0, none⟩ 0 0 (lanesC (l.drop (i + 1))) rfl HL0.out HN0.out HONE.out (by omega) (by rw [HL0.out]; omega) ?_) | (refine wpList_clear_row rfl _ 24 rfl 29 _ Try.underlying24 zero29 HZ1.out g (i * 3) 0 _ _ (setRow_heap w.drew g cur _ 29 (0, 0) HG.out) rfl HFIT.out ?_; intro L hL))
    go_ret
    have hL5 : L.length = 3 := by rw [hL]; try rfl
    refine ⟨.slice (some ⟨g, 0, none⟩) i (i + 1), rfl, rfl, (((Keep.refl [g] w).drew).trans (keep_setRow _ _ _)).trans (keep_setRow _ _ _), ?_, .inr ⟨g, (i + 1), _, rfl, HB.out, setRow_heap _ g _ _ 29 (0, 0) (setRow_heap w.drew g cur _ 29 (0, 0) HG.out), by omega, hcm, ?_, ?_⟩⟩
    · rw [lanesC_len3, List.length_eraseIdx, if_pos (by omega), hk]
    · rw [List.size_toArray, List.length_append, List.length_append, List.length_take, List.length_drop, HSZ.out, hL5]; omega
    · have h1 : (cur.toList.take (i * 3)).length = i * 3 := by rw [List.length_take, Array.length_toList, HCS.out]; omega
      show List.take (i * 3) (List.take (i * 3) cur.toList ++ _) = _
      rw [List.take_left' h1, HTI.out, List.eraseIdx_eq_take_drop_succ, lanesC_app3, HNIL.out, List.append_nil]
  · go_enter Try.func38, Try.ntmps38
    go_wp2_with (first | (with_reducible refine Txt.wp_region_text mixed quiet (by decide +kernel) ?_) | (with_reducible refine Txt.text_done (by kernel_rfl) ?_) | (at_builtin; refine wpList_append_room rfl _ _ 24 rfl 29 i0 Try.underlying24 hi0 3 hz1 g i cap cur HG.out rfl ⟨g, (i + 1) * 3, none⟩ (k - i) (cap - (i + 1)) (lanesC (l.drop (i + 1))) rfl HLEN.out HNEWS.out HONE.out (by omega) (by rw [HLEN.out]; omega) ?_) | (refine wpList_clear_row rfl _ 24 rfl 29 _ Try.underlying24 zero29 HZ1.out g (k * 3) 0 _ _ (setRow_heap w.drew g cur _ 29 (0, 0) HG.out) rfl HFIT.out ?_; intro L hL))
    go_ret
    have hL5 : L.length = 3 := by rw [hL]; try rfl
    refine ⟨.slice (some ⟨g, 0, none⟩) k cap, rfl, rfl, (((Keep.refl [g] w).drew).trans (keep_setRow _ _ _)).trans (keep_setRow _ _ _), ?_, .inr ⟨g, cap, _, rfl, HB.out, setRow_heap _ g _ _ 29 (0, 0) (setRow_heap w.drew g cur _ 29 (0, 0) HG.out), by omega, hcm, ?_, ?_⟩⟩
    · rw [lanesC_len3, List.length_eraseIdx, if_pos (by omega), hk]
    · rw [List.size_toArray, List.length_append, List.length_append, List.length_take, List.length_drop, HSZ.out, hL5]; omega
    · exact HER.out _
end Go.Proofs.Ytfcellgjbbfobaa
/- Part: Normal. -/
namespace Go
open Go.RowKit
def sliceLen (v : Value) : Nat := match v with | .slice _ n _ => n | _ => 0
def bstI (o : Option (Nat × Ln)) : Int := match o with | none => -1 | some b => (b.1 : Int)
theorem bst_next {l : List Ln} {i : Nat} {x : Ln} (h : l[i]? = some x) : Tr.bst dep Ln.q l (i + 1) = if (!(l.take i).any (dep x) && (match Tr.bst dep Ln.q l i with | none => true | some b => decide (x.q < b.2.q))) = true then some (i, x) else Tr.bst dep Ln.q l i := by
  simp only [Tr.bst, h, Tr.isFree]
  cases Tr.bst dep Ln.q l i <;> rfl
theorem norm_next {l : List Ln} {M j : Nat} {b : Ln} (h : Tr.bst dep Ln.q l l.length = some (j, b)) : Tr.norm dep Ln.q (M + 1) l = b :: Tr.norm dep Ln.q M (l.eraseIdx j) := by
  simp only [Tr.norm, h]
theorem lnsTake {w : World} {a : Option Addr} {n c i : Nat} {ls : List Ln} (h : LnsV w a n c ls) (hi : i ≤ n) : LnsV w a i c (ls.take i) :=
  ⟨by rw [List.length_take, h.len]; omega, Nat.le_trans hi h.room, h.most, fun h0 => by
    obtain ⟨b, off, he, hc⟩ := h.cells (by omega)
    refine ⟨b, off, he, fun j hj => ?_⟩
    rw [hc j (by omega), ← lanesC_take3, List.getElem?_take, if_pos (by omega)]⟩
theorem normal_len (ls : List Ln) : (Tr.normal dep Ln.q ls).length = ls.length := ((Tr.lv_perm (Tr.normal_same (D := dep) dep_symm Ln.q ls)).length_eq).symm
end Go
namespace Go.Proofs.Ytfcellgjbbfobaa
open Go.RowKit
set_option maxRecDepth 100000 in
set_option maxHeartbeats 8000000 in
theorem normal24_any {w : World} {a : Option Addr} {n c : Nat} {ls : List Ln} (hv : LnsV w a n c ls) (hn : n ≤ 40) (hok : ∀ x ∈ ls, StOk x) :
    Calls Try.prog 24 #[.slice a n c] w fun e w' => ∃ v, e = .returned (.tuple #[v, .int .i64 0]) ∧ w'.ownsRow w.heap.size 29 3 v n (lanesC (Tr.normal dep Ln.q ls)) ∧ Keep [] w w' := by
  have HC := Lib.hid (check30_ok hv hn hok)
  have HV := Lib.hid hv
  have HL := Lib.hid hv.len
  have hrm := hv.room
  have hms := hv.most
  rw [show maxLen = 9223372036854775807 from rfl] at hms
  obtain ⟨i29, hi29, hz0, hz1, hz2⟩ := infoQ info29
  clear hv hok
  go_enter Try.func24, Try.ntmps24
  go_wp2_with (first | (with_reducible refine Txt.wp_region_text mixed quiet (by decide +kernel) ?_) | (with_reducible refine Txt.text_done (by kernel_rfl) ?_) | (go_at_call 30; (with_reducible refine HC.out.mono ?_); rintro e1 w1 ⟨rfl, hk1⟩; have HK1 := Lib.hid hk1; clear hk1) | (go_at_call 12; (with_reducible refine (clone12_any (HV.out.keep HK1.out (by simp)) (by omega)).mono ?_); rintro e3 w3 ⟨v3, rfl, hk3, ho3⟩; obtain ⟨a3, c3, rfl, hc31, hc32, -⟩ := ownSliceQ ho3; have HK3 := Lib.hid (HK1.out.trans hk3); have HO3 := Lib.hid (ownBaseQ ho3 HK1.out.size); clear hk3 ho3))
  go_loopw [5, 6] (fun v u wr => ∃ (dn rest : List Ln) (va ra : Option Addr) (L vc M rc : Nat), v = .slice va L vc ∧ u = .slice ra M rc ∧ L + M = n ∧ Hid (rest.length = M) ∧ Hid (wr.ownsRow w.heap.size 29 3 (.slice va L vc) L (lanesC dn)) ∧ Hid (wr.ownsRow w.heap.size 29 3 (.slice ra M rc) M (lanesC rest)) ∧ Hid (∀ g, (Value.slice va L vc).ownBlock = some g → (Value.slice ra M rc).ownBlock ≠ some g) ∧ Hid (dn ++ Tr.norm dep Ln.q M rest = Tr.normal dep Ln.q ls) ∧ Hid (Keep [] w wr)) (fun _ u _ => sliceLen u)
  case atStart => exact ⟨[], ls, none, a3, 0, 0, n, c3, rfl, rfl, by omega, HL, Lib.hid (World.ownsRow_nil _ _ _ _), HO3, Lib.hid (fun g h => by simp [Value.ownBlock] at h), Lib.hid (by unfold Tr.normal; rw [HL.out]; rfl), HK3⟩
  case round =>
    obtain ⟨dn, rest, va, ra, L, vc, M, rc, rfl, rfl, hLM, HRL, HOD, HOR, HAP, HNM, HK⟩ := hrel
    obtain ⟨hvc1, hvc2⟩ := ownRoomQ HOD.out
    obtain ⟨hrc1, hrc2⟩ := ownRoomQ HOR.out
    by_cases h0 : M = 0
    · have hdec : decide ((M : Int) > 0) = false := by simp; omega
      have hnil : rest = [] := List.eq_nil_of_length_eq_zero (by rw [HRL.out]; exact h0)
      have HFIN : Hid (wr.ownsRow w.heap.size 29 3 (.slice va L vc) n (lanesC (Tr.normal dep Ln.q ls))) := Lib.hid (by
        have h := HNM.out
        rw [hnil, h0] at h
        simp only [Tr.norm, List.append_nil] at h
        rw [← h]
        have : L = n := by omega
        rw [← this]
        exact HOD.out)
      clear hnil
      go_wp2_with (first | (with_reducible refine Txt.wp_region_text mixed quiet (by decide +kernel) ?_) | (with_reducible refine Txt.text_done (by kernel_rfl) ?_))
      go_ret2
      exact ⟨_, rfl, HFIN.out, HK.out⟩
    · have hdec : decide ((M : Int) > 0) = true := by simp; omega
      obtain ⟨g, cg, hve, hcg1, hcg2, hgB, hgl, hth, hcl⟩ := own3Q HOR.out (by omega)
      injection hve with hve _ hcc
      subst hve
      subst hcc
      obtain ⟨a8, c8, he8, hlr, -⟩ := LnsV.ofOwn HOR.out
      cases he8
      have HLR := Lib.hid hlr
      have HCL := Lib.hid hcl
      obtain ⟨W1, hW1⟩ : ∃ W1, W1 = wr := ⟨_, rfl⟩
      subst hW1
      clear hlr hcl
      go_wp2_with (first | (with_reducible refine Txt.wp_region_text mixed quiet (by decide +kernel) ?_) | (with_reducible refine Txt.text_done (by kernel_rfl) ?_))
      go_loopw [23, 7] (fun j v wr => ∃ i : Nat, i ≤ M ∧ j = .int .i64 i ∧ v = .int .i64 (bstI (Tr.bst dep Ln.q rest i)) ∧ Hid (Keep [] W1 wr)) (fun j _ _ => M - (intOf j).toNat)
      case atStart => exact ⟨0, by omega, rfl, rfl, Lib.hid (Keep.refl _ _)⟩
      case round =>
        obtain ⟨i, hi, rfl, rfl, HK2⟩ := hrel
        by_cases hlt : i < M
        · obtain ⟨x, hx⟩ : ∃ x, rest[i]? = some x := ⟨_, List.getElem?_eq_getElem (by rw [HRL.out]; exact hlt)⟩
          have hcl2 : ∀ (i : Nat) (x : Ln), rest[i]? = some x → wr.cell? ⟨g, i * 3, none⟩ = some (.int .i64 x.q) ∧ wr.cell? ⟨g, i * 3 + 1, none⟩ = some (.int .i64 x.g) ∧ wr.cell? ⟨g, i * 3 + 2, none⟩ = some (.int .i64 x.u) := fun i x h => by
            obtain ⟨h1, h2, h3⟩ := HCL.out i x h
            exact ⟨HK2.out.cell h1 (by simp), HK2.out.cell h2 (by simp), HK2.out.cell h3 (by simp)⟩
          obtain ⟨c0, c1, c2'⟩ := hcl2 i x hx
          have hnx := bst_next hx
          have hgw : g < wr.heap.size := Nat.lt_of_lt_of_le hgl HK2.out.size
          have hne : ¬ g = wr.heap.size := by omega
          have hsp := Tr.bst_spec (D := dep) Ln.q rest i (by rw [HRL.out]; exact hi)
          have HLT := Lib.hid (lnsTake (HLR.out.keep HK2.out (by simp)) hi)
          have hk1 : Keep [] wr (wr.alloc (.cells x.cells.toArray 29)) := (Keep.refl [] wr).alloc _
          have hc16 := contains16_37 (w := wr.alloc (.cells x.cells.toArray 29)) (g := wr.heap.size) (p := dep x) (fun y _ w' hk => free37 (hk.at (blk_new wr _) (by simp)) y) (HLT.out.keep hk1 (by simp))
          have hbn := blk_new wr (.cells x.cells.toArray 29)
          have HXX := Lib.hid hx
          obtain ⟨bf, hbf⟩ : ∃ bf, (rest.take i).any (dep x) = bf := ⟨_, rfl⟩
          rw [hbf] at hc16 hnx
          have HNX := Lib.hid hnx
          have HCJ : Hid (∀ (w' : World), Keep [] (wr.alloc (.cells x.cells.toArray 29)) w' → ∀ (j : Nat) (b : Ln), rest[j]? = some b → w'.cell? ⟨g, j * 3, none⟩ = some (.int .i64 b.q)) := Lib.hid (fun w' hk j b hb => (hk1.trans hk).cell (hcl2 j b hb).1 (by simp))
          obtain ⟨xq, xg, xu⟩ := x
          simp only [Ln.cells] at c0 c1 c2' hk1 hc16 hbn HCJ
          have HC16 := Lib.hid hc16
          have HBN := Lib.hid hbn
          have HKA := Lib.hid (HK2.out.trans hk1)
          have hdec2 : decide ((i : Int) < (M : Int)) = true := by simp; omega
          clear hx hnx hbf hc16 hbn hcl2 hk1
          rcases hsp with ⟨-, hb0⟩ | ⟨j, b, hb0, hj1, hj2, -, -⟩
          · have e1 : bstI (Tr.bst dep Ln.q rest i) = -1 := by rw [hb0]; rfl
            rw [hb0] at HNX
            rw [e1]
            clear hb0 e1
            cases bf with
            | true =>
              go_wp2_with (first | (with_reducible refine Txt.wp_region_text mixed quiet (by decide +kernel) ?_) | (with_reducible refine Txt.text_done (by kernel_rfl) ?_) | (go_at_call 16; (with_reducible refine HC16.out.mono ?_); rintro e6 w6 ⟨rfl, hk6⟩; obtain ⟨f0, f1, f2, -⟩ := row3 (hk6.at HBN.out (by simp)); have HK6 := Lib.hid hk6; clear hk6))
              exact ⟨⟨i + 1, hlt, by go_num, by rw [HNX.out]; try simp [bstI], Lib.hid (by first | exact (HKA.out.trans HK6.out).drew | exact HKA.out.trans HK6.out)⟩, by simp [intOf]; omega⟩
            | false =>
              go_wp2_with (first | (with_reducible refine Txt.wp_region_text mixed quiet (by decide +kernel) ?_) | (with_reducible refine Txt.text_done (by kernel_rfl) ?_) | (go_at_call 16; (with_reducible refine HC16.out.mono ?_); rintro e6 w6 ⟨rfl, hk6⟩; obtain ⟨f0, f1, f2, -⟩ := row3 (hk6.at HBN.out (by simp)); have HK6 := Lib.hid hk6; clear hk6))
              exact ⟨⟨i + 1, hlt, by go_num, by rw [HNX.out]; try simp [bstI], Lib.hid (by first | exact (HKA.out.trans HK6.out).drew | exact HKA.out.trans HK6.out)⟩, by simp [intOf]; omega⟩
          · have e1 : bstI (Tr.bst dep Ln.q rest i) = (j : Int) := by rw [hb0]; rfl
            rw [hb0] at HNX
            rw [e1]
            have hjM : (j : Int) < (M : Int) := by omega
            have hjM2 : j < M := by omega
            have hj0 : decide ((j : Int) < 0) = false := by rw [decide_eq_false_iff_not]; omega
            have HB2 := Lib.hid hj2
            obtain ⟨bl, hbl⟩ : ∃ bl, decide (xq < b.q) = bl := ⟨_, rfl⟩
            obtain ⟨bq, hbq⟩ : ∃ bq, b.q = bq := ⟨_, rfl⟩
            have HBQ := Lib.hid hbq
            rw [hbq] at hbl
            have HBLE : Hid (decide (xq < b.q) = bl) := Lib.hid (by rw [hbq]; exact hbl)
            clear hb0 e1 hj2 hbq hj1
            cases bf with
            | true =>
              go_wp2_with (first | (with_reducible refine Txt.wp_region_text mixed quiet (by decide +kernel) ?_) | (with_reducible refine Txt.text_done (by kernel_rfl) ?_) | (go_at_call 16; (with_reducible refine HC16.out.mono ?_); rintro e6 w6 ⟨rfl, hk6⟩; obtain ⟨f0, f1, f2, -⟩ := row3 (hk6.at HBN.out (by simp)); have HK6 := Lib.hid hk6; clear hk6))
              exact ⟨⟨i + 1, hlt, by go_num, by rw [HNX.out]; try simp [bstI], Lib.hid (by first | exact (HKA.out.trans HK6.out).drew | exact HKA.out.trans HK6.out)⟩, by simp [intOf]; omega⟩
            | false =>
              cases bl with
              | true =>
                have HN2 : Hid (Tr.bst dep Ln.q rest (i + 1) = some (i, ⟨xq, xg, xu⟩)) := Lib.hid (by rw [HNX.out]; simp only [HBLE.out]; rfl)
                clear HNX
                go_wp2_with (first | (with_reducible refine Txt.wp_region_text mixed quiet (by decide +kernel) ?_) | (with_reducible refine Txt.text_done (by kernel_rfl) ?_) | (go_at_call 16; (with_reducible refine HC16.out.mono ?_); rintro e6 w6 ⟨rfl, hk6⟩; obtain ⟨f0, f1, f2, -⟩ := row3 (hk6.at HBN.out (by simp)); have hcj := HCJ.out _ hk6 j b HB2.out; rw [HBQ.out] at hcj; have HK6 := Lib.hid hk6; clear hk6))
                exact ⟨⟨i + 1, hlt, by go_num, by rw [HN2.out]; rfl, Lib.hid (by first | exact (HKA.out.trans HK6.out).drew | exact HKA.out.trans HK6.out)⟩, by simp [intOf]; omega⟩
              | false =>
                have HN2 : Hid (Tr.bst dep Ln.q rest (i + 1) = some (j, b)) := Lib.hid (by rw [HNX.out]; simp only [HBLE.out]; rfl)
                clear HNX
                go_wp2_with (first | (with_reducible refine Txt.wp_region_text mixed quiet (by decide +kernel) ?_) | (with_reducible refine Txt.text_done (by kernel_rfl) ?_) | (go_at_call 16; (with_reducible refine HC16.out.mono ?_); rintro e6 w6 ⟨rfl, hk6⟩; obtain ⟨f0, f1, f2, -⟩ := row3 (hk6.at HBN.out (by simp)); have hcj := HCJ.out _ hk6 j b HB2.out; rw [HBQ.out] at hcj; have HK6 := Lib.hid hk6; clear hk6))
                exact ⟨⟨i + 1, hlt, by go_num, by rw [HN2.out]; rfl, Lib.hid (by first | exact (HKA.out.trans HK6.out).drew | exact HKA.out.trans HK6.out)⟩, by simp [intOf]; omega⟩
        · have hiM : i = M := by omega
          rcases Tr.bst_spec (D := dep) Ln.q rest rest.length (Nat.le_refl _) with ⟨h1, _⟩ | ⟨j, b, hb0, hj1, hj2, -, -⟩
          · have := HRL.out; omega
          · have e1 : bstI (Tr.bst dep Ln.q rest i) = (j : Int) := by rw [hiM, ← HRL.out, hb0]; rfl
            rw [e1]
            obtain ⟨K, hK⟩ : ∃ K, M = K + 1 := ⟨M - 1, by omega⟩
            have HNN : Hid (Tr.norm dep Ln.q M rest = b :: Tr.norm dep Ln.q K (rest.eraseIdx j)) := Lib.hid (by rw [hK]; exact norm_next hb0)
            have HKM := Lib.hid hK
            have hjM2 : j < M := by rw [← HRL.out]; exact hj1
            have hjM : (j : Int) < (M : Int) := by omega
            obtain ⟨d0, d1, d2⟩ := HCL.out j b hj2
            have d0 := HK2.out.cell d0 (by simp)
            have d1 := HK2.out.cell d1 (by simp)
            have d2 := HK2.out.cell d2 (by simp)
            have HOD2 := Lib.hid (own_keep HOD.out HK2.out (by simp))
            have HOR2 := Lib.hid (own_keep HOR.out HK2.out (by simp))
            have hdec2 : decide ((i : Int) < (M : Int)) = false := by simp; omega
            have HJ1 : Hid (j < rest.length) := Lib.hid hj1
            have HBC : Hid (b.cells = [.int .i64 b.q, .int .i64 b.g, .int .i64 b.u]) := Lib.hid rfl
            obtain ⟨bq, hbq⟩ : ∃ bq, b.q = bq := ⟨_, rfl⟩
            obtain ⟨bg, hbg⟩ : ∃ bg, b.g = bg := ⟨_, rfl⟩
            obtain ⟨bu, hbu⟩ : ∃ bu, b.u = bu := ⟨_, rfl⟩
            rw [hbq, hbg, hbu] at HBC
            rw [hbq] at d0
            rw [hbg] at d1
            rw [hbu] at d2
            have HOA := Lib.hid (own_keep HOD2.out ((Keep.refl [] wr).alloc (.cells #[.int .i64 bq, .int .i64 bg, .int .i64 bu] 29)) (by simp))
            have HBA : Hid (w.heap.size ≤ (wr.alloc (.cells #[.int .i64 bq, .int .i64 bg, .int .i64 bu] 29)).heap.size) := Lib.hid (Nat.le_trans HK.out.size (Nat.le_trans HK2.out.size ((Keep.refl [] wr).alloc _).size))
            have HGL : Hid (g < wr.heap.size) := Lib.hid (Nat.lt_of_lt_of_le hgl HK2.out.size)
            obtain ⟨W5, hW5⟩ : ∃ W5, W5 = wr := ⟨_, rfl⟩
            subst hW5
            have HRM : Hid (rest.length = M) := HRL
            clear hb0 hj1 hj2 e1 hbq hbg hbu hK
            go_wp2_with (first | (with_reducible refine Txt.wp_region_text mixed quiet (by decide +kernel) ?_) | (with_reducible refine Txt.text_done (by kernel_rfl) ?_) | (at_builtin; refine wpList_append_lies _ rfl _ _ 24 rfl w.heap.size 29 i29 (.agg #[.int .i64 0, .int .i64 0, .int .i64 0]) 3 24 Try.underlying24 hi29 hz0 hz1 hz2 rfl (by decide) (.slice va L vc) L (lanesC dn) rfl HOA.out ⟨W5.heap.size, 0, none⟩ 1 1 [.int .i64 bq, .int .i64 bg, .int .i64 bu] rfl rfl (cells_new W5 [.int .i64 bq, .int .i64 bg, .int .i64 bu] 29 (0, 0)) one3 (by decide) (by unfold maxLen; omega) (by omega) HBA.out _ rfl ?_; intro g9 c9 w9 hown9 hgr9 hat9 hlt9; have hk9 : Keep (Value.slice va L vc).ownBlock.toList (W5.alloc (.cells #[.int .i64 bq, .int .i64 bg, .int .i64 bu] 29)) w9 := Keep.ofGrown hgr9 (fun x hx => by simp [hx]); have HK9 := Lib.hid hk9; have HO9 := Lib.hid hown9; have HA9 := Lib.hid hat9; have HR9 := Lib.hid (own_keep (own_keep HOR2.out ((Keep.refl [] W5).alloc (.cells #[.int .i64 bq, .int .i64 bg, .int .i64 bu] 29)) (by simp)) hk9 (fun g' hg' hm => HAP.out g' (by simpa using hm) hg')); have HD38 := Lib.hid (delete38_any (i := j) (l := rest) (by rw [HRM.out]; exact HR9.out) HJ1.out (by rw [HRM.out]; omega)); rw [HRM.out] at HD38; clear hown9 hgr9 hat9 hk9) | (go_at_call 38; (with_reducible refine HD38.out.mono ?_); rintro e10 w10 ⟨v10, rfl, hb10, hk10, ho10⟩; obtain ⟨a10, c10, rfl, hd1, hd2, -⟩ := ownSliceQ ho10; have HB10 := Lib.hid hb10; have HK10 := Lib.hid hk10; have HO10 := Lib.hid ho10; clear hb10 hk10 ho10))
            have hgg : g9 ≠ g := by
              have h9 := HGL.out
              rcases HA9.out with h | h
              · intro e
                exact HAP.out g9 h (by rw [e]; rfl)
              · simp only [World.alloc] at h
                intro e
                rw [e] at h
                simp at h
                omega
            have hob : (Value.slice (some ⟨g, 0, none⟩) M rc).ownBlock = some g := rfl
            refine ⟨⟨dn ++ [b], rest.eraseIdx j, some ⟨g9, 0, none⟩, a10, L + 1, c9, M - 1, c10, rfl, rfl, by omega, Lib.hid ?_, Lib.hid ?_, HO10, Lib.hid (fun g' h1 h2 => ?_), Lib.hid ?_, Lib.hid ?_⟩, by simp [sliceLen]; omega⟩
            · rw [List.length_eraseIdx, if_pos HJ1.out, HRM.out]
            · rw [lanesC_snoc, HBC.out]
              exact own_keep HO9.out HK10.out (fun g' h1 h2 => by
                simp [Value.ownBlock] at h1 h2
                exact hgg (by rw [h1, h2]))
            · rw [HB10.out, hob] at h2
              injection h2 with h2
              simp [Value.ownBlock] at h1
              exact hgg (by rw [h1, h2])
            · have h1 := HNM.out
              rw [HNN.out] at h1
              rw [show M - 1 = K by have := HKM.out; omega, ← h1]
              simp
            · refine (((HK.out.trans HK2.out).alloc _).call HK9.out (fun g' h1 => .inr (ownLtQ HOD.out g' (by simpa using h1)).1)).call HK10.out (fun g' h1 => .inr ?_)
              rw [hob] at h1
              simp at h1
              rw [h1]
              exact hgB
end Go.Proofs.Ytfcellgjbbfobaa
