/- Texts laid together: Q12 Q13. -/
import Derived.Test.YtfcellgjbbfobaaMg5
import Derived.Shelf.Spec.SlicesGrow
import Derived.Laws.AppendOwnNone
import Derived.Laws.IdiomCopy
/- Part: slices.Grow, slices.Concat. -/
namespace Go.Proofs
open Go.Shelf
def Try.grow36_ren : Go.Shelf.Ren := ⟨fun | 4 => 36 | n => n, fun | 22 => 24 | 25 => 29 | 3 => 3 | 4 => 4 | 9 => 9 | 20 => 20 | 0 => 0 | n => n, fun | n => n⟩
theorem Try.grow36 : Go.Proofs.Lays8.n4 Try.prog Try.grow36_ren := {
  mixed := by kernel_rfl
  f4 := ⟨Try.f36.name, by decide, Try.func36.trans (congrArg some (by kernel_rfl))⟩
  t0 := Try.underlying0
  a0 := Try.isAgg0
  z0 := Try.sizeOf0
  v0 := Try.zeroValue0
  t3 := Try.underlying3
  a3 := Try.isAgg3
  z3 := Try.sizeOf3
  v3 := Try.zeroValue3
  t4 := Try.underlying4
  a4 := Try.isAgg4
  z4 := Try.sizeOf4
  v4 := Try.zeroValue4
  t9 := Try.underlying9
  a9 := Try.isAgg9
  z9 := Try.sizeOf9
  v9 := Try.zeroValue9
  t20 := Try.underlying20
  a20 := Try.isAgg20
  z20 := Try.sizeOf20
  v20 := Try.zeroValue20
  t22 := Try.underlying24
  a22 := Try.isAgg24
  z22 := Try.sizeOf24
  v22 := Try.zeroValue24 }
end Go.Proofs
namespace Go.Proofs.Ytfcellgjbbfobaa
open Go.RowKit
theorem grow36_any {n : Nat} {w : World} (hb : n ≤ 1000000) :
    Calls Try.prog 36 #[.slice none 0 0, .int .i64 n] w fun e w' => ∃ a c, e = .returned (.slice a 0 c) ∧ Keep [] w w' ∧ w'.ownsRow w.heap.size 29 3 (.slice a 0 c) 0 [] := by
  by_cases hn : n = 0
  · subst hn
    refine (Any8.slices_Grow_room Try.grow36 none 0 0 0 w (by omega) (by omega) (by omega) (by omega)).mono ?_
    rintro e w' ⟨rfl, rfl⟩
    exact ⟨_, _, rfl, Keep.refl _ _, World.ownsRow_nil _ _ _ _⟩
  obtain ⟨i5, hi5, hy0, hy1, hy2⟩ := infoQ info29
  refine (Any8.slices_Grow_grow Try.grow36 i5 (.agg #[.int .i64 0, .int .i64 0, .int .i64 0]) hi5 hy0 (by omega) none 0 0 n [] w (by omega) (by omega) (by rw [hy2]; omega) (by omega) (by simp) (fun _ => rfl) (fun a h => by cases h)).mono ?_
  rintro e w' ⟨rfl, rfl⟩
  refine ⟨_, _, rfl, ?_, rfl, .inr ?_⟩
  · exact ((Keep.refl [] w).drew).alloc _
  · have e5 : Try.grow36_ren.t 25 = 29 := rfl
    have h1 := grownCap_ge w (0 + n) 0 29
    have h2 := grownCap_le_maxLen w (0 + n) 0 29 (by unfold maxLen; omega)
    rw [e5]
    refine ⟨w.heap.size, _, #[] ++ Builtin.zeroCells (Value.agg #[.int .i64 0, .int .i64 0, .int .i64 0]).cells (0 + n - 0) ++ Builtin.zeroCells (Value.agg #[.int .i64 0, .int .i64 0, .int .i64 0]).cells (grownCap w (0 + n) 0 29 - (0 + n)), rfl, Nat.le_refl _, ?_, Nat.zero_le _, h2, ?_, by simp⟩
    · have := blk_new w.drew (.cells (#[] ++ Builtin.zeroCells (Value.agg #[.int .i64 0, .int .i64 0, .int .i64 0]).cells (0 + n - 0) ++ Builtin.zeroCells (Value.agg #[.int .i64 0, .int .i64 0, .int .i64 0]).cells (grownCap w (0 + n) 0 29 - (0 + n))) 29)
      exact this
    · rw [Nat.zero_add] at h1 ⊢
      simp only [Array.size_append, size_zeroCells, List.size_toArray, Value.cells]
      simp
      omega
theorem flat_take {rs : List (List Ln)} {k : Nat} {l : List Ln} (h : rs[k]? = some l) : (rs.take (k + 1)).flatten = (rs.take k).flatten ++ l := by
  rw [List.take_add_one, h, Option.toList_some, List.flatten_append, List.flatten_singleton]
theorem flat_le (rs : List (List Ln)) (k : Nat) : (rs.take k).flatten.length ≤ rs.flatten.length := by
  have h : rs.flatten = (rs.take k).flatten ++ (rs.drop k).flatten := by rw [← List.flatten_append, List.take_append_drop]
  rw [h, List.length_append]; omega
set_option maxRecDepth 100000 in
set_option maxHeartbeats 2000000 in
theorem concat18_any {w : World} {a : Option Addr} {m c : Nat} {rs : List (List Ln)} (h : RowsL w a m c rs) (hm : m ≤ 1000) (hb : rs.flatten.length ≤ 1000) :
    Calls Try.prog 18 #[.slice a m c] w fun e w' => ∃ v, e = .returned v ∧ Keep [] w w' ∧ w'.ownsRow w.heap.size 29 3 v rs.flatten.length (lanesC rs.flatten) := by
  have HR := Lib.hid h
  have HL := Lib.hid h.len
  have hr := h.room
  have hmm := h.most
  have HF := Lib.hid (flat_le rs)
  obtain ⟨i29, hi29, hz0, hz1, hz2⟩ := infoQ info29
  clear h
  go_enter Try.func18, Try.ntmps18
  go_wp2_with fail
  go_loopw [3, 5, 11] (fun s _ j wr => ∃ k : Nat, k ≤ m ∧ j = .int .i64 k ∧ s = .int .i64 ((rs.take k).flatten.length : Nat) ∧ Keep [] w wr) (fun _ _ j _ => m - (intOf j).toNat)
  case atStart => exact ⟨0, by omega, rfl, rfl, Keep.refl _ _⟩
  case round =>
    obtain ⟨k, hk, rfl, rfl, hkw⟩ := hrel
    by_cases hlt : k < m
    · obtain ⟨l, hl⟩ : ∃ l, rs[k]? = some l := ⟨_, List.getElem?_eq_getElem (by rw [HL.out]; exact hlt)⟩
      obtain ⟨b, off, ar, cr, rfl, hc, hv⟩ := (HR.out.keep hkw).at_ k l hl
      have HS : Hid ((rs.take (k + 1)).flatten.length = (rs.take k).flatten.length + l.length) := Lib.hid (by rw [flat_take hl, List.length_append])
      have h1 := HF.out (k + 1)
      rw [HS.out] at h1
      have hr1 := hv.room
      obtain ⟨s, hs⟩ : ∃ s, (rs.take k).flatten.length = s := ⟨_, rfl⟩
      obtain ⟨x, hx⟩ : ∃ x, l.length = x := ⟨_, rfl⟩
      rw [hx] at hc h1
      rw [hs] at h1 ⊢
      rw [hs, hx] at HS
      clear hv hs hx hl hr1
      go_wp2_with (first | (with_reducible refine Txt.wp_region_text mixed quiet (by decide +kernel) ?_) | (with_reducible refine Txt.text_done (by kernel_rfl) ?_))
      exact ⟨⟨k + 1, hlt, by go_num, by rw [HS.out]; go_num, hkw⟩, by simp [intOf]; omega⟩
    · obtain rfl : k = m := by omega
      have htk : rs.take k = rs := List.take_of_length_le (by rw [HL.out]; exact Nat.le_refl _)
      rw [htk]
      obtain ⟨T, hT⟩ : ∃ T, rs.flatten.length = T := ⟨_, rfl⟩
      rw [hT] at hb HF ⊢
      have HT := Lib.hid hT
      clear hT htk
      go_wp2_with (first | (go_at_call 36; (with_reducible refine (grow36_any (by omega)).mono ?_); rintro e w2 ⟨ga, gc, rfl, hk2, ho2⟩; have HO2 := Lib.hid ho2; clear ho2))
      have hkw2 := hkw.trans hk2
      have hsz2 := hkw.size
      have HO3 := Lib.hid (ownBaseQ HO2.out hsz2)
      clear HO2 hk2
      go_loopw [6, 8, 27] (fun v _ j wr' => ∃ (k' : Nat) (va : Option Addr) (L vc : Nat), k' ≤ k ∧ j = .int .i64 k' ∧ v = .slice va L vc ∧ Hid ((rs.take k').flatten.length = L) ∧ Keep [] w wr' ∧ Hid (wr'.ownsRow w.heap.size 29 3 (.slice va L vc) L (lanesC (rs.take k').flatten))) (fun _ _ j _ => k - (intOf j).toNat)
      case atStart => exact ⟨0, _, _, _, by omega, rfl, rfl, Lib.hid rfl, hkw2, HO3⟩
      case round =>
        obtain ⟨i, va, L, vc, hi, rfl, rfl, HLL, hkq, HO⟩ := hrel
        have hsq := hkq.size
        obtain ⟨hvc1, hvc2⟩ := ownRoomQ HO.out
        by_cases hli : i < k
        · obtain ⟨l, hl⟩ : ∃ l, rs[i]? = some l := ⟨_, List.getElem?_eq_getElem (by rw [HL.out]; exact hli)⟩
          obtain ⟨b, off, ar, cr, rfl, hc, hv⟩ := (HR.out.keep hkq).at_ i l hl
          have HS : Hid ((rs.take (i + 1)).flatten.length = L + l.length) := Lib.hid (by rw [flat_take hl, List.length_append, HLL.out])
          have HZ : Hid (lanesC (rs.take (i + 1)).flatten = lanesC (rs.take i).flatten ++ lanesC l) := Lib.hid (by rw [flat_take hl]; simp [lanesC])
          have h1 := HF.out (i + 1)
          rw [HS.out] at h1
          have hr1 := hv.room
          have HNW := Lib.hid (lnsNews hv)
          have HLN : Hid ((lanesC l).length = l.length * 3) := Lib.hid (by rw [lanesC_len, Nat.mul_comm])
          obtain ⟨x, hx⟩ : ∃ x, l.length = x := ⟨_, rfl⟩
          rw [hx] at hc h1 HS HNW HLN hr1
          clear hv hx hl
          go_wp2_with (first | (at_builtin; refine wpList_append_any rfl _ _ 24 rfl w.heap.size 29 i29 (.agg #[.int .i64 0, .int .i64 0, .int .i64 0]) 3 24 Try.underlying24 hi29 hz0 hz1 hz2 rfl (by decide) (.slice va L vc) L (lanesC (rs.take i).flatten) rfl HO.out ar x cr (lanesC l) rfl HLN.out HNW.out lanesOne (by unfold maxLen; omega) (by omega) hsq ?_; intro a8 c8 w8 hown8 hgr8 hat8; have HO8 := Lib.hid hown8; have HG8 := Lib.hid hgr8; clear hown8 hgr8 hat8))
          exact ⟨⟨i + 1, a8, L + x, c8, hli, by go_num, rfl, HS, hkq.grown HG8.out (fun g hg => .inr (ownLtQ HO.out g hg).1), Lib.hid (by rw [HZ.out]; exact HO8.out)⟩, by simp [intOf]; omega⟩
        · obtain rfl : i = k := by omega
          have htk : rs.take i = rs := List.take_of_length_le (by rw [HL.out]; exact Nat.le_refl _)
          rw [htk] at HO HLL
          have HFIN : Hid (wr.ownsRow w.heap.size 29 3 (.slice va L vc) T (lanesC rs.flatten)) := Lib.hid (by rw [← HT.out, HLL.out]; exact HO.out)
          go_wp2_with fail
          go_ret
          exact ⟨_, rfl, hkq, by rw [HT.out]; exact HFIN.out⟩
end Go.Proofs.Ytfcellgjbbfobaa
/- PartRounds: the walk. -/
namespace Go
open Go.RowKit
theorem rnds_at {ls : List Ln} {r : Nat} {l : List Ln} (h : (Tr.rnds dep Ln.q ls)[r]? = some l) : l = Tr.sortQ Ln.q (Tr.rnd dep ls r) ∧ r < Tr.nr dep ls := by
  have hr := (List.getElem?_eq_some_iff.1 h).1
  unfold Tr.rnds at h hr
  rw [List.length_map, List.length_range] at hr
  rw [List.getElem?_map, List.getElem?_range hr] at h
  injection h with h
  exact ⟨h.symm, hr⟩
theorem rnds_len (ls : List Ln) : (Tr.rnds dep Ln.q ls).length = Tr.nr dep ls := by simp [Tr.rnds]
theorem rnds_sub {ls : List Ln} {r : Nat} {l : List Ln} (h : (Tr.rnds dep Ln.q ls)[r]? = some l) {x : Ln} (hx : x ∈ l) : x ∈ ls := by
  obtain ⟨rfl, _⟩ := rnds_at h
  exact rnd_sub ((Tr.sortQ_perm Ln.q _).mem_iff.1 hx)
theorem rnds_row {ls : List Ln} {r : Nat} {l : List Ln} (h : (Tr.rnds dep Ln.q ls)[r]? = some l) : l.length ≤ ls.length := by
  obtain ⟨rfl, _⟩ := rnds_at h
  rw [(Tr.sortQ_perm Ln.q _).length_eq]
  exact rnd_len ls r
theorem rnds_apart {ls : List Ln} {r : Nat} {l : List Ln} (h : (Tr.rnds dep Ln.q ls)[r]? = some l) {i j : Nat} {s t : Ln} (ht : l[i]? = some t) (hs : l[j]? = some s) (hij : i < j) : dep s t = false := by
  obtain ⟨rfl, _⟩ := rnds_at h
  have h1 : (Tr.sortQ Ln.q (Tr.rnd dep ls r)).Pairwise (fun x y => dep x y = false) := ((Tr.sortQ_perm Ln.q _).pairwise_iff (fun {x y} h => by rw [dep_symm]; exact h)).2 (Tr.rnd_apart dep_symm ls r)
  rw [List.pairwise_iff_getElem] at h1
  obtain ⟨hi, rfl⟩ := List.getElem?_eq_some_iff.1 ht
  obtain ⟨hj, rfl⟩ := List.getElem?_eq_some_iff.1 hs
  rw [dep_symm]
  exact h1 i j hi hj hij
theorem rnds_wit {ls : List Ln} {r : Nat} {l l' : List Ln} (h : (Tr.rnds dep Ln.q ls)[r + 1]? = some l) (h' : (Tr.rnds dep Ln.q ls)[r]? = some l') {s : Ln} (hs : s ∈ l) : l'.any (dep s) = true := by
  obtain ⟨rfl, _⟩ := rnds_at h
  obtain ⟨rfl, _⟩ := rnds_at h'
  obtain ⟨y, hy, hd⟩ := Tr.rnd_wit ((Tr.sortQ_perm Ln.q _).mem_iff.1 hs)
  exact List.any_eq_true.2 ⟨y, (Tr.sortQ_perm Ln.q _).mem_iff.2 hy, hd⟩
theorem rnds_flat (ls : List Ln) : Tr.rnds dep Ln.q ls = Tr.rnds dep Ln.q (Tr.rnds dep Ln.q ls).flatten ∧ (Tr.rnds dep Ln.q ls).flatten.length = ls.length ∧ ∀ x ∈ (Tr.rnds dep Ln.q ls).flatten, x ∈ ls := by
  have h := Tr.flat_same (D := dep) (q := Ln.q) dep_symm ls
  exact ⟨((Tr.same_iff dep_q dep_symm _ _).2 h).symm, (Tr.lv_perm h).length_eq, fun x hx => (Tr.lv_perm h).mem_iff.1 hx⟩
end Go
namespace Go.Proofs.Ytfcellgjbbfobaa
open Go.RowKit
theorem pred_w1 {r p : Nat} (h : p + 1 = r) (h2 : r ≤ 1000) : wrap64 ((r : Int) - 1) = (p : Int) ∧ IntKind.i64.wrap ((r : Int) - 1) = (p : Int) := by
  constructor
  · unfold wrap64; omega
  · simp [IntKind.wrap, IntKind.bits, IntKind.signed]; omega
set_option maxRecDepth 100000 in
set_option maxHeartbeats 8000000 in
theorem partRounds_walk (ap : Option Addr) (len cap : Nat) (zs : List Int) (w : World) (hz : IntsV w ap len cap zs) :
    Calls Try.prog 4 #[.slice ap len cap] w fun e w' => e = .returned (.bool true) ∧ Keep [] w w' := by
  have HZ := Lib.hid hz
  clear hz
  go_enter Try.func4, Try.ntmps4
  go_wp2_with (first | (with_reducible refine Txt.wp_region_text mixed quiet (by decide +kernel) ?_) | (with_reducible refine Txt.text_done (by kernel_rfl) ?_) | (go_at_call 9; (with_reducible refine begun9_any.mono ?_); rintro e w1 ⟨rfl, hk1⟩; have HK1 := Lib.hid hk1; clear hk1) | (go_at_call 10; (with_reducible refine (steps10_any (HZ.out.keep HK1.out (by simp))).mono ?_); rintro e w2 ⟨ls, v, rfl, ho2, hok2, hl2, hk2⟩; obtain ⟨a2, c2, rfl, hv2, -⟩ := LnsV.ofOwn ho2; have HV2 := Lib.hid hv2; have HOK := Lib.hid hok2; have HK2 := Lib.hid (HK1.out.trans hk2); have hr2 := hv2.room; have hm2 := hv2.most; rw [show maxLen = 9223372036854775807 from rfl] at hm2; clear ho2 hv2 hok2 hk2) | (go_at_call 15; (with_reducible refine (rounds15_any HV2.out hl2 HOK.out).mono ?_); rintro e w4 ⟨v4, vals4, rfl, hr4, hk4⟩; obtain ⟨a4, c4, rfl, hrw⟩ := hr4.rows; have HR4 := Lib.hid hrw; have HK4 := Lib.hid (HK2.out.trans hk4); have HV4 := Lib.hid (HV2.out.keep hk4 (by simp)); clear hr4 hk4 hrw))
  obtain ⟨rs, hrs⟩ : ∃ rs, Tr.rnds dep Ln.q ls = rs := ⟨_, rfl⟩
  have HRS := Lib.hid hrs
  rw [hrs] at HR4 ⊢
  obtain ⟨N, hN⟩ : ∃ N, rs.length = N := ⟨_, rfl⟩
  have HN := Lib.hid hN
  rw [hN] at HR4 ⊢
  have hN40 : N ≤ 40 := by rw [← hN, ← hrs, rnds_len]; exact Nat.le_trans (nr_le ls) hl2
  have hrm := HR4.out.room
  have hmm := HR4.out.most
  have HROW : Hid (∀ (r : Nat) (l : List Ln), rs[r]? = some l → l.length ≤ 40 ∧ ∀ x ∈ l, StOk x) := Lib.hid (fun r l h => by rw [← hrs] at h; exact ⟨Nat.le_trans (rnds_row h) hl2, fun x hx => HOK.out x (rnds_sub h hx)⟩)
  have HAP : Hid (∀ (r : Nat) (l : List Ln), rs[r]? = some l → ∀ (i j : Nat) (s t : Ln), l[i]? = some t → l[j]? = some s → i < j → dep s t = false) := Lib.hid (fun r l h i j s t ht hs hij => by rw [← hrs] at h; exact rnds_apart h ht hs hij)
  have HWT : Hid (∀ (r : Nat) (l l' : List Ln), rs[r + 1]? = some l → rs[r]? = some l' → ∀ s ∈ l, l'.any (dep s) = true) := Lib.hid (fun r l l' h h' s hs => by rw [← hrs] at h h'; exact rnds_wit h h' hs)
  have HFL : Hid (Tr.rnds dep Ln.q ls = Tr.rnds dep Ln.q rs.flatten ∧ rs.flatten.length ≤ 40 ∧ ∀ x ∈ rs.flatten, StOk x) := Lib.hid (by
    obtain ⟨h1, h2, h3⟩ := rnds_flat ls
    rw [hrs] at h2 h3
    refine ⟨?_, by omega, fun x hx => HOK.out x (h3 x hx)⟩
    rw [← hrs]
    exact h1)
  clear hrs hN
  go_loopw [28] (fun j wr => ∃ r : Nat, r ≤ N ∧ j = .int .i64 r ∧ Hid (Keep [] w4 wr)) (fun j _ => N - (intOf j).toNat)
  case atStart => exact ⟨0, by omega, rfl, Lib.hid (Keep.refl _ _)⟩
  case round =>
    obtain ⟨r, hr, rfl, HK⟩ := hrel
    by_cases hlt : r < N
    · obtain ⟨l, hl⟩ : ∃ l, rs[r]? = some l := ⟨_, List.getElem?_eq_getElem (by rw [HN.out]; exact hlt)⟩
      obtain ⟨b, off, ar, cr, hab, hc, hv⟩ := (HR4.out.keep HK.out).at_ r l hl
      obtain ⟨hl40, hlok⟩ := HROW.out r l hl
      have HLV := Lib.hid hv
      have HLK := Lib.hid hlok
      have HL := Lib.hid hl
      obtain ⟨M, hM⟩ : ∃ M, l.length = M := ⟨_, rfl⟩
      have HM := Lib.hid hM
      have hrr := hv.room
      have hrm2 := hv.most
      rw [show maxLen = 9223372036854775807 from rfl] at hrm2
      rw [hM] at hc hl40 hrr HLV
      have hdec : decide ((r : Int) < (N : Int)) = true := by simp; omega
      obtain ⟨W1, hW1⟩ : ∃ W1, W1 = wr := ⟨_, rfl⟩
      subst hW1
      subst hab
      clear hl hv hlok hM
      go_wp2_with (first | (with_reducible refine Txt.wp_region_text mixed quiet (by decide +kernel) ?_) | (with_reducible refine Txt.text_done (by kernel_rfl) ?_))
      go_loopw [35] (fun j wr => ∃ k : Nat, k ≤ M ∧ j = .int .i64 k ∧ Hid (Keep [] W1 wr)) (fun j _ => M - (intOf j).toNat)
      case atStart => exact ⟨0, by omega, rfl, Lib.hid (Keep.refl _ _)⟩
      case round =>
        obtain ⟨k, hk, rfl, HK2⟩ := hrel
        by_cases hlt2 : k < M
        · obtain ⟨s, hs⟩ : ∃ s, l[k]? = some s := ⟨_, List.getElem?_eq_getElem (by rw [HM.out]; exact hlt2)⟩
          obtain ⟨b1, off1, hab1, c0, c1, c2'⟩ := lnsAt (HLV.out.keep HK2.out (by simp)) hs
          have HS := Lib.hid hs
          have HSM := Lib.hid (List.mem_of_getElem? hs)
          have HSO := Lib.hid (HLK.out s (List.mem_of_getElem? hs))
          have HSC : Hid (s.cells = [.int .i64 s.q, .int .i64 s.g, .int .i64 s.u]) := Lib.hid rfl
          have HSV : Hid (lnV s = .agg #[.int .i64 s.q, .int .i64 s.g, .int .i64 s.u]) := Lib.hid rfl
          obtain ⟨sq, hsq⟩ : ∃ sq, s.q = sq := ⟨_, rfl⟩
          obtain ⟨sg, hsg⟩ : ∃ sg, s.g = sg := ⟨_, rfl⟩
          obtain ⟨su, hsu⟩ : ∃ su, s.u = su := ⟨_, rfl⟩
          rw [hsq, hsg, hsu] at HSC HSV
          rw [hsq] at c0
          rw [hsg] at c1
          rw [hsu] at c2'
          have hdec2 : decide ((k : Int) < (M : Int)) = true := by simp; omega
          subst hab1
          clear hs hsq hsg hsu
          go_wp2_with (first | (with_reducible refine Txt.wp_region_text mixed quiet (by decide +kernel) ?_) | (with_reducible refine Txt.text_done (by kernel_rfl) ?_))
          have HBX : Hid ((wr.alloc (.cells #[.int .i64 sq, .int .i64 sg, .int .i64 su] 29)).heap[wr.heap.size]? = some (.cells #[.int .i64 sq, .int .i64 sg, .int .i64 su] 29 (0, 0))) := Lib.hid (blk_new wr _)
          have HKA : Hid (Keep [] W1 (wr.alloc (.cells #[.int .i64 sq, .int .i64 sg, .int .i64 su] 29))) := Lib.hid (HK2.out.alloc _)
          obtain ⟨bx, hbx⟩ : ∃ bx, wr.heap.size = bx := ⟨_, rfl⟩
          rw [hbx] at HBX ⊢
          obtain ⟨WA, hWA⟩ : ∃ WA, wr.alloc (.cells #[.int .i64 sq, .int .i64 sg, .int .i64 su] 29) = WA := ⟨_, rfl⟩
          rw [hWA] at HBX HKA ⊢
          clear hWA hbx
          go_loopw [44] (fun j wr => ∃ i : Nat, i ≤ k ∧ j = .int .i64 i ∧ Hid (Keep [] WA wr)) (fun j _ => k - (intOf j).toNat)
          case atStart => exact ⟨0, by omega, rfl, Lib.hid (Keep.refl _ _)⟩
          case round =>
            obtain ⟨i, hi, rfl, HK3⟩ := hrel
            obtain ⟨e0, e1, e2, -⟩ := row3 (HK3.out.at HBX.out (by simp))
            have hbxl := lt_of_blk (HK3.out.at HBX.out (by simp))
            have hne : ¬ bx = wr.heap.size := by omega
            by_cases hlt3 : i < k
            · obtain ⟨t, ht⟩ : ∃ t, l[i]? = some t := ⟨_, List.getElem?_eq_getElem (by rw [HM.out]; omega)⟩
              obtain ⟨b3, off3, hab3, d0, d1, d2⟩ := lnsAt (HLV.out.keep (HKA.out.trans HK3.out) (by simp)) ht
              obtain ⟨rfl, rfl⟩ : b1 = b3 ∧ off1 = off3 := by injection hab3 with h; injection h with h1 h2 _; exact ⟨h1, h2⟩
              have hd := HAP.out r l HL.out i k _ t ht HS.out hlt3
              have hdp := depend13_any _ t HSO.out (HLK.out t (List.mem_of_getElem? ht))
              rw [hd, HSV.out] at hdp
              obtain ⟨tq, tg, tu⟩ := t
              unfold lnV at hdp
              simp only at d0 d1 d2 hdp
              have HDP := Lib.hid hdp
              have hdec3 : decide ((i : Int) < (k : Int)) = true := by simp; omega
              clear hab3 ht hd hdp
              go_wp2_with (first | (with_reducible refine Txt.wp_region_text mixed quiet (by decide +kernel) ?_) | (with_reducible refine Txt.text_done (by kernel_rfl) ?_) | (go_at_call 13; (with_reducible refine (HDP.out _).mono ?_); rintro e6 w6 ⟨rfl, hk6⟩; have HK6 := Lib.hid hk6; clear hk6))
              exact ⟨⟨i + 1, hlt3, by go_num, Lib.hid ((HK3.out.alloc _).trans HK6.out)⟩, by simp [intOf]; omega⟩
            · obtain rfl : i = k := by omega
              have hdec3 : decide ((i : Int) < (i : Int)) = false := by simp
              have HKX := Lib.hid (HKA.out.trans HK3.out)
              by_cases hr0 : r = 0
              · have hdec4 : decide ((r : Int) > 0) = false := by simp; omega
                go_wp2_with (first | (with_reducible refine Txt.wp_region_text mixed quiet (by decide +kernel) ?_) | (with_reducible refine Txt.text_done (by kernel_rfl) ?_))
                exact ⟨⟨i + 1, hlt2, by go_num, HKX⟩, by simp [intOf]; omega⟩
              · have hdec4 : decide ((r : Int) > 0) = true := by simp; omega
                obtain ⟨p, hp⟩ : ∃ p, p + 1 = r := ⟨r - 1, by omega⟩
                obtain ⟨hw1, hw2⟩ := pred_w1 hp (by omega)
                have hpN : p < N := by omega
                obtain ⟨l', hl'⟩ : ∃ l', rs[p]? = some l' := ⟨_, List.getElem?_eq_getElem (by rw [HN.out]; omega)⟩
                obtain ⟨b4, off4, ar4, cr4, hab4, hc4, hv4⟩ := (HR4.out.keep (HK.out.trans HKX.out)).at_ p l' hl'
                obtain ⟨rfl, rfl⟩ : b = b4 ∧ off = off4 := by injection hab4 with h; injection h with h1 h2 _; exact ⟨h1, h2⟩
                have HAN := Lib.hid (HWT.out p l l' (by rw [hp]; exact HL.out) hl' _ HSM.out)
                have HLV4 := Lib.hid hv4
                have hbl : ∀ w', Keep [] wr w' → w'.heap[bx]? = some (.cells #[.int .i64 sq, .int .i64 sg, .int .i64 su] 29 (0, 0)) := fun w' hk => hk.at (HK3.out.at HBX.out (by simp)) (by simp)
                have HC16 := Lib.hid (contains16_17 (g := bx) (p := dep _) (fun y hy w' hk => deps17 HSO.out (by rw [HSC.out]; exact hbl w' hk) y ((HROW.out p l' hl').2 y hy)) hv4)
                rw [HAN.out] at HC16
                obtain ⟨M4, hM4⟩ : ∃ M4, l'.length = M4 := ⟨_, rfl⟩
                rw [hM4] at hc4 HC16 HLV4
                clear hl' hab4 hv4 hbl hM4 hp
                go_wp2_with (first | (with_reducible refine Txt.wp_region_text mixed quiet (by decide +kernel) ?_) | (with_reducible refine Txt.text_done (by kernel_rfl) ?_) | (go_at_call 16; (with_reducible refine HC16.out.mono ?_); rintro e6 w6 ⟨rfl, hk6⟩; have HK6 := Lib.hid hk6; clear hk6))
                clear hw1 hw2
                exact ⟨⟨i + 1, hlt2, by go_num, Lib.hid (by first | exact HKX.out.trans HK6.out | exact (HKX.out.trans HK6.out).drew)⟩, by simp [intOf]; omega⟩
        · obtain rfl : k = M := by omega
          have hdec2 : decide ((k : Int) < (k : Int)) = false := by simp
          go_wp2_with (first | (with_reducible refine Txt.wp_region_text mixed quiet (by decide +kernel) ?_) | (with_reducible refine Txt.text_done (by kernel_rfl) ?_))
          exact ⟨⟨r + 1, hlt, by go_num, Lib.hid (HK.out.trans HK2.out)⟩, by simp [intOf]; omega⟩
    · obtain rfl : r = N := by omega
      have hdec : decide ((r : Int) < (r : Int)) = false := by simp
      have HRX := Lib.hid (HR4.out.keep HK.out)
      have HVX := Lib.hid (HV4.out.keep HK.out (by simp))
      have HKX := Lib.hid (HK4.out.trans HK.out)
      obtain ⟨hf1, hf2, hf3⟩ := HFL.out
      have HF3 := Lib.hid hf3
      have HF1 : Hid (decide (Tr.rnds dep Ln.q ls = Tr.rnds dep Ln.q rs.flatten) = true) := Lib.hid (decide_eq_true hf1)
      obtain ⟨T, hT⟩ : ∃ T, rs.flatten.length = T := ⟨_, rfl⟩
      have HC := Lib.hid (concat18_any HRX.out (by omega) (by omega))
      rw [hT] at HC hf2
      clear hf1 hf3 hT
      go_wp2_with (first | (with_reducible refine Txt.wp_region_text mixed quiet (by decide +kernel) ?_) | (with_reducible refine Txt.text_done (by kernel_rfl) ?_) | (go_at_call 18; (with_reducible refine HC.out.mono ?_); rintro e6 w6 ⟨v6, rfl, hk6, ho6⟩; obtain ⟨a6, c6, rfl, hv6, -⟩ := LnsV.ofOwn ho6; have HV6 := Lib.hid hv6; have HK6 := Lib.hid (HKX.out.trans hk6); have HVY := Lib.hid (HVX.out.keep hk6 (by simp)); clear hk6 ho6 hv6) | (go_at_call 14; (with_reducible refine (same14_any HVY.out HV6.out hl2 hf2 HOK.out HF3.out).mono ?_); rintro e7 w7 ⟨rfl, hk7⟩; rw [HF1.out]; have HK7 := Lib.hid (HK6.out.trans hk7); clear hk7))
      go_ret
      exact ⟨rfl, by first | exact HK7.out | exact HK7.out.drew⟩
end Go.Proofs.Ytfcellgjbbfobaa
