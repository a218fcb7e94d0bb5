/- Texts laid together: N8 N9 N10 N11 N12. -/
import Derived.Test.YtfgdgdjdlnchlaaMg4
/- Names: All, checkRows. -/
namespace Go
open Go.RowKit
open Go.Nm
def alls (l : List (Fin 7 × T)) : List (Fin 7 × Int) := (l.filter (fun r => decide (r.2.ref > 0))).map (fun r => (r.1, r.2.ref))
theorem alls_take {l : List (Fin 7 × T)} {i : Nat} {r : Fin 7 × T} (h : l[i]? = some r) : alls (l.take (i + 1)) = alls (l.take i) ++ (if r.2.ref > 0 then [(r.1, r.2.ref)] else []) := by
  unfold alls
  rw [List.take_add_one, h, Option.toList_some, List.filter_append, List.map_append]
  congr 1
  by_cases hp : r.2.ref > 0
  · rw [if_pos hp, List.filter_cons_of_pos (by simpa using hp)]; rfl
  · rw [if_neg hp, List.filter_cons_of_neg (by simpa using hp)]; rfl
theorem alls_len (l : List (Fin 7 × T)) : (alls l).length ≤ l.length := by
  unfold alls
  rw [List.length_map]
  exact List.length_filter_le _ _
theorem bytesLess_nm : ∀ i j : Fin 7, i < j → (Op.bytesLess (nm j) (nm i) || (nm j == nm i)) = false := by decide
end Go
namespace Go.Proofs.Ytfgdgdjdlnchlaa
open Go.RowKit
open Go.Nm
set_option maxRecDepth 100000 in
set_option maxHeartbeats 4000000 in
theorem all19_any {w0 w : World} {n : Nat} {ps : Nat → Nat} {st : Nat → Reg} (h : RC w0 n ps st w) {i : Nat} (hi : i < n) :
    Calls Try.prog 19 #[.pointer (some ⟨ps i, 0, none⟩)] w fun e w' => ∃ v, e = .returned v ∧ Keep [] w w' ∧ w'.ownsRow w.heap.size 47 2 v (alls (rows (st i).f)).length ((alls (rows (st i).f)).flatMap ac) := by
  have HST := Lib.hid (state12_any h hi)
  obtain ⟨p, hp⟩ : ∃ p, ps i = p := ⟨_, rfl⟩
  rw [hp] at HST ⊢
  have hl7 := rows_len (st i).f
  obtain ⟨l, hl⟩ : ∃ l, rows (st i).f = l := ⟨_, rfl⟩
  rw [hl] at HST hl7 ⊢
  obtain ⟨i47, hi47, hz0, hz1, hz2⟩ := infoN info47
  obtain ⟨m, hmm⟩ : ∃ m, l.length = m := ⟨_, rfl⟩
  have HML := Lib.hid hmm
  rw [hmm] at hl7 HST
  clear hp hl h hmm hi
  go_enter Try.func19, Try.ntmps19
  go_wp2_with (first | (with_reducible refine Txt.wp_region_text mixed quiet (by decide +kernel) ?_) | (with_reducible refine Txt.text_done (by kernel_rfl) ?_) | (go_at_call 12; (with_reducible refine HST.out.mono ?_); rintro e w2 ⟨v2, rfl, hk2, ho2⟩; obtain ⟨a2, cc2, rfl, hv2, -⟩ := EltV.ofOwn rc_len (by decide) ho2; have hcc1 := hv2.room; have hcc2 := hv2.most; rw [show maxLen = 9223372036854775807 from rfl] at hcc2; have HV2 := Lib.hid hv2; have HK2 := Lib.hid hk2; clear ho2 hk2 hv2))
  go_loopw [9, 3, 5] (fun j v _ wr => ∃ (k x : Nat), k ≤ m ∧ x ≤ k ∧ j = .int .i64 k ∧ Hid (x = (alls (l.take k)).length) ∧ Hid (wr.ownsRow w2.heap.size 47 2 v x ((alls (l.take k)).flatMap ac)) ∧ Hid (Keep [] w2 wr)) (fun j _ _ _ => m - (intOf j).toNat)
  case atStart => exact ⟨0, 0, by omega, by omega, rfl, Lib.hid rfl, Lib.hid (World.ownsRow_nil _ _ _ _), Lib.hid (Keep.refl _ _)⟩
  case round =>
    obtain ⟨k, x, hk, hxk, rfl, HX, HO, HK⟩ := hrel
    by_cases hlt : k < m
    · obtain ⟨r, hr⟩ : ∃ r, l[k]? = some r := ⟨_, List.getElem?_eq_getElem (by rw [HML.out]; exact hlt)⟩
      have HT := Lib.hid (alls_take hr)
      obtain ⟨g, off, hg, hgc⟩ := (HV2.out.keep rc_len HK.out (by simp)).at_ rc_len hr
      subst hg
      obtain ⟨av, cv, hav, hcv1, hcv2⟩ := ownSliceN HO.out
      subst hav
      obtain ⟨q, t⟩ := r
      obtain ⟨t1, t2, t3⟩ := t
      obtain ⟨s, hs⟩ : ∃ s : ByteArray, encStr (nm q) = .string s := ⟨_, rfl⟩
      have e0 := hgc 0 (by decide)
      have e1 := hgc 1 (by decide)
      have e2 := hgc 2 (by decide)
      have e3 := hgc 3 (by decide)
      simp only [rc, hs, List.getElem?_cons_zero, List.getElem?_cons_succ, Nat.add_zero] at e0 e1 e2 e3
      have HRC : Hid (ac (q, t1) = [.string s, .int .i64 t1]) := Lib.hid (by rw [← hs]; rfl)
      have hdec : decide ((k : Int) < (m : Int)) = true := by simp; omega
      obtain ⟨W1, hW1⟩ : ∃ W1, W1 = wr := ⟨_, rfl⟩
      subst hW1
      have HSZ := Lib.hid HK.out.size
      simp only at HT
      have HOA := Lib.hid (own_keep HO.out (((Keep.refl [] W1).alloc (.cells #[.string s, .int .i64 t1, .int .i64 t2, .int .i64 t3] 40)).alloc (.cells #[.string s, .int .i64 t1] 47)) (fun _ _ h => absurd h List.not_mem_nil))
      have HKA : Hid (Keep [] W1 ((W1.alloc (.cells #[.string s, .int .i64 t1, .int .i64 t2, .int .i64 t3] 40)).alloc (.cells #[.string s, .int .i64 t1] 47))) := Lib.hid (((Keep.refl [] W1).alloc _).alloc _)
      clear hr hgc hs
      by_cases hp : t1 > 0
      · rw [if_pos hp] at HT
        go_wp2_with (first | (with_reducible refine Txt.wp_region_text mixed quiet (by decide +kernel) ?_) | (with_reducible refine Txt.text_done (by kernel_rfl) ?_) | (at_builtin; refine wpList_append_lies _ rfl _ _ 45 rfl w2.heap.size 47 i47 (.agg #[.string ⟨#[]⟩, .int .i64 0]) 2 24 Try.underlying45 hi47 hz0 hz1 hz2 rfl (by decide) (.slice av x cv) x ((alls (l.take k)).flatMap ac) rfl HOA.out ⟨W1.heap.size + 1, 0, none⟩ 1 1 [.string s, .int .i64 t1] rfl rfl (cells_new2 W1 _ [.string s, .int .i64 t1] 47) one2 (by decide) (by unfold maxLen; omega) (by omega) (Nat.le_trans HSZ.out HKA.out.size) _ rfl ?_; intro g9 c9 w9 hown9 hgr9 hat9 hlt9; have HO9 := Lib.hid hown9; have HG9 := Lib.hid hgr9; clear hown9 hgr9 hat9))
        have hk9 : Keep (Value.slice av x cv).ownBlock.toList ((W1.alloc (.cells #[.string s, .int .i64 t1, .int .i64 t2, .int .i64 t3] 40)).alloc (.cells #[.string s, .int .i64 t1] 47)) w9 := Keep.ofGrown HG9.out (fun x hx => by simp [hx])
        exact ⟨⟨k + 1, x + 1, hlt, by omega, by go_num, Lib.hid (by rw [HT.out, List.length_append, ← HX.out]; rfl), Lib.hid (by rw [HT.out, List.flatMap_append, List.flatMap_singleton, HRC.out]; exact HO9.out), Lib.hid (((HK.out.alloc _).alloc _).call hk9 (fun g hg => .inr (ownLtN HO.out g (by simpa using hg)).1))⟩, by simp [intOf]; omega⟩
      · rw [if_neg hp, List.append_nil] at HT
        go_wp2_with (first | (with_reducible refine Txt.wp_region_text mixed quiet (by decide +kernel) ?_) | (with_reducible refine Txt.text_done (by kernel_rfl) ?_))
        exact ⟨⟨k + 1, x, hlt, by omega, by go_num, Lib.hid (by rw [HT.out]; exact HX.out), Lib.hid (by rw [HT.out]; exact own_keep HO.out ((Keep.refl [] W1).alloc _) (by simp)), Lib.hid (HK.out.alloc _)⟩, by simp [intOf]; omega⟩
    · obtain rfl : k = m := by omega
      have hdec : decide ((k : Int) < (k : Int)) = false := by simp
      obtain ⟨av, cv, hav, hcv1, hcv2⟩ := ownSliceN HO.out
      subst hav
      go_wp2_with (first | (with_reducible refine Txt.wp_region_text mixed quiet (by decide +kernel) ?_) | (with_reducible refine Txt.text_done (by kernel_rfl) ?_))
      go_ret
      refine ⟨_, rfl, HK2.out.trans HK.out, ?_⟩
      have h9 := HO.out
      have h8 := HX.out
      rw [List.take_of_length_le (by rw [HML.out]; exact Nat.le_refl _)] at h9 h8
      rw [← h8]
      exact ownBaseN h9 HK2.out.size
end Go.Proofs.Ytfgdgdjdlnchlaa
/- Names: checkRows, Merge. -/
namespace Go
open Go.RowKit
open Go.Nm
open Go.Proofs (encStr)
theorem leq_nm {i j : Fin 7} (h : i < j) {s s' : ByteArray} (hs : encStr (nm j) = .string s) (hs' : encStr (nm i) = .string s') : (Op.bytesLess s.toList s'.toList || s.toList == s'.toList) = false := by
  injection hs with hs
  injection hs' with hs'
  subst hs
  subst hs'
  simpa using bytesLess_nm i j h
theorem most_snoc (m : Int) (l : List (Fin 7 × T)) (r : Fin 7 × T) : most m (l ++ [r]) = max (most m l) r.2.count := by
  unfold most
  rw [List.foldl_append]; rfl
theorem take_snoc {α : Type} {l : List α} {i : Nat} {x : α} (h : l[i]? = some x) : l.take (i + 1) = l.take i ++ [x] := by
  rw [List.take_add_one, h]; rfl
theorem addR_new {f : F} {q : Fin 7} {t : T} (h : f q = none) : setF f q t = addR f (q, t) := by
  funext j
  unfold setF addR
  by_cases hj : j = q
  · subst hj; simp [h, join]
  · simp [hj]
theorem addR_win {f : F} {q : Fin 7} {t u : T} (h : f q = some u) (hw : wins t u = true) : setF f q t = addR f (q, t) := by
  funext j
  unfold setF addR
  by_cases hj : j = q
  · subst hj; simp [h, join, hw]
  · simp [hj]
theorem addR_lose {f : F} {q : Fin 7} {t u : T} (h : f q = some u) (hw : wins t u = false) : f = addR f (q, t) := by
  funext j
  unfold addR
  by_cases hj : j = q
  · subst hj; simp [h, join, hw]
  · simp [hj]
end Go
namespace Go.Proofs.Ytfgdgdjdlnchlaa
open Go.RowKit
open Go.Nm
set_option maxRecDepth 100000 in
set_option maxHeartbeats 4000000 in
theorem check23_any {w : World} {a : Option Addr} {m c : Nat} {f : F} (hv : EltV rc 4 w a m c (rows f)) {B : Int} (hok : MOk f B) (hB : B ≤ 1000000) :
    Calls Try.prog 23 #[.slice a m c] w fun e w' => e = .returned (.int .i64 0) ∧ Keep [] w w' := by
  have HV := Lib.hid hv
  have HML := Lib.hid hv.len
  have hcc1 := hv.room
  have hcc2 := hv.most
  rw [show maxLen = 9223372036854775807 from rfl] at hcc2
  have hl7 : m ≤ 7 := hv.len ▸ rows_len f
  have HVD := Lib.hid (fun w i => valid28_any w i)
  clear hv
  go_enter Try.func23, Try.ntmps23
  go_wp2_with (first | (with_reducible refine Txt.wp_region_text mixed quiet (by decide +kernel) ?_) | (with_reducible refine Txt.text_done (by kernel_rfl) ?_))
  go_loopw [10, 3, 4] (fun j _ _ wr => ∃ (k : Nat), k ≤ m ∧ j = .int .i64 k ∧ Hid (Keep [] w wr)) (fun j _ _ _ => m - (intOf j).toNat)
  case atStart => exact ⟨0, by omega, rfl, Lib.hid (by repeat (first | exact Keep.refl _ _ | refine Keep.drew ?_))⟩
  case round =>
    obtain ⟨k, hk, rfl, HK⟩ := hrel
    by_cases hlt : k < m
    · obtain ⟨r, hr⟩ : ∃ r, (rows f)[k]? = some r := ⟨_, List.getElem?_eq_getElem (by rw [HML.out]; exact hlt)⟩
      obtain ⟨⟨b1, b2⟩, ⟨b3, b4⟩, b5, b6⟩ := hok.at' r.1 r.2 (mem_rows.1 (List.mem_of_getElem? hr))
      obtain ⟨g, off, hg, hgc⟩ := (HV.out.keep rc_len HK.out (by simp)).at_ rc_len hr
      subst hg
      have HVK := Lib.hid (HV.out.keep rc_len HK.out (by simp))
      have HR := Lib.hid hr
      obtain ⟨q, t⟩ := r
      obtain ⟨t1, t2, t3⟩ := t
      obtain ⟨s, hs⟩ : ∃ s : ByteArray, encStr (nm q) = .string s := ⟨_, rfl⟩
      have HS := Lib.hid hs
      have e0 := hgc 0 (by decide)
      have e1 := hgc 1 (by decide)
      have e2 := hgc 2 (by decide)
      have e3 := hgc 3 (by decide)
      simp only [rc, hs, List.getElem?_cons_zero, List.getElem?_cons_succ, Nat.add_zero] at e0 e1 e2 e3
      simp only at b1 b2 b3 b4 b5 b6
      have hdec : decide ((k : Int) < (m : Int)) = true := by simp; omega
      have n1 : decide (t1 < 0) = false := by simp; omega
      have n2 : decide (t2 < 1) = false := by simp; omega
      have n3 : decide (t2 > 1099511627776) = false := by simp; omega
      have n4 : decide (t3 < 1) = false := by simp; omega
      have n5 : decide (t3 > 8) = false := by simp; omega
      have HVQ : Hid (∀ w, Calls Try.prog 28 #[.string s] w fun e w' => e = .returned (.bool true) ∧ Keep [] w w') := Lib.hid (fun w => by rw [← HS.out]; exact HVD.out w q)
      obtain ⟨W1, hW1⟩ : ∃ W1, W1 = wr := ⟨_, rfl⟩
      subst hW1
      clear hr hgc hs b1 b2 b3 b4 b5 b6
      rcases k with _ | k
      · simp only [Nat.zero_mul, Nat.add_zero] at e0 e1 e2 e3
        have hz0 : decide ((((0 : Nat) : Int)) > 0) = false := by decide
        go_wp2_with (first | (with_reducible refine Txt.wp_region_text mixed quiet (by decide +kernel) ?_) | (with_reducible refine Txt.text_done (by kernel_rfl) ?_) | (go_at_call 28; (with_reducible refine (HVQ.out _).mono ?_); rintro e w6 ⟨rfl, hk6⟩; have HK6 : Hid (Keep [] W1 w6) := Lib.hid (((Keep.refl [] W1).alloc _).trans hk6); obtain ⟨d0, d1, d2, d3, -⟩ := row4 (hk6.at (blk_new W1 _) (by simp)); clear hk6))
        exact ⟨⟨1, by omega, by go_num, Lib.hid (by have h9 := HK.out.trans HK6.out; repeat (first | exact h9 | refine Keep.drew ?_))⟩, by simp [intOf]; omega⟩
      · obtain ⟨r', hr'⟩ : ∃ r, (rows f)[k]? = some r := ⟨_, List.getElem?_eq_getElem (by rw [HML.out]; omega)⟩
        have hlt' : r'.1 < q := by
          have h1 := List.pairwise_iff_getElem.1 (rows_sorted f) k (k + 1) (by rw [HML.out]; omega) (by rw [HML.out]; exact hlt) (by omega)
          obtain ⟨_, h2⟩ := List.getElem?_eq_some_iff.1 hr'
          obtain ⟨_, h3⟩ := List.getElem?_eq_some_iff.1 HR.out
          rw [h2, h3] at h1
          exact h1
        obtain ⟨g', off', hg', hgc'⟩ := HVK.out.at_ rc_len hr'
        injection hg' with hg'
        injection hg' with hg1 hg2 _
        subst hg1
        subst hg2
        obtain ⟨s', hs'⟩ : ∃ s : ByteArray, encStr (nm r'.1) = .string s := ⟨_, rfl⟩
        have hle := leq_nm hlt' HS.out hs'
        have p0 := hgc' 0 (by decide)
        simp only [rc, hs', List.getElem?_cons_zero, Nat.add_zero] at p0
        have P0 := Lib.hid p0
        have hpos : decide (((k + 1 : Nat) : Int) > 0) = true := decide_eq_true (by omega)
        have hw1 : wrap64 (((k + 1 : Nat) : Int) - 1) = (k : Int) := by unfold wrap64; omega
        have hkm : k < m := by omega
        have hkm2 : (k : Int) < (m : Int) := by omega
        have hk0 : (0 : Int) ≤ (k : Int) := by omega
        clear hr' hgc' hs' hlt' p0
        go_wp2_with (first | (with_reducible refine Txt.wp_region_text mixed quiet (by decide +kernel) ?_) | (with_reducible refine Txt.text_done (by kernel_rfl) ?_) | (go_at_call 28; (with_reducible refine (HVQ.out _).mono ?_); rintro e w6 ⟨rfl, hk6⟩; have HK6 : Hid (Keep [] W1 w6) := Lib.hid (((Keep.refl [] W1).alloc _).trans hk6); obtain ⟨d0, d1, d2, d3, -⟩ := row4 (hk6.at (blk_new W1 _) (by simp)); have p0 := HK6.out.cell P0.out (by simp); clear hk6))
        exact ⟨⟨k + 1 + 1, by omega, by go_num, Lib.hid (by have h9 := HK.out.trans HK6.out; repeat (first | exact h9 | refine Keep.drew ?_))⟩, by simp [intOf]; omega⟩
    · obtain rfl : k = m := by omega
      have hdec : decide ((k : Int) < (k : Int)) = false := by simp
      go_wp2_with (first | (with_reducible refine Txt.wp_region_text mixed quiet (by decide +kernel) ?_) | (with_reducible refine Txt.text_done (by kernel_rfl) ?_))
      go_ret
      exact ⟨rfl, HK.out⟩
end Go.Proofs.Ytfgdgdjdlnchlaa
/- Names: Merge. -/
namespace Go.Proofs.Ytfgdgdjdlnchlaa
open Go.RowKit
open Go.Nm
def mergeR (r : Reg) (g : F) : Reg := ⟨r.node, most r.count (rows g), merge r.f g⟩
set_option maxRecDepth 100000 in
set_option maxHeartbeats 8000000 in
theorem merge11_any {w0 w : World} {n : Nat} {ps : Nat → Nat} {st : Nat → Reg} (h : RC w0 n ps st w) {i : Nat} (hi : i < n) {a : Option Addr} {m c : Nat} {g : F} (hv : EltV rc 4 w a m c (rows g)) {B : Int} (hok : MOk g B) (hB : B ≤ 1000000) :
    Calls Try.prog 11 #[.pointer (some ⟨ps i, 0, none⟩), .slice a m c] w fun e w' => e = .returned (.int .i64 0) ∧ RC w0 n ps (upd st i (mergeR (st i) g)) w' ∧ NK w w' := by
  obtain ⟨b, hb, hm, close⟩ := h.at_ hi
  have HCL := Lib.hid close
  unfold mergeR at *
  obtain ⟨⟨nd, ct, f⟩, hr⟩ : ∃ r, st i = r := ⟨_, rfl⟩
  rw [hr] at hb hm ⊢
  obtain ⟨p, hp⟩ : ∃ p, ps i = p := ⟨_, rfl⟩
  rw [hp] at hb ⊢
  have HP := Lib.hid hp
  simp only at hm ⊢
  have HM := Lib.hid hm
  have HB := Lib.hid hb
  have HU := Lib.hid u9
  have HV := Lib.hid hv
  have HML := Lib.hid hv.len
  have hcc1 := hv.room
  have hcc2 := hv.most
  rw [show maxLen = 9223372036854775807 from rfl] at hcc2
  have HCK := Lib.hid (check23_any hv hok hB)
  have HPL := Lib.hid (lt_of_blk hb)
  clear close hr hp hm hb h hi hv
  go_enter Try.func11, Try.ntmps11
  go_wp2_with (first | (with_reducible refine Txt.wp_region_text mixed quiet (by decide +kernel) ?_) | (with_reducible refine Txt.text_done (by kernel_rfl) ?_) | (go_at_call 23; (with_reducible refine HCK.out.mono ?_); rintro e w1 ⟨rfl, hk1⟩; have HK1 := Lib.hid hk1; obtain ⟨c0, c1, c2, -⟩ := row3 (hk1.at HB.out (by simp)); have HM1 := Lib.hid (HM.out.keep hk1 (by simp)); clear hk1) | (go_at_call 24; (with_reducible refine (clone24_any HM1.out).mono ?_); rintro e w2 ⟨rfl, hm2, hk2⟩; have HM2 := Lib.hid hm2; have HK2 := Lib.hid (HK1.out.trans hk2); have HNB := Lib.hid HK1.out.size; clear hm2 hk2; obtain ⟨c0, c1, c2, -⟩ := row3 (HK2.out.at HB.out (by simp))))
  obtain ⟨nb, hnb⟩ : ∃ nb, w1.heap.size = nb := ⟨_, rfl⟩
  rw [hnb] at HM2 HNB ⊢
  go_loopw [28, 7, 9, 10, 11] (fun j mx _ _ _ wr => ∃ (k : Nat) (fk : F), k ≤ m ∧ j = .int .i64 k ∧ mx = .int .i64 (most ct ((rows g).take k)) ∧ Hid (fk = ((rows g).take k).foldl addR f) ∧ Hid (RegM Try.prog 9 wr nb fk) ∧ Hid (Keep [] w wr)) (fun j _ _ _ _ _ => m - (intOf j).toNat)
  case atStart => exact ⟨0, f, by omega, rfl, rfl, Lib.hid rfl, Lib.hid HM2.out, HK2⟩
  case round =>
    obtain ⟨k, fk, hk, rfl, rfl, HF, HMF, HK⟩ := hrel
    by_cases hlt : k < m
    · obtain ⟨r, hr⟩ : ∃ r, (rows g)[k]? = some r := ⟨_, List.getElem?_eq_getElem (by rw [HML.out]; exact hlt)⟩
      obtain ⟨gb, off, hg, hgc⟩ := (HV.out.keep rc_len HK.out (by simp)).at_ rc_len hr
      subst hg
      have HT : Hid ((rows g).take (k + 1) = (rows g).take k ++ [r]) := Lib.hid (take_snoc hr)
      obtain ⟨q, t⟩ := r
      have HFN : Hid (((rows g).take (k + 1)).foldl addR f = addR fk (q, t)) := Lib.hid (by rw [HT.out, List.foldl_append, ← HF.out]; rfl)
      have HMX : Hid (most ct ((rows g).take (k + 1)) = max (most ct ((rows g).take k)) t.count) := Lib.hid (by rw [HT.out, most_snoc])
      obtain ⟨mx, hmx⟩ : ∃ mx, most ct ((rows g).take k) = mx := ⟨_, rfl⟩
      rw [hmx] at HMX ⊢
      obtain ⟨s, hs⟩ : ∃ s : ByteArray, encStr (nm q) = .string s := ⟨_, rfl⟩
      have HS := Lib.hid hs
      have e0 := hgc 0 (by decide)
      have e1 := hgc 1 (by decide)
      have e2 := hgc 2 (by decide)
      have e3 := hgc 3 (by decide)
      simp only [rc, hs, List.getElem?_cons_zero, List.getElem?_cons_succ, Nat.add_zero] at e0 e1 e2 e3
      have hdec : decide ((k : Int) < (m : Int)) = true := by simp; omega
      obtain ⟨W1, hW1⟩ : ∃ W1, W1 = wr := ⟨_, rfl⟩
      subst hW1
      have HMA := Lib.hid (HMF.out.keep ((Keep.refl [] W1).alloc (.cells #[.string s, .int .i64 t.ref, .int .i64 t.count, .int .i64 t.node] 40)) (by simp))
      have HNBW : Hid (∀ (W2 W3 : World), Keep [] w W2 → Keep [nb] W2 W3 → Keep [] w W3) := Lib.hid (fun W2 W3 h1 h2 => h1.call h2 (fun x hx => .inr (by rw [List.mem_singleton.1 hx]; exact HNB.out)))
      have HAA : Hid (∀ z : ByteArray, ∀ u1 u2 u3 : Int, Keep [] (W1.alloc (.cells #[.string s, .int .i64 t.ref, .int .i64 t.count, .int .i64 t.node] 40)) ((W1.alloc (.cells #[.string s, .int .i64 t.ref, .int .i64 t.count, .int .i64 t.node] 40)).alloc (.cells #[.string z, .int .i64 u1, .int .i64 u2, .int .i64 u3] 40))) := Lib.hid (fun z u1 u2 u3 => (Keep.refl [] _).alloc _)
      have HA1 : Hid (Keep [] W1 (W1.alloc (.cells #[.string s, .int .i64 t.ref, .int .i64 t.count, .int .i64 t.node] 40))) := Lib.hid ((Keep.refl [] W1).alloc _)
      have HNE : Hid (W1.heap.size ≠ nb) := Lib.hid (by have := HMF.out.lt; omega)
      have HROW : Hid (∀ w', Keep [nb] (W1.alloc (.cells #[.string s, .int .i64 t.ref, .int .i64 t.count, .int .i64 t.node] 40)) w' → w'.cell? ⟨W1.heap.size, 0, none⟩ = some (.string s) ∧ w'.cell? ⟨W1.heap.size, 1, none⟩ = some (.int .i64 t.ref) ∧ w'.cell? ⟨W1.heap.size, 2, none⟩ = some (.int .i64 t.count) ∧ w'.cell? ⟨W1.heap.size, 3, none⟩ = some (.int .i64 t.node) ∧ (∀ i, w'.frozen? ⟨W1.heap.size, i, none⟩ = false)) := Lib.hid (fun w' hk => row4 (hk.at (blk_new W1 _) (by simpa using HNE.out)))
      have HRV : Hid (rowV (q, t) = .agg #[.string s, .int .i64 t.ref, .int .i64 t.count, .int .i64 t.node]) := Lib.hid (by rw [← hs]; rfl)
      cases hfq : fk q with
      | none =>
        have HFQ := Lib.hid hfq
        have HZ : Hid (((fk q).map (fun t => rowV (q, t))).getD (.agg #[.string ⟨#[]⟩, .int .i64 0, .int .i64 0, .int .i64 0]) = .agg #[.string ⟨#[]⟩, .int .i64 0, .int .i64 0, .int .i64 0]) := Lib.hid (by rw [hfq]; rfl)
        have HZ2 : Hid ((fk q).isSome = false) := Lib.hid (by rw [hfq]; rfl)
        have HFE : Hid (setF fk q t = ((rows g).take (k + 1)).foldl addR f) := Lib.hid ((addR_new hfq).trans HFN.out.symm)
        obtain ⟨t1, t2, t3⟩ := t
        simp only at *
        clear hr hgc hs hfq hmx hnb
        go_wp2_with (first | (with_reducible refine Txt.wp_region_text mixed quiet (by decide +kernel) ?_) | (with_reducible refine Txt.text_done (by kernel_rfl) ?_) | (at_lookup; refine wpList_look2v HU.out _ rfl _ _ 55 rfl 40 Try.underlying55 _ (zero40 _) nb fk rfl HMA.out q HS.out.symm _ HZ _ HZ2 ?_) | (at_mapUpdate; refine wpList_upd HU.out _ rfl _ _ _ 55 (.inl rfl) 40 Try.underlying55 nb fk rfl (HMA.out.keep (HAA.out _ _ _ _) (by simp)) q ⟨t1, t2, t3⟩ HS.out.symm HRV.out.symm ?_; intro w5 hm5 hk5; have HM5 := Lib.hid hm5; have HK5 := Lib.hid (HNBW.out _ _ ((HK.out.trans HA1.out).trans (HAA.out _ _ _ _)) hk5); obtain ⟨f0, f1, f2, f3, -⟩ := HROW.out _ (((HAA.out _ _ _ _).more (by simp)).trans hk5); clear hm5 hk5))
        exact ⟨⟨k + 1, _, hlt, by go_num, by rw [HMX.out], HFE, HM5, HK5⟩, by simp [intOf]; omega⟩
      | some u =>
        have HZ : Hid (((fk q).map (fun t => rowV (q, t))).getD (.agg #[.string ⟨#[]⟩, .int .i64 0, .int .i64 0, .int .i64 0]) = .agg #[.string s, .int .i64 u.ref, .int .i64 u.count, .int .i64 u.node]) := Lib.hid (by rw [hfq, ← hs]; rfl)
        have HZ2 : Hid ((fk q).isSome = true) := Lib.hid (by rw [hfq]; rfl)
        obtain ⟨wv, hwv⟩ : ∃ wv, wins t u = wv := ⟨_, rfl⟩
        have HWC : Hid (∀ w, Calls Try.prog 25 #[.agg #[.string s, .int .i64 t.ref, .int .i64 t.count, .int .i64 t.node], .agg #[.string s, .int .i64 u.ref, .int .i64 u.count, .int .i64 u.node]] w fun e w' => e = .returned (.bool wv) ∧ Keep [] w w') := Lib.hid (fun w => by
          have h9 := wins25_any w (q, t) (q, u)
          unfold rowV at h9
          simp only [hs, hwv] at h9
          exact h9)
        cases wv with
        | true =>
          have HFE : Hid (setF fk q t = ((rows g).take (k + 1)).foldl addR f) := Lib.hid ((addR_win hfq hwv).trans HFN.out.symm)
          obtain ⟨t1, t2, t3⟩ := t
          obtain ⟨u1, u2, u3⟩ := u
          simp only at *
          clear hr hgc hs hfq hmx hnb hwv
          go_wp2_with (first | (with_reducible refine Txt.wp_region_text mixed quiet (by decide +kernel) ?_) | (with_reducible refine Txt.text_done (by kernel_rfl) ?_) | (at_lookup; refine wpList_look2v HU.out _ rfl _ _ 55 rfl 40 Try.underlying55 _ (zero40 _) nb fk rfl HMA.out q HS.out.symm _ HZ _ HZ2 ?_) | (go_at_call 25; (with_reducible refine (HWC.out _).mono ?_); rintro e w4 ⟨rfl, hk4⟩; have HK4 := Lib.hid ((HAA.out _ _ _ _).trans hk4); obtain ⟨f0, f1, f2, f3, -⟩ := HROW.out _ (HK4.out.more (by simp)); clear hk4) | (at_mapUpdate; refine wpList_upd HU.out _ rfl _ _ _ 55 (.inl rfl) 40 Try.underlying55 nb fk rfl (HMA.out.keep HK4.out (by simp)) q ⟨t1, t2, t3⟩ HS.out.symm HRV.out.symm ?_; intro w5 hm5 hk5; have HM5 := Lib.hid hm5; have HK5 := Lib.hid (HNBW.out _ _ ((HK.out.trans HA1.out).trans HK4.out) hk5); obtain ⟨f0, f1, f2, f3, -⟩ := HROW.out _ ((HK4.out.more (by simp)).trans hk5); clear hm5 hk5))
          exact ⟨⟨k + 1, _, hlt, by go_num, by rw [HMX.out], HFE, HM5, HK5⟩, by simp [intOf]; omega⟩
        | false =>
          have HFE : Hid (fk = ((rows g).take (k + 1)).foldl addR f) := Lib.hid ((addR_lose hfq hwv).trans HFN.out.symm)
          obtain ⟨t1, t2, t3⟩ := t
          obtain ⟨u1, u2, u3⟩ := u
          simp only at *
          clear hr hgc hs hfq hmx hnb hwv
          go_wp2_with (first | (with_reducible refine Txt.wp_region_text mixed quiet (by decide +kernel) ?_) | (with_reducible refine Txt.text_done (by kernel_rfl) ?_) | (at_lookup; refine wpList_look2v HU.out _ rfl _ _ 55 rfl 40 Try.underlying55 _ (zero40 _) nb fk rfl HMA.out q HS.out.symm _ HZ _ HZ2 ?_) | (go_at_call 25; (with_reducible refine (HWC.out _).mono ?_); rintro e w4 ⟨rfl, hk4⟩; have HK4 := Lib.hid ((HAA.out _ _ _ _).trans hk4); obtain ⟨f0, f1, f2, f3, -⟩ := HROW.out _ (HK4.out.more (by simp)); clear hk4))
          exact ⟨⟨k + 1, _, hlt, by go_num, by rw [HMX.out], HFE, Lib.hid (HMA.out.keep HK4.out (by simp)), Lib.hid ((HK.out.trans HA1.out).trans HK4.out)⟩, by simp [intOf]; omega⟩
    · obtain rfl : k = m := by omega
      have hdec : decide ((k : Int) < (k : Int)) = false := by simp
      obtain ⟨c0, c1, c2, hfz⟩ := row3 (HK.out.at HB.out (by simp))
      have hfz1 := hfz 1
      have hfz2 := hfz 2
      have HFM : Hid (fk = merge f g) := Lib.hid (by rw [HF.out, List.take_of_length_le (by rw [HML.out]; exact Nat.le_refl _), merge_rows])
      have HMX : Hid (most ct ((rows g).take k) = most ct (rows g)) := Lib.hid (by rw [List.take_of_length_le (by rw [HML.out]; exact Nat.le_refl _)])
      obtain ⟨mx, hmx⟩ : ∃ mx, most ct ((rows g).take k) = mx := ⟨_, rfl⟩
      rw [hmx] at HMX ⊢
      have hpn : p ≠ nb := by have := HPL.out; have := HNB.out; omega
      have HNP := Lib.hid hpn
      have hks : Keep [p] wr ((wr.setCell ⟨p, 2, none⟩ (.map (some nb))).setCell ⟨p, 1, none⟩ (.int .i64 mx)) := ((Keep.refl _ wr).setCell (.inl (by simp)) _).setCell (.inl (by simp)) _
      have hbf : ((wr.setCell ⟨p, 2, none⟩ (.map (some nb))).setCell ⟨p, 1, none⟩ (.int .i64 mx)).heap[p]? = some (.cells #[.int .i64 nd, .int .i64 mx, .map (some nb)] 58 (0, 0)) := by
        rw [blk_setCell, if_pos rfl, blk_setCell, if_pos rfl, HK.out.at HB.out (by simp)]
        rfl
      have hmf := HMF.out.keep hks (by simpa using fun e => HNP.out e.symm)
      have hkf : Keep [p, b] w ((wr.setCell ⟨p, 2, none⟩ (.map (some nb))).setCell ⟨p, 1, none⟩ (.int .i64 mx)) := (HK.out.more (by simp)).trans (hks.more (by simp))
      have HE := Lib.hid (HCL.out _ nb ⟨nd, most ct (rows g), merge f g⟩ (by rw [HP.out]; exact hkf) (.inr HNB.out) (by rw [HP.out, ← HMX.out]; exact hbf) (by rw [← HFM.out]; exact hmf))
      clear hks hbf hmf hkf hmx hfz hpn hnb
      go_wp2_with (first | (with_reducible refine Txt.wp_region_text mixed quiet (by decide +kernel) ?_) | (with_reducible refine Txt.text_done (by kernel_rfl) ?_) | (at_len; refine wpList_lenR HU.out rfl _ 55 rfl 40 Try.underlying55 nb fk rfl HMF.out ?_; intro n7 hn7; have hn60 : decide ((n7 : Int) > 60) = false := (by simp; omega)))
      go_ret
      exact ⟨rfl, HE.out⟩
end Go.Proofs.Ytfgdgdjdlnchlaa
/- Names: slices.Equal of rows and of names. -/
namespace Go
open Go.RowKit
open Go.Nm
open Go.Proofs (encStr)
theorem sameStr {i j : Fin 7} {s s' : ByteArray} (hs : encStr (nm i) = .string s) (hs' : encStr (nm j) = .string s') : s.toList = s'.toList ↔ i = j := by
  injection hs with hs
  injection hs' with hs'
  subst hs
  subst hs'
  simp only [ByteArray.toList_mk]
  exact ⟨fun h => nm_inj _ _ h, fun h => by rw [h]⟩
end Go
namespace Go.Proofs.Ytfgdgdjdlnchlaa
open Go.RowKit
open Go.Nm
set_option maxRecDepth 100000 in
set_option maxHeartbeats 4000000 in
theorem equal16_any {w : World} {a1 a2 : Option Addr} {n c1 m c2 : Nat} {xs ys : List (Fin 7 × T)} (h1 : EltV rc 4 w a1 n c1 xs) (h2 : EltV rc 4 w a2 m c2 ys) :
    Calls Try.prog 16 #[.slice a1 n c1, .slice a2 m c2] w fun e w' => e = .returned (.bool (decide (xs = ys))) ∧ Keep [] w w' := by
  have HX := Lib.hid h1
  have HY := Lib.hid h2
  have HL1 := Lib.hid h1.len
  have HL2 := Lib.hid h2.len
  have r1 := h1.room
  have m1 := h1.most
  have r2 := h2.room
  have m2 := h2.most
  have h9 : maxLen = 9223372036854775807 := rfl
  rw [h9] at m1 m2
  clear h9
  by_cases hnm : n = m
  · subst hnm
    clear h1 h2
    go_enter Try.func16, Try.ntmps16
    go_wp2_with fail
    go_loopw [13] (fun i wr => ∃ k : Nat, k ≤ n ∧ i = .int .i64 k ∧ Hid (xs.take k = ys.take k) ∧ Hid (Keep [] w wr)) (fun i _ => n - (intOf i).toNat)
    case atStart => exact ⟨0, by omega, rfl, Lib.hid (by simp), Lib.hid (Keep.refl _ _)⟩
    case round =>
      obtain ⟨k, hk, rfl, HT, HK⟩ := hrel
      by_cases hlt : k < n
      · obtain ⟨x, hx⟩ : ∃ x, xs[k]? = some x := ⟨_, List.getElem?_eq_getElem (by rw [HL1.out]; exact hlt)⟩
        obtain ⟨y, hy⟩ : ∃ y, ys[k]? = some y := ⟨_, List.getElem?_eq_getElem (by rw [HL2.out]; exact hlt)⟩
        obtain ⟨b, off, rfl, hgx⟩ := (HX.out.keep rc_len HK.out (by simp)).at_ rc_len hx
        obtain ⟨b', off', rfl, hgy⟩ := (HY.out.keep rc_len HK.out (by simp)).at_ rc_len hy
        have HXX := Lib.hid hx
        have HYY := Lib.hid hy
        obtain ⟨s, hs⟩ : ∃ s : ByteArray, encStr (nm x.1) = .string s := ⟨_, rfl⟩
        obtain ⟨s', hs'⟩ : ∃ s : ByteArray, encStr (nm y.1) = .string s := ⟨_, rfl⟩
        have e0 := hgx 0 (by decide)
        have d0 := hgy 0 (by decide)
        have e1 := hgx 1 (by decide)
        have d1 := hgy 1 (by decide)
        have e2 := hgx 2 (by decide)
        have d2 := hgy 2 (by decide)
        have e3 := hgx 3 (by decide)
        have d3 := hgy 3 (by decide)
        simp only [rc, hs, List.getElem?_cons_zero, List.getElem?_cons_succ, Nat.add_zero] at e0 e1 e2 e3
        simp only [rc, hs', List.getElem?_cons_zero, List.getElem?_cons_succ, Nat.add_zero] at d0 d1 d2 d3
        have hdec : decide ((k : Int) < (n : Int)) = true := by simp; omega
        have hss : s.toList = s'.toList ↔ x.1 = y.1 := sameStr hs hs'
        clear hx hy hgx hgy
        by_cases he : x = y
        · subst he
          have HT2 : Hid (xs.take (k + 1) = ys.take (k + 1)) := Lib.hid (by rw [List.take_add_one, List.take_add_one, HT.out, HXX.out, HYY.out])
          obtain rfl : s = s' := by injection (hs.symm.trans hs')
          obtain ⟨v0, hv0⟩ : ∃ v, x.2.ref = v := ⟨_, rfl⟩
          obtain ⟨v1, hv1⟩ : ∃ v, x.2.count = v := ⟨_, rfl⟩
          obtain ⟨v2, hv2⟩ : ∃ v, x.2.node = v := ⟨_, rfl⟩
          rw [hv0] at e1 d1
          rw [hv1] at e2 d2
          rw [hv2] at e3 d3
          clear hv0 hv1 hv2 hss hs hs'
          go_wp2_with fail
          go_region
          all_goals
            go_wp2_with fail
            exact ⟨⟨k + 1, hlt, by go_num, HT2, Lib.hid (by repeat (first | exact HK.out | apply Keep.drew))⟩, by simp [intOf]; omega⟩
        · have HNE : Hid (decide (xs = ys) = false) := Lib.hid (decide_eq_false (fun e => he (by have := HXX.out; rw [e, HYY.out] at this; injection this with this; exact this.symm)))
          obtain ⟨b0, hb0⟩ : ∃ b0, (s.toList == s'.toList) = b0 := ⟨_, rfl⟩
          obtain ⟨v0, hv0⟩ : ∃ v, x.2.ref = v := ⟨_, rfl⟩
          obtain ⟨u0, hu0⟩ : ∃ u, y.2.ref = u := ⟨_, rfl⟩
          obtain ⟨b1, hb1⟩ : ∃ b, (v0 == u0) = b := ⟨_, rfl⟩
          obtain ⟨v1, hv1⟩ : ∃ v, x.2.count = v := ⟨_, rfl⟩
          obtain ⟨u1, hu1⟩ : ∃ u, y.2.count = u := ⟨_, rfl⟩
          obtain ⟨b2, hb2⟩ : ∃ b, (v1 == u1) = b := ⟨_, rfl⟩
          obtain ⟨v2, hv2⟩ : ∃ v, x.2.node = v := ⟨_, rfl⟩
          obtain ⟨u2, hu2⟩ : ∃ u, y.2.node = u := ⟨_, rfl⟩
          obtain ⟨b3, hb3⟩ : ∃ b, (v2 == u2) = b := ⟨_, rfl⟩
          have hb : (b0 && b1 && b2 && b3) = false := by
            rw [Bool.eq_false_iff]
            intro h
            simp only [Bool.and_eq_true] at h
            refine he (Prod.ext (hss.1 (eq_of_beq (hb0.trans h.1.1.1))) (T.ext' (by rw [hv0, hu0]; exact eq_of_beq (hb1.trans h.1.1.2)) (by rw [hv1, hu1]; exact eq_of_beq (hb2.trans h.1.2)) (by rw [hv2, hu2]; exact eq_of_beq (hb3.trans h.2))))
          have HB := Lib.hid hb
          rw [hv0] at e1
          rw [hu0] at d1
          rw [hv1] at e2
          rw [hu1] at d2
          rw [hv2] at e3
          rw [hu2] at d3
          clear he hb hss hs hs' hv0 hu0 hv1 hu1 hv2 hu2
          have leaf : True := trivial
          cases b0 <;> cases b1 <;> cases b2 <;> cases b3
          all_goals first
            | (have := HB.out; simp at this; done)
            | (go_wp2_with fail; go_region; all_goals (go_wp2_with fail; go_ret; exact ⟨ret_bool HNE.out.symm, by repeat (first | exact HK.out | apply Keep.drew)⟩))
      · obtain rfl : k = n := by omega
        have HE : Hid (decide (xs = ys) = true) := Lib.hid (decide_eq_true (by have h := HT.out; rw [List.take_of_length_le (by rw [HL1.out]; exact Nat.le_refl _), List.take_of_length_le (by rw [HL2.out]; exact Nat.le_refl _)] at h; exact h))
        have hdec : decide ((k : Int) < (k : Int)) = false := by simp
        go_wp2_with fail
        go_ret
        exact ⟨ret_bool HE.out.symm, HK.out⟩
  · have HE : Hid (decide (xs = ys) = false) := Lib.hid (decide_eq_false (fun e => hnm (by rw [← HL1.out, ← HL2.out, e])))
    have hne : ((n : Int) != (m : Int)) = true := by simp; omega
    clear h1 h2
    go_enter Try.func16, Try.ntmps16
    go_wp2_with (first | (with_reducible refine Txt.wp_region_text mixed quiet (by decide +kernel) ?_) | (with_reducible refine Txt.text_done (by kernel_rfl) ?_))
    go_ret
    exact ⟨ret_bool HE.out.symm, Keep.refl _ _⟩
set_option maxRecDepth 100000 in
set_option maxHeartbeats 4000000 in
theorem equal18_any {w : World} {a1 a2 : Option Addr} {n c1 m c2 : Nat} {xs ys : List (Fin 7 × Int)} (h1 : EltV ac 2 w a1 n c1 xs) (h2 : EltV ac 2 w a2 m c2 ys) :
    Calls Try.prog 18 #[.slice a1 n c1, .slice a2 m c2] w fun e w' => e = .returned (.bool (decide (xs = ys))) ∧ Keep [] w w' := by
  have HX := Lib.hid h1
  have HY := Lib.hid h2
  have HL1 := Lib.hid h1.len
  have HL2 := Lib.hid h2.len
  have r1 := h1.room
  have m1 := h1.most
  have r2 := h2.room
  have m2 := h2.most
  have h9 : maxLen = 9223372036854775807 := rfl
  rw [h9] at m1 m2
  clear h9
  by_cases hnm : n = m
  · subst hnm
    clear h1 h2
    go_enter Try.func18, Try.ntmps18
    go_wp2_with fail
    go_loopw [13] (fun i wr => ∃ k : Nat, k ≤ n ∧ i = .int .i64 k ∧ Hid (xs.take k = ys.take k) ∧ Hid (Keep [] w wr)) (fun i _ => n - (intOf i).toNat)
    case atStart => exact ⟨0, by omega, rfl, Lib.hid (by simp), Lib.hid (Keep.refl _ _)⟩
    case round =>
      obtain ⟨k, hk, rfl, HT, HK⟩ := hrel
      by_cases hlt : k < n
      · obtain ⟨x, hx⟩ : ∃ x, xs[k]? = some x := ⟨_, List.getElem?_eq_getElem (by rw [HL1.out]; exact hlt)⟩
        obtain ⟨y, hy⟩ : ∃ y, ys[k]? = some y := ⟨_, List.getElem?_eq_getElem (by rw [HL2.out]; exact hlt)⟩
        obtain ⟨b, off, rfl, hgx⟩ := (HX.out.keep ac_len HK.out (by simp)).at_ ac_len hx
        obtain ⟨b', off', rfl, hgy⟩ := (HY.out.keep ac_len HK.out (by simp)).at_ ac_len hy
        have HXX := Lib.hid hx
        have HYY := Lib.hid hy
        obtain ⟨s, hs⟩ : ∃ s : ByteArray, encStr (nm x.1) = .string s := ⟨_, rfl⟩
        obtain ⟨s', hs'⟩ : ∃ s : ByteArray, encStr (nm y.1) = .string s := ⟨_, rfl⟩
        have e0 := hgx 0 (by decide)
        have d0 := hgy 0 (by decide)
        have e1 := hgx 1 (by decide)
        have d1 := hgy 1 (by decide)
        simp only [ac, hs, List.getElem?_cons_zero, List.getElem?_cons_succ, Nat.add_zero] at e0 e1
        simp only [ac, hs', List.getElem?_cons_zero, List.getElem?_cons_succ, Nat.add_zero] at d0 d1
        have hdec : decide ((k : Int) < (n : Int)) = true := by simp; omega
        have hss : s.toList = s'.toList ↔ x.1 = y.1 := sameStr hs hs'
        clear hx hy hgx hgy
        by_cases he : x = y
        · subst he
          have HT2 : Hid (xs.take (k + 1) = ys.take (k + 1)) := Lib.hid (by rw [List.take_add_one, List.take_add_one, HT.out, HXX.out, HYY.out])
          obtain rfl : s = s' := by injection (hs.symm.trans hs')
          obtain ⟨v0, hv0⟩ : ∃ v, x.2 = v := ⟨_, rfl⟩
          rw [hv0] at e1 d1
          clear hv0 hss hs hs'
          go_wp2_with fail
          go_region
          all_goals
            go_wp2_with fail
            exact ⟨⟨k + 1, hlt, by go_num, HT2, Lib.hid (by repeat (first | exact HK.out | apply Keep.drew))⟩, by simp [intOf]; omega⟩
        · have HNE : Hid (decide (xs = ys) = false) := Lib.hid (decide_eq_false (fun e => he (by have := HXX.out; rw [e, HYY.out] at this; injection this with this; exact this.symm)))
          obtain ⟨b0, hb0⟩ : ∃ b0, (s.toList == s'.toList) = b0 := ⟨_, rfl⟩
          obtain ⟨v0, hv0⟩ : ∃ v, x.2 = v := ⟨_, rfl⟩
          obtain ⟨u0, hu0⟩ : ∃ u, y.2 = u := ⟨_, rfl⟩
          obtain ⟨b1, hb1⟩ : ∃ b, (v0 == u0) = b := ⟨_, rfl⟩
          have hb : (b0 && b1) = false := by
            rw [Bool.eq_false_iff]
            intro h
            simp only [Bool.and_eq_true] at h
            refine he (Prod.ext (hss.1 (eq_of_beq (hb0.trans h.1))) (by rw [hv0, hu0]; exact eq_of_beq (hb1.trans h.2)))
          have HB := Lib.hid hb
          rw [hv0] at e1
          rw [hu0] at d1
          clear he hb hss hs hs' hv0 hu0
          have leaf : True := trivial
          cases b0 <;> cases b1
          all_goals first
            | (have := HB.out; simp at this; done)
            | (go_wp2_with fail; go_region; all_goals (go_wp2_with fail; go_ret; exact ⟨ret_bool HNE.out.symm, by repeat (first | exact HK.out | apply Keep.drew)⟩))
      · obtain rfl : k = n := by omega
        have HE : Hid (decide (xs = ys) = true) := Lib.hid (decide_eq_true (by have h := HT.out; rw [List.take_of_length_le (by rw [HL1.out]; exact Nat.le_refl _), List.take_of_length_le (by rw [HL2.out]; exact Nat.le_refl _)] at h; exact h))
        have hdec : decide ((k : Int) < (k : Int)) = false := by simp
        go_wp2_with fail
        go_ret
        exact ⟨ret_bool HE.out.symm, HK.out⟩
  · have HE : Hid (decide (xs = ys) = false) := Lib.hid (decide_eq_false (fun e => hnm (by rw [← HL1.out, ← HL2.out, e])))
    have hne : ((n : Int) != (m : Int)) = true := by simp; omega
    clear h1 h2
    go_enter Try.func18, Try.ntmps18
    go_wp2_with (first | (with_reducible refine Txt.wp_region_text mixed quiet (by decide +kernel) ?_) | (with_reducible refine Txt.text_done (by kernel_rfl) ?_))
    go_ret
    exact ⟨ret_bool HE.out.symm, Keep.refl _ _⟩
end Go.Proofs.Ytfgdgdjdlnchlaa
/- Names: what every registry of a play keeps. -/
namespace Go.Proofs.Ytfgdgdjdlnchlaa
open Go.Nm
structure ROk (r : Reg) (i : Nat) (B : Int) : Prop where
  node : r.node = (i : Int) + 1
  lo : 0 ≤ r.count
  hi : r.count ≤ B
  ok : MOk r.f r.count
theorem ROk.mono {r : Reg} {i : Nat} {B B' : Int} (h : ROk r i B) (hB : B ≤ B') : ROk r i B' := ⟨h.node, h.lo, Int.le_trans h.hi hB, h.ok⟩
theorem ROk.new (i : Nat) : ROk ⟨(i : Int) + 1, 0, fun _ => none⟩ i 0 := ⟨rfl, Int.le_refl _, Int.le_refl _, MOk.nil _⟩
theorem ROk.write {r : Reg} {i : Nat} {B : Int} (h : ROk r i B) (hi : i < 8) (k : Fin 7) {ref : Int} (hr : 0 ≤ ref ∧ ref ≤ 1000) : ROk (wr r k ref) i (B + 1) := by
  have h1 := h.lo
  have h2 := h.hi
  have h3 := h.node
  unfold wr
  refine ⟨h3, by show 0 ≤ r.count + 1; omega, by show r.count + 1 ≤ B + 1; omega, ?_⟩
  exact (h.ok.mono (B' := r.count + 1) (by omega)).set ⟨hr, ⟨by show 1 ≤ r.count + 1; omega, Int.le_refl _⟩, by show 1 ≤ r.node ∧ r.node ≤ 8; omega⟩
theorem ROk.drop {r : Reg} {i : Nat} {B : Int} (h : ROk r i B) (hi : i < 8) (k : Fin 7) : ROk (dropR r k) i (B + 1) := by
  unfold dropR
  split
  · exact h.write hi k ⟨by decide, by decide⟩
  · exact h.mono (by omega)
theorem most_le {m B : Int} {g : F} (hm : m ≤ B) (h : MOk g B) : most m (rows g) ≤ B ∧ m ≤ most m (rows g) ∧ ∀ i t, g i = some t → t.count ≤ most m (rows g) := by
  obtain ⟨h1, h2, h3⟩ := most_bound (rows g) hm (fun r hr => (h.at' _ _ (mem_rows.1 hr)).2.1.2)
  exact ⟨h1, h2, fun i t ht => h3 (i, t) (mem_rows.2 ht)⟩
theorem ROk.merge {r : Reg} {i : Nat} {B : Int} (h : ROk r i B) {g : F} (hg : MOk g B) : ROk (mergeR r g) i B := by
  obtain ⟨h1, h2, h3⟩ := most_le h.hi hg
  have hlo := h.lo
  unfold mergeR
  refine ⟨h.node, by show 0 ≤ most r.count (rows g); omega, h1, MOk.merge (h.ok.mono h2) ⟨fun j t ht => ?_⟩⟩
  obtain ⟨a1, ⟨a2, _⟩, a3⟩ := hg.at' j t ht
  exact ⟨a1, ⟨a2, h3 j t ht⟩, a3⟩
/-- Neither 'ab' nor 'zz'. -/
def NZ (f : F) : Prop := f 1 = none ∧ f 6 = none
theorem NZ.set {f : F} (h : NZ f) {k : Fin 7} (hk : k ≠ 1 ∧ k ≠ 6) (t : T) : NZ (setF f k t) := by
  unfold NZ setF at *
  rw [if_neg (fun e => hk.1 e.symm), if_neg (fun e => hk.2 e.symm)]
  exact h
theorem NZ.merge {f g : F} (h : NZ f) (k : NZ g) : NZ (merge f g) := by
  unfold NZ Nm.merge at *
  rw [h.1, h.2, k.1, k.2]
  exact ⟨rfl, rfl⟩
theorem NZ.drop {r : Reg} (h : NZ r.f) {k : Fin 7} (hk : k ≠ 1 ∧ k ≠ 6) : NZ (dropR r k).f := by
  unfold dropR
  split
  · exact h.set hk _
  · exact h
/-- The states of a play. -/
def SOk (n : Nat) (st : Nat → Reg) (B : Int) : Prop := ∀ i, i < n → ROk (st i) i B ∧ NZ (st i).f
theorem SOk.mono {n : Nat} {st : Nat → Reg} {B B' : Int} (h : SOk n st B) (hB : B ≤ B') : SOk n st B' := fun i hi => ⟨(h i hi).1.mono hB, (h i hi).2⟩
theorem SOk.upd {n : Nat} {st : Nat → Reg} {B : Int} (h : SOk n st B) {i : Nat} {r : Reg} (hr : ROk r i B) (hz : NZ r.f) : SOk n (upd st i r) B := fun j hj => by
  by_cases e : j = i
  · subst e
    rw [upd_same]
    exact ⟨hr, hz⟩
  · rw [upd_other e]
    exact h j hj
/-- The letters of a play. -/
def let5 : Nat → Fin 7
  | 0 => 0 | 1 => 2 | 2 => 3 | 3 => 4 | _ => 5
theorem let5_ne (q : Nat) : let5 q ≠ 1 ∧ let5 q ≠ 6 := by
  rcases q with _ | _ | _ | _ | q
  · decide
  · decide
  · decide
  · decide
  · exact ⟨by show (5 : Fin 7) ≠ 1; decide, by show (5 : Fin 7) ≠ 6; decide⟩
end Go.Proofs.Ytfgdgdjdlnchlaa
