/- Texts laid together: Y20. -/
import Derived.Test.YtmedldloilbmeaaMg7
import Derived.Deep.CutRange
import Derived.Deep.DeepCutAuto
/- CycleNodes: the walk. -/
namespace Go.Proofs.Ytmedldloilbmeaa
open Go.RowKit
theorem maxLit : maxLen = 9223372036854775807 := rfl
theorem info34 : (Try.prog.info? 34).map (fun i => (i.zero, i.size, i.bytes)) = some (some (.slice none 0 0), 1, 24) := by kernel_rfl
theorem info43 : (Try.prog.info? 43).map (fun i => (i.zero, i.size, i.bytes)) = some (some (.pointer none), 1, 8) := by kernel_rfl
theorem mk40 (n : Nat) (hn : n ≤ 1000) (w : World) : (Instr.makeSlice 40 (.int .i64 (n : Int)) (.int .i64 (n : Int))).run Try.prog w = .ok (.slice (some ⟨w.heap.size, 0, none⟩) n n) (w.alloc (.cells (List.replicate n (Value.slice none 0 0)).toArray 34)) := by
  obtain ⟨i4, hi, hz, hs, hb⟩ := infoY info34
  have := run_make (P := Try.prog) w 40 34 i4 (.slice none 0 0) Try.underlying40 hi hz .i64 .i64 n n (by omega) (by omega) (by rw [hb]; omega) (by omega)
  rw [this, hs]
  have hc : madeCells (Value.slice none 0 0).cells ((n : Int).toNat * 1) = (List.replicate n (Value.slice none 0 0)).toArray := by
    refine Array.ext (by simp [madeCells]) fun j h1 h2 => ?_
    have : (Value.slice none 0 0).cells = #[Value.slice none 0 0] := rfl
    simp [madeCells, this, Nat.mod_one]
  rw [hc]
  rfl
theorem nodes_m {q : Nat} (hq : (q : Int) < 4) : ∃ m : Nat, 1 ≤ m ∧ m ≤ 4 ∧ IntKind.i64.wrap (1 + (q : Int)) = (m : Int) ∧ wrap64 (1 + (q : Int)) = (m : Int) := by
  refine ⟨1 + q, by omega, by omega, ?_, ?_⟩
  · simp [IntKind.wrap, IntKind.bits, IntKind.signed]; omega
  · unfold wrap64; omega
theorem mk40' {m : Nat} (h : m ≤ 4) (w : World) : (Instr.makeSlice 40 (.int .i64 (m : Int)) (.int .i64 (m : Int))).run Try.prog w = .ok (.slice (some ⟨w.heap.size, 0, none⟩) m m) (w.alloc (.cells (List.replicate m (Value.slice none 0 0)).toArray 34)) := mk40 m (by omega) w
theorem one_ptr {ad : Addr} : ∀ u ∈ [Value.pointer (some ad)], u.oneCell' = true := fun u hu => by
  rw [List.mem_singleton.1 hu]; rfl
theorem first_up {ks : List Kn} {hm : Int → Nat} {j : Nat} {x : Int} (hx : x ∈ firsts (pf hm j ks)) : SrR ks x := by
  have h := (firsts_pf.1 hx).1
  obtain ⟨k, hk, h2, _⟩ := firsts_mem.1 h
  exact .seed h (refsR_some.2 ⟨k, hk, h2⟩)
theorem keepNs {w w' : World} {P : Program} {H b bR bM bT N : Nat} {f : Int → Option Value} {R : Int → Option (List Int)} {mk tl : Int → Bool} {due : List Int} {came : Int} {vd v : Value} {B n : Nat} {xs : List Value} (h : NodeAt w P H b bR bM bT N f R mk tl due came vd) (ho : w.ownsRow B 43 1 v n xs) (hk : Keep v.ownBlock.toList w w') : NodeAt w' P H b bR bM bT N f R mk tl due came vd := by
  have hS : ∀ g ∈ v.ownBlock.toList, ∃ cs, w.heap[g]? = some (.cells cs 43 (0, 0)) := fun g hg => (ownLt ho g (by simpa using hg)).2.2
  refine h.keep hk (fun hm => ?_) (fun g hg hm => ?_) (fun g hm _ cs fr hc => ?_)
  · obtain ⟨cs, hc⟩ := hS _ hm
    exact h.mr.notCells hc rfl
  · obtain ⟨cs, hc⟩ := hS _ hm
    simp only [ndS, List.mem_cons, Option.mem_toList] at hg
    rcases hg with rfl | rfl | rfl | hg
    · exact neTypeY hc h.blk (by decide) rfl
    · exact h.mm.notCells hc rfl
    · exact h.mt.notCells hc rfl
    · obtain ⟨_, _, cs', hc'⟩ := ownLt h.rowD g hg
      exact neTypeY hc hc' (by decide) rfl
  · obtain ⟨cs', hc'⟩ := hS _ hm
    exact neTypeY hc' hc (by decide) rfl
theorem own_news {w : World} {B e n c : Nat} {a : Option Addr} {xs : List Value} (h : w.ownsRow B e 1 (.slice a n c) n xs) : 0 < n → ∃ ad, a = some ad ∧ ∀ j u, xs[j]? = some u → w.cell? (ad.add j) = some u := fun hn => by
  obtain ⟨g, cap, hv, _, _, _, _, hc, _⟩ := own_cellN h hn
  injection hv with h1 _ h2
  exact ⟨_, h1, fun j u hu => by rw [Go.WideShapes.add_plain]; simpa using hc j u hu⟩
theorem one_ints {xs : List Int} : ∀ u ∈ xs.map (Value.int .i64), u.oneCell' = true := fun u hu => by
  obtain ⟨_, _, rfl⟩ := List.mem_map.1 hu
  rfl
theorem due_len {ks : List Kn} {hm : Int → Nat} {j : Nat} {mk tl tl0 : Int → Bool} {due : List Int} {S' : Int → Prop} (hk : KnList ks) (hS : ∀ x, S' x → SrR ks x) (h : LvInv (refsR (pf hm j ks)) S' mk tl []) (hd : DueInv tl0 tl due) : due.length ≤ 42 := by
  have h1 := cntT_due hd (fun x hx => (told_up hk hS h ((hd.mem x).1 hx).1).1)
  have h2 := cntT_le tl
  omega
theorem ownRoom {w : World} {B e m n c : Nat} {a : Option Addr} {xs : List Value} (h : w.ownsRow B e m (.slice a n c) n xs) : n ≤ c ∧ c ≤ 9223372036854775807 := by
  obtain ⟨a', c', he, h1, h2, _⟩ := ownSlice h
  injection he with _ _ h3
  rw [maxLit] at h2
  rw [h3]
  exact ⟨h1, h2⟩
theorem new_ds {P : Program} {W3 W4 w5 w6 w7 : World} {ds : List Nd} {way : List Int} {v nv vd : Value} {n H b bR bM bT N : Nat} {xs : List Value} {f : Int → Option Value} {R : Int → Option (List Int)} {S' : Int → Prop} {mk tl : Int → Bool} {due : List Int} (hd : DsAt P W3 W4 0 ds way v) (hns : W4.ownsRow W3.heap.size 43 1 nv n xs) (k5 : Keep [] W4 w5) (k6 : Keep nv.ownBlock.toList w5 w6) (h1 : NodeAt w6 P H b bR bM bT N f R mk tl due 0 vd) (hH : W4.heap.size ≤ H) (hb : W4.heap.size ≤ b ∧ W4.heap.size ≤ bR ∧ W4.heap.size ≤ bM ∧ W4.heap.size ≤ bT) (hf : ∀ x a n c ad, f x = some (.slice a n c) → a = some ad → W4.heap.size ≤ ad.block) (k7 : Keep (b :: vd.ownBlock.toList) w6 w7) (h7 : NodeAt w7 P H b bR bM bT N f R mk tl [] 0 (.slice none 0 0)) (hN : N ≤ 100000000) (hH7 : H ≤ w7.heap.size) : DsAt P W3 w7 0 (ds ++ [⟨b, bR, bM, bT, f, R, S', mk, tl⟩]) way v := by
  have kt : Keep nv.ownBlock.toList W4 w7 := ((k5.more (by simp)).trans k6).call k7 (fun g hg => .inr (by
    simp only [List.mem_cons, Option.mem_toList] at hg
    rcases hg with rfl | hg
    · exact hb.1
    · exact Nat.le_trans hH (ownLt h1.rowD g hg).1))
  have hd7 := hd.keepT kt (fun g hg => by
    obtain ⟨h8, h9, cs, hc⟩ := ownLt hns g (by simpa using hg)
    exact ⟨h8, .inr ⟨cs, 43, _, hc, by decide, by decide⟩⟩)
  refine hd7.new (wa := W4) (fun e he => (hd.ok e he).lt) (fun g hg => (ownLt hd.row g hg).2.1) hd.keep.size ⟨N, 0, by omega, by omega, by omega, h7.lift hH7⟩ (fun g hg => ?_) hf
  simp only [Nd.bl, List.mem_cons, List.not_mem_nil, or_false] at hg
  rcases hg with rfl | rfl | rfl | rfl
  · exact hb.1
  · exact hb.2.1
  · exact hb.2.2.1
  · exact hb.2.2.2
theorem nd_no43 {w : World} {P : Program} {H b bR bM bT N : Nat} {f : Int → Option Value} {R : Int → Option (List Int)} {mk tl : Int → Bool} {due : List Int} {came : Int} {vd : Value} (h : NodeAt w P H b bR bM bT N f R mk tl due came vd) : ∀ g ∈ b :: vd.ownBlock.toList, ∀ cs fr, w.heap[g]? ≠ some (.cells cs 43 fr) := fun g hg cs fr hc => by
  simp only [List.mem_cons, Option.mem_toList] at hg
  rcases hg with rfl | hg
  · exact neTypeY hc h.blk (by decide) rfl
  · obtain ⟨_, _, cs', hc'⟩ := ownLt h.rowD g hg
    exact neTypeY hc hc' (by decide) rfl
/-- A row of pointers stays, where nodes and rows of numbers are written. -/
theorem ns_keep {w w' : World} {B n : Nat} {v : Value} {xs : List Value} {S : List Nat} (h : w.ownsRow B 43 1 v n xs) (hk : Keep S w w') (hS : ∀ g ∈ S, ∀ cs fr, w.heap[g]? ≠ some (.cells cs 43 fr)) : w'.ownsRow B 43 1 v n xs :=
  own_keep h hk (fun g hg hm => by obtain ⟨_, _, cs, hc⟩ := ownLt h g hg; exact hS g hm cs _ hc)
def Nd.ptr (d : Nd) : Value := .pointer (some ⟨d.b, 0, none⟩)
theorem zero3 (w : World) : (zeroValue 3).run Try.prog w = .ok (.int .i64 0) w := by kernel_rfl
theorem del_ds {P : Program} {W3 w w5 : World} {i k W gw cw : Nat} {ds : List Nd} {way : List Int} (h : DsAt P W3 w i ds way (.slice (some ⟨gw, 0, none⟩) W cw)) (hW : way.length = W) (hk : k < W) (k1 : Keep [gw] w w5) (ho : w5.ownsRow W3.heap.size 3 1 (.slice (some ⟨gw, 0, none⟩) (W - 1) cw) (W - 1) ((way.eraseIdx k).map (Value.int .i64))) : DsAt P W3 w5 i ds (way.take k ++ way.drop (k + 1)) (.slice (some ⟨gw, 0, none⟩) (W - 1) cw) ∧ (way.take k ++ way.drop (k + 1)).length = W - 1 := by
  have he : way.eraseIdx k = way.take k ++ way.drop (k + 1) := List.eraseIdx_eq_take_drop_succ way k
  have hl : (way.take k ++ way.drop (k + 1)).length = W - 1 := by have := cut_len (l := way) (k := k) (by omega); omega
  rw [he] at ho
  exact ⟨h.turn k1 (by rw [hl]; exact ho) (.inl rfl), hl⟩
theorem DsAt.mono' {P : Program} {w0 w : World} {i j : Nat} {ds : List Nd} {way : List Int} {v : Value} (h : DsAt P w0 w i ds way v) (hij : i ≤ j) : DsAt P w0 w j ds way v :=
  ⟨fun d hd => (h.ok d hd).keepR (Keep.refl [] w) (fun g _ hm => by cases hm) (fun x a n c ad _ _ hm => by cases hm) hij, h.apart, h.young, h.row, h.far, h.keep⟩
theorem came_ds {P : Program} {W3 w5 w6 w7 : World} {i j : Nat} {ds : List Nd} {way : List Int} {v vd6 : Value} {d : Nd} {N5 N6 : Nat} {came r : Int} {mk6 tl6 : Int → Bool} {due6 : List Int} (h : DsAt P W3 w5 i ds way v) (hd : ds[j]? = some d) (hN5 : N5 ≤ 100000000 + i * 80000000) (hN6 : N6 ≤ N5 + 80000000) (hc0 : 0 ≤ came) (hc1 : came ≤ i) (j6 : Keep [d.b, d.bM, d.bT] w5 w6) (j2 : NodeAt w6 P w5.heap.size d.b d.bR d.bM d.bT N6 d.f d.R mk6 tl6 due6 (came + 1) vd6) (k3 : Keep (d.b :: vd6.ownBlock.toList) w6 w7) (k1 : NodeAt w7 P w5.heap.size d.b d.bR d.bM d.bT N6 d.f d.R mk6 tl6 [] (came + 1) (.slice none 0 0)) : DsAt P W3 w7 (i + 1) (ds.set j ⟨d.b, d.bR, d.bM, d.bT, d.f, d.R, fun x => d.S x ∨ x = r, mk6, tl6⟩) way v := by
  have kt : Keep [d.b, d.bM, d.bT] w5 w7 := j6.call k3 (fun g hg => by
    simp only [List.mem_cons, Option.mem_toList] at hg
    rcases hg with rfl | hg
    · exact .inl (by simp)
    · exact .inr (ownLt j2.rowD g hg).1)
  refine h.came hd kt ⟨N6, came + 1, by omega, by omega, by omega, k1.lift kt.size⟩ rfl rfl
theorem d3_no43 {P : Program} {w : World} {i : Nat} {d : Nd} (h : NdOk P w i d) : ∀ g ∈ [d.b, d.bM, d.bT], ∀ cs fr, w.heap[g]? ≠ some (.cells cs 43 fr) := fun g hg cs fr hc => h.notCells hc (by decide) (by simp only [List.mem_cons, List.not_mem_nil, or_false] at hg; rcases hg with rfl | rfl | rfl <;> simp [Nd.bl])
theorem row_no43 {w : World} {B n : Nat} {v : Value} {xs : List Value} (h : w.ownsRow B 3 1 v n xs) : ∀ g ∈ v.ownBlock.toList, ∀ cs fr, w.heap[g]? ≠ some (.cells cs 43 fr) := fun g hg cs fr hc => by
  obtain ⟨_, _, cs', hc'⟩ := ownLt h g (by simpa using hg)
  exact neTypeY hc hc' (by decide) rfl
theorem ns_cell {w : World} {B m gn cv h : Nat} {ds : List Nd} {d : Nd} (ho : w.ownsRow B 43 1 (.slice (some ⟨gn, 0, none⟩) m cv) m (ds.map Nd.ptr)) (hm : 0 < m) (hd : ds[h]? = some d) : w.cell? ⟨gn, h, none⟩ = some (.pointer (some ⟨d.b, 0, none⟩)) := by
  obtain ⟨g, cap, hv, _, _, _, _, hc, _⟩ := own_cellN ho hm
  injection hv with h1 _ _
  injection h1 with h1
  injection h1 with h1 _ _
  rw [h1]
  exact hc h _ (by rw [List.getElem?_map, hd]; rfl)
theorem n_le {N i : Nat} (h : N ≤ 100000000 + i * 80000000) (hi : i ≤ 168) : N ≤ 100000000000000 := by omega
theorem c_le {c : Int} {i : Nat} (h : c ≤ i) (hi : i ≤ 168) : c ≤ 1000000 := by omega
theorem set_ptr {ds : List Nd} {h : Nat} {d d' : Nd} (hd : ds[h]? = some d) (hb : d'.b = d.b) : (ds.set h d').map Nd.ptr = ds.map Nd.ptr := by
  rw [List.map_set]
  refine List.ext_getElem? fun k => ?_
  rw [List.getElem?_set]
  split
  · rename_i hk
    subst hk
    rw [List.getElem?_map, hd, if_pos (by rw [List.length_map]; exact (List.getElem?_eq_some_iff.1 hd).1)]
    simp [Nd.ptr, hb]
  · rfl
theorem home_some {ks : List Kn} {hm : Int → Nat} {r : Int} (h : (refsR ks r).isSome = true) : homeF hm ks r = some (.int .i64 (hm r)) := by
  obtain ⟨k, hk, rfl⟩ := refsR_some.1 h
  unfold homeF
  rw [if_pos (List.mem_map.2 ⟨k, hk, rfl⟩)]
theorem home_none {ks : List Kn} {hm : Int → Nat} {r : Int} (h : refsR ks r = none) : homeF hm ks r = none := by
  unfold homeF
  rw [if_neg]
  intro hm2
  obtain ⟨k, hk, rfl⟩ := List.mem_map.1 hm2
  have := refsR_some.2 ⟨k, hk, rfl⟩
  rw [h] at this
  cases this
theorem parts0 (w : World) (m : Nat) (ks : List Kn) : PartsAt Try.prog w ((w.alloc (.cells (List.replicate m (Value.slice none 0 0)).toArray 34)).alloc (.map #[] 0)) w.heap.size (w.heap.size + 1) m ks 0 (fun _ => 0) (List.replicate m (Value.slice none 0 0)) := by
  have h1 := MapF.made (w.alloc (.cells (List.replicate m (Value.slice none 0 0)).toArray 34)) Try.prog 3
  rw [show (w.alloc (.cells (List.replicate m (Value.slice none 0 0)).toArray 34)).heap.size = w.heap.size + 1 by simp] at h1
  have hrep : ∀ (j : Nat) (v : Value), (List.replicate m (Value.slice none 0 0))[j]? = some v → v = .slice none 0 0 := fun j v h => by
    have := List.mem_of_getElem? h
    exact (List.mem_replicate.1 this).2
  refine ⟨by simp, ((Keep.refl [] _).alloc _).at (blk_new w _) (by simp), fun j v h => ?_, fun j k u v g h1 h2 h3 _ => ?_, h1, fun k hk => (by simp at hk), ((Keep.refl [] w).alloc _).alloc _⟩
  · rw [hrep j v h]
    simp only [List.take_zero, pf, List.filter_nil, knsC, List.flatMap_nil, List.length_nil]
    exact World.ownsRow_nil _ _ _ _
  · rw [hrep j u h1] at h3
    simp [Value.ownBlock] at h3
set_option maxRecDepth 100000 in
set_option maxHeartbeats 8000000 in
theorem cycleNodes_walk (ap : Option Addr) (len cap : Nat) (zs : List Int) (nd : Int) (ap2 : Option Addr) (len2 cap2 : Nat) (zs2 : List Int) (ap3 : Option Addr) (len3 cap3 : Nat) (zs3 : List Int) (w : World) (hz : IntsV w ap len cap zs) (hz2 : IntsV w ap2 len2 cap2 zs2) (hz3 : IntsV w ap3 len3 cap3 zs3) :
    Calls Try.prog 6 #[.slice ap len cap, .int .i64 nd, .slice ap2 len2 cap2, .slice ap3 len3 cap3] w fun e w' => e = .returned (.bool true) ∧ Keep [] w w' := by
  have HZ := Lib.hid hz
  have HZ2 := Lib.hid hz2
  have HZ3 := Lib.hid hz3
  obtain ⟨i3, hi3, hy0, hy1, hy2⟩ := infoY info3
  obtain ⟨i38, hi38, hs0, hs1, hs2⟩ := infoY info38
  obtain ⟨i43, hi43, hp0, hp1, hp2⟩ := infoY info43
  have hmm := @run_makeMap Try.prog
  have h2l := hz2.room
  have h2m := hz2.most
  rw [maxLit] at h2m
  have h3l := hz3.room
  have h3m := hz3.most
  rw [maxLit] at h3m
  clear hz hz2 hz3
  go_enter Try.func6, Try.ntmps6
  go_wp2_with (first | (with_reducible refine Txt.wp_region_text mixed quiet (by decide +kernel) ?_) | (with_reducible refine Txt.text_done (by kernel_rfl) ?_) | (go_at_call 19; (with_reducible refine begun19_any.mono ?_); rintro e w1 ⟨rfl, hk1⟩; have HK1 := Lib.hid hk1; clear hk1) | (go_at_call 20; (with_reducible refine (knows20_any (HZ.out.keep HK1.out (by simp))).mono ?_); rintro e w2 ⟨v, ks, rfl, ho2, hi2, hl2, hk2⟩; obtain ⟨a2, c2, rfl, hv2, -⟩ := KnsV.ofOwn ho2 (fun x hx => (hi2 x hx).1); have HV2 := Lib.hid hv2; have HL2 := Lib.hid hl2; have HK2 := Lib.hid (HK1.out.trans hk2); have hc2 := hv2.room; have hm2 := hv2.most; rw [maxLit] at hm2; have hf2 := hl2.few; clear ho2 hi2 hl2 hk2 hv2) | (go_at_call 23; (with_reducible refine (rest_ex _ _ _ (by omega) (by omega)).mono ?_); rintro e9 w9 ⟨q, rfl, hq, rfl⟩; obtain ⟨m, hm1, hm4, hw1, hw2⟩ := nodes_m hq; have HMK := @mk40' m hm4))
  clear hw1 hw2 HMK hmm
  have HP0 : Hid (PartsAt Try.prog w2 ((w2.alloc (.cells (List.replicate m (Value.slice none 0 0)).toArray 34)).alloc (.map #[] 0)) w2.heap.size (w2.heap.size + 1) m ks 0 (fun _ => 0) (List.replicate m (Value.slice none 0 0))) := Lib.hid (parts0 w2 m ks)
  obtain ⟨n, hn⟩ : ∃ n, ks.length = n := ⟨_, rfl⟩
  have HN := Lib.hid hn
  obtain ⟨bp, hbp⟩ : ∃ bp, w2.heap.size = bp := ⟨_, rfl⟩
  have HBP := Lib.hid hbp
  obtain ⟨bH, hbH⟩ : ∃ bH, bp + 1 = bH := ⟨_, rfl⟩
  have HBH := Lib.hid hbH
  rw [hn] at hc2 hf2 ⊢
  rw [hn] at HV2
  rw [hbp] at HP0 ⊢
  rw [hbH] at HP0 ⊢
  have h40 : Hid (w2.heap.size ≤ bp ∧ w2.heap.size ≤ bH) := Lib.hid (by omega)
  clear hn hbp hbH
  go_loopw [43] (fun j wr => ∃ (i : Nat) (hm : Int → Nat) (vs : List Value), i ≤ n ∧ j = .int .i64 i ∧ Hid (PartsAt Try.prog w2 wr bp bH m ks i hm vs)) (fun j _ => n - (intOf j).toNat)
  case atStart => exact ⟨0, _, _, by omega, rfl, HP0⟩
  case round =>
    clear HP0
    obtain ⟨i, hm, vs, hi, rfl, HP⟩ := hrel
    by_cases hlt : i < n
    · obtain ⟨x, hxi⟩ : ∃ x, ks[i]? = some x := ⟨_, List.getElem?_eq_getElem (by have := HN.out; omega)⟩
      obtain ⟨b1, off, hab, c0, c1, c2', c3⟩ := (HV2.out.keep0 HP.out.keep).at_ hxi
      obtain ⟨rt, hrt⟩ : ∃ rt, x.root = rt := ⟨_, rfl⟩
      obtain ⟨aw, haw⟩ : ∃ aw, x.awake = aw := ⟨_, rfl⟩
      obtain ⟨mm, hmm2⟩ : ∃ mm, x.refs.length = mm := ⟨_, rfl⟩
      obtain ⟨xr, hxr⟩ : ∃ xr, x.ref = xr := ⟨_, rfl⟩
      have HXI := Lib.hid hxi
      have HXR := Lib.hid hxr
      have HCE : Hid (x.cells = [.int .i64 xr, .bool aw, .bool rt, .slice x.ra mm x.rc]) := Lib.hid (by rw [← hrt, ← haw, ← hmm2, ← hxr]; rfl)
      rw [hrt] at c2'
      rw [haw] at c1
      rw [hmm2] at c3
      rw [hxr] at c0
      have HXW : Hid ((Lit.int .i64 xr).wf = true) := Lib.hid (by rw [← hxr]; exact (HV2.out.rows x (List.mem_of_getElem? hxi)).2.1)
      have hdec : decide ((i : Int) < (n : Int)) = true := by simp; omega
      obtain ⟨W1, hW1⟩ : ∃ W1, W1 = wr := ⟨_, rfl⟩
      subst hW1
      subst hab
      clear hxi hrt haw hmm2 hxr
      go_upto_if 51 with (first | (with_reducible refine Txt.wp_region_text mixed quiet (by decide +kernel) ?_) | (with_reducible refine Txt.text_done (by kernel_rfl) ?_))
      have HKA : Hid (Keep [] W1 (W1.alloc (.cells #[.int .i64 xr, .bool aw, .bool rt, .slice x.ra mm x.rc] 38))) := Lib.hid ((Keep.refl [] W1).alloc _)
      have HBX : Hid ((W1.alloc (.cells #[.int .i64 xr, .bool aw, .bool rt, .slice x.ra mm x.rc] 38)).heap[W1.heap.size]? = some (.cells #[.int .i64 xr, .bool aw, .bool rt, .slice x.ra mm x.rc] 38 (0, 0))) := Lib.hid (blk_new W1 _)
      obtain ⟨WA, hWA⟩ : ∃ WA, W1.alloc (.cells #[.int .i64 xr, .bool aw, .bool rt, .slice x.ra mm x.rc] 38) = WA := ⟨_, rfl⟩
      rw [hWA] at HKA HBX ⊢
      clear hWA
      go_cut [14] (fun v wx => ∃ q : Nat, q < m ∧ v = .int .i64 q ∧ wx = WA)
      case first =>
        by_cases hlw : i < len2
        · obtain ⟨b3, off3, hab3, hc3⟩ := (HZ2.out.keep ((HK2.out.trans HP.out.keep).trans HKA.out) (by simp)).cells (by omega)
          have hcw := hc3 i hlw
          obtain ⟨z, hz⟩ : ∃ z, zs2.getD i 0 = z := ⟨_, rfl⟩
          rw [hz] at hcw
          have hdec2 : decide ((i : Int) < (len2 : Int)) = true := by simp; omega
          subst hab3
          clear hc3 hz
          go_wp2_with (go_at_call 23; (with_reducible refine (rest_ex _ _ _ (by omega) (by omega)).mono ?_); rintro e9 w9 ⟨qd, rfl, hqd, rfl⟩)
          go_meet
          exact ⟨qd, by omega, rfl, rfl⟩
        · have hdec2 : decide ((i : Int) < (len2 : Int)) = false := by simp; omega
          go_wp2_with fail
          go_meet
          exact ⟨0, by omega, rfl, rfl⟩
      case rest =>
        obtain ⟨qn, hqn, rfl, rfl⟩ := hcut
        obtain ⟨v, hv⟩ : ∃ v, vs[qn]? = some v := ⟨_, List.getElem?_eq_getElem (by rw [HP.out.len]; exact hqn)⟩
        obtain ⟨L, hL⟩ : ∃ L, (pf hm qn (ks.take i)).length = L := ⟨_, rfl⟩
        have ho := HP.out.own qn v hv
        rw [hL] at ho
        have hL40 : L ≤ 40 := by rw [← hL]; have := pf_len hm qn (ks.take i); rw [List.length_take] at this; omega
        obtain ⟨av, cv, rfl, hcv1, hcv2, -⟩ := ownSlice ho
        rw [maxLit] at hcv2
        have hbl := HKA.out.at HP.out.blk (by simp)
        have hcp : wc.cell? ⟨bp, qn, none⟩ = some (.slice av L cv) := by rw [cellAt hbl]; simpa using hv
        have hzp := thaw hbl
        have hcpA : (wc.alloc (.cells #[.int .i64 xr, .bool aw, .bool rt, .slice x.ra mm x.rc] 38)).cell? ⟨bp, qn, none⟩ = some (.slice av L cv) := ((Keep.refl [] wc).alloc _).cell hcp (by simp)
        obtain ⟨x0, x1, x2, x3, hzx⟩ := row4 HBX.out
        have HOA : Hid ((wc.alloc (.cells #[.int .i64 xr, .bool aw, .bool rt, .slice x.ra mm x.rc] 38)).drew.ownsRow w2.heap.size 38 4 (.slice av L cv) L (knsC (pf hm qn (ks.take i)))) := Lib.hid (own_keep ho (HKA.out.trans (((Keep.refl [] wc).alloc _).drew)) (by simp))
        have HC4 : Hid (∀ u ∈ [Value.int .i64 xr, .bool aw, .bool rt, .slice x.ra mm x.rc], u.oneCell' = true) := Lib.hid (by intro u hu; simp at hu; rcases hu with rfl | rfl | rfl | rfl <;> rfl)
        have HB4 : Hid (w2.heap.size ≤ (wc.alloc (.cells #[.int .i64 xr, .bool aw, .bool rt, .slice x.ra mm x.rc] 38)).drew.heap.size) := Lib.hid (HP.out.keep.trans (HKA.out.trans (((Keep.refl [] wc).alloc _).drew))).size
        have HV := Lib.hid hv
        have HVA : Hid (vs.toArray[qn]? = some (.slice av L cv)) := Lib.hid (by simpa using hv)
        have HLE := Lib.hid hL
        clear hv hL ho hbl
        obtain ⟨bx, hbx⟩ : ∃ bx, W1.heap.size = bx := ⟨_, rfl⟩
        rw [hbx] at HBX x0 x1 x2 x3 hzx ⊢
        have HNX : Hid (bx ≠ bp) := Lib.hid (fun e => by have := lt_of_blk HP.out.blk; omega)
        have HNV : Hid (bx ∉ (Value.slice av L cv).ownBlock.toList) := Lib.hid (fun hm2 => by have := (ownLt (HP.out.own qn _ HV.out) bx (by simpa using hm2)).2.1; omega)
        have HNP : Hid (bp ∉ (Value.slice av L cv).ownBlock.toList) := Lib.hid (fun hm2 => by obtain ⟨_, _, cs, hc⟩ := ownLt (HP.out.own qn _ HV.out) bp (by simpa using hm2); exact neTypeY hc HP.out.blk (by decide) rfl)
        have HBL := Lib.hid (HKA.out.at HP.out.blk (by simp))
        have HMH := Lib.hid (HP.out.map.keep HKA.out (by simp))
        have HNH : Hid (bH ∉ (Value.slice av L cv).ownBlock.toList) := Lib.hid (fun hm2 => by obtain ⟨_, _, cs, hc⟩ := ownLt (HP.out.own qn _ HV.out) bH (by simpa using hm2); exact HP.out.map.notCells hc rfl)
        clear hbx
        go_wp2_with fail
        go_region_law (first | (refine step_append_lies _ rfl (.tmp 63) (.tmp 65) 34 rfl w2.heap.size 38 i38 (.agg #[.int .i64 0, .bool false, .bool false, .slice none 0 0]) 4 40 Try.underlying34 hi38 hs0 hs1 hs2 rfl (by decide) (.slice av L cv) L (knsC (pf hm qn (ks.take i))) (by simp [Act.eval]) HOA.out ⟨wc.heap.size, 0, none⟩ 1 1 [.int .i64 xr, .bool aw, .bool rt, .slice x.ra mm x.rc] (by simp [Act.eval]) rfl (cells_new wc [.int .i64 xr, .bool aw, .bool rt, .slice x.ra mm x.rc] 38 (0, 0)) HC4.out (by decide) (by unfold maxLen; omega) (by omega) HB4.out _ rfl ?_; intro g9 c9 w9 hown9 hgr9 hat9 hlt9; have hk9 : Keep (Value.slice av L cv).ownBlock.toList (wc.alloc (.cells #[.int .i64 xr, .bool aw, .bool rt, .slice x.ra mm x.rc] 38)).drew w9 := Keep.ofGrown hgr9 (fun x hx => by simp [hx]); have HK9 := Lib.hid hk9; have HO9 := Lib.hid hown9; have HA9 := Lib.hid hat9; have hbl9 := hk9.at ((((Keep.refl [] wc).alloc _).drew).at HBL.out (by simp)) HNP.out; have hcp9 := (cellAt hbl9 qn).trans HVA.out; have hzp9 := thaw hbl9; have hbx9 := hk9.at ((((Keep.refl [] wc).alloc _).drew).at HBX.out (by simp)) HNV.out; have HBX9 := Lib.hid hbx9; have HBL9 := Lib.hid hbl9; clear hown9 hbx9 hbl9 hgr9 hat9 hk9))
        all_goals
          have hbx10 : (w9.setCell ⟨bp, qn, none⟩ (.slice (some ⟨g9, 0, none⟩) (L + 1) c9)).heap[bx]? = some (.cells #[.int .i64 xr, .bool aw, .bool rt, .slice x.ra mm x.rc] 38 (0, 0)) := by rw [blk_setCell, if_neg (fun e => HNX.out e.symm)]; exact HBX9.out
          obtain ⟨y0, y1, y2, y3, hzy⟩ := row4 hbx10
          have hkq : Keep (bp :: (Value.slice av L cv).ownBlock.toList) wc (w9.setCell ⟨bp, qn, none⟩ (.slice (some ⟨g9, 0, none⟩) (L + 1) c9)) := ((((Keep.refl [] wc).alloc _).drew.more (by simp)).trans (HK9.out.more (by intro g hg; simp at hg ⊢; exact .inr hg))).setCell (.inl (by simp)) _
          obtain ⟨w10, hrun, hm10, hk10⟩ := update_run_f (v := .int .i64 qn) Try.underlying41 Try.underlying3 (HMH.out.keep hkq (by simp only [List.mem_cons, not_or]; exact ⟨HMH.out.notCells HBL.out, HNH.out⟩)) (by unfold maxLen; omega) HXW.out
          have HP10 := HP.out.step HL2.out HXI.out HV.out h40.out (HKA.out.trans ((Keep.refl [] wc).alloc _).drew) HK9.out (by rw [HLE.out, HCE.out]; exact HO9.out) (HA9.out.imp (fun h => h.symm) (fun h => by rw [h]; rfl)) hk10 (by rw [HXR.out]; exact hm10)
          have HP11 := Lib.hid HP10
          clear HP10 hkq hm10 hk10 hbx10
          go_wp2_with (first | (with_reducible refine Txt.wp_region_text mixed quiet (by decide +kernel) ?_) | (with_reducible refine Txt.text_done (by kernel_rfl) ?_))
          exact ⟨⟨i + 1, _, _, hlt, by go_num, HP11⟩, by simp [intOf]; omega⟩
    · obtain rfl : i = n := by omega
      have HTK : Hid (ks.take i = ks) := Lib.hid (List.take_of_length_le (by rw [HN.out]; exact Nat.le_refl _))
      have HM3 : Hid (MapF wr Try.prog 3 bH i (homeF hm ks)) := Lib.hid (by have := HP.out.map; rw [HTK.out] at this; exact this)
      have HOW : Hid (∀ (j : Nat) (v : Value), vs[j]? = some v → wr.ownsRow w2.heap.size 38 4 v (pf hm j ks).length (knsC (pf hm j ks))) := Lib.hid (fun j v hv => by have := HP.out.own j v hv; rw [HTK.out] at this; exact this)
      have HOM : Hid (∀ k ∈ ks, hm k.ref < m) := Lib.hid (fun k hk => HP.out.home k (by rw [HTK.out]; exact hk))
      have HBL := Lib.hid HP.out.blk
      have HVL := Lib.hid HP.out.len
      have HK3 := Lib.hid HP.out.keep
      have HV3 := Lib.hid (HV2.out.keep0 HP.out.keep)
      have hdecx : decide ((i : Int) < (i : Int)) = false := by simp
      obtain ⟨W3, hW3⟩ : ∃ W3, W3 = wr := ⟨_, rfl⟩
      subst hW3
      clear HP
      go_wp2_with (first | (with_reducible refine Txt.wp_region_text mixed quiet (by decide +kernel) ?_) | (with_reducible refine Txt.text_done (by kernel_rfl) ?_))
      have HD0 := Lib.hid (DsAt.start Try.prog W3)
      go_loopw [75, 15, 16] (fun j v u wr => ∃ (e : Nat) (ds : List Nd) (way : List Int) (av : Option Addr) (cv : Nat) (aw : Option Addr) (W cw : Nat), e ≤ m ∧ j = .int .i64 e ∧ v = .slice av e cv ∧ u = .slice aw W cw ∧ Hid (way.length = W) ∧ Hid (ds.length = e) ∧ Hid (DsInv ks hm ds way 0) ∧ Hid (DsAt Try.prog W3 wr 0 ds way (.slice aw W cw)) ∧ Hid (wr.ownsRow W3.heap.size 43 1 (.slice av e cv) e (ds.map Nd.ptr))) (fun j _ _ _ => m - (intOf j).toNat)
      case atStart => exact ⟨0, [], [], none, 0, none, 0, 0, by omega, rfl, rfl, rfl, Lib.hid rfl, Lib.hid rfl, Lib.hid (DsInv.start ks hm), HD0, Lib.hid (World.ownsRow_nil _ _ _ _)⟩
      case round =>
        clear HD0
        obtain ⟨e, ds, way, av, cv, aw, W, cw, he, rfl, rfl, rfl, HW, HDL, HI, HD, HNS⟩ := hrel
        obtain ⟨hcv1, hcv2⟩ := ownRoom HNS.out
        have hr1 := HD.out.row
        rw [HW.out] at hr1
        obtain ⟨hcw1, hcw2⟩ := ownRoom hr1
        have hW168 : W ≤ 168 := by rw [← HW.out]; have := HI.out.cnt; have := cntD_le ds; have := HDL.out; omega
        clear hr1
        by_cases hlt : e < m
        · obtain ⟨v, hv⟩ : ∃ v, vs[e]? = some v := ⟨_, List.getElem?_eq_getElem (by rw [HVL.out]; exact hlt)⟩
          obtain ⟨ap4, cp4, hve, hkv, -⟩ := KnsV.ofOwn (HOW.out e v hv) (fun x hx => HV3.out.rows x (pf_sub hx))
          subst hve
          have HKV := Lib.hid hkv
          have hpc := cellAt (HD.out.keep.at HBL.out (by simp)) e
          rw [List.getElem?_toArray, hv] at hpc
          obtain ⟨L, hL⟩ : ∃ L, (pf hm e ks).length = L := ⟨_, rfl⟩
          rw [hL] at hpc HKV
          have HL : Hid (L ≤ 400) := Lib.hid (by rw [← hL]; have := pf_len hm e ks; have := HN.out; omega)
          have hdec : decide ((e : Int) < (m : Int)) = true := by simp; omega
          obtain ⟨W4, hW4⟩ : ∃ W4, W4 = wr := ⟨_, rfl⟩
          subst hW4
          clear hkv hv hL
          have HWR := Lib.hid (by have h := HD.out.row; rw [HW.out] at h; exact h : W4.ownsRow W3.heap.size 3 1 (.slice aw W cw) W (way.map (Value.int .i64)))
          go_wp2_with (first | (with_reducible refine Txt.wp_region_text mixed quiet (by decide +kernel) ?_) | (with_reducible refine Txt.text_done (by kernel_rfl) ?_) | (go_at_call 25; (with_reducible refine (new25_fr (HKV.out.keep0 HD.out.keep) HL.out (fun k hk => Nat.le_trans (HL2.out.small k (pf_sub hk)) (by decide)) (pf_nodup HL2.out.nodup)).mono ?_); rintro e5 w5 ⟨H, b, bR, bM, bT, f, mk, tl, due, vd, rfl, h1, h2, h3, h4, h5, h6, h7, h8, h9, h10, h11⟩; have H1 := Lib.hid h1; have H2 := Lib.hid h2; have H3 := Lib.hid h3; have H4 := Lib.hid h4; have H5 := Lib.hid h5; have H6 := Lib.hid h6; have H7 := Lib.hid (And.intro h7 (And.intro h8 (And.intro h9 h10))); have H11 := Lib.hid h11; have HKA := Lib.hid (h4.alloc (.cells #[.pointer (some ⟨b, 0, none⟩)] 43)); have HNA := Lib.hid (own_keep HNS.out HKA.out (by simp)); have HBA := Lib.hid (Nat.le_trans HD.out.keep.size HKA.out.size); have HDU : Hid (due.length ≤ 42) := Lib.hid (due_len HL2.out (fun x hx => first_up hx) h2 h3); clear h1 h2 h3 h4 h5 h6 h7 h8 h9 h10 h11) | (at_builtin; refine wpList_append_lies _ rfl _ _ 42 rfl W3.heap.size 43 i43 (.pointer none) 1 8 Try.underlying42 hi43 hp0 hp1 hp2 rfl (by decide) (.slice av e cv) e (ds.map Nd.ptr) rfl HNA.out ⟨w5.heap.size, 0, none⟩ 1 1 [.pointer (some ⟨b, 0, none⟩)] rfl rfl (cells_new w5 [.pointer (some ⟨b, 0, none⟩)] 43 (0, 0)) one_ptr (by decide) (by unfold maxLen; omega) (by omega) HBA.out _ rfl ?_; intro g6 c6 w6 hown6 hgr6 hat6 hlt6; have hk6 : Keep (Value.slice av e cv).ownBlock.toList (w5.alloc (.cells #[.pointer (some ⟨b, 0, none⟩)] 43)) w6 := Keep.ofGrown hgr6 (fun x hx => by simp [hx]); have HK6 := Lib.hid hk6; have HO6 := Lib.hid hown6; have H1B := Lib.hid (keepNs (H1.out.keep0 ((Keep.refl [] w5).alloc (.cells #[.pointer (some ⟨b, 0, none⟩)] 43))) HNA.out hk6); clear hown6 hgr6 hat6 hk6) | (go_at_call 26; (with_reducible refine (out26_any H1B.out (Nat.le_trans HDU.out (by decide))).mono ?_); rintro e7 w7 ⟨v7, rfl, k1, k2, k3⟩; obtain ⟨a7, c7, rfl, hd1, hd2, -⟩ := ownSlice k2; rw [maxLit] at hd2; have hdu := HDU.out; have HD7 := Lib.hid (new_ds (S' := fun x => x ∈ firsts (pf hm e ks)) HD.out HNS.out HKA.out HK6.out H1B.out H5.out H7.out H11.out k3 k1 (Nat.le_refl _) (Nat.le_trans H6.out (Nat.le_trans ((Keep.refl [] w5).alloc (.cells #[.pointer (some ⟨b, 0, none⟩)] 43)).size (Nat.le_trans HK6.out.size k3.size)))); have HW7 := Lib.hid HD7.out.row; rw [HW.out] at HW7; have HB7 := Lib.hid HD7.out.keep.size; have HN7 := Lib.hid (ns_keep HO6.out k3 (nd_no43 H1B.out)); have K2 := Lib.hid k2; have HL7 : Hid (((sortI due).map (Value.int .i64)).length = due.length * 1) := Lib.hid (by rw [List.length_map, sortI_len, Nat.mul_one]); clear k1 k2 k3) | (at_builtin; refine wpList_append_any rfl _ _ 22 rfl W3.heap.size 3 i3 (.int .i64 0) 1 8 Try.underlying22 hi3 hy0 hy1 hy2 rfl (by decide) (.slice aw W cw) W (way.map (Value.int .i64)) rfl HW7.out a7 due.length c7 ((sortI due).map (Value.int .i64)) rfl HL7.out (own_news K2.out) one_ints (by unfold maxLen; omega) (by omega) HB7.out ?_; intro a8 c8 w8 hown8 hgr8 hat8; have HO8 := Lib.hid hown8; have HG8 := Lib.hid hgr8; have HA8 := Lib.hid hat8; clear hown8 hgr8 hat8))
          have hk8 : Keep (Value.slice aw W cw).ownBlock.toList w7 w8 := Keep.ofGrown HG8.out (fun x hx => by simp [hx])
          refine ⟨⟨e + 1, ds ++ [⟨b, bR, bM, bT, f, refsR (pf hm e ks), fun x => x ∈ firsts (pf hm e ks), mk, tl⟩], way ++ sortI due, some ⟨g6, 0, none⟩, c6, a8, W + due.length, c8, hlt, by go_num, rfl, rfl, Lib.hid (by rw [List.length_append, HW.out, sortI_len]), Lib.hid (by rw [List.length_append, HDL.out]; rfl), Lib.hid (HI.out.new HL2.out (by show refsR (pf hm e ks) = _; rw [HDL.out]) H2.out (fun x => by rw [HDL.out]) H3.out _ (sortI_perm due)), Lib.hid (HD7.out.turn hk8 ?_ HA8.out), Lib.hid ?_⟩, by simp [intOf]; omega⟩
          · rw [List.length_append, HW.out, sortI_len, List.map_append]
            exact HO8.out
          · rw [List.map_append]
            exact ns_keep HN7.out hk8 (fun g hg cs fr hc => by obtain ⟨_, _, cs', hc'⟩ := ownLt HW7.out g (by simpa using hg); exact neTypeY hc hc' (by decide) rfl)
        -- LOOP3
        · obtain rfl : e = m := by omega
          have hdec : decide ((e : Int) < (e : Int)) = false := by simp
          obtain ⟨gn, cpn, hve, hgnB, hgnl, -, -, -, hfn⟩ := own_cellN HNS.out (by omega)
          injection hve with hve _ hcc
          subst hve
          subst hcc
          go_wp2_with (first | (with_reducible refine Txt.wp_region_text mixed quiet (by decide +kernel) ?_) | (with_reducible refine Txt.text_done (by kernel_rfl) ?_))
          go_loopw [21, 16] (fun j u wr => ∃ (i2 : Nat) (ds2 : List Nd) (way2 : List Int) (aw2 : Option Addr) (W2 cw2 : Nat), i2 ≤ 168 ∧ j = .int .i64 i2 ∧ u = .slice aw2 W2 cw2 ∧ Hid (way2.length = W2) ∧ Hid (ds2.length = e) ∧ Hid (DsInv ks hm ds2 way2 i2) ∧ Hid (DsAt Try.prog W3 wr i2 ds2 way2 (.slice aw2 W2 cw2)) ∧ Hid (wr.ownsRow W3.heap.size 43 1 (.slice (some ⟨gn, 0, none⟩) e cv) e (ds2.map Nd.ptr))) (fun j _ _ => 169 - (intOf j).toNat)
          case atStart => exact ⟨0, ds, way, aw, W, cw, by omega, rfl, rfl, HW, HDL, HI, HD, HNS⟩
          case round =>
            clear HD HNS HI HDL HW hfn hcw1 hcw2 hW168
            obtain ⟨i2, ds2, way2, aw2, W2, cw2, hi2, rfl, rfl, HW, HDL, HI, HD, HNS⟩ := hrel
            have hr1 := HD.out.row
            rw [HW.out] at hr1
            obtain ⟨hcw1, hcw2⟩ := ownRoom hr1
            have hcnt : i2 + W2 ≤ 168 := by rw [← HW.out]; have := HI.out.cnt; have := cntD_le ds2; have := HDL.out; omega
            by_cases hw0 : W2 = 0
            · subst hw0
              obtain rfl : way2 = [] := List.eq_nil_of_length_eq_zero HW.out
              have hdec1 : decide (((0 : Nat) : Int) > 0) = false := by simp
              obtain ⟨W9, hW9⟩ : ∃ W9, W9 = wr := ⟨_, rfl⟩
              subst hW9
              have HGI : Hid (∀ left, LeftInv ds2 e left → IsGarb ks left) := Lib.hid (fun left h => by rw [← HDL.out] at h; exact h.garb HI.out (fun k hk => by rw [HDL.out]; exact HOM.out k hk))
              have he1 : 1 ≤ e := hm1
              go_wp2_with (first | (with_reducible refine Txt.wp_region_text mixed quiet (by decide +kernel) ?_) | (with_reducible refine Txt.text_done (by kernel_rfl) ?_))
              go_loopw [150, 26] (fun j u wr => ∃ (y : Nat) (left : List Int) (al : Option Addr) (L cl : Nat), y ≤ e ∧ j = .int .i64 y ∧ u = .slice al L cl ∧ Hid (left.length = L) ∧ L ≤ 400 * y ∧ Hid (LeftInv ds2 y left) ∧ Hid (∀ x ∈ left, (Lit.int .i64 x).wf = true) ∧ Hid (wr.ownsRow W9.heap.size 3 1 (.slice al L cl) L (left.map (Value.int .i64))) ∧ Hid (Keep [] W9 wr)) (fun j _ _ => e - (intOf j).toNat)
              case atStart => exact ⟨0, [], none, 0, 0, by omega, rfl, rfl, Lib.hid rfl, by omega, Lib.hid (LeftInv.start ds2), Lib.hid (fun x hx => by cases hx), Lib.hid (World.ownsRow_nil _ _ _ _), Lib.hid (Keep.refl _ _)⟩
              case round =>
                obtain ⟨y, left, al, L, cl, hy, rfl, rfl, HLL, hL4, HLI, HLW, HLO, HKL⟩ := hrel
                obtain ⟨hcl1, hcl2⟩ := ownRoom HLO.out
                by_cases hlt : y < e
                · obtain ⟨d, hd⟩ : ∃ d, ds2[y]? = some d := ⟨_, List.getElem?_eq_getElem (by rw [HDL.out]; exact hlt)⟩
                  have hdR := HI.out.R y d hd
                  have hnc := ns_cell (ns_keep HNS.out HKL.out (by simp)) (by omega) hd
                  obtain ⟨N5, came5, -, -, -, n4⟩ := (HD.out.keep0 HKL.out).ok d (List.mem_of_getElem? hd)
                  have NN4 := Lib.hid n4
                  have HDU : Hid (∀ x, (d.R x).isSome = true → x ∈ (pf hm y ks).map Kn.ref) := Lib.hid (fun x hx => refsR_univ x (by rw [← hdR]; exact hx))
                  have HU4 : Hid (((pf hm y ks).map Kn.ref).length ≤ 400) := Lib.hid (by rw [List.length_map]; have := pf_len hm y ks; have := HN.out; omega)
                  have HDD := Lib.hid hd
                  have hdec : decide ((y : Int) < (e : Int)) = true := by simp; omega
                  have HSB := Lib.hid (HKL.out.size)
                  obtain ⟨W4, hW4⟩ : ∃ W4, W4 = wr := ⟨_, rfl⟩
                  subst hW4
                  clear hd hdR n4
                  go_wp2_with (first | (with_reducible refine Txt.wp_region_text mixed quiet (by decide +kernel) ?_) | (with_reducible refine Txt.text_done (by kernel_rfl) ?_) | (go_at_call 29; (with_reducible refine (left29_few NN4.out HDU.out HU4.out).mono ?_); rintro e7 w7 ⟨out, v7, rfl, k1, k2, k3, k4, k5, k6, k7⟩; obtain ⟨a7, c7, rfl, hd1, hd2, -⟩ := ownSlice k1; rw [maxLit] at hd2; have hdu := k3; have HK7 := Lib.hid k2; have HW7 := Lib.hid (own_keep HLO.out k2 (by simp)); have HB7 := Lib.hid (Nat.le_trans HSB.out k2.size); have K2 := Lib.hid k1; have K4 := Lib.hid k4; have K6 := Lib.hid k6; have K7 := Lib.hid k7; have HL7 : Hid ((out.map (Value.int .i64)).length = out.length * 1) := Lib.hid (by rw [List.length_map, Nat.mul_one]); clear k1 k2 k3 k4 k5 k6 k7) | (at_builtin; refine wpList_append_any rfl _ _ 22 rfl W9.heap.size 3 i3 (.int .i64 0) 1 8 Try.underlying22 hi3 hy0 hy1 hy2 rfl (by decide) (.slice al L cl) L (left.map (Value.int .i64)) rfl HW7.out a7 out.length c7 (out.map (Value.int .i64)) rfl HL7.out (own_news K2.out) one_ints (by unfold maxLen; omega) (by omega) HB7.out ?_; intro a8 c8 w8 hown8 hgr8 hat8; have HO8 := Lib.hid hown8; have HG8 := Lib.hid hgr8; clear hown8 hgr8 hat8))
                  have hk8 : Keep (Value.slice al L cl).ownBlock.toList w7 w8 := Keep.ofGrown HG8.out (fun x hx => by simp [hx])
                  refine ⟨⟨y + 1, left ++ out, a8, L + out.length, c8, hlt, by go_num, rfl, Lib.hid (by rw [List.length_append, HLL.out]), by omega, Lib.hid (HLI.out.step HI.out HDD.out K4.out K7.out), Lib.hid (fun x hx => (List.mem_append.1 hx).elim (HLW.out x) (K6.out x)), Lib.hid (by rw [List.map_append]; exact HO8.out), Lib.hid ((HKL.out.trans HK7.out).call hk8 (fun g hg => .inr (ownLt HLO.out g (by simpa using hg)).1))⟩, by simp [intOf]; omega⟩
                · obtain rfl : y = e := by omega
                  have HGB := Lib.hid (HGI.out left HLI.out)
                  have hdec : decide ((y : Int) < (y : Int)) = false := by simp
                  have H16 := Lib.hid (sort16_any HLO.out (by omega))
                  have HKW := Lib.hid ((((HK2.out.trans HK3.out).trans HD.out.keep).trans HKL.out))
                  have HVX := Lib.hid (HV3.out.keep0 (HD.out.keep.trans HKL.out))
                  have HOB : Hid (∀ g, (Value.slice al L cl).ownBlock = some g → w.heap.size ≤ g) := Lib.hid (fun g hg => Nat.le_trans (((HK2.out.trans HK3.out).trans HD.out.keep)).size (ownLt HLO.out g hg).1)
                  have HOB2 : Hid (∀ g, (Value.slice al L cl).ownBlock = some g → W9.heap.size ≤ g) := Lib.hid (fun g hg => (ownLt HLO.out g hg).1)
                  have hkl : left.length = L := HLL.out
                  obtain ⟨W4, hW4⟩ : ∃ W4, W4 = wr := ⟨_, rfl⟩
                  subst hW4
                  clear hkl
                  go_wp2_with (first | (with_reducible refine Txt.wp_region_text mixed quiet (by decide +kernel) ?_) | (with_reducible refine Txt.text_done (by kernel_rfl) ?_) | (go_at_call 16; (with_reducible refine H16.out.mono ?_); rintro e7 w7 ⟨rfl, ho7, hk7⟩; have HK7 := Lib.hid (HKW.out.call hk7 (fun g hg => .inr (HOB.out g (by simpa using hg)))); have HV7 := Lib.hid (HV3.out.keep0 (HD.out.keep.trans (HKL.out.call hk7 (fun g hg => .inr (HOB2.out g (by simpa using hg)))))); obtain ⟨a', c', he', hiv7, -⟩ := IntsV.ofOwnB ho7 (fun x hx => HLW.out x ((sortI_perm left).mem_iff.1 hx)); have HIV7 : Hid (IntsV w7 al L cl (sortI left)) := Lib.hid (by injection he' with e1 e2 e3; rw [e1, e3]; exact hiv7); clear ho7 hk7 hiv7 he') | (go_at_call 21; (with_reducible refine (garbage21_any HV7.out (by omega) (fun k hk => Nat.le_trans (HL2.out.small k hk) (by decide)) HL2.out.nodup).mono ?_); rintro e8 w8 ⟨out, v8, rfl, h1, h2, h3, h4, h5, h6⟩; obtain ⟨a8, c8, rfl, hv8, -⟩ := IntsV.ofOwn h1 h5; have HV8 := Lib.hid hv8; have HK8 := Lib.hid (HK7.out.trans h2); have HIV8 := Lib.hid (HIV7.out.keep h2 (by simp)); have HEQ : Hid (decide (sortI left = out) = true) := Lib.hid (decide_eq_true (sorted_ext ((sortI_perm left).nodup_iff.2 HLI.out.nodup) h3 (sortI_sorted left) h4 (fun x => ((sortI_perm left).mem_iff).trans ((HGB.out x).trans (h6 x).symm)))); clear h1 h2 h3 h4 h5 h6 hv8) | (go_at_call 18; (with_reducible refine (equal18_any HIV8.out HV8.out).mono ?_); rintro e9 w9 ⟨rfl, hk9⟩; rw [HEQ.out]; have HK9 := Lib.hid (HK8.out.trans hk9); clear hk9))
                  go_ret
                  exact ⟨rfl, HK9.out⟩
            · have hdec1 : decide ((W2 : Int) > 0) = true := by simp; omega
              have hdec3 : decide ((i2 : Int) > 2000) = false := by simp; omega
              obtain ⟨W4, hW4⟩ : ∃ W4, W4 = wr := ⟨_, rfl⟩
              subst hW4
              obtain ⟨gw, cpw, hve, -, -, -, -, hcell, hfz⟩ := own_cellN hr1 (by omega)
              injection hve with hve _ hcc
              subst hve
              subst hcc
              go_upto_if 109 with (first | (with_reducible refine Txt.wp_region_text mixed quiet (by decide +kernel) ?_) | (with_reducible refine Txt.text_done (by kernel_rfl) ?_))
              go_cut [22] (fun v wx => ∃ k : Nat, k < W2 ∧ v = .int .i64 k ∧ wx = W4)
              case first =>
                by_cases hlw : i2 < len3
                · obtain ⟨b3, off3, hab3, hc3⟩ := (HZ3.out.keep ((HK2.out.trans HK3.out).trans HD.out.keep) (by simp)).cells (by omega)
                  have hcw := hc3 i2 hlw
                  obtain ⟨z, hz⟩ : ∃ z, zs3.getD i2 0 = z := ⟨_, rfl⟩
                  rw [hz] at hcw
                  have hdec2 : decide ((i2 : Int) < (len3 : Int)) = true := by simp; omega
                  subst hab3
                  clear hc3 hz
                  go_wp2_with (go_at_call 23; (with_reducible refine (rest_ex _ _ _ (by omega) (by omega)).mono ?_); rintro e9 w9 ⟨qd, rfl, hqd, rfl⟩)
                  go_meet
                  exact ⟨qd, by omega, rfl, rfl⟩
                · have hdec2 : decide ((i2 : Int) < (len3 : Int)) = false := by simp; omega
                  go_wp2_with fail
                  go_meet
                  exact ⟨0, by omega, rfl, rfl⟩
              case rest =>
                obtain ⟨k, hk, rfl, rfl⟩ := hcut
                obtain ⟨r, hr⟩ : ∃ r, way2[k]? = some r := ⟨_, List.getElem?_eq_getElem (by rw [HW.out]; exact hk)⟩
                have hcr := hcell k (.int .i64 r) (by rw [List.getElem?_map, hr]; rfl)
                have hnear := HI.out.near r (List.mem_of_getElem? hr)
                have HRW : Hid ((Lit.int .i64 r).wf = true) := Lib.hid (wf_small (by omega) (by omega))
                have HJ : Hid ((k : Int) + 1 = ((k + 1 : Nat) : Int)) := Lib.hid (by omega)
                have HR := Lib.hid hr
                have HRO := Lib.hid hr1
                clear hcell hr hnear hr1
                by_cases hro : (refsR ks r).isSome = true
                · obtain ⟨h, hh⟩ : ∃ h, hm r = h := ⟨_, rfl⟩
                  have HH : Hid (homeF hm ks r = some (.int .i64 h)) := Lib.hid (by rw [home_some hro, hh])
                  have hhe : h < e := by rw [← hh]; obtain ⟨kk, hkk, rfl⟩ := refsR_some.1 hro; exact HOM.out kk hkk
                  obtain ⟨d, hd⟩ : ∃ d, ds2[h]? = some d := ⟨_, List.getElem?_eq_getElem (by rw [HDL.out]; exact hhe)⟩
                  have HDD := Lib.hid hd
                  have HDM := Lib.hid (List.mem_of_getElem? hd)
                  have hdR := HI.out.R h d hd
                  have HDO : Hid ((d.R r).isSome = true) := Lib.hid (by rw [hdR, refsR_pf, if_pos hh]; exact hro)
                  have HDU : Hid (∀ x, (d.R x).isSome = true → x ∈ (pf hm h ks).map Kn.ref) := Lib.hid (fun x hx => refsR_univ x (by rw [← hdR]; exact hx))
                  have HU4 : Hid (((pf hm h ks).map Kn.ref).length ≤ 400) := Lib.hid (by rw [List.length_map]; have := pf_len hm h ks; have := HN.out; omega)
                  have HLV := Lib.hid (HI.out.lv h d hd)
                  have HSN : Hid (∀ x, (d.S x ∨ x = r) → SrR ks x) := Lib.hid (fun x hx => hx.elim (HI.out.snd h d hd x) (fun hx => by rw [hx]; exact HI.out.come r (List.mem_of_getElem? HR.out) hro))
                  have HDR := Lib.hid hdR
                  have HRS := Lib.hid hro
                  have HHE := Lib.hid hh
                  have he0 : 0 < e := by omega
                  clear hro hh hd hdR
                  go_wp2_with (first | (with_reducible refine Txt.wp_region_text mixed quiet (by decide +kernel) ?_) | (with_reducible refine Txt.text_done (by kernel_rfl) ?_) | (go_at_call 27; (refine (delete27_own HRO.out hk (Lib.hid rfl) HJ).mono ?_); rintro e5 w5 ⟨rfl, k1, k2⟩; have HD5 := Lib.hid (del_ds HD.out HW.out hk k1 k2); have HN5 := Lib.hid (ns_keep HNS.out k1 (fun g hg => row_no43 HRO.out g (by rw [List.mem_singleton.1 hg]; simp [Value.ownBlock]))); have HM5 := Lib.hid (HM3.out.keep HD5.out.1.keep (by simp)); have hnc5 := ns_cell HN5.out he0 HDD.out; obtain ⟨N5, came5, n1, n2, n3, n4⟩ := HD5.out.1.ok d HDM.out; have NN1 := Lib.hid n1; have NN2 := Lib.hid n2; have NN3 := Lib.hid n3; have NN4 := Lib.hid n4; clear k1 k2 n1 n2 n3 n4) | (at_lookup; refine wpList_lookup_f2 _ rfl _ _ 41 rfl 3 3 Try.underlying41 Try.underlying3 _ (zero3 _) bH _ (homeF hm ks) rfl HM5.out r rfl HRW.out ?_; rw [HH.out]) | (go_at_call 28; (with_reducible refine (come28_any NN4.out HLV.out HDO.out HRW.out HDU.out HU4.out (n_le NN1.out hi2) NN2.out (c_le NN3.out hi2) (Nat.le_refl _)).mono ?_); rintro e6 w6 ⟨N6, mk6, tl6, due6, vd6, rfl, j1, j2, j3, j4, j5, j6⟩; have J1 := Lib.hid j1; have J2 := Lib.hid j2; have J3 := Lib.hid j3; have J4 := Lib.hid j4; have J6 := Lib.hid j6; have HN6 := Lib.hid (ns_keep HN5.out j6 (d3_no43 (HD5.out.1.ok d HDM.out))); have hnc6 := ns_cell HN6.out he0 HDD.out; have HDU6 : Hid (due6.length ≤ 42) := Lib.hid (due_len HL2.out HSN.out (by rw [← HDR.out]; exact j3) j4); clear j1 j2 j3 j4 j5 j6) | (go_at_call 26; (with_reducible refine (out26_any J2.out (Nat.le_trans HDU6.out (by decide))).mono ?_); rintro e7 w7 ⟨v7, rfl, k1, k2, k3⟩; obtain ⟨a7, c7, rfl, hd1, hd2, -⟩ := ownSlice k2; rw [maxLit] at hd2; have hdu := HDU6.out; have HD7 := Lib.hid (came_ds (r := r) HD5.out.1 HDD.out NN1.out J1.out NN2.out NN3.out J6.out J2.out k3 k1); have HW7 := Lib.hid HD7.out.row; rw [HD5.out.2] at HW7; have HB7 := Lib.hid HD7.out.keep.size; have HN7 := Lib.hid (ns_keep HN6.out k3 (nd_no43 J2.out)); have K2 := Lib.hid k2; have HL7 : Hid (((sortI due6).map (Value.int .i64)).length = due6.length * 1) := Lib.hid (by rw [List.length_map, sortI_len, Nat.mul_one]); clear k1 k2 k3) | (at_builtin; refine wpList_append_any rfl _ _ 22 rfl W3.heap.size 3 i3 (.int .i64 0) 1 8 Try.underlying22 hi3 hy0 hy1 hy2 rfl (by decide) (.slice (some ⟨gw, 0, none⟩) (W2 - 1) cw2) (W2 - 1) ((way2.take k ++ way2.drop (k + 1)).map (Value.int .i64)) rfl HW7.out a7 due6.length c7 ((sortI due6).map (Value.int .i64)) rfl HL7.out (own_news K2.out) one_ints (by unfold maxLen; omega) (by omega) HB7.out ?_; intro a8 c8 w8 hown8 hgr8 hat8; have HO8 := Lib.hid hown8; have HG8 := Lib.hid hgr8; have HA8 := Lib.hid hat8; clear hown8 hgr8 hat8))
                  have hk8 : Keep (Value.slice (some ⟨gw, 0, none⟩) (W2 - 1) cw2).ownBlock.toList w7 w8 := Keep.ofGrown HG8.out (fun x hx => by simp [hx])
                  refine ⟨⟨i2 + 1, ds2.set h ⟨d.b, d.bR, d.bM, d.bT, d.f, d.R, fun x => d.S x ∨ x = r, mk6, tl6⟩, (way2.take k ++ way2.drop (k + 1)) ++ sortI due6, a8, W2 - 1 + due6.length, c8, by omega, by go_num, rfl, Lib.hid (by rw [List.length_append, HD5.out.2, sortI_len]), Lib.hid (by rw [List.length_set]; exact HDL.out), Lib.hid ?_, Lib.hid (HD7.out.turn hk8 ?_ HA8.out), Lib.hid ?_⟩, by simp [intOf]; omega⟩
                  · have hcm := HI.out.came (d := d) (d' := ⟨d.b, d.bR, d.bM, d.bT, d.f, d.R, fun x => d.S x ∨ x = r, mk6, tl6⟩) HL2.out HR.out HRS.out (by rw [HHE.out]; exact HDD.out) rfl (fun x => Iff.rfl) J3.out J4.out _ (sortI_perm due6)
                    rw [HHE.out] at hcm
                    exact hcm
                  · rw [List.length_append, HD5.out.2, sortI_len, List.map_append]
                    exact HO8.out
                  · rw [set_ptr (d' := ⟨d.b, d.bR, d.bM, d.bT, d.f, d.R, fun x => d.S x ∨ x = r, mk6, tl6⟩) HDD.out rfl]
                    exact ns_keep HN7.out hk8 (row_no43 HW7.out)
                · have hro2 : refsR ks r = none := by cases hx : refsR ks r <;> simp_all
                  have HH : Hid (homeF hm ks r = none) := Lib.hid (home_none hro2)
                  have HRN := Lib.hid hro2
                  clear hro hro2
                  go_wp2_with (first | (with_reducible refine Txt.wp_region_text mixed quiet (by decide +kernel) ?_) | (with_reducible refine Txt.text_done (by kernel_rfl) ?_) | (go_at_call 27; (refine (delete27_own HRO.out hk (Lib.hid rfl) HJ).mono ?_); rintro e5 w5 ⟨rfl, k1, k2⟩; have HD5 := Lib.hid (del_ds HD.out HW.out hk k1 k2); have HN5 := Lib.hid (ns_keep HNS.out k1 (fun g hg => row_no43 HRO.out g (by rw [List.mem_singleton.1 hg]; simp [Value.ownBlock]))); have HM5 := Lib.hid (HM3.out.keep HD5.out.1.keep (by simp)); clear k1 k2) | (at_lookup; refine wpList_lookup_f2 _ rfl _ _ 41 rfl 3 3 Try.underlying41 Try.underlying3 _ (zero3 _) bH _ (homeF hm ks) rfl HM5.out r rfl HRW.out ?_; rw [HH.out]))
                  exact ⟨⟨i2 + 1, ds2, _, some ⟨gw, 0, none⟩, W2 - 1, cw2, by omega, by go_num, rfl, Lib.hid HD5.out.2, HDL, Lib.hid (HI.out.lost HR.out HRN.out), Lib.hid (DsAt.mono' HD5.out.1 (Nat.le_succ _)), HN5⟩, by simp [intOf]; omega⟩
end Go.Proofs.Ytmedldloilbmeaa
