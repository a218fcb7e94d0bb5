import Derived.Test.YtmkdppbnmogmlaaG13
import Derived.Test.YtmkdppbnmogmlaaGP8
namespace Go.Proofs.Ytmkdppbnmogmlaa
open Go.RowKit
/-- Four nodes and two more in memory. -/
structure Quad (w : World) (b off c lo : Nat) (bs : List Nat) (gs : List Gs) (ba bb : Nat) (ga gb : Gs) : Prop where
  net : NetAt w (some ⟨b, off, none⟩) 4 c bs gs lo
  a : GAt 55 w ba ga
  b' : GAt 55 w bb gb
  ne : ba ≠ bb
  na : ba ∉ bs
  nb : bb ∉ bs
  sa : b ≠ ba
  sb : b ≠ bb
theorem Quad.keep {w w' : World} {b off c lo ba bb : Nat} {bs : List Nat} {gs : List Gs} {ga gb : Gs} (q : Quad w b off c lo bs gs ba bb ga gb) (k : Keep [] w w') : Quad w' b off c lo bs gs ba bb ga gb :=
  ⟨q.net.keep k, q.a.keep k (by simp), q.b'.keep k (by simp), q.ne, q.na, q.nb, q.sa, q.sb⟩
theorem NetAt.far {w w' : World} {b off n c lo : Nat} {bs : List Nat} {gs : List Gs} (h : NetAt w (some ⟨b, off, none⟩) n c bs gs lo) {x : Nat} (k : Keep [x] w w') (hx : x ∉ bs) (hb : b ≠ x) : NetAt w' (some ⟨b, off, none⟩) n c bs gs lo :=
  ⟨h.p.keep k (fun y hy => by cases hy; simpa using hb), h.pa, h.nd, h.lo, h.lg, fun i hi => (h.at_ i hi).keep k (by
    have := h.mem hi
    intro hm
    simp at hm
    exact hx (hm ▸ this))⟩
theorem Quad.putA {w w' : World} {b off c lo ba bb : Nat} {bs : List Nat} {gs : List Gs} {ga ga' gb : Gs} (q : Quad w b off c lo bs gs ba bb ga gb) (k : Keep [ba] w w') (hg : GAt 55 w' ba ga') : Quad w' b off c lo bs gs ba bb ga' gb :=
  ⟨q.net.far k q.na q.sa, hg, q.b'.keep k (by simpa using q.ne.symm), q.ne, q.na, q.nb, q.sa, q.sb⟩
theorem Quad.putB {w w' : World} {b off c lo ba bb : Nat} {bs : List Nat} {gs : List Gs} {ga gb gb' : Gs} (q : Quad w b off c lo bs gs ba bb ga gb) (k : Keep [bb] w w') (hg : GAt 55 w' bb gb') : Quad w' b off c lo bs gs ba bb ga gb' :=
  ⟨q.net.far k q.nb q.sb, q.a.keep k (by simpa using q.ne), hg, q.ne, q.na, q.nb, q.sa, q.sb⟩
theorem equal_any' {a a' : Option Addr} {n n' c c' : Nat} {ls ls' : List Ln} {w : World} (h : LnsV w a n c ls) (h' : LnsV w a' n' c' ls') (he : ls = ls') :
    Calls Try.prog 19 #[.slice a n c, .slice a' n' c'] w fun e w' => e = .returned (.bool true) ∧ Keep [] w w' := by
  subst he
  have : n' = n := by rw [← h.len, ← h'.len]
  subst this
  exact equal_same h h'
set_option maxRecDepth 100000 in
set_option maxHeartbeats 4000000 in
theorem gossipJoin_walk (pa : Option Addr) (len cap : Nat) (zs : List Int) (y : Int) (w : World) (hv : IntsV w pa len cap zs) :
    Calls Try.prog 5 #[.slice pa len cap, .int .i64 y] w fun e w' => e = .returned (.bool true) ∧ Keep [] w w' := by
  obtain ⟨p, hp, hp1⟩ := rest_nat y 4 (by omega)
  have HPR := Lib.hid hp
  have HV := Lib.hid hv
  have HN4 : Hid ((4 : Int) = ((4 : Nat) : Int)) := Lib.hid rfl
  have HM8 : Hid ((8 : Int) = ((8 : Nat) : Int)) := Lib.hid rfl
  clear hv hp
  go_enter Try.func5, Try.ntmps5
  go_wp2_with (first | (go_at_call 9; refine (begun_any _).mono ?_; rintro e w0 ⟨rfl, hk0⟩) | (go_at_call 11; refine (net_any HN4 _ (by omega) (by omega) (by omega) (by omega)).mono ?_; rintro e w1 ⟨a, c, bs, rfl, hk1, hnet⟩; have HN := Lib.hid hnet; clear hnet; have HLO := Lib.hid HN.out.lo; have hkw1 : Keep [] w w1 := hk0.call hk1 (by simp); have HPB : Hid (0 < len → ∀ x, pa = some x → x.block ∉ bs) := Lib.hid (fun h0 x hx hm => by { have h1 := HLO.out _ hm; obtain ⟨b2, off2, he, hc2⟩ := HV.out.cells h0; have h2 := World.block_lt_of_cell? w _ (hc2 0 h0); have h3 := hk0.size; rw [hx] at he; cases he; dsimp only at h1 h2; omega })) | (go_at_call 16; refine (chatter_any HN.out (starts_net 4 5 (by omega) (by omega) (by omega)) (by omega) (by omega) (HV.out.keep hkw1 (by simp)) HPB.out).mono ?_; rintro e w2 ⟨rfl, hk2, hn2⟩; have HN2 := Lib.hid hn2; clear hn2; have tokA : True := trivial) | (go_at_call 17; have _tk := tokA; refine (new_any HM8 _ (by omega) (by omega) (by omega) (by omega)).mono ?_; rintro e w3 ⟨ba, rfl, hba, hba2, hk3, hga⟩; have HGA := Lib.hid hga; clear hga tokA _tk) | (go_at_call 17; refine (new_any HM8 _ (by omega) (by omega) (by omega) (by omega)).mono ?_; rintro e w4 ⟨bb, rfl, hbb, hbb2, hk4, hgb⟩; have HGB := Lib.hid hgb; clear hgb) | (with_reducible refine Txt.wp_region_text mixed quiet (by decide +kernel) ?_) | (with_reducible refine Txt.text_done (by kernel_rfl) ?_))
  obtain ⟨b, off, rfl, _⟩ := HN.out.p.cells (by omega)
  have hkb : Keep [] w w2 := hkw1.call hk2 (fun x hx => .inr (by have := HLO.out x hx; have := hk0.size; omega))
  have hkw4 : Keep [] w w4 := (hkb.call hk3 (by simp)).call hk4 (by simp)
  have hbig : ∀ x, x < w2.heap.size → x ≠ ba ∧ x ≠ bb := fun x hx => by have := hk3.size; omega
  have hbs2 : ∀ i, i < 4 → bs.getD i 0 < w2.heap.size := fun i hi => (HN2.out.at_ i hi).lt
  have hbb0 : b < w2.heap.size := by
    obtain ⟨b', off', he, hc'⟩ := HN2.out.p.cells (by omega)
    cases he
    exact World.block_lt_of_cell? w2 _ (hc' 0 (by omega))
  have hnb := hbig b hbb0
  have hab : ba ≠ bb := by omega
  have HOKN := Lib.hid (chatL_ok (by omega) (zs.take 150) (starts_net 4 5 (by omega) (by omega) (by omega)) (by simp; omega))
  have hB : (0 : Int) + ((zs.take 150).length : Int) ≤ 150 := by simp; omega
  have hnm : ∀ x ∈ bs, x ≠ ba ∧ x ≠ bb := fun x hx => by
    obtain ⟨i, hi, rfl⟩ := List.getElem_of_mem hx
    have hl := HN2.out.p.len
    have h9 := hbig _ (hbs2 i (by omega))
    rwa [List.getD_eq_getElem?_getD, List.getElem?_eq_getElem hi] at h9
  have HQ := Lib.hid (show Quad w4 b off c w0.heap.size bs (chatL (starts 4 5) (zs.take 150)) ba bb (newG 8 5 8) (newG 8 5 8) from ⟨(HN2.out.keep hk3).keep hk4, HGA.out.keep hk4 (by simp), HGB.out, hab, fun hm => (hnm _ hm).1 rfl, fun hm => (hnm _ hm).2 rfl, hnb.1, hnb.2⟩)
  have hfa : ∀ z ∈ [ba], z ∈ ([] : List Nat) ∨ w.heap.size ≤ z := by have := hkb.size; intro z hz; simp at hz; omega
  have hfb : ∀ z ∈ [bb], z ∈ ([] : List Nat) ∨ w.heap.size ≤ z := by have := hkb.size; have := hk3.size; intro z hz; simp at hz; omega
  have HFA := Lib.hid hfa
  have HFB := Lib.hid hfb
  clear hfa hfb hbig hbs2 hbb0 hkb hk0 hk1 hk2 hk3 hk4 HN HN2 HGA HGB hkw1 HPB
  generalize chatL (starts 4 5) (zs.take 150) = gs at *
  generalize (0 : Int) + ((zs.take 150).length : Int) = B0 at *
  have HOK := Lib.hid (HOKN.out.more (B' := 150) hB (by omega))
  clear hnm hnb hab
  go_loopw [42] (fun i wr => ∃ (k : Nat) (ga gb : Gs) (Sb : Nat → Prop), k ≤ 4 ∧ i = .int .i64 k ∧ Keep [] w wr ∧ Hid (Quad wr b off c w0.heap.size bs gs ba bb ga gb) ∧ Hid (Heard gs (fun x => x < k) (150 + 2 * (k : Int)) ga) ∧ Hid (Heard gs Sb (150 + 2 * (k : Int)) gb) ∧ Hid (∀ x, x < k → Sb (3 - x))) (fun i _ => 4 - (intOf i).toNat)
  case atStart => exact ⟨0, newG 8 5 8, newG 8 5 8, fun _ => False, by omega, rfl, hkw4, HQ, (heard_start gs).congr (fun k => ⟨fun h => absurd (show k < 0 from h) (by omega), fun h => h.elim⟩) (by omega) (by omega), (heard_start gs).congr (fun k => Iff.rfl) (by omega) (by omega), fun x hx => absurd hx (by omega)⟩
  case round =>
    obtain ⟨k, ga, gb, Sb, hk, rfl, hkw, HQ1, HA, HB, HS⟩ := hrel
    by_cases hlt : k < 4
    · obtain ⟨j, hj⟩ : ∃ j, j = 3 - k := ⟨_, rfl⟩
      obtain ⟨_, _, he1, hcs⟩ := HQ1.out.net.p.cells (by omega)
      cases he1
      have hck := hcs k hlt
      have hcj := hcs j (by omega)
      have hgk := HQ1.out.net.at_ k hlt
      have hgj := HQ1.out.net.at_ j (by omega)
      have HOk := Lib.hid (HOK.out.ok k hlt)
      have HOj := Lib.hid (HOK.out.ok j (by omega))
      have hdj : (3 : Int) - (k : Int) = ((j : Nat) : Int) := by omega
      have hkj : k + j = 3 := by omega
      obtain ⟨bk, hbk⟩ : ∃ bk, bs.getD k 0 = bk := ⟨_, rfl⟩
      obtain ⟨bj, hbj⟩ : ∃ bj, bs.getD j 0 = bj := ⟨_, rfl⟩
      rw [hbk] at hck hgk
      rw [hbj] at hcj hgj
      have HBK := Lib.hid hbk
      have HBJ := Lib.hid hbj
      have HGK := Lib.hid hgk
      have HGJ := Lib.hid hgj
      have HKJ := Lib.hid hj
      clear hcs hgk hgj hbk hbj hj
      have tok1 : True := trivial
      have hb2 : ∀ i, i < 4 → ∃ x, bs.getD i 0 = x := fun i _ => ⟨_, rfl⟩
      clear hb2
      by_cases hkp : k = p
      · subst hkp
        go_wp2_with (first | (go_at_call 10; (with_reducible refine (rest_at HPR (by omega) (by omega)).mono ?_); rintro e w' ⟨rfl, rfl⟩) | (with_reducible refine Txt.wp_region_text mixed quiet (by decide +kernel) ?_) | (with_reducible refine Txt.text_done (by kernel_rfl) ?_) | (go_at_call 15; have _t := tok1; refine (state_full (by first | exact HGK.out | exact HGK.out.drew) HOk.out.2 (by omega)).mono ?_; rintro e w5 ⟨sa5, sc5, rfl, hk5d, hls5, hsb5⟩; have hk5 : Keep [] wr w5 := (by first | exact hk5d | exact (Keep.refl _ _).drew.trans hk5d); clear hk5d; have HQ5 := Lib.hid (HQ1.out.keep hk5); have HSB5 : Hid (∀ x, sa5 = some x → x.block ≠ ba ∧ x.block ≠ bb) := Lib.hid (fun x hx => by have h9 : wr.heap.size ≤ x.block := hsb5 x hx; have := HQ1.out.a.lt; have := HQ1.out.b'.lt; omega); have HLS5 := Lib.hid hls5; have tok2 : True := trivial; clear tok1 _t hls5 hsb5) | (go_at_call 18; have _t := tok2; refine (merge_any HQ5.out.a HLS5.out (rows_ok HOk.out.1) (fun x hx => (HSB5.out x hx).1)).mono ?_; rintro e w6 ⟨rfl, hk6, hg6⟩; have HQ6 := Lib.hid (HQ5.out.putA hk6 hg6); have tok3 : True := trivial; clear tok2 _t hg6) | (go_at_call 15; have _t := tok3; refine (state_full (by have h9 := HQ6.out.net.at_ j (by omega); rw [HBJ.out] at h9; exact h9) HOj.out.2 (by omega)).mono ?_; rintro e w7 ⟨sa7, sc7, rfl, hk7d, hls7, hsb7⟩; have hk7 : Keep [] w6 w7 := (by first | exact hk7d | exact (Keep.refl _ _).drew.trans hk7d); clear hk7d; have HQ7 := Lib.hid (HQ6.out.keep hk7); have HSB7 : Hid (∀ x, sa7 = some x → x.block ≠ ba ∧ x.block ≠ bb) := Lib.hid (fun x hx => by have h9 : w6.heap.size ≤ x.block := hsb7 x hx; have := HQ6.out.a.lt; have := HQ6.out.b'.lt; omega); have HLS7 := Lib.hid hls7; have tok4 : True := trivial; clear tok3 _t hls7 hsb7) | (go_at_call 18; have _t := tok4; refine (merge_any HQ7.out.b' HLS7.out (rows_ok HOj.out.1) (fun x hx => (HSB7.out x hx).2)).mono ?_; rintro e w8 ⟨rfl, hk8, hg8⟩; have HQ8 := Lib.hid (HQ7.out.putB hk8 hg8); have tok5 : True := trivial; clear tok4 _t hg8; have hck8 : w8.cell? ⟨b, off + k, none⟩ = some (.pointer (some ⟨bk, 0, none⟩)) := (by obtain ⟨_, _, he9, hc9⟩ := HQ8.out.net.p.cells (by omega); cases he9; have h9 := hc9 k hlt; rw [HBK.out] at h9; exact h9)) | (go_at_call 15; have _t := tok5; refine (state_full (by have h9 := HQ8.out.net.at_ k hlt; rw [HBK.out] at h9; first | exact h9 | exact h9.drew) HOk.out.2 (by omega)).mono ?_; rintro e w9 ⟨sa9, sc9, rfl, hk9d, hls9, hsb9⟩; have hk9 : Keep [] w8 w9 := (by first | exact hk9d | exact (Keep.refl _ _).drew.trans hk9d); clear hk9d; have HQ9 := Lib.hid (HQ8.out.keep hk9); have HSB9 : Hid (∀ x, sa9 = some x → x.block ≠ ba ∧ x.block ≠ bb) := Lib.hid (fun x hx => by have h9 : w8.heap.size ≤ x.block := hsb9 x hx; have := HQ8.out.a.lt; have := HQ8.out.b'.lt; omega); have HLS9 := Lib.hid hls9; have tok6 : True := trivial; clear tok5 _t hls9 hsb9) | (go_at_call 18; have _t := tok6; refine (merge_any HQ9.out.b' HLS9.out (rows_ok HOk.out.1) (fun x hx => (HSB9.out x hx).2)).mono ?_; rintro e w10 ⟨rfl, hk10, hg10⟩; have HQ10 := Lib.hid (HQ9.out.putB hk10 hg10); have tok7 : True := trivial; clear tok6 _t hg10))
        go_roundw
        case measure => simp [intOf]; omega
        case rel =>
          have hko : Keep [] w w10 := (((((hkw.trans hk5).call hk6 HFA.out).trans hk7).call hk8 HFB.out).call hk9 (by simp)).call hk10 HFB.out
          refine ⟨k + 1, _, _, _, by omega, by go_num, hko, HQ10, Lib.hid ((HA.out.hear HOK.out (by omega) (by omega) hlt).congr (fun x => by show x < k + 1 ↔ x < k ∨ x = k; omega) (by omega) (by omega)), Lib.hid (((HB.out.hear HOK.out (by omega) (by omega) (show j < 4 by omega)).hear HOK.out (by omega) (by omega) hlt).congr (fun x => Iff.rfl) (by omega) (by omega)), Lib.hid (fun x hx => ?_)⟩
          by_cases e : x = k
          · exact .inl (.inr (by omega))
          · exact .inl (.inl (HS.out x (by omega)))
      · go_wp2_with (first | (go_at_call 10; (with_reducible refine (rest_at HPR (by omega) (by omega)).mono ?_); rintro e w' ⟨rfl, rfl⟩) | (with_reducible refine Txt.wp_region_text mixed quiet (by decide +kernel) ?_) | (with_reducible refine Txt.text_done (by kernel_rfl) ?_) | (go_at_call 15; have _t := tok1; refine (state_full (by first | exact HGK.out | exact HGK.out.drew) HOk.out.2 (by omega)).mono ?_; rintro e w5 ⟨sa5, sc5, rfl, hk5d, hls5, hsb5⟩; have hk5 : Keep [] wr w5 := (by first | exact hk5d | exact (Keep.refl _ _).drew.trans hk5d); clear hk5d; have HQ5 := Lib.hid (HQ1.out.keep hk5); have HSB5 : Hid (∀ x, sa5 = some x → x.block ≠ ba ∧ x.block ≠ bb) := Lib.hid (fun x hx => by have h9 : wr.heap.size ≤ x.block := hsb5 x hx; have := HQ1.out.a.lt; have := HQ1.out.b'.lt; omega); have HLS5 := Lib.hid hls5; have tok2 : True := trivial; clear tok1 _t hls5 hsb5) | (go_at_call 18; have _t := tok2; refine (merge_any HQ5.out.a HLS5.out (rows_ok HOk.out.1) (fun x hx => (HSB5.out x hx).1)).mono ?_; rintro e w6 ⟨rfl, hk6, hg6⟩; have HQ6 := Lib.hid (HQ5.out.putA hk6 hg6); have tok3 : True := trivial; clear tok2 _t hg6) | (go_at_call 15; have _t := tok3; refine (state_full (by have h9 := HQ6.out.net.at_ j (by omega); rw [HBJ.out] at h9; exact h9) HOj.out.2 (by omega)).mono ?_; rintro e w7 ⟨sa7, sc7, rfl, hk7d, hls7, hsb7⟩; have hk7 : Keep [] w6 w7 := (by first | exact hk7d | exact (Keep.refl _ _).drew.trans hk7d); clear hk7d; have HQ7 := Lib.hid (HQ6.out.keep hk7); have HSB7 : Hid (∀ x, sa7 = some x → x.block ≠ ba ∧ x.block ≠ bb) := Lib.hid (fun x hx => by have h9 : w6.heap.size ≤ x.block := hsb7 x hx; have := HQ6.out.a.lt; have := HQ6.out.b'.lt; omega); have HLS7 := Lib.hid hls7; have tok4 : True := trivial; clear tok3 _t hls7 hsb7) | (go_at_call 18; have _t := tok4; refine (merge_any HQ7.out.b' HLS7.out (rows_ok HOj.out.1) (fun x hx => (HSB7.out x hx).2)).mono ?_; rintro e w8 ⟨rfl, hk8, hg8⟩; have HQ8 := Lib.hid (HQ7.out.putB hk8 hg8); have tok5 : True := trivial; clear tok4 _t hg8; have hck8 : w8.cell? ⟨b, off + k, none⟩ = some (.pointer (some ⟨bk, 0, none⟩)) := (by obtain ⟨_, _, he9, hc9⟩ := HQ8.out.net.p.cells (by omega); cases he9; have h9 := hc9 k hlt; rw [HBK.out] at h9; exact h9)) | (go_at_call 15; have _t := tok5; refine (state_full (by have h9 := HQ8.out.net.at_ k hlt; rw [HBK.out] at h9; first | exact h9 | exact h9.drew) HOk.out.2 (by omega)).mono ?_; rintro e w9 ⟨sa9, sc9, rfl, hk9d, hls9, hsb9⟩; have hk9 : Keep [] w8 w9 := (by first | exact hk9d | exact (Keep.refl _ _).drew.trans hk9d); clear hk9d; have HQ9 := Lib.hid (HQ8.out.keep hk9); have HSB9 : Hid (∀ x, sa9 = some x → x.block ≠ ba ∧ x.block ≠ bb) := Lib.hid (fun x hx => by have h9 : w8.heap.size ≤ x.block := hsb9 x hx; have := HQ8.out.a.lt; have := HQ8.out.b'.lt; omega); have HLS9 := Lib.hid hls9; have tok6 : True := trivial; clear tok5 _t hls9 hsb9) | (go_at_call 18; have _t := tok6; refine (merge_any HQ9.out.b' HLS9.out (rows_ok HOk.out.1) (fun x hx => (HSB9.out x hx).2)).mono ?_; rintro e w10 ⟨rfl, hk10, hg10⟩; have HQ10 := Lib.hid (HQ9.out.putB hk10 hg10); have tok7 : True := trivial; clear tok6 _t hg10))
        go_roundw
        case measure => simp [intOf]; omega
        case rel =>
          have hko : Keep [] w w8 := ((((hkw.trans hk5).call hk6 HFA.out).trans hk7).call hk8 HFB.out)
          refine ⟨k + 1, _, _, _, by omega, by go_num, (by first | exact hko | exact hko.drew), (by first | exact HQ8 | exact Lib.hid (HQ8.out.keep (Keep.refl _ _).drew)), Lib.hid ((HA.out.hear HOK.out (by omega) (by omega) hlt).congr (fun x => by show x < k + 1 ↔ x < k ∨ x = k; omega) (by omega) (by omega)), Lib.hid ((HB.out.hear HOK.out (by omega) (by omega) (show j < 4 by omega)).congr (fun x => Iff.rfl) (by omega) (by omega)), Lib.hid (fun x hx => ?_)⟩
          by_cases e : x = k
          · exact .inr (by omega)
          · exact .inl (HS.out x (by omega))
    · have hsame := heard_same HOK.out HA.out HB.out (fun x hx => by show x < k; omega) (fun x hx => by have h9 := HS.out (3 - x) (by omega); rwa [show 3 - (3 - x) = x by omega] at h9)
      have HSAME := Lib.hid (show stateL (mergeG ga (stateL ga.rs)).rs = stateL gb.rs by rw [self_merge HA.out.ok, hsame])
      have HRO := Lib.hid (rows_ok HA.out.ok)
      have tok1 : True := trivial
      clear hsame
      go_wp2_with (first | (go_at_call 15; have _t := tok1; refine (state_any (by first | exact HQ1.out.a | exact HQ1.out.a.drew)).mono ?_; rintro e w5 ⟨sa5, sn5, sc5, rfl, hk5d, hls5, hsb5⟩; have hk5 : Keep [] wr w5 := (by first | exact hk5d | exact (Keep.refl _ _).drew.trans hk5d); clear hk5d; have HLS5 := Lib.hid hls5; have HSB5 := Lib.hid hsb5; have tok2 : True := trivial; clear tok1 _t hls5 hsb5) | (go_at_call 18; have _t := tok2; refine (merge_any (HQ1.out.a.keep hk5 (by simp)) HLS5.out HRO.out (fun x hx => by have h9 : wr.heap.size ≤ x.block := HSB5.out x hx; have := HQ1.out.a.lt; omega)).mono ?_; rintro e w6 ⟨rfl, hk6, hg6⟩; have HG6 := Lib.hid hg6; have HB6 := Lib.hid ((HQ1.out.b'.keep hk5 (by simp)).keep hk6 (by simpa using HQ1.out.ne.symm)); have tok3 : True := trivial; clear tok2 _t hg6) | (go_at_call 15; have _t := tok3; refine (state_any (by first | exact HG6.out | exact HG6.out.drew)).mono ?_; rintro e w7 ⟨sa7, sn7, sc7, rfl, hk7d, hls7, hsb7⟩; have hk7 : Keep [] w6 w7 := (by first | exact hk7d | exact (Keep.refl _ _).drew.trans hk7d); clear hk7d; have HLS7 := Lib.hid hls7; have HSB7 := Lib.hid hsb7; have tok4 : True := trivial; clear tok3 _t hls7 hsb7) | (go_at_call 15; have _t := tok4; refine (state_any (HB6.out.keep hk7 (by simp))).mono ?_; rintro e w8 ⟨sa8, sn8, sc8, rfl, hk8d, hls8, hsb8⟩; have hk8 : Keep [] w7 w8 := (by first | exact hk8d | exact (Keep.refl _ _).drew.trans hk8d); clear hk8d; have HLS8 := Lib.hid hls8; have HSB8 := Lib.hid hsb8; have tok5 : True := trivial; clear tok4 _t hls8 hsb8) | (go_at_call 19; refine (equal_any' (HLS7.out.keep hk8 (by simp)) HLS8.out HSAME.out).mono ?_; rintro e w9 ⟨rfl, hk9⟩) | (with_reducible refine Txt.wp_region_text mixed quiet (by decide +kernel) ?_) | (with_reducible refine Txt.text_done (by kernel_rfl) ?_))
      go_ret
      exact ⟨rfl, (((hkw.trans hk5).call hk6 HFA.out).trans hk7 |>.trans hk8).trans hk9⟩
end Go.Proofs.Ytmkdppbnmogmlaa
