/- Texts laid together: Y5 Y6 Y7. -/
import Derived.Test.YtmedldloilbmeaaMg4
import Derived.Deep.LoopGhost
/- Marking: start. -/
namespace Go.Proofs.Ytmedldloilbmeaa
open Go.RowKit
/-- The rows of the actors lie apart from a row under way, and are younger than B. -/
def ApF (B : Nat) (f : Int → Option Value) (v : Value) : Prop := ApartF f v ∧ ∀ x a n c ad, f x = some (.slice a n c) → a = some ad → B ≤ ad.block
/-- Start under way: i actors are taken in. -/
def StSt (w wr : World) (b bR bM bT : Nat) (l : List Kn) (i : Nat) (av : Option Addr) (cv : Nat) : Prop :=
  ∃ f, NodeAt wr Try.prog wr.heap.size b bR bM bT i f (refsR (l.take i)) (fun _ => false) (fun _ => false) [] 0 (.slice none 0 0) ∧ wr.ownsRow w.heap.size 3 1 (.slice av (firsts (l.take i)).length cv) (firsts (l.take i)).length ((firsts (l.take i)).map (Value.int .i64)) ∧ ApF w.heap.size f (.slice av (firsts (l.take i)).length cv) ∧ Keep [] w wr ∧ w.heap.size ≤ b ∧ w.heap.size ≤ bR ∧ w.heap.size ≤ bM ∧ w.heap.size ≤ bT
section
variable {w wr WA w2 w3 : World} {b bR bM bT i m c2 cv : Nat} {l : List Kn} {x : Kn} {f : Int → Option Value} {av a2 : Option Addr}
/-- What stands behind one more actor, ahead of the row of those that are live of themselves. -/
theorem stCore (hxi : l[i]? = some x) (hm : x.refs.length = m) (hm100 : m ≤ 100) (hN : NodeAt wr Try.prog wr.heap.size b bR bM bT i f (refsR (l.take i)) (fun _ => false) (fun _ => false) [] 0 (.slice none 0 0)) (hF : wr.ownsRow w.heap.size 3 1 (.slice av (firsts (l.take i)).length cv) (firsts (l.take i)).length ((firsts (l.take i)).map (Value.int .i64))) (hA : ApF w.heap.size f (.slice av (firsts (l.take i)).length cv)) (hK : Keep [] w wr) (hg2 : w.heap.size ≤ bR)
    (hKA : Keep [] wr WA) (hK2 : Keep [] WA.drew w2) (hO2 : w2.ownsRow WA.drew.heap.size 3 1 (.slice a2 m c2) m (x.refs.map (Value.int .i64))) (hI2 : IntsV w2 a2 m c2 x.refs) (hM3 : MapF w3 Try.prog 3 bR (i + 1) (fun y => if y = x.ref then some (.slice a2 m c2) else f y)) (hK3 : Keep [bR] w2 w3) :
    NodeAt w3 Try.prog w3.heap.size b bR bM bT (i + 1) (fun y => if y = x.ref then some (.slice a2 m c2) else f y) (refsR (l.take (i + 1))) (fun _ => false) (fun _ => false) [] 0 (.slice none 0 0) ∧ w3.ownsRow w.heap.size 3 1 (.slice av (firsts (l.take i)).length cv) (firsts (l.take i)).length ((firsts (l.take i)).map (Value.int .i64)) ∧ ApF w.heap.size (fun y => if y = x.ref then some (.slice a2 m c2) else f y) (.slice av (firsts (l.take i)).length cv) ∧ Keep [] w w3 := by
  have hk02 : Keep [] wr w2 := hKA.drew.trans hK2
  have hmf2 := hN.mr.keep hk02 (by simp)
  have hnc : ∀ g cs T fr, w2.heap[g]? = some (.cells cs T fr) → g ∉ [bR] := fun g cs T fr hc hm => by
    rw [List.mem_singleton.1 hm] at hc
    exact hmf2.notCells hc rfl
  have hF2 := own_keep hF hk02 (by simp)
  have hF3 := own_keep hF2 hK3 (fun g hg => by obtain ⟨_, _, cs, hc⟩ := ownLt hF2 g hg; exact hnc g cs _ _ hc)
  have ha2 : ∀ ad, a2 = some ad → WA.drew.heap.size ≤ ad.block ∧ ad.block < w3.heap.size ∧ ∃ cs, w3.heap[ad.block]? = some (.cells cs 3 (0, 0)) := fun ad he => by
    obtain ⟨a', c', hv, _, _, hx⟩ := ownSlice hO2
    injection hv with h1 _ _
    obtain ⟨h2, _⟩ := hx ad (h1 ▸ he)
    obtain ⟨h3, h4, cs, hc⟩ := ownLt hO2 _ h2
    have := hK3.size
    exact ⟨h3, by omega, cs, hK3.at hc (hnc _ _ _ _ hc)⟩
  have hkw3 : Keep [] w w3 := (hK.trans hk02).call hK3 (fun g hg => .inr (by rw [List.mem_singleton.1 hg]; exact hg2))
  have hsz : wr.heap.size ≤ w3.heap.size := Nat.le_trans hk02.size hK3.size
  refine ⟨⟨hK3.at (hk02.at hN.blk (by simp)) (hnc _ _ _ _ (hk02.at hN.blk (by simp))), hM3, ?_, MapF.mono (MapF.keep (MapF.keep hN.mm hk02 (by simp)) hK3 (fun hm => hN.ne.1 (List.mem_singleton.1 hm).symm)) (by omega), MapF.mono (MapF.keep (MapF.keep hN.mt hk02 (by simp)) hK3 (fun hm => hN.ne.2.1 (List.mem_singleton.1 hm).symm)) (by omega), World.ownsRow_nil _ _ _ _, fun x hx => (by cases hx), hN.ne⟩, hF3, ⟨fun y a n c ad h1 h2 => ?_, fun y a n c ad h1 h2 => ?_⟩, hkw3⟩
  · rw [take_snoc l i x hxi, refsR_snoc]
    have h1 := ((hN.rf.keep hk02 (fun g hg => by cases hg)).keep hK3 (fun g hg _ cs fr hc => hnc g cs _ _ hc hg)).grow hsz
    subst hm
    exact h1.put (hI2.keep hK3 (fun ad he => by
      obtain ⟨a', c', hv, _, _, hx⟩ := ownSlice hO2
      injection hv with h1 _ _
      obtain ⟨h2, _⟩ := hx ad (h1 ▸ he)
      obtain ⟨h3, h4, cs, hc⟩ := ownLt hO2 _ h2
      exact hnc _ _ _ _ hc)) hm100 (fun ad he => (ha2 ad he).2)
  · simp only at h1
    by_cases hy : y = x.ref
    · rw [if_pos hy] at h1
      injection h1 with h1
      injection h1 with h3 _ _
      have h4 := (ha2 ad (h3.trans h2)).1
      intro h5
      have h6 := (ownLt hF _ h5).2.1
      have h7 := hKA.drew.size
      omega
    · rw [if_neg hy] at h1
      exact hA.1 y a n c ad h1 h2
  · simp only at h1
    by_cases hy : y = x.ref
    · rw [if_pos hy] at h1
      injection h1 with h1
      injection h1 with h3 _ _
      have h4 := (ha2 ad (h3.trans h2)).1
      have h7 := hKA.drew.size
      have h8 := hK.size
      omega
    · rw [if_neg hy] at h1
      exact hA.2 y a n c ad h1 h2
theorem stSkip (hxi : l[i]? = some x) (hf : (x.root || x.awake) = false) {f' : Int → Option Value} (h : NodeAt w3 Try.prog w3.heap.size b bR bM bT (i + 1) f' (refsR (l.take (i + 1))) (fun _ => false) (fun _ => false) [] 0 (.slice none 0 0) ∧ w3.ownsRow w.heap.size 3 1 (.slice av (firsts (l.take i)).length cv) (firsts (l.take i)).length ((firsts (l.take i)).map (Value.int .i64)) ∧ ApF w.heap.size f' (.slice av (firsts (l.take i)).length cv) ∧ Keep [] w w3) (hg : w.heap.size ≤ b ∧ w.heap.size ≤ bR ∧ w.heap.size ≤ bM ∧ w.heap.size ≤ bT) : (firsts (l.take (i + 1))).length = (firsts (l.take i)).length ∧ StSt w w3 b bR bM bT l (i + 1) av cv := by
  have he : firsts (l.take (i + 1)) = firsts (l.take i) := by rw [take_snoc l i x hxi, firsts_snoc, hf]; simp
  refine ⟨by rw [he], f', h.1, ?_, ?_, h.2.2.2, hg⟩
  · rw [he]; exact h.2.1
  · rw [he]; exact h.2.2.1
theorem stTake {w9 : World} {g9 c9 L : Nat} (hxi : l[i]? = some x) (hf : (x.root || x.awake) = true) (hL : (firsts (l.take i)).length = L) {f' : Int → Option Value} (h : NodeAt w3 Try.prog w3.heap.size b bR bM bT (i + 1) f' (refsR (l.take (i + 1))) (fun _ => false) (fun _ => false) [] 0 (.slice none 0 0) ∧ w3.ownsRow w.heap.size 3 1 (.slice av (firsts (l.take i)).length cv) (firsts (l.take i)).length ((firsts (l.take i)).map (Value.int .i64)) ∧ ApF w.heap.size f' (.slice av (firsts (l.take i)).length cv) ∧ Keep [] w w3) (hg : w.heap.size ≤ b ∧ w.heap.size ≤ bR ∧ w.heap.size ≤ bM ∧ w.heap.size ≤ bT)
    {o : Obj} (hK9 : Keep (Value.slice av L cv).ownBlock.toList (w3.alloc o) w9) (hO9 : w9.ownsRow w.heap.size 3 1 (.slice (some ⟨g9, 0, none⟩) (L + 1) c9) (L + 1) ((firsts (l.take i)).map (Value.int .i64) ++ [.int .i64 x.ref])) (hA9 : (Value.slice av L cv).ownBlock = some g9 ∨ g9 = (w3.alloc o).heap.size) : (firsts (l.take (i + 1))).length = L + 1 ∧ StSt w w9 b bR bM bT l (i + 1) (some ⟨g9, 0, none⟩) c9 := by
  have he : firsts (l.take (i + 1)) = firsts (l.take i) ++ [x.ref] := by rw [take_snoc l i x hxi, firsts_snoc, hf]; simp
  have hl : (firsts (l.take (i + 1))).length = L + 1 := by rw [he, List.length_append, List.length_singleton, hL]
  obtain ⟨hN, hF, hA, hK⟩ := h
  rw [hL] at hF hA
  have hF1 := own_keep hF ((Keep.refl [] w3).alloc o) (by simp)
  have hnm : ∀ {c n : Nat} {fm : Int → Option Value}, MapF w3 Try.prog 3 c n fm → c ∉ (Value.slice av L cv).ownBlock.toList := fun hmm hm => by
    obtain ⟨_, _, cs, hc⟩ := ownLt hF _ (by simpa using hm)
    exact hmm.notCells hc rfl
  have hsz : w3.heap.size ≤ w9.heap.size := Nat.le_trans ((Keep.refl [] w3).alloc o).size hK9.size
  refine ⟨hl, f', ⟨hK9.at (((Keep.refl [] w3).alloc o).at hN.blk (by simp)) (fun hm => ?_), (hN.mr.keep ((Keep.refl [] w3).alloc o) (by simp)).keep hK9 (hnm hN.mr), ?_, MapF.keep (MapF.keep hN.mm ((Keep.refl [] w3).alloc o) (by simp)) hK9 (hnm hN.mm), MapF.keep (MapF.keep hN.mt ((Keep.refl [] w3).alloc o) (by simp)) hK9 (hnm hN.mt), World.ownsRow_nil _ _ _ _, fun x hx => (by cases hx), hN.ne⟩, ?_, ⟨fun y a n c ad h1 h2 h3 => ?_, hA.2⟩, (hK.alloc o).call hK9 (fun g hgm => .inr (ownLt hF g (by simpa using hgm)).1), hg⟩
  · obtain ⟨_, _, cs, hc⟩ := ownLt hF _ (by simpa using hm)
    exact neTypeY hc hN.blk (by decide) rfl
  · exact ((hN.rf.keep ((Keep.refl [] w3).alloc o) (fun g hg => by cases hg)).keepA hK9 hA.1 (fun g hg => .inl (by simpa using hg))).grow hsz
  · rw [hl, he, List.map_append]; exact hO9
  · have hg9 : g9 = ad.block := by simpa [Value.ownBlock] using h3
    rcases hA9 with h4 | h4
    · exact hA.1 y a n c ad h1 h2 (by rw [h4, hg9])
    · have h5 : ad.block < w3.heap.size := by
        rcases hN.rf y with ⟨_, h6⟩ | ⟨xs, a', c', _, h6, _, _, h7⟩
        · rw [h6] at h1; cases h1
        · rw [h6] at h1
          injection h1 with h1
          injection h1 with h8 _ _
          exact (h7 ad (h8.trans h2)).1
      have h6 := ((Keep.refl [] w3).alloc o).size
      omega
end
def world0 (w : World) : World := (((w.alloc (.map #[] 0)).alloc (.map #[] 0)).alloc (.map #[] 0)).alloc (.cells #[.map (some w.heap.size), .map (some (w.heap.size + 1)), .slice none 0 0, .map (some (w.heap.size + 1 + 1)), .int .i64 0] 73)
theorem start0 (w : World) : NodeAt (world0 w) Try.prog (world0 w).heap.size (w.heap.size + 1 + 1 + 1) w.heap.size (w.heap.size + 1) (w.heap.size + 1 + 1) 0 (fun _ => none) (refsR []) (fun _ => false) (fun _ => false) [] 0 (.slice none 0 0) ∧ Keep [] w (world0 w) := by
  have s1 : (w.alloc (.map #[] 0)).heap.size = w.heap.size + 1 := by simp
  have s2 : ((w.alloc (.map #[] 0)).alloc (.map #[] 0)).heap.size = w.heap.size + 1 + 1 := by simp
  have s3 : (((w.alloc (.map #[] 0)).alloc (.map #[] 0)).alloc (.map #[] 0)).heap.size = w.heap.size + 1 + 1 + 1 := by simp
  have m1 := MapF.made w Try.prog 3
  have m2 := MapF.made (w.alloc (.map #[] 0)) Try.prog 3
  have m3 := MapF.made ((w.alloc (.map #[] 0)).alloc (.map #[] 0)) Try.prog 3
  rw [s1] at m2
  rw [s2] at m3
  have b4 := blk_new (((w.alloc (.map #[] 0)).alloc (.map #[] 0)).alloc (.map #[] 0)) (.cells #[.map (some w.heap.size), .map (some (w.heap.size + 1)), .slice none 0 0, .map (some (w.heap.size + 1 + 1)), .int .i64 0] 73)
  rw [s3] at b4
  refine ⟨⟨b4, m1.keep ((((Keep.refl [] _).alloc _).alloc _).alloc _) (by simp), fun x => .inl ⟨rfl, rfl⟩, m2.keep (((Keep.refl [] _).alloc _).alloc _) (by simp), m3.keep ((Keep.refl [] _).alloc _) (by simp), World.ownsRow_nil _ _ _ _, fun x hx => (by cases hx), ⟨by omega, by omega, by omega⟩⟩, ((((Keep.refl [] w).alloc _).alloc _).alloc _).alloc _⟩
set_option maxRecDepth 100000 in
set_option maxHeartbeats 8000000 in
theorem start45_fr {w : World} {a : Option Addr} {n c : Nat} {l : List Kn} (hv : KnsV w a n c l) (hn : n ≤ 400) (hs : ∀ k ∈ l, k.refs.length ≤ 100) :
    Calls Try.prog 45 #[.slice a n c] w fun e w' => ∃ b bR bM bT f v, e = .returned (.tuple #[.pointer (some ⟨b, 0, none⟩), v]) ∧ NodeAt w' Try.prog w'.heap.size b bR bM bT 400 f (refsR l) (fun _ => false) (fun _ => false) [] 0 (.slice none 0 0) ∧ w'.ownsRow w.heap.size 3 1 v (firsts l).length ((firsts l).map (Value.int .i64)) ∧ Keep [] w w' ∧ w.heap.size ≤ b ∧ w.heap.size ≤ bR ∧ w.heap.size ≤ bM ∧ w.heap.size ≤ bT ∧ ApF w.heap.size f v := by
  have HL := Lib.hid hv.len
  have hrm := hv.room
  have hms := hv.most
  unfold maxLen at hms
  have HV := Lib.hid hv
  have HS := Lib.hid hs
  have hmm := @run_makeMap Try.prog
  obtain ⟨i3, hi3, hy0, hy1, hy2⟩ := infoY info3
  clear hv hs
  go_enter Try.func45, Try.ntmps45
  go_wp2_with (first | (with_reducible refine Txt.wp_region_text mixed quiet (by decide +kernel) ?_) | (with_reducible refine Txt.text_done (by kernel_rfl) ?_))
  have HST : Hid (StSt w (world0 w) (w.heap.size + 1 + 1 + 1) w.heap.size (w.heap.size + 1) (w.heap.size + 1 + 1) l 0 none 0) := Lib.hid ⟨_, (start0 w).1, World.ownsRow_nil _ _ _ _, ⟨fun x a n c ad h => (by cases h), fun x a n c ad h => (by cases h)⟩, (start0 w).2, by omega, Nat.le_refl _, by omega, by omega⟩
  unfold world0 at HST
  obtain ⟨bR, hbR⟩ : ∃ x, w.heap.size = x := ⟨_, rfl⟩
  have HBR : Hid (w.heap.size = bR) := Lib.hid hbR
  rw [hbR] at HST ⊢
  obtain ⟨bM, hbM⟩ : ∃ x, bR + 1 = x := ⟨_, rfl⟩
  rw [hbM] at HST ⊢
  obtain ⟨bT, hbT⟩ : ∃ x, bM + 1 = x := ⟨_, rfl⟩
  rw [hbT] at HST ⊢
  obtain ⟨b, hb⟩ : ∃ x, bT + 1 = x := ⟨_, rfl⟩
  rw [hb] at HST ⊢
  clear hbR hbM hbT hb
  go_loopw [15, 5] (fun j v wr => ∃ (i : Nat) (av : Option Addr) (cv : Nat), i ≤ n ∧ j = .int .i64 i ∧ v = .slice av (firsts (l.take i)).length cv ∧ Hid (StSt w wr b bR bM bT l i av cv)) (fun j _ _ => n - (intOf j).toNat)
  case atStart => exact ⟨0, none, 0, by omega, rfl, rfl, HST⟩
  case round =>
    obtain ⟨i, av, cv, hi, rfl, rfl, HP⟩ := hrel
    by_cases hlt : i < n
    · obtain ⟨x, hxi⟩ : ∃ x, l[i]? = some x := ⟨_, List.getElem?_eq_getElem (by have := HL.out; omega)⟩
      obtain ⟨f, hN, hF, hA, hK, g1, g2, g3, g4⟩ := HP.out
      obtain ⟨b1, off, hab, c0, c1, c2, c3⟩ := (HV.out.keep0 hK).at_ hxi
      obtain ⟨rt, hrt⟩ : ∃ rt, x.root = rt := ⟨_, rfl⟩
      obtain ⟨aw, haw⟩ : ∃ aw, x.awake = aw := ⟨_, rfl⟩
      obtain ⟨m, hm⟩ : ∃ m, x.refs.length = m := ⟨_, rfl⟩
      rw [hrt] at c2
      rw [haw] at c1
      rw [hm] at c3
      have hm100 : m ≤ 100 := by rw [← hm]; exact HS.out x (List.mem_of_getElem? hxi)
      obtain ⟨WA, hWA⟩ : ∃ WA, wr.alloc (.cells #[.int .i64 x.ref, .bool aw, .bool rt, .slice x.ra m x.rc] 38) = WA := ⟨_, rfl⟩
      have hkA : Keep [] wr WA := by rw [← hWA]; exact (Keep.refl [] wr).alloc _
      have hbox : WA.heap[wr.heap.size]? = some (.cells #[.int .i64 x.ref, .bool aw, .bool rt, .slice x.ra m x.rc] 38 (0, 0)) := by rw [← hWA]; exact blk_new wr _
      have hszA : WA.heap.size = wr.heap.size + 1 := by rw [← hWA]; simp
      have HIR : Hid (IntsV WA.drew x.ra m x.rc x.refs) := Lib.hid (by rw [← hm]; exact (HV.out.rows x (List.mem_of_getElem? hxi)).1.keep (hK.trans hkA).drew (by simp))
      have HXW : Hid ((Lit.int .i64 x.ref).wf = true) := Lib.hid (HV.out.rows x (List.mem_of_getElem? hxi)).2.1
      have HWF := Lib.hid (HV.out.rows x (List.mem_of_getElem? hxi)).1.wf
      obtain ⟨e0, e1, e2, e3, e4, hz⟩ := row5Y (hkA.at hN.blk (by simp))
      obtain ⟨x0, x1, x2, x3, hzx⟩ := row4 hbox
      have HWA := Lib.hid hWA
      obtain ⟨bx, hbx⟩ : ∃ bx, wr.heap.size = bx := ⟨_, rfl⟩
      have HBXE := Lib.hid hbx
      rw [hbx] at hbox x0 x1 x2 x3 hzx hszA
      have HKA := Lib.hid hkA
      have HBX := Lib.hid hbox
      have HSA := Lib.hid hszA
      have HN := Lib.hid hN
      have HF := Lib.hid hF
      have HA := Lib.hid hA
      have HK := Lib.hid hK
      have HG := Lib.hid (And.intro g1 (And.intro g2 (And.intro g3 g4)))
      have HRT := Lib.hid hrt
      have HAW := Lib.hid haw
      have HM := Lib.hid hm
      have HXI := Lib.hid hxi
      have hcv1 := (ownSlice HF.out).choose_spec.choose_spec
      obtain ⟨L, hL⟩ : ∃ L, (firsts (l.take i)).length = L := ⟨_, rfl⟩
      have hL4 : L ≤ 400 := by rw [← hL]; have := firsts_len (l.take i); rw [List.length_take] at this; omega
      obtain ⟨af, cf, hef, hcf1, hcf2, -⟩ := ownSlice HF.out
      have hcc : cv = cf := by injection hef
      subst hcc
      rw [hL] at hcf1 hef ⊢
      unfold maxLen at hcf2
      have HLL := Lib.hid hL
      subst hab
      clear hxi hN hF hA hK g1 g2 g3 g4 hrt haw hm hkA hbox hszA hcv1 hL hef HST HP hWA hbx
      go_wp2_with (first | (with_reducible refine Txt.wp_region_text mixed quiet (by decide +kernel) ?_) | (with_reducible refine Txt.text_done (by kernel_rfl) ?_))
      rw [HWA.out, HBXE.out]
      go_region_law (first | (go_simp; go_at_call 15; (with_reducible refine (clone15_any HIR.out (by omega)).mono ?_); rintro e2 w2 ⟨v2, rfl, hk2, ho2⟩; obtain ⟨a2, c2', rfl, hi2, hb2⟩ := IntsV.ofOwn ho2 HWF.out; have HK2 := Lib.hid hk2; have HO2 := Lib.hid ho2; have HI2 := Lib.hid hi2; have hbk2 := hk2.at (HKA.out.at HN.out.blk (by simp)) (by simp); obtain ⟨f0, f1, f2, f3, f4, hzf⟩ := row5Y hbk2; have hbx2 := hk2.at HBX.out (by simp); obtain ⟨y0, y1, y2, y3, hzy⟩ := row4 hbx2; have hmf2 := ((HN.out.mr.keep HKA.out (by simp)).drew).keep hk2 (by simp); obtain ⟨w3, hrun, hm3, hk3⟩ := update_run_f (v := .slice a2 m c2') Try.underlying70 Try.underlying3 hmf2 (by unfold maxLen; omega) HXW.out; have HM3 := Lib.hid hm3; have HK3 := Lib.hid hk3; have hbx3 := hk3.at hbx2 (fun hm => hmf2.notCells hbx2 (List.mem_singleton.1 hm).symm); obtain ⟨z0, z1, z2, z3, hzz⟩ := row4 hbx3; have HMF2 := Lib.hid hmf2; clear hk2 ho2 hi2 hb2 hbk2 hbx2 hmf2 hm3 hk3 hbx3))
      all_goals
        have HC3 := Lib.hid (stCore HXI.out HM.out hm100 HN.out HF.out HA.out HK.out HG.out.2.1 HKA.out HK2.out HO2.out HI2.out HM3.out HK3.out)
        have HO3 : Hid (w3.ownsRow w.heap.size 3 1 (.slice av L cv) L ((firsts (l.take i)).map (Value.int .i64))) := Lib.hid (by have h9 := HC3.out.2.1; rw [HLL.out] at h9; exact h9)
        have HSZ3 : Hid (w.heap.size ≤ w3.heap.size) := Lib.hid HC3.out.2.2.2.size
        cases rt <;> cases aw
        all_goals
          go_wp2_with (first | (with_reducible refine Txt.wp_region_text mixed quiet (by decide +kernel) ?_) | (with_reducible refine Txt.text_done (by kernel_rfl) ?_) | (at_builtin; refine wpList_append_lies _ rfl _ _ 22 rfl w.heap.size 3 i3 (.int .i64 0) 1 8 Try.underlying22 hi3 hy0 hy1 hy2 rfl (by decide) (.slice av L cv) L ((firsts (l.take i)).map (Value.int .i64)) rfl (own_keep HO3.out ((Keep.refl [] w3).alloc _) (by simp)) ⟨w3.heap.size, 0, none⟩ 1 1 [.int .i64 x.ref] rfl rfl (cells_new w3 [.int .i64 x.ref] 3 (0, 0)) (by intro u hu; rw [List.mem_singleton.1 hu]; rfl) (by decide) (by unfold maxLen; omega) (by omega) (by have := HSZ3.out; simp; omega) _ rfl ?_; intro g9 c9 w9 hown9 hgr9 hat9 hlt9; have hk9 : Keep (Value.slice av L cv).ownBlock.toList (w3.alloc (.cells #[.int .i64 x.ref] 3)) w9 := Keep.ofGrown hgr9 (fun x hx => by simp [hx]); have HK9 := Lib.hid hk9; have HO9 := Lib.hid hown9; have HA9 := Lib.hid hat9; clear hown9 hgr9 hat9 hk9))
          first
            | exact ⟨⟨i + 1, _, _, hlt, by go_num, by rw [(stSkip HXI.out (by rw [HRT.out, HAW.out]; rfl) HC3.out HG.out).1, HLL.out], Lib.hid (stSkip HXI.out (by rw [HRT.out, HAW.out]; rfl) HC3.out HG.out).2⟩, by simp [intOf]; omega⟩
            | exact ⟨⟨i + 1, _, _, hlt, by go_num, by rw [(stTake HXI.out (by rw [HRT.out, HAW.out]; rfl) HLL.out HC3.out HG.out HK9.out HO9.out HA9.out).1], Lib.hid (stTake HXI.out (by rw [HRT.out, HAW.out]; rfl) HLL.out HC3.out HG.out HK9.out HO9.out HA9.out).2⟩, by simp [intOf]; omega⟩
    · obtain rfl : i = n := by omega
      have HTK : l.take i = l := List.take_of_length_le (by rw [HL.out]; exact Nat.le_refl _)
      rw [HTK]
      go_wp2_with (first | (with_reducible refine Txt.wp_region_text mixed quiet (by decide +kernel) ?_) | (with_reducible refine Txt.text_done (by kernel_rfl) ?_))
      go_ret2
      obtain ⟨f, hN, hF, hA, hK, hG⟩ := HP.out
      rw [HTK] at hN hF hA
      exact ⟨b, bR, bM, bT, f, _, rfl, hN.mono hn, hF, hK, hG.1, hG.2.1, hG.2.2.1, hG.2.2.2, hA⟩
theorem start45_any {w : World} {a : Option Addr} {n c : Nat} {l : List Kn} (hv : KnsV w a n c l) (hn : n ≤ 400) (hs : ∀ k ∈ l, k.refs.length ≤ 100) :
    Calls Try.prog 45 #[.slice a n c] w fun e w' => ∃ b bR bM bT f v, e = .returned (.tuple #[.pointer (some ⟨b, 0, none⟩), v]) ∧ NodeAt w' Try.prog w'.heap.size b bR bM bT 400 f (refsR l) (fun _ => false) (fun _ => false) [] 0 (.slice none 0 0) ∧ w'.ownsRow w.heap.size 3 1 v (firsts l).length ((firsts l).map (Value.int .i64)) ∧ Keep [] w w' ∧ w.heap.size ≤ b ∧ w.heap.size ≤ bR ∧ w.heap.size ≤ bM ∧ w.heap.size ≤ bT ∧ ApartF f v :=
  (start45_fr hv hn hs).mono fun e w' ⟨b, bR, bM, bT, f, v, h1, h2, h3, h4, h5, h6, h7, h8, h9⟩ => ⟨b, bR, bM, bT, f, v, h1, h2, h3, h4, h5, h6, h7, h8, h9.1⟩
end Go.Proofs.Ytmedldloilbmeaa
/- Marking: New, Left, Garbage. -/
namespace Go
open Go.RowKit
theorem IntsV.ofOwnB {w : World} {base : Nat} {v : Value} {n : Nat} {zs : List Int} (h : w.ownsRow base 3 1 v n (zs.map (Value.int .i64))) (hw : ∀ z ∈ zs, (Lit.int .i64 z).wf = true) :
    ∃ a c, v = .slice a n c ∧ IntsV w a n c zs ∧ ∀ x, a = some x → v.ownBlock = some x.block := by
  obtain ⟨a, c, rfl, h1, _⟩ := IntsV.ofOwn h hw
  obtain ⟨a', c', he, _, _, h2⟩ := ownSlice h
  injection he with h3 _ _
  exact ⟨a, c, rfl, h1, fun x hx => (h2 x (h3 ▸ hx)).1⟩
theorem refsR_small {l : List Kn} (hs : ∀ k ∈ l, k.refs.length ≤ 100) : ∀ x xs, refsR l x = some xs → xs.length ≤ 100 := fun x xs h => by
  unfold refsR at h
  obtain ⟨k, hk, rfl⟩ := Option.map_eq_some_iff.1 h
  exact hs k (List.mem_reverse.1 (List.mem_of_find?_eq_some hk))
theorem refsR_univ {l : List Kn} : ∀ x, (refsR l x).isSome = true → x ∈ l.map Kn.ref := fun x h => by
  obtain ⟨k, hk, rfl⟩ := refsR_some.1 h
  exact List.mem_map.2 ⟨k, hk, rfl⟩
end Go
namespace Go.Proofs.Ytmedldloilbmeaa
open Go.RowKit
/-- A node that goes on marking: Fr is next. -/
def NwSt (w wr : World) (H b bR bM bT : Nat) (f : Int → Option Value) (R : Int → Option (List Int)) (S : Int → Prop) (tl0 : Int → Bool) (U : List Int) (came : Int) (N0 K : Nat) (k : Nat) (v : Value) (Fr : List Int) : Prop :=
  ∃ mk tl due vd N, NodeAt wr Try.prog H b bR bM bT N f R mk tl due came vd ∧ LvInv R S mk tl Fr ∧ DueInv tl0 tl due ∧ N ≤ N0 + 200000 * (K - k) ∧ due.length ≤ 100000 * (K - k) ∧ k = unm U mk ∧ k ≤ K ∧ wr.ownsRow w.heap.size 3 1 v Fr.length (Fr.map (Value.int .i64)) ∧ (∀ x ∈ Fr, (Lit.int .i64 x).wf = true) ∧ (∀ g, vd.ownBlock = some g → v.ownBlock ≠ some g ∧ w.heap.size ≤ g) ∧ Keep [b, bM, bT] w wr
theorem NwSt.level {w wr w' : World} {H b bR bM bT K k N0 : Nat} {f : Int → Option Value} {R : Int → Option (List Int)} {S : Int → Prop} {tl0 : Int → Bool} {U Fr : List Int} {came : Int} {mk tl : Int → Bool} {due : List Int} {vd : Value} {N : Nat} (hU : ∀ x, (R x).isSome = true → x ∈ U) (hf : Fr ≠ [])
    (h2 : LvInv R S mk tl Fr) (h3 : DueInv tl0 tl due) (h4 : N ≤ N0 + 200000 * (K - k)) (h5 : due.length ≤ 100000 * (K - k)) (h6 : k = unm U mk) (h7 : k ≤ K) (h8 : Keep [b, bM, bT] w wr) (h9 : ∀ g, vd.ownBlock = some g → w.heap.size ≤ g)
    {mk' tl' : Int → Bool} {due' out : List Int} {vd' v' : Value} (k1 : NodeAt w' Try.prog H b bR bM bT (N + 200000) f R mk' tl' due' came vd') (k2 : LvTo R mk tl due Fr mk' tl' due' out) (k3 : w'.ownsRow wr.heap.size 3 1 v' out.length (out.map (Value.int .i64))) (k4 : ∀ x ∈ out, (Lit.int .i64 x).wf = true) (k5 : Keep (ndS b bM bT vd) wr w') (k6 : NwY wr vd vd') (k7 : due'.length ≤ due.length + 100000) (k8 : ∀ g, vd'.ownBlock = some g → v'.ownBlock ≠ some g) :
    unm U mk' < k ∧ NwSt w w' H b bR bM bT f R S tl0 U came N0 K (unm U mk') v' out := by
  have hlt := unm_step hU h2 k2 hf
  rw [← h6] at hlt
  refine ⟨hlt, mk', tl', due', vd', _, k1, h2.step k2, h3.step k2, ?_, ?_, rfl, by omega, ownBaseY k3 h8.size, k4, fun g hg => ⟨k8 g hg, ?_⟩, ?_⟩
  · omega
  · omega
  · rcases k6 g hg with h | h
    · exact h9 g h
    · exact Nat.le_trans h8.size h
  · refine h8.call k5 (fun g hg => ?_)
    simp only [ndS, List.mem_cons, Option.mem_toList] at hg
    rcases hg with hg | hg | hg | hg
    · exact .inl (by simp [hg])
    · exact .inl (by simp [hg])
    · exact .inl (by simp [hg])
    · exact .inr (h9 g hg)
set_option maxRecDepth 100000 in
set_option maxHeartbeats 4000000 in
theorem new25_fr {w : World} {a : Option Addr} {n c : Nat} {l : List Kn} (hv : KnsV w a n c l) (hn : n ≤ 400) (hs : ∀ k ∈ l, k.refs.length ≤ 100) (hd : (l.map Kn.ref).Nodup) :
    Calls Try.prog 25 #[.slice a n c] w fun e w' => ∃ H b bR bM bT f mk tl due vd, e = .returned (.tuple #[.pointer (some ⟨b, 0, none⟩), .int .i64 0]) ∧ NodeAt w' Try.prog H b bR bM bT 100000000 f (refsR l) mk tl due 0 vd ∧ LvInv (refsR l) (fun x => x ∈ firsts l) mk tl [] ∧ DueInv (fun _ => false) tl due ∧ Keep [] w w' ∧ w.heap.size ≤ H ∧ H ≤ w'.heap.size ∧ w.heap.size ≤ b ∧ w.heap.size ≤ bR ∧ w.heap.size ≤ bM ∧ w.heap.size ≤ bT ∧ ∀ x a n c ad, f x = some (.slice a n c) → a = some ad → w.heap.size ≤ ad.block := by
  have HV := Lib.hid hv
  have HS := Lib.hid hs
  have HD := Lib.hid hd
  have HL := Lib.hid hv.len
  have HU : Hid (∀ x, (refsR l x).isSome = true → x ∈ l.map Kn.ref) := Lib.hid refsR_univ
  clear hv hs hd
  go_enter Try.func25, Try.ntmps25
  go_wp2_with (first | (with_reducible refine Txt.wp_region_text mixed quiet (by decide +kernel) ?_) | (with_reducible refine Txt.text_done (by kernel_rfl) ?_) | (go_at_call 44; (with_reducible refine (check44_ok HV.out hn HD.out).mono ?_); rintro e1 w1 ⟨rfl, hk1⟩; have HK1 := Lib.hid hk1; clear hk1) | (go_at_call 45; (with_reducible refine (start45_fr (HV.out.keep0 HK1.out) hn HS.out).mono ?_); rintro e2 w2 ⟨b, bR, bM, bT, f, v, rfl, hn2, ho2, hk2, hg2⟩; have HN2 := Lib.hid hn2; have HO2 := Lib.hid ho2; have HK2 := Lib.hid hk2; have HG2 := Lib.hid hg2; clear hn2 ho2 hk2 hg2))
  obtain ⟨U, hUe⟩ : ∃ U, l.map Kn.ref = U := ⟨_, rfl⟩
  obtain ⟨K, hK⟩ : ∃ K, unm U (fun _ => false) = K := ⟨_, rfl⟩
  have hK4 : K ≤ 400 := by
    have := unm_le U (fun _ => false)
    rw [← hUe, List.length_map, HL.out, hUe, hK] at this
    omega
  rw [hUe] at HU
  have HU4 : Hid (U.length ≤ 400) := Lib.hid (by rw [← hUe, List.length_map, HL.out]; exact hn)
  have HST : Hid (NwSt w w2 w2.heap.size b bR bM bT f (refsR l) (fun x => x ∈ firsts l) (fun _ => false) U 0 400 K K v (firsts l)) := Lib.hid ⟨_, _, [], _, _, HN2.out, LvInv.start (firsts_nodup HD.out) (fun x hx => by obtain ⟨k, hk, rfl, _⟩ := firsts_mem.1 hx; exact refsR_some.2 ⟨k, hk, rfl⟩), DueInv.start _, by omega, by simp, hK.symm, Nat.le_refl _, ownBaseY HO2.out HK1.out.size, fun x hx => (by obtain ⟨k, hk, rfl, _⟩ := firsts_mem.1 hx; exact (HV.out.rows k hk).2.1), fun g hg => by simp [Value.ownBlock] at hg, (HK1.out.trans HK2.out).more (by simp)⟩
  have HH : Hid (w.heap.size ≤ w2.heap.size) := Lib.hid (HK1.out.trans HK2.out).size
  have HFR : Hid (∀ x a n c ad, f x = some (.slice a n c) → a = some ad → w.heap.size ≤ ad.block) := Lib.hid (fun x a n c ad h1 h2 => Nat.le_trans HK1.out.size (HG2.out.2.2.2.2.2 x a n c ad h1 h2))
  have HB1 : Hid (w.heap.size ≤ b ∧ w.heap.size ≤ bR ∧ w.heap.size ≤ bM ∧ w.heap.size ≤ bT) := Lib.hid (by have ⟨h9, h10, h11, h12, _⟩ := HG2.out; have h8 := HK1.out.size; exact ⟨by omega, by omega, by omega, by omega⟩)
  obtain ⟨H, hH⟩ : ∃ H, w2.heap.size = H := ⟨_, rfl⟩
  obtain ⟨S, hS⟩ : ∃ S : Int → Prop, (fun x => x ∈ firsts l) = S := ⟨_, rfl⟩
  obtain ⟨R, hR⟩ : ∃ R, refsR l = R := ⟨_, rfl⟩
  obtain ⟨Fr0, hF0⟩ : ∃ Fr0, firsts l = Fr0 := ⟨_, rfl⟩
  rw [hS, hR, hH, hF0] at HST
  rw [hH] at HH
  rw [hR] at HU
  have HRE := Lib.hid hR
  have HSE := Lib.hid hS
  have HHW : Hid (H ≤ w2.heap.size) := Lib.hid (by omega)
  clear HN2 HO2 HK2 HG2 hUe hK hH hS hR hF0
  go_loopg [6] K (fun k v wr => ∃ Fr, Hid (NwSt w wr H b bR bM bT f R S (fun _ => false) U 0 400 K k v Fr) ∧ Hid (H ≤ wr.heap.size))
  case atStart => exact ⟨Fr0, HST, HHW⟩
  case round =>
    obtain ⟨Fr, HP, HHR⟩ := hrel
    obtain ⟨mk, tl, due, vd, N, h1, h2, h3, h4, h5, h6, h7, h8, h9, h10, h11⟩ := HP.out
    obtain ⟨av, cv, rfl, hiv, hbv⟩ := IntsV.ofOwnB h8 h9
    by_cases h0 : Fr = []
    · subst h0
      have HFIN : Hid (NodeAt wr Try.prog H b bR bM bT 100000000 f R mk tl due 0 vd ∧ LvInv R S mk tl [] ∧ DueInv (fun _ => false) tl due ∧ Keep [] w wr) := Lib.hid ⟨h1.mono (by omega), h2, h3, h11.fresh (fun g hg => by have h12 := HB1.out; simp only [List.mem_cons, List.not_mem_nil, or_false] at hg; rcases hg with rfl | rfl | rfl <;> omega)⟩
      clear HP h1 h2 h3 h4 h5 h6 h8 h9 h10 h11 hiv hbv
      go_wp2_with (first | (with_reducible refine Txt.wp_region_text mixed quiet (by decide +kernel) ?_) | (with_reducible refine Txt.text_done (by kernel_rfl) ?_))
      go_ret2
      obtain ⟨f1, f2, f3, f4⟩ := HFIN.out
      rw [← HRE.out] at f1 f2
      rw [← HSE.out] at f2
      have hb := HB1.out
      exact ⟨H, b, bR, bM, bT, f, mk, tl, due, vd, rfl, f1, f2, f3, f4, HH.out, HHR.out, hb.1, hb.2.1, hb.2.2.1, hb.2.2.2, HFR.out⟩
    · have hpos : 0 < Fr.length := List.length_pos_iff.2 h0
      have hFl : Fr.length ≤ 400 := Nat.le_trans (nodup_len Fr U h2.nodup (fun x hx => HU.out x (h2.fr x hx).1.own)) HU4.out
      have H1 := Lib.hid h1
      have H2 := Lib.hid h2
      have H3 := Lib.hid h3
      have H4 := Lib.hid h4
      have H5 := Lib.hid h5
      have H6 := Lib.hid h6
      have H10 := Lib.hid h10
      have H11 := Lib.hid h11
      have HIV := Lib.hid hiv
      have HAP : Hid (∀ ad, av = some ad → ad.block ∉ ndS b bM bT vd) := Lib.hid (fun ad he hm => by
        have hob := hbv ad he
        obtain ⟨hge, _, cs, hc⟩ := ownLt h8 _ hob
        simp only [ndS, List.mem_cons, Option.mem_toList] at hm
        rcases hm with hm | hm | hm | hm
        · exact neTypeY hc h1.blk (by decide) hm
        · exact h1.mm.notCells hc hm.symm
        · exact h1.mt.notCells hc hm.symm
        · exact (h10 _ hm).1 hob)
      have HF0 := Lib.hid h0
      clear HP h1 h2 h3 h4 h5 h6 h8 h9 h10 h11 hiv hbv h0
      go_wp2_with (first | (with_reducible refine Txt.wp_region_text mixed quiet (by decide +kernel) ?_) | (with_reducible refine Txt.text_done (by kernel_rfl) ?_) | (go_at_call 46; (with_reducible refine (level46_any H1.out HIV.out HAP.out (by omega) (by have := H4.out; omega) (by have := H5.out; omega) HHR.out).mono ?_); rintro e9 w9 ⟨mk9, tl9, due9, vd9, out9, v9, rfl, k1, k2, k3, k4, k5, k6, k7, k8⟩; obtain ⟨hlt9, hst9⟩ := NwSt.level HU.out HF0.out H2.out H3.out H4.out H5.out H6.out h7 H11.out (fun g hg => (H10.out g hg).2) k1 k2 k3 k4 k5 k6 k7 k8; have HST9 := Lib.hid hst9; have HH9 := Lib.hid (Nat.le_trans HHR.out k5.size); clear hst9 k1 k2 k3 k4 k5 k6 k7 k8))
      go_roundg (unm U mk9)
      case measure => exact hlt9
      case rel => exact ⟨out9, HST9, HH9⟩
theorem new25_any {w : World} {a : Option Addr} {n c : Nat} {l : List Kn} (hv : KnsV w a n c l) (hn : n ≤ 400) (hs : ∀ k ∈ l, k.refs.length ≤ 100) (hd : (l.map Kn.ref).Nodup) :
    Calls Try.prog 25 #[.slice a n c] w fun e w' => ∃ H b bR bM bT f mk tl due vd, e = .returned (.tuple #[.pointer (some ⟨b, 0, none⟩), .int .i64 0]) ∧ NodeAt w' Try.prog H b bR bM bT 100000000 f (refsR l) mk tl due 0 vd ∧ LvInv (refsR l) (fun x => x ∈ firsts l) mk tl [] ∧ DueInv (fun _ => false) tl due ∧ Keep [] w w' ∧ w.heap.size ≤ H ∧ H ≤ w'.heap.size ∧ w.heap.size ≤ b ∧ w.heap.size ≤ bR ∧ w.heap.size ≤ bM ∧ w.heap.size ≤ bT :=
  (new25_fr hv hn hs hd).mono fun e w' ⟨H, b, bR, bM, bT, f, mk, tl, due, vd, h1, h2, h3, h4, h5, h6, h7, h8, h9, h10, h11, _⟩ => ⟨H, b, bR, bM, bT, f, mk, tl, due, vd, h1, h2, h3, h4, h5, h6, h7, h8, h9, h10, h11⟩
set_option maxRecDepth 100000 in
set_option maxHeartbeats 4000000 in
theorem left29_any {w : World} {H b bR bM bT N : Nat} {f : Int → Option Value} {R : Int → Option (List Int)} {mk tl : Int → Bool} {due : List Int} {came : Int} {vd : Value} (h : NodeAt w Try.prog H b bR bM bT N f R mk tl due came vd) (hN : N ≤ 1000000000) :
    Calls Try.prog 29 #[.pointer (some ⟨b, 0, none⟩)] w fun e w' => ∃ (out : List Int) (v : Value), e = .returned v ∧ w'.ownsRow w.heap.size 3 1 v out.length (out.map (Value.int .i64)) ∧ Keep [] w w' ∧ out.Nodup ∧ out.Pairwise (· ≤ ·) ∧ (∀ x ∈ out, (Lit.int .i64 x).wf = true) ∧ ∀ x, x ∈ out ↔ ((R x).isSome = true ∧ mk x = false) := by
  have HN := Lib.hid h
  obtain ⟨c0, c1, c2, c3, c4, hz⟩ := row5Y h.blk
  obtain ⟨i3, hi3, hy0, hy1, hy2⟩ := infoY info3
  clear h
  go_enter Try.func29, Try.ntmps29
  go_wp2_with (first | (with_reducible refine Txt.wp_region_text mixed quiet (by decide +kernel) ?_) | (with_reducible refine Txt.text_done (by kernel_rfl) ?_) | (at_range; refine wpList_range_f _ rfl _ 70 rfl 3 22 Try.underlying70 Try.underlying3 bR _ _ rfl HN.out.mr ?_; intro w6 cnt6 hr6 hk6 hs6; have HR6 := Lib.hid hr6; have HK6 := Lib.hid hk6; clear hr6 hk6 hs6))
  go_frame
  obtain ⟨r6, hr6⟩ : ∃ r6, w.heap.size = r6 := ⟨_, rfl⟩
  have HRE := Lib.hid hr6
  rw [hr6] at HR6 ⊢
  have HC6 := Lib.hid HR6.out.cnt_le
  clear hr6
  go_loopw [3] (fun v wr => ∃ (ss : List Int) (cnt : Nat) (av : Option Addr) (cv : Nat), v = .slice av (ss.filter (fun x => !mk x)).length cv ∧ Hid (MapR wr Try.prog 3 bR r6 N f ss cnt) ∧ Hid (wr.ownsRow w.heap.size 3 1 (.slice av (ss.filter (fun x => !mk x)).length cv) (ss.filter (fun x => !mk x)).length ((ss.filter (fun x => !mk x)).map (Value.int .i64))) ∧ Hid (Keep [] w wr) ∧ Hid (ss.length + cnt ≤ N) ∧ cv ≤ 2 ^ 63 - 1) (fun _ wr => wr.rangeLeft bR r6)
  case atStart => exact ⟨[], cnt6, none, 0, rfl, HR6, Lib.hid (World.ownsRow_nil _ _ _ _), HK6, Lib.hid (by simpa using HC6.out), by omega⟩
  case round =>
    obtain ⟨ss, cnt, av, cv, rfl, HR7, HO7, HK7, HL7, hcv2⟩ := hrel
    clear HR6 HK6 HC6
    obtain ⟨L, hL⟩ : ∃ L, (ss.filter (fun x => !mk x)).length = L := ⟨_, rfl⟩
    have hLb : L ≤ 1000000000 := by have h1 := List.length_filter_le (fun x => !mk x) ss; have h2 := HL7.out; omega
    have HLE := Lib.hid hL
    rw [hL] at HO7 ⊢
    have hcv1 : L ≤ cv := by obtain ⟨a', c', he, h1, _, _⟩ := ownSlice HO7.out; injection he with _ _ h3; rw [h3]; exact h1
    clear hL
    go_wp2_with (first | (at_next; refine wpList_next_f _ rfl _ rfl 3 Try.underlying3 bR r6 N _ ss cnt rfl HR7.out ?_ ?_))
    · intro hdone
      have HDN := Lib.hid hdone
      clear hdone
      go_wp2_with (first | (with_reducible refine Txt.wp_region_text mixed quiet (by decide +kernel) ?_) | (with_reducible refine Txt.text_done (by kernel_rfl) ?_) | (go_at_call 16; (with_reducible refine (sort16_any HO7.out hLb).mono ?_); rintro e9 w9 ⟨rfl, ho9, hk9⟩; have HO9 := Lib.hid ho9; have HK9 := Lib.hid hk9; clear ho9 hk9))
      go_ret
      have hp := sortI_perm (ss.filter (fun x => !mk x))
      have hl : (sortI (ss.filter (fun x => !mk x))).length = L := by rw [sortI_len, HLE.out]
      refine ⟨sortI (ss.filter (fun x => !mk x)), _, rfl, by rw [hl]; exact HO9.out, HK7.out.call HK9.out (fun g hg => .inr (ownLt HO7.out g (by simpa using hg)).1), hp.nodup_iff.2 (HR7.out.nodup.filter _), sortI_sorted _, fun x hx => HR7.out.wf x (List.mem_filter.1 (hp.mem_iff.1 hx)).1, fun x => ?_⟩
      rw [hp.mem_iff, List.mem_filter, HDN.out, HN.out.rf.some_]
      simp
    · intro x v w8 cnt8 hfx hns hxw hr8 hlt8 hk8 hs8 hen
      have HR8 := Lib.hid hr8
      have HK8 := Lib.hid hk8
      have HLT := Lib.hid hlt8
      have hO8 := own_keep HO7.out hk8 (fun g hg hm => by obtain ⟨_, _, cs, hc⟩ := ownLt HO7.out g hg; exact (HR7.out.notCells hc).1 (List.mem_singleton.1 hm).symm)
      have HO8 := Lib.hid hO8
      have HXW := Lib.hid hxw
      have hkw8 : Keep [] w w8 := HK7.out.call hk8 (fun g hg => .inr (by rw [List.mem_singleton.1 hg]; have := HRE.out; omega))
      have HKW := Lib.hid hkw8
      have hB8 := hkw8.at HN.out.blk (by simp)
      obtain ⟨d0, d1, d2, d3, d4, hz8⟩ := row5Y hB8
      have HM8 := Lib.hid (MapF.keep HN.out.mm hkw8 (by simp))
      obtain ⟨bv, hbv⟩ : ∃ bv, mk x = bv := ⟨_, rfl⟩
      have HBV := Lib.hid hbv
      clear hfx hns hxw hr8 hlt8 hk8 hs8 hO8 hkw8 hB8 hbv
      cases bv with
      | true =>
        go_wp2_with (first | (with_reducible refine Txt.wp_region_text mixed quiet (by decide +kernel) ?_) | (with_reducible refine Txt.text_done (by kernel_rfl) ?_) | (at_lookup; refine wpList_lookup_b _ rfl _ _ 71 rfl 3 4 Try.underlying71 Try.underlying3 (zero4 _) bM _ _ rfl HM8.out x rfl HXW.out ?_; rw [HBV.out]))
        have hf9 : (ss ++ [x]).filter (fun x => !mk x) = ss.filter (fun x => !mk x) := by rw [List.filter_append]; simp [HBV.out]
        refine ⟨⟨ss ++ [x], cnt8, av, cv, by rw [hf9, HLE.out], HR8, Lib.hid (by rw [hf9, HLE.out]; exact HO8.out), HKW, Lib.hid (by have := HL7.out; have := HLT.out; rw [List.length_append, List.length_singleton]; omega), hcv2⟩, ?_⟩
        rw [HR8.out.left_eq, HR7.out.left_eq]
        exact HLT.out
      | false =>
        go_wp2_with (first | (with_reducible refine Txt.wp_region_text mixed quiet (by decide +kernel) ?_) | (with_reducible refine Txt.text_done (by kernel_rfl) ?_) | (at_lookup; refine wpList_lookup_b _ rfl _ _ 71 rfl 3 4 Try.underlying71 Try.underlying3 (zero4 _) bM _ _ rfl HM8.out x rfl HXW.out ?_; rw [HBV.out]) | (at_builtin; refine wpList_append_lies _ rfl _ _ 22 rfl w.heap.size 3 i3 (.int .i64 0) 1 8 Try.underlying22 hi3 hy0 hy1 hy2 rfl (by decide) (.slice av L cv) L ((ss.filter (fun x => !mk x)).map (Value.int .i64)) rfl (own_keep HO8.out ((Keep.refl [] w8).alloc _) (by simp)) ⟨w8.heap.size, 0, none⟩ 1 1 [.int .i64 x] rfl rfl (cells_new w8 [.int .i64 x] 3 (0, 0)) (by intro u hu; rw [List.mem_singleton.1 hu]; rfl) (by decide) (by unfold maxLen; omega) (by omega) (by have := HKW.out.size; simp; omega) _ rfl ?_; intro g9 c9 w9 hown9 hgr9 hat9 hlt9; have hk9 : Keep (Value.slice av L cv).ownBlock.toList (w8.alloc (.cells #[.int .i64 x] 3)) w9 := Keep.ofGrown hgr9 (fun x hx => by simp [hx]); have HK9 := Lib.hid hk9; have HO9 := Lib.hid hown9; clear hown9 hgr9 hat9 hk9))
        have hf9 : (ss ++ [x]).filter (fun x => !mk x) = ss.filter (fun x => !mk x) ++ [x] := by rw [List.filter_append]; simp [HBV.out]
        have hl9 : ((ss ++ [x]).filter (fun x => !mk x)).length = L + 1 := by rw [hf9, List.length_append, List.length_singleton, HLE.out]
        have hr9 := (HR8.out.keep ((Keep.refl [] w8).alloc (.cells #[.int .i64 x] 3)) (by simp) (by simp)).keep HK9.out (fun hm => by obtain ⟨_, _, cs, hc⟩ := ownLt HO8.out bR (by simpa using hm); exact (HR8.out.notCells hc).2 rfl) (fun hm => by obtain ⟨_, _, cs, hc⟩ := ownLt HO8.out r6 (by simpa using hm); exact (HR8.out.notCells hc).1 rfl)
        obtain ⟨a9, c9', he9, hc91, hc92, _⟩ := ownSlice HO9.out
        have hcc : c9 = c9' := by injection he9
        subst hcc
        refine ⟨⟨ss ++ [x], cnt8, some ⟨g9, 0, none⟩, c9, by rw [hl9], Lib.hid hr9, Lib.hid (by rw [hl9, hf9, List.map_append]; exact HO9.out), Lib.hid ((HKW.out.alloc _).call HK9.out (fun g hg => .inr (ownLt HO8.out g (by simpa using hg)).1)), Lib.hid (by have := HL7.out; have := HLT.out; rw [List.length_append, List.length_singleton]; omega), by unfold maxLen at hc92; exact hc92⟩, ?_⟩
        rw [hr9.left_eq, HR7.out.left_eq]
        exact HLT.out
/-- Garbage: what is not reached. -/
theorem garbage21_any {w : World} {a : Option Addr} {n c : Nat} {l : List Kn} (hv : KnsV w a n c l) (hn : n ≤ 400) (hs : ∀ k ∈ l, k.refs.length ≤ 100) (hd : (l.map Kn.ref).Nodup) :
    Calls Try.prog 21 #[.slice a n c] w fun e w' => ∃ (out : List Int) (v : Value), e = .returned (.tuple #[v, .int .i64 0]) ∧ w'.ownsRow w.heap.size 3 1 v out.length (out.map (Value.int .i64)) ∧ Keep [] w w' ∧ out.Nodup ∧ out.Pairwise (· ≤ ·) ∧ (∀ x ∈ out, (Lit.int .i64 x).wf = true) ∧ ∀ x, x ∈ out ↔ ((refsR l x).isSome = true ∧ ¬ Rch (refsR l) (fun x => x ∈ firsts l) x) := by
  have HV := Lib.hid hv
  have HS := Lib.hid hs
  have HD := Lib.hid hd
  clear hv hs hd
  go_enter Try.func21, Try.ntmps21
  go_wp2_with (first | (with_reducible refine Txt.wp_region_text mixed quiet (by decide +kernel) ?_) | (with_reducible refine Txt.text_done (by kernel_rfl) ?_) | (go_at_call 25; (with_reducible refine (new25_any HV.out hn HS.out HD.out).mono ?_); rintro e1 w1 ⟨H, b, bR, bM, bT, f, mk, tl, due, vd, rfl, h1, h2, h3, h4, h5, h6, h7⟩; have H1 := Lib.hid h1; have H2 := Lib.hid h2; have H4 := Lib.hid h4; clear h1 h2 h3 h4 h5 h6 h7) | (go_at_call 29; (with_reducible refine (left29_any H1.out (by decide)).mono ?_); rintro e2 w2 ⟨out, v, rfl, h1, h2, h3, h4, h5, h6⟩; have HO := Lib.hid h1; have HK := Lib.hid h2; have HX := Lib.hid (And.intro h3 (And.intro h4 (And.intro h5 h6))); clear h1 h2 h3 h4 h5 h6))
  go_ret2
  obtain ⟨x1, x2, x3, x4⟩ := HX.out
  refine ⟨out, v, rfl, ownBaseY HO.out H4.out.size, H4.out.trans HK.out, x1, x2, x3, fun x => ?_⟩
  rw [x4]
  have := H2.out.all x
  constructor
  · rintro ⟨y1, y2⟩; exact ⟨y1, fun h => by rw [this.2 h] at y2; cases y2⟩
  · rintro ⟨y1, y2⟩; exact ⟨y1, by cases hm : mk x with | false => rfl | true => exact absurd (this.1 hm) y2⟩
end Go.Proofs.Ytmedldloilbmeaa
/- Marking: Knows: actors by numbers of any sort. -/
namespace Go
open Go.RowKit
/-- The rows of numbers of an actor lie in [B, C). -/
def KnIn (w : World) (B C : Nat) (x : Kn) : Prop := KnOk w x ∧ ∀ ad, x.ra = some ad → B ≤ ad.block ∧ ad.block < C
theorem KnIn.keep {S : List Nat} {w w' : World} {B C : Nat} {x : Kn} (h : KnIn w B C x) (hk : Keep S w w') (hS : ∀ g ∈ S, C ≤ g ∨ ∀ cs fr, w.heap[g]? ≠ some (.cells cs 3 fr)) : KnIn w' B C x := by
  obtain ⟨⟨h1, h2, h3⟩, h4⟩ := h
  have hn : ∀ ad, x.ra = some ad → ad.block ∉ S := fun ad ha hm => by
    obtain ⟨cs, hc⟩ := h3 ad ha
    rcases hS _ hm with h5 | h5
    · have := (h4 ad ha).2; omega
    · exact h5 cs _ hc
  exact ⟨⟨h1.keep hk hn, h2, fun ad ha => by obtain ⟨cs, hc⟩ := h3 ad ha; exact ⟨cs, hk.at hc (hn ad ha)⟩⟩, h4⟩
theorem KnIn.wide {w : World} {B C C' : Nat} {x : Kn} (h : KnIn w B C x) (hC : C ≤ C') : KnIn w B C' x := ⟨h.1, fun ad ha => ⟨(h.2 ad ha).1, Nat.lt_of_lt_of_le (h.2 ad ha).2 hC⟩⟩
/-- What Knows gives. -/
structure KnList (ks : List Kn) : Prop where
  few : ks.length ≤ 40
  nums : ∀ (i : Nat) (x : Kn), ks[i]? = some x → x.ref = 1000 + (i : Int)
  small : ∀ x ∈ ks, x.refs.length ≤ 4
  near : ∀ x ∈ ks, ∀ r ∈ x.refs, 1000 ≤ r ∧ r < 1042
theorem KnList.nodup {ks : List Kn} (h : KnList ks) : (ks.map Kn.ref).Nodup := by
  rw [List.nodup_iff_pairwise_ne, List.pairwise_iff_getElem]
  intro i j hi hj hlt
  rw [List.length_map] at hi hj
  rw [List.getElem_map, List.getElem_map, h.nums i _ (List.getElem?_eq_getElem hi), h.nums j _ (List.getElem?_eq_getElem hj)]
  omega
theorem knsC_one {l : List Kn} : ∀ u ∈ knsC l, u.oneCell' = true := fun u hu => by
  obtain ⟨x, _, hx⟩ := List.mem_flatMap.1 hu
  simp [Kn.cells] at hx
  rcases hx with hx | hx | hx | hx <;> (subst hx; rfl)
theorem KnsV.ofOwn {w : World} {B : Nat} {v : Value} {l : List Kn} (h : w.ownsRow B 38 4 v l.length (knsC l)) (hr : ∀ x ∈ l, KnOk w x) : ∃ a c, v = .slice a l.length c ∧ KnsV w a l.length c l ∧ ∀ x, a = some x → v.ownBlock = some x.block ∧ x = ⟨x.block, 0, none⟩ := by
  rcases h.2 with ⟨rfl, h0⟩ | ⟨g, cap, cur, rfl, hb, hg, hnc, hcm, hcs, ht⟩
  · rw [h0]
    refine ⟨none, 0, rfl, ⟨h0, Nat.le_refl _, Nat.zero_le _, fun hn => absurd hn (by decide), hr⟩, fun x hx => by cases hx⟩
  · refine ⟨_, _, rfl, ⟨rfl, hnc, hcm, fun hn => ⟨g, 0, rfl, ⟨cur, hg⟩, fun j v hj => ?_⟩, hr⟩, fun x hx => by cases hx; exact ⟨rfl, rfl⟩⟩
    rw [Nat.zero_add, cell_of_row w g j cur 38 (0, 0) hg]
    have hjl : j < l.length * 4 := by have := (List.getElem?_eq_some_iff.1 hj).1; rw [knsC_len] at this; exact this
    have : (cur.toList.take (l.length * 4))[j]? = (knsC l)[j]? := by rw [ht]
    rw [List.getElem?_take, if_pos hjl, hj] at this
    simpa using this
end Go
namespace Go.Proofs.Ytmedldloilbmeaa
open Go.RowKit
theorem info38 : (Try.prog.info? 38).map (fun i => (i.zero, i.size, i.bytes)) = some (some (.agg #[.int .i64 0, .bool false, .bool false, .slice none 0 0]), 4, 40) := by kernel_rfl
theorem rest_ex (k n : Int) (w : World) (hn : 0 < n) (hn1 : n ≤ 1000000000) : Calls Try.prog 23 #[.int .i64 k, .int .i64 n] w fun e w' => ∃ q : Nat, e = .returned (.int .i64 q) ∧ (q : Int) < n ∧ w = w' := by
  obtain ⟨q, hq, hq2⟩ := rest_nat k n hn
  refine (rest_any k n w hn hn1).mono ?_
  rintro e w' ⟨rfl, rfl⟩
  exact ⟨q, by rw [hq], hq2, rfl⟩
set_option maxRecDepth 100000 in
set_option maxHeartbeats 8000000 in
theorem knows20_any {w : World} {a : Option Addr} {len cap : Nat} {zs : List Int} (hv : IntsV w a len cap zs) :
    Calls Try.prog 20 #[.slice a len cap] w fun e w' => ∃ (v : Value) (ks : List Kn), e = .returned v ∧ w'.ownsRow w.heap.size 38 4 v ks.length (knsC ks) ∧ (∀ x ∈ ks, KnIn w' w.heap.size w'.heap.size x) ∧ KnList ks ∧ Keep [] w w' := by
  have hroom := hv.room
  have hmost := hv.most
  unfold maxLen at hmost
  obtain ⟨N, hN⟩ : ∃ N : Nat, min len 40 = N := ⟨_, rfl⟩
  have hmn : (min (len : Int) 40).toNat = N := by omega
  have hNl : N ≤ len := by omega
  have hN1 : N ≤ 40 := by omega
  have HV := Lib.hid hv
  obtain ⟨i3, hi3, hy0, hy1, hy2⟩ := infoY info3
  obtain ⟨i38, hi38, hz0, hz1, hz2⟩ := infoY info38
  clear hv
  go_enter Try.func20, Try.ntmps20
  go_wp2_with (first | (with_reducible refine Txt.wp_region_text mixed quiet (by decide +kernel) ?_) | (with_reducible refine Txt.text_done (by kernel_rfl) ?_))
  go_loopw [15, 3] (fun j v wr => ∃ (ks : List Kn) (i : Nat), i ≤ N ∧ j = .int .i64 i ∧ ks.length = i ∧ Hid (wr.ownsRow w.heap.size 38 4 v i (knsC ks)) ∧ Hid (∀ x ∈ ks, KnIn wr w.heap.size wr.heap.size x) ∧ Hid (KnList ks) ∧ Hid (Keep [] w wr)) (fun j _ _ => N - (intOf j).toNat)
  case atStart => exact ⟨[], 0, by omega, rfl, rfl, Lib.hid (World.ownsRow_nil _ _ _ _), Lib.hid (fun x hx => by cases hx), Lib.hid ⟨by decide, fun i x h => (by cases h), fun x hx => (by cases hx), fun x hx => (by cases hx)⟩, Lib.hid (Keep.refl _ _)⟩
  case round =>
    obtain ⟨ks, i, hi, rfl, hki, HO, HR, HKL, HK⟩ := hrel
    obtain ⟨av, cv, hve, hcv1, hcv2, -⟩ := ownSlice HO.out
    subst hve
    unfold maxLen at hcv2
    by_cases hlt : i < N
    · obtain ⟨b1, off, hab, hc⟩ := (HV.out.keep HK.out (by simp)).cells (by omega)
      have hcx := hc i (by omega)
      obtain ⟨z, hz⟩ : ∃ z, zs.getD i 0 = z := ⟨_, rfl⟩
      rw [hz] at hcx
      obtain ⟨W1, hW1⟩ : ∃ W1, W1 = wr := ⟨_, rfl⟩
      subst hW1
      have tok1 : True := trivial
      have tok2 : True := trivial
      have hdec : decide ((i : Int) < (N : Int)) = true := by simp; omega
      have hw1 : IntKind.i64.wrap (1000 + (i : Int)) = 1000 + (i : Int) := by simp [IntKind.wrap, IntKind.bits, IntKind.signed]; omega
      have HKI := Lib.hid hki
      subst hab
      clear hc hz hki
      go_wp2_with (first | (with_reducible refine Txt.wp_region_text mixed quiet (by decide +kernel) ?_) | (with_reducible refine Txt.text_done (by kernel_rfl) ?_) | (go_at_call 23; have _t := tok1; (with_reducible refine (rest_ex _ _ _ (by decide) (by decide)).mono ?_); rintro e9 w9 ⟨qa, rfl, hqa, rfl⟩; clear tok1 _t) | (go_at_call 23; have _t := tok2; (with_reducible refine (rest_ex _ _ _ (by decide) (by decide)).mono ?_); rintro e9 w9 ⟨qb, rfl, hqb, rfl⟩; clear tok2 _t) | (go_at_call 23; (with_reducible refine (rest_ex _ _ _ (by decide) (by decide)).mono ?_); rintro e9 w9 ⟨qc, rfl, hqc, rfl⟩))
      obtain ⟨rt, hrt⟩ : ∃ rt, ((qa : Int) == 0) = rt := ⟨_, rfl⟩
      obtain ⟨aw, haw⟩ : ∃ aw, ((qb : Int) == 0) = aw := ⟨_, rfl⟩
      rw [hrt, haw]
      have HBX : Hid ((W1.alloc (.cells #[.int .i64 (1000 + (i : Int)), .bool aw, .bool rt, .slice none 0 0] 38)).heap[W1.heap.size]? = some (.cells #[.int .i64 (1000 + (i : Int)), .bool aw, .bool rt, .slice none 0 0] 38 (0, 0))) := Lib.hid (blk_new W1 _)
      have HK1 : Hid (Keep [] W1 (W1.alloc (.cells #[.int .i64 (1000 + (i : Int)), .bool aw, .bool rt, .slice none 0 0] 38))) := Lib.hid ((Keep.refl [] W1).alloc _)
      obtain ⟨bx, hbx⟩ : ∃ bx, W1.heap.size = bx := ⟨_, rfl⟩
      rw [hbx] at HBX ⊢
      have HBE := Lib.hid hbx
      clear hrt haw hqa hqb hbx
      go_loopw [32] (fun j wr2 => ∃ (xs : List Int) (jn : Nat) (ar : Option Addr) (cr : Nat), jn ≤ qc ∧ j = .int .i64 jn ∧ xs.length = jn ∧ Hid (wr2.heap[bx]? = some (.cells #[.int .i64 (1000 + (i : Int)), .bool aw, .bool rt, .slice ar jn cr] 38 (0, 0))) ∧ Hid (wr2.ownsRow bx 3 1 (.slice ar jn cr) jn (xs.map (Value.int .i64))) ∧ Hid (∀ r ∈ xs, 1000 ≤ r ∧ r < 1042) ∧ Hid (Keep [] W1 wr2)) (fun j _ => qc - (intOf j).toNat)
      case atStart => exact ⟨[], 0, none, 0, by omega, rfl, rfl, HBX, Lib.hid (World.ownsRow_nil _ _ _ _), Lib.hid (fun r hr => by cases hr), HK1⟩
      case round =>
        obtain ⟨xs, jn, ar, cr, hj, rfl, hxl, HB2, HO2, HX2, HK2⟩ := hrel
        obtain ⟨ar', cr', hre, hcr1, hcr2, -⟩ := ownSlice HO2.out
        have hcc : cr = cr' := by injection hre
        subst hcc
        unfold maxLen at hcr2
        have HXL := Lib.hid hxl
        by_cases hlt2 : jn < qc
        · obtain ⟨d0, d1, d2, d3, hzd⟩ := row4 HB2.out
          have hwN : IntKind.i64.wrap ((N : Int) + 2) = (N : Int) + 2 := by simp [IntKind.wrap, IntKind.bits, IntKind.signed]; omega
          have hne9 : ¬ bx = wr.heap.size := by have := lt_of_blk HB2.out; omega
          clear hre hxl HBX HK1
          go_wp2_with (first | (with_reducible refine Txt.wp_region_text mixed quiet (by decide +kernel) ?_) | (with_reducible refine Txt.text_done (by kernel_rfl) ?_))
          go_region_law (first | (go_simp; go_at_call 23; (with_reducible refine (rest_ex _ _ _ (by omega) (by omega)).mono ?_); rintro e9 w9 ⟨qd, rfl, hqd, rfl⟩; have hwq : IntKind.i64.wrap (1000 + (qd : Int)) = 1000 + (qd : Int) := (by simp [IntKind.wrap, IntKind.bits, IntKind.signed]; omega); have hal3 := (row4 (((Keep.refl [] wr).alloc (.cells #[.int .i64 (1000 + (qd : Int))] 3)).at HB2.out (by simp))).2.2.2.1) | (refine step_append_lies _ rfl (.tmp 36) (.tmp 50) 22 rfl bx 3 i3 (.int .i64 0) 1 8 Try.underlying22 hi3 hy0 hy1 hy2 rfl (by decide) (.slice ar jn cr) jn (xs.map (Value.int .i64)) (by simp [Act.eval]) (own_keep HO2.out (((Keep.refl [] wr).alloc _).drew) (by simp)) ⟨wr.heap.size, 0, none⟩ 1 1 [.int .i64 (1000 + (qd : Int))] (by simp [Act.eval]) rfl (cells_new wr [.int .i64 (1000 + (qd : Int))] 3 (0, 0)) (by intro u hu; rw [List.mem_singleton.1 hu]; rfl) (by decide) (by unfold maxLen; omega) (by omega) (by have := HK2.out.size; have := HBE.out; simp; omega) _ rfl ?_; intro g9 c9 w9 hown9 hgr9 hat9 hlt9; have hk9 : Keep (Value.slice ar jn cr).ownBlock.toList (wr.alloc (.cells #[.int .i64 (1000 + (qd : Int))] 3)).drew w9 := Keep.ofGrown hgr9 (fun x hx => by simp [hx]); have HK9 := Lib.hid hk9; have HO9 := Lib.hid hown9; have hb9 := hk9.at (((Keep.refl [] wr).alloc (.cells #[.int .i64 (1000 + (qd : Int))] 3)).drew.at HB2.out (by simp)) (fun hm => by obtain ⟨_, _, cs, hc⟩ := ownLt HO2.out bx (by simpa using hm); exact neTypeY hc HB2.out (by decide) rfl); obtain ⟨f0, f1, f2, f3, hz9⟩ := row4 hb9; have HB9 := Lib.hid hb9; clear hown9 hgr9 hat9 hk9 hb9))
          all_goals
            go_wp2_with (first | (with_reducible refine Txt.wp_region_text mixed quiet (by decide +kernel) ?_) | (with_reducible refine Txt.text_done (by kernel_rfl) ?_))
            refine ⟨⟨xs ++ [1000 + (qd : Int)], jn + 1, some ⟨g9, 0, none⟩, c9, hlt2, by go_num, by rw [List.length_append, List.length_singleton, HXL.out], Lib.hid ?_, Lib.hid ?_, Lib.hid (fun r hr => ?_), Lib.hid ?_⟩, by simp [intOf]; omega⟩
            · rw [blk_setCell, if_pos rfl, HB9.out]; rfl
            · rw [List.map_append]
              exact own_keep HO9.out ((Keep.refl [bx] w9).setCell (a := bx) (i := 3) (.inl (by simp)) _) (fun g hg hm => by obtain ⟨_, _, cs, hc⟩ := ownLt HO9.out g hg; exact neTypeY hc HB9.out (by decide) (List.mem_singleton.1 hm))
            · rcases List.mem_append.1 hr with hr | hr
              · exact HX2.out r hr
              · rw [List.mem_singleton.1 hr]; constructor <;> omega
            · exact ((HK2.out.alloc _).drew.call HK9.out (fun g hg => .inr (by have := (ownLt HO2.out g (by simpa using hg)).1; have := HBE.out; omega))).setCell (.inr (by have := HBE.out; omega)) _
        · obtain rfl : jn = qc := by omega
          obtain ⟨d0, d1, d2, d3, hzd⟩ := row4 HB2.out
          have hki := HKI.out
          have HO3 := Lib.hid (own_keep HO.out HK2.out (by simp))
          have hbs : w.heap.size ≤ wr.heap.size := Nat.le_trans HK.out.size HK2.out.size
          have HBS := Lib.hid hbs
          have HO4 : Hid ((wr.alloc (.cells #[.int .i64 (1000 + (i : Int)), .bool aw, .bool rt, .slice ar jn cr] 38)).ownsRow w.heap.size 38 4 (.slice av i cv) i (knsC ks)) := Lib.hid (own_keep HO3.out ((Keep.refl [] wr).alloc _) (by simp))
          have HC4 : Hid (∀ u ∈ [Value.int .i64 (1000 + (i : Int)), .bool aw, .bool rt, .slice ar jn cr], u.oneCell' = true) := Lib.hid (by intro u hu; simp at hu; rcases hu with rfl | rfl | rfl | rfl <;> rfl)
          have HB4 : Hid (w.heap.size ≤ (wr.alloc (.cells #[.int .i64 (1000 + (i : Int)), .bool aw, .bool rt, .slice ar jn cr] 38)).heap.size) := Lib.hid (by simp; omega)
          clear hre hxl HBX HK1 hki hbs
          go_wp2_with (first | (with_reducible refine Txt.wp_region_text mixed quiet (by decide +kernel) ?_) | (with_reducible refine Txt.text_done (by kernel_rfl) ?_) | (at_builtin; refine wpList_append_lies _ rfl _ _ 34 rfl w.heap.size 38 i38 (.agg #[.int .i64 0, .bool false, .bool false, .slice none 0 0]) 4 40 Try.underlying34 hi38 hz0 hz1 hz2 rfl (by decide) (.slice av i cv) i (knsC ks) rfl HO4.out ⟨wr.heap.size, 0, none⟩ 1 1 [.int .i64 (1000 + (i : Int)), .bool aw, .bool rt, .slice ar jn cr] rfl rfl (cells_new wr [.int .i64 (1000 + (i : Int)), .bool aw, .bool rt, .slice ar jn cr] 38 (0, 0)) HC4.out (by decide) (by unfold maxLen; omega) (by omega) HB4.out _ rfl ?_; intro g9 c9 w9 hown9 hgr9 hat9 hlt9; have HO9 := Lib.hid hown9; have HG9 := Lib.hid hgr9; clear hown9 hgr9 hat9))
          have hk9 : Keep (Value.slice av i cv).ownBlock.toList (wr.alloc (.cells #[.int .i64 (1000 + (i : Int)), .bool aw, .bool rt, .slice ar jn cr] 38)) w9 := Keep.ofGrown HG9.out (fun x hx => by simp [hx])
          have hS : ∀ g ∈ (Value.slice av i cv).ownBlock.toList, w9.heap.size ≤ g ∨ ∀ cs fr, (wr.alloc (.cells #[.int .i64 (1000 + (i : Int)), .bool aw, .bool rt, .slice ar jn cr] 38)).heap[g]? ≠ some (.cells cs 3 fr) := fun g hg => .inr (fun cs fr hc => by obtain ⟨_, _, cs', hc'⟩ := ownLt HO4.out g (by simpa using hg); exact neTypeY hc' hc (by decide) rfl)
          have hsz9 : wr.heap.size ≤ w9.heap.size := Nat.le_trans ((Keep.refl [] wr).alloc _).size hk9.size
          have hold : ∀ x, KnIn wr w.heap.size wr.heap.size x → KnIn w9 w.heap.size w9.heap.size x := fun x hx => ((hx.wide hsz9).keep ((Keep.refl [] wr).alloc _) (fun g hg => by cases hg)).keep hk9 hS
          have hnew : KnIn wr w.heap.size wr.heap.size ⟨1000 + (i : Int), aw, rt, ar, cr, xs⟩ := by
            obtain ⟨a', c', he, hiv, hbv⟩ := IntsV.ofOwnB HO2.out (fun z hz => by have := HX2.out z hz; exact wf_small (by omega) (by omega))
            injection he with h1 _ h3
            subst h1 h3
            refine ⟨⟨?_, wf_small (by show -1000000 ≤ 1000 + (i : Int); omega) (by show 1000 + (i : Int) ≤ 1000000; omega), fun ad ha => ?_⟩, fun ad ha => ?_⟩
            · show IntsV wr ar xs.length cr xs
              rw [HXL.out]; exact hiv
            · obtain ⟨_, _, cs, hc⟩ := ownLt HO2.out _ (hbv ad ha)
              exact ⟨cs, hc⟩
            · obtain ⟨h4, h5, _⟩ := ownLt HO2.out _ (hbv ad ha)
              have := HK.out.size
              have := HBE.out
              exact ⟨by omega, h5⟩
          refine ⟨⟨ks ++ [⟨1000 + (i : Int), aw, rt, ar, cr, xs⟩], i + 1, hlt, by go_num, by rw [List.length_append, List.length_singleton, HKI.out], Lib.hid ?_, Lib.hid (fun x hx => ?_), Lib.hid ⟨?_, fun j x hx => ?_, fun x hx => ?_, fun x hx => ?_⟩, Lib.hid (((HK.out.trans HK2.out).alloc _).call hk9 (fun g hg => .inr (ownLt HO4.out g (by simpa using hg)).1))⟩, by simp [intOf]; omega⟩
          · rw [knsC_snoc]
            have hce : Kn.cells ⟨1000 + (i : Int), aw, rt, ar, cr, xs⟩ = [.int .i64 (1000 + (i : Int)), .bool aw, .bool rt, .slice ar jn cr] := by simp [Kn.cells, HXL.out]
            rw [hce]; exact HO9.out
          · rcases List.mem_append.1 hx with hx | hx
            · exact hold x (((HR.out x hx).keep HK2.out (fun g hg => by cases hg)).wide HK2.out.size)
            · rw [List.mem_singleton.1 hx]; exact hold _ hnew
          · rw [List.length_append, List.length_singleton, HKI.out]; omega
          · by_cases hj2 : j < i
            · rw [List.getElem?_append_left (by rw [HKI.out]; exact hj2)] at hx
              exact HKL.out.nums j x hx
            · have := (List.getElem?_eq_some_iff.1 hx).1
              rw [List.length_append, List.length_singleton, HKI.out] at this
              obtain rfl : j = i := by omega
              rw [List.getElem?_append_right (by rw [HKI.out]; exact Nat.le_refl _), HKI.out, Nat.sub_self] at hx
              cases hx; rfl
          · rcases List.mem_append.1 hx with hx | hx
            · exact HKL.out.small x hx
            · rw [List.mem_singleton.1 hx]
              show xs.length ≤ 4
              rw [HXL.out]; omega
          · rcases List.mem_append.1 hx with hx | hx
            · exact HKL.out.near x hx
            · rw [List.mem_singleton.1 hx]; exact HX2.out
    · obtain rfl : i = N := by omega
      subst hki
      go_wp2_with (first | (with_reducible refine Txt.wp_region_text mixed quiet (by decide +kernel) ?_) | (with_reducible refine Txt.text_done (by kernel_rfl) ?_))
      go_ret
      exact ⟨_, ks, rfl, HO.out, HR.out, HKL.out, HK.out⟩
end Go.Proofs.Ytmedldloilbmeaa
