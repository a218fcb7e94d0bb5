/- Texts laid together: L13 L14 L15 LP1. -/
import Derived.Test.YtfgipbjaaciiiaaMg7
namespace Go
def Bd.blk (d : Bd) : List Nat := (d.a.map (·.block)).toList
theorem EnAt.keepG {w w' : World} {B b : Nat} {E : En} {vo vi : Value} {S : List Nat} (h : EnAt w B b E vo vi) (hk : Keep S w w') (hS : ∀ g ∈ S, ∃ cs f, w.heap[g]? = some (.cells cs 5 f)) (ho : ∀ p ∈ E.out, ∀ x, p.b.a = some x → x.block ∉ S) (hi : ∀ d ∈ E.inn, ∀ x, d.a = some x → x.block ∉ S) : EnAt w' B b E vo vi := by
  have hn : ∀ g cs T f, w.heap[g]? = some (.cells cs T f) → T ≠ 5 → g ∉ S := fun g cs T f hg hT hm => by
    obtain ⟨cs', f', h1⟩ := hS g hm
    exact neType hg h1 hT rfl
  refine ⟨h.hB, hk.at h.blk (hn _ _ _ _ h.blk (by decide)), own_keep h.out hk (fun g hg => ?_), own_keep h.inn hk (fun g hg => ?_), fun p hp => (h.bo p hp).keepG hk (ho p hp), fun d hd => (h.bi d hd).keepG hk (hi d hd)⟩
  · obtain ⟨c, hc⟩ := ownCells h.out hg; exact hn _ _ _ _ hc (by decide)
  · obtain ⟨c, hc⟩ := ownCells h.inn hg; exact hn _ _ _ _ hc (by decide)
theorem rowG {w w' : World} {S : List Nat} {B e m n : Nat} {v : Value} {xs : List Value} (ho : w.ownsRow B e m v n xs) (hk : Keep S w w') (hS : ∀ g ∈ S, ∃ cs f, w.heap[g]? = some (.cells cs 5 f)) (he : e ≠ 5) : w'.ownsRow B e m v n xs :=
  own_keep ho hk (fun g hg hm => by
    obtain ⟨c, hc⟩ := ownCells ho hg
    obtain ⟨cs', f', h1⟩ := hS g hm
    exact neType hc h1 he rfl)
theorem Bd.ok.isB {w : World} {d : Bd} (h : d.ok w) : ∀ g ∈ d.blk, ∃ cs f, w.heap[g]? = some (.cells cs 5 f) := fun g hg => by
  unfold Bd.blk at hg
  simp only [Option.mem_toList, Option.map_eq_some_iff] at hg
  obtain ⟨x, hx, rfl⟩ := hg
  obtain ⟨_, cs, h1, _⟩ := h.2 x hx
  exact ⟨cs, _, h1⟩
theorem Bd.mem_blk {d : Bd} {g : Nat} (h : g ∈ d.blk) : ∃ x, d.a = some x ∧ x.block = g := by
  unfold Bd.blk at h
  simpa [Option.map_eq_some_iff] using h
end Go
namespace Go.Proofs.Ytfgipbjaaciiiaa
open Go.RowKit
set_option maxRecDepth 100000 in
theorem spoil19_any {w : World} {a : Option Addr} {n c : Nat} {bs : List Int} {z : Int} (hd : (Bd.mk a c bs).ok w) (hn : bs.length = n) :
    Calls Try.prog 19 #[.slice a n c, .int .u8 z] w fun e w' => e = .returned (.tuple #[]) ∧ Keep (Bd.mk a c bs).blk w w' := by
  have hnc : n ≤ c := by have := hd.1.room; simp only at this; omega
  have hcm : c ≤ maxLen := hd.1.most
  unfold maxLen at hcm
  cases a with
  | none =>
    have h0 : c = 0 := hd.1.onNil rfl
    subst h0
    obtain rfl : n = 0 := by omega
    clear hd
    go_enter Try.func19, Try.ntmps19
    go_wp2_with (first | (with_reducible refine Txt.wp_region_text mixed quiet (by decide +kernel) ?_) | (with_reducible refine Txt.text_done (by kernel_rfl) ?_))
    go_loopw [11] (fun j wr => j = .int .i64 0 ∧ wr = w) (fun _ _ => 0)
    case atStart => exact ⟨rfl, rfl⟩
    case round =>
      obtain ⟨rfl, rfl⟩ := hrel
      go_wp2_with (first | (with_reducible refine Txt.wp_region_text mixed quiet (by decide +kernel) ?_) | (with_reducible refine Txt.text_done (by kernel_rfl) ?_))
      refine bodyPost_end (results_none rfl _ _ _) rfl ⟨rfl, ?_⟩
      exact Keep.refl _ _
  | some ad =>
    obtain ⟨h0, cs, h1, h2⟩ := hd.2 ad rfl
    obtain ⟨g, o, s⟩ := ad
    injection h0 with _ ho hs
    subst ho hs
    have hg : g < w.heap.size := lt_of_blk h1
    have HH := Lib.hid h1
    have HC := Lib.hid h2
    clear hd h1 h2
    go_enter Try.func19, Try.ntmps19
    go_wp2_with (first | (with_reducible refine Txt.wp_region_text mixed quiet (by decide +kernel) ?_) | (with_reducible refine Txt.text_done (by kernel_rfl) ?_))
    go_loopw [11] (fun j wr => ∃ k : Nat, k ≤ c ∧ j = .int .i64 k ∧ Keep [g] w wr ∧ Hid (∃ cs, wr.heap[g]? = some (.cells cs 5 (0, 0)) ∧ cs.size = c)) (fun j _ => c - (intOf j).toNat)
    case atStart => exact ⟨0, by omega, rfl, Keep.refl _ _, Lib.hid ⟨cs, HH.out, HC.out⟩⟩
    case round =>
      obtain ⟨k, hk, rfl, hkw, HG⟩ := hrel
      obtain ⟨cs', hg', hc'⟩ := HG.out
      have hgw := lt_of_blk hg'
      have hzw := thaw hg'
      by_cases hlt : k < c
      · have hcell : wr.cell? ⟨g, k, none⟩ = some cs'[k] := by rw [cellAt hg' k]; simp [hc', hlt]
        obtain ⟨v, hv⟩ : ∃ v, wr.cell? ⟨g, k, none⟩ = some v := ⟨_, hcell⟩
        have HG' := Lib.hid hg'
        have HC' := Lib.hid hc'
        clear hcell hg' hc' HG
        go_wp2_with (first | (with_reducible refine Txt.wp_region_text mixed quiet (by decide +kernel) ?_) | (with_reducible refine Txt.text_done (by kernel_rfl) ?_))
        refine ⟨⟨k + 1, hlt, by go_num, hkw.setCell (.inl (by simp)) _, Lib.hid ⟨cs'.setIfInBounds k (.int .u8 z), ?_, ?_⟩⟩, by simp [intOf]; omega⟩
        · rw [blk_setCell, if_pos rfl, HG'.out]; rfl
        · simp [HC'.out]
      · clear hg' hc' HG
        go_wp2_with (first | (with_reducible refine Txt.wp_region_text mixed quiet (by decide +kernel) ?_) | (with_reducible refine Txt.text_done (by kernel_rfl) ?_))
        refine bodyPost_end (results_none rfl _ _ _) rfl ⟨rfl, ?_⟩
        exact hkw
end Go.Proofs.Ytfgipbjaaciiiaa
namespace Go
/-- A slice of slices of bytes that reads as Z. -/
def RowB (w : World) (a : Option Addr) (n : Nat) (Z : Nat → List Int) : Prop :=
  0 < n → ∃ b off, a = some ⟨b, off, none⟩ ∧ ∀ i, i < n → ∃ a' c', w.cell? ⟨b, off + i, none⟩ = some (.slice a' (Z i).length c') ∧ BytesV w a' (Z i).length c' (Z i)
theorem RowB.ofBds {w : World} {B n : Nat} {a : Option Addr} {c : Nat} {l : List Bd} (ho : w.ownsRow B 29 1 (.slice a n c) n (l.map Bd.val)) (hb : ∀ d ∈ l, d.ok w) : RowB w a n (fun i => (l.getD i noBd).bs) := fun hn => by
  obtain ⟨g, c', he, _, _, _, h5⟩ := bdrow ho hn
  injection he with he
  refine ⟨g, 0, he, fun i hi => ?_⟩
  have hl : l.length = n := by have := ho.1; simpa using this
  have hil : i < l.length := by omega
  have hd := h5 i l[i] (List.getElem?_eq_getElem hil)
  have e : l.getD i noBd = l[i] := by simp [List.getD_eq_getElem?_getD, hil]
  dsimp only
  rw [e, Nat.zero_add]
  exact ⟨_, _, hd, (hb _ (List.getElem_mem hil)).1⟩
end Go
namespace Go.Proofs.Ytfgipbjaaciiiaa
open Go.RowKit
set_option maxRecDepth 100000 in
theorem clone16_any {a : Option Addr} {n c : Nat} {vs : List Value} {w : World} (hl : vs.length = n) (h1 : ∀ u ∈ vs, u.oneCell' = true) (h0 : a = none → n = 0) (hc : ∀ ad, a = some ad → ∀ j u, vs[j]? = some u → w.cell? (ad.add j) = some u) (hn : n ≤ 1000) :
    Calls Try.prog 16 #[.slice a n c] w fun e w' => ∃ v, e = .returned v ∧ Keep [] w w' ∧ w'.ownsRow w.heap.size 29 1 v n vs := by
  obtain ⟨i3, hi3, hy0, hy1, hy2⟩ := info_parts2 info29
  have q37 : ∀ (w : World) (a : Option Addr) (n c n' c' : Nat), (binOp .eql 37 (.slice a n c) (.slice none n' c')).run Try.prog w = .ok (.bool a.isNone) w := fun w a n c n' c' => Lib.run_eql_slice_nil w _ _ a n c n' c' Try.underlying37
  cases a with
  | none =>
    obtain rfl := h0 rfl
    have hnil : vs = [] := List.eq_nil_of_length_eq_zero hl
    subst hnil
    clear hc h0 hl h1
    go_enter Try.func16, Try.ntmps16
    go_wp2_with (first | (with_reducible refine Txt.wp_region_text mixed quiet (by decide +kernel) ?_) | (with_reducible refine Txt.text_done (by kernel_rfl) ?_))
    go_ret
    exact ⟨_, rfl, Keep.refl _ _, World.ownsRow_nil _ _ _ _⟩
  | some ad =>
    have HC := Lib.hid (hc ad rfl)
    have HL := Lib.hid hl
    have H1 := Lib.hid h1
    clear hc h0 hl h1
    go_enter Try.func16, Try.ntmps16
    go_wp2_with (first | (at_builtin; refine wpList_append_own _ rfl _ _ 37 rfl w.heap.size 29 i3 (.slice none 0 0) 1 24 Try.underlying37 hi3 hy0 hy1 hy2 rfl (by decide) _ _ _ rfl (World.ownsRow_made w #[] 0 (Nat.le_refl _) (Nat.zero_le _) (by simp)) ad n c vs rfl ?qc1 ?qc2 ?qc3 ?qc4 ?qc5 ?qc6 ?_) | (with_reducible refine Txt.wp_region_text mixed quiet (by decide +kernel) ?_) | (with_reducible refine Txt.text_done (by kernel_rfl) ?_))
    case qc1 => rw [HL.out, Nat.mul_one]
    case qc2 =>
      intro j u hj
      exact ((Keep.refl [] w).alloc _).cell (HC.out j u hj) (by simp)
    case qc3 => exact H1.out
    case qc4 => unfold maxLen; omega
    case qc5 => omega
    case qc6 => simp
    intro v' w1 hown hgrow hnil
    go_wp2
    go_ret
    exact ⟨v', rfl, ((Keep.refl [] w).alloc _).grown hgrow (fun g hg => .inr (by simp [Value.ownBlock] at hg; omega)), by simpa using hown⟩
set_option maxRecDepth 100000 in
set_option maxHeartbeats 2000000 in
theorem equalF21_same {w : World} {a1 a2 : Option Addr} {n c1 c2 : Nat} {Z : Nat → List Int} (h1 : RowB w a1 n Z) (h2 : RowB w a2 n Z) (hn : n ≤ 100000) (hm1 : n ≤ c1 ∧ c1 ≤ maxLen) (hm2 : n ≤ c2 ∧ c2 ≤ maxLen) :
    Calls Try.prog 21 #[.slice a1 n c1, .slice a2 n c2, .func (.func 18) #[] #[]] w fun e w' => e = .returned (.bool true) ∧ Keep [] w w' := by
  have H1 := Lib.hid h1
  have H2 := Lib.hid h2
  obtain ⟨hm1, hm3⟩ := hm1
  obtain ⟨hm2, hm4⟩ := hm2
  unfold maxLen at hm3 hm4
  clear h1 h2
  go_enter Try.func21, Try.ntmps21
  go_wp2_with (first | (with_reducible refine Txt.wp_region_text mixed quiet (by decide +kernel) ?_) | (with_reducible refine Txt.text_done (by kernel_rfl) ?_))
  go_loopw [17] (fun j wr => ∃ k : Nat, k ≤ n ∧ j = .int .i64 k ∧ Keep [] w wr) (fun j _ => n - (intOf j).toNat)
  case atStart => exact ⟨0, by omega, rfl, Keep.refl _ _⟩
  case round =>
    obtain ⟨k, hk, rfl, hkw⟩ := hrel
    by_cases hlt : k < n
    · obtain ⟨b, o, rfl, hb⟩ := H1.out (by omega)
      obtain ⟨b2, o2, rfl, hb2⟩ := H2.out (by omega)
      obtain ⟨x, cx, hx, hX⟩ := hb k hlt
      obtain ⟨y, cy, hy, hY⟩ := hb2 k hlt
      have hx' := hkw.cell hx (by simp)
      have hy' := hkw.cell hy (by simp)
      have HX := Lib.hid (hX.keep hkw (by simp))
      have HY := Lib.hid (hY.keep hkw (by simp))
      obtain ⟨z, hz⟩ : ∃ z, (Z k).length = z := ⟨_, rfl⟩
      rw [hz] at hx' hy' HX HY
      clear hx hy hX hY hb hb2 hz
      go_wp2_with (first | (with_reducible refine Txt.wp_region_text mixed quiet (by decide +kernel) ?_) | (with_reducible refine Txt.text_done (by kernel_rfl) ?_) | (go_at_call 18; (with_reducible refine (equal18_same HX.out HY.out).mono ?_); rintro e w2 ⟨rfl, rfl⟩))
      exact ⟨⟨k + 1, hlt, by go_num, hkw⟩, by simp [intOf]; omega⟩
    · obtain rfl : k = n := by omega
      go_wp2_with (first | (with_reducible refine Txt.wp_region_text mixed quiet (by decide +kernel) ?_) | (with_reducible refine Txt.text_done (by kernel_rfl) ?_))
      go_ret
      exact ⟨rfl, hkw⟩
end Go.Proofs.Ytfgipbjaaciiiaa
namespace Go
theorem BytesV.take {w : World} {a : Option Addr} {n c t : Nat} {bs : List Int} (h : BytesV w a n c bs) (ht : t ≤ n) : BytesV w a t c (bs.take t) :=
  ⟨by rw [List.length_take, h.len]; omega, Nat.le_trans ht h.room, h.most, fun z hz => h.wf z (List.mem_of_mem_take hz), fun h0 => by
    obtain ⟨b, o, h1, h2⟩ := h.cells (by omega)
    exact ⟨b, o, h1, fun i hi => by rw [h2 i (by omega)]; simp [List.getD_eq_getElem?_getD, hi]⟩, h.onNil⟩
theorem apart_step {w w' : World} {B b : Nat} {E E' : En} {vo vi vo' vi' vl : Value} {B3 n : Nat} {xs : List Value} (k : EnTo w w' B b E' vo vi vo' vi') (_ : EnAt w B b E vo vi) (ho : w.ownsRow B3 29 1 vl n xs) (hg : ∀ g, vl.ownBlock = some g → g ∉ enS b vo vi) :
    w'.ownsRow B3 29 1 vl n xs ∧ ∀ g, vl.ownBlock = some g → g ∉ enS b vo' vi' := by
  refine ⟨own_keep ho k.keep hg, fun g hg1 hm => ?_⟩
  have hlt := (ho.lt g hg1).2
  refine hg g hg1 ?_
  simp only [enS, List.mem_cons, List.mem_append, Option.mem_toList] at hm ⊢
  rcases hm with hm | hm | hm
  · exact .inl hm
  · rcases k.no g hm with h1 | h1
    · exact .inr (.inl h1)
    · omega
  · rcases k.ni g hm with h1 | h1
    · exact .inr (.inr h1)
    · omega
theorem Two.keepG {w0 w w' : World} {bx b_y : Nat} {X Y : En} {vox vix voy viy : Value} {S : List Nat} (h : Two w0 w bx b_y X Y vox vix voy viy) (hk : Keep S w w') (hn : ∀ g ∈ S, w0.heap.size ≤ g) (hS : ∀ g ∈ S, ∃ cs f, w.heap[g]? = some (.cells cs 5 f)) (ho : ∀ p ∈ X.out, ∀ x, p.b.a = some x → x.block ∉ S) (hi : ∀ d ∈ X.inn, ∀ x, d.a = some x → x.block ∉ S) (ho2 : ∀ p ∈ Y.out, ∀ x, p.b.a = some x → x.block ∉ S) (hi2 : ∀ d ∈ Y.inn, ∀ x, d.a = some x → x.block ∉ S) : Two w0 w' bx b_y X Y vox vix voy viy :=
  ⟨h.kx.call hk (fun g hg => .inr (hn g hg)), h.x.keepG hk hS ho hi, h.y.keepG hk hS ho2 hi2, h.ne, h.ox, h.oy⟩
theorem Two.keepN {w0 w w' : World} {bx b_y : Nat} {X Y : En} {vox vix voy viy : Value} {S : List Nat} (h : Two w0 w bx b_y X Y vox vix voy viy) (hk : Keep S w w') (hn : ∀ g ∈ S, w0.heap.size ≤ g) (hx : ∀ g ∈ enS bx vox vix, g ∉ S) (hy : ∀ g ∈ enS b_y voy viy, g ∉ S) (hS : NoB S w) : Two w0 w' bx b_y X Y vox vix voy viy :=
  ⟨h.kx.call hk (fun g hg => .inr (hn g hg)), h.x.keep hk hx hS, h.y.keep hk hy hS, h.ne, h.ox, h.oy⟩
/-- A row of one's own, one element written anew. -/
theorem own_set {w : World} {B e n g c k : Nat} {xs : List Value} (ho : w.ownsRow B e 1 (.slice (some ⟨g, 0, none⟩) n c) n xs) (_ : k < n) (v : Value) : (w.setCell ⟨g, k, none⟩ v).ownsRow B e 1 (.slice (some ⟨g, 0, none⟩) n c) n (xs.set k v) := by
  rcases ho.2 with ⟨h1, _⟩ | ⟨g', cap, cur, h1, hb, hg, hnc, hcm, hcs, ht⟩
  · cases h1
  · cases h1
    refine ⟨by rw [List.length_set]; exact ho.1, .inr ⟨g, c, cur.setIfInBounds k v, rfl, hb, ?_, hnc, hcm, by simpa using hcs, ?_⟩⟩
    · rw [blk_setCell, if_pos rfl, hg]; rfl
    · rw [Array.toList_setIfInBounds, List.take_set, ht]
/-- The list, its first k cut. -/
def cutV (A : Nat → Option Addr) (L C : Nat → Nat) (N k : Nat) : List Value := (List.range N).map fun i => if i < k then Value.slice (A i) (min (L i) 100) (C i) else Value.slice (A i) (L i) (C i)
theorem cutV_one (A : Nat → Option Addr) (L C : Nat → Nat) (N k : Nat) : ∀ u ∈ cutV A L C N k, u.oneCell' = true := fun u hu => by
  obtain ⟨i, _, rfl⟩ := List.mem_map.1 hu
  (try dsimp only)
  split <;> rfl
theorem cutV_set {A : Nat → Option Addr} {L C : Nat → Nat} {N k : Nat} (hk : k < N) : (cutV A L C N k).set k (.slice (A k) (min (L k) 100) (C k)) = cutV A L C N (k + 1) := by
  refine List.ext_getElem? fun i => ?_
  rw [List.getElem?_set]
  by_cases h : k = i
  · subst h
    rw [if_pos rfl, if_pos (by simpa [cutV] using hk)]
    simp [cutV, hk]
  · rw [if_neg h]
    by_cases hi : i < N
    · simp only [cutV, List.getElem?_map, List.getElem?_range hi, Option.map_some]
      by_cases h2 : i < k
      · rw [if_pos h2, if_pos (by omega)]
      · rw [if_neg h2, if_neg (by omega)]
    · simp [cutV, hi]
theorem outP_all {E : En} {ds : Nat → Bd} (h : ∀ p ∈ E.out, p.sent = false) (hl : E.out.length ≤ E.lim) (hd : E.due = false) : outP E ds = (List.range E.out.length).map (fun i => ⟨E.base + i, E.want, true, E.win - E.inn.length, ds i⟩) := by
  unfold outP
  rw [Nat.min_eq_right hl, if_neg (by rw [hd]; simp), outL_all h _ (Nat.le_refl _)]
theorem sentL_bodies {l : List Pd} {k : Nat} : ∀ p ∈ sentL l k, ∃ q ∈ l, p.b = q.b := by
  intro p hp
  unfold sentL at hp
  rcases List.mem_append.1 hp with hp | hp
  · obtain ⟨q, hq, rfl⟩ := List.mem_map.1 hp
    exact ⟨q, List.mem_of_mem_take hq, rfl⟩
  · exact ⟨p, List.mem_of_mem_drop hp, rfl⟩
theorem sentL_lt {l : List Pd} {k i : Nat} {p : Pd} (hi : i < k) (h : l[i]? = some p) : (sentL l k)[i]? = some ⟨p.b, true⟩ := by
  have hil := (List.getElem?_eq_some_iff.1 h).1
  unfold sentL
  rw [List.getElem?_append_left (by simp; omega), List.getElem?_map, List.getElem?_take, if_pos hi, h]
  rfl
theorem notEn {w : World} {B b : Nat} {E : En} {vo vi : Value} (h : EnAt w B b E vo vi) {x : Nat} {cs : Array Value} {T : TypeId} {f : Nat × Nat} (hx : w.heap[x]? = some (.cells cs T f)) (h1 : T ≠ 76) (h2 : T ≠ 78) (h3 : T ≠ 29) : x ∉ enS b vo vi := fun hm => by
  simp only [enS, List.mem_cons, List.mem_append, Option.mem_toList] at hm
  rcases hm with rfl | hm | hm
  · exact neType hx h.blk h1 rfl
  · obtain ⟨c', hc'⟩ := ownCells h.out hm
    exact neType hx hc' h2 rfl
  · obtain ⟨c', hc'⟩ := ownCells h.inn hm
    exact neType hx hc' h3 rfl
/-- Where an end stands that took k bodies, these. -/
def TookB (Y : En) (Z : Nat → List Int) (k : Nat) : Prop := Y.win = 16 ∧ Y.base = 0 ∧ Y.want = k ∧ Y.out = [] ∧ Y.inn.length = k ∧ ∀ j d, Y.inn[j]? = some d → d.bs = (Z j).take 100
theorem TookB.step {Y : En} {Z : Nat → List Int} {k : Nat} {d : Bd} (h : TookB Y Z k) (hk : k < 16) (hd : d.bs = (Z k).take 100) : gotE (ackE Y 0 16) true k d = { Y with lim := max Y.lim 16, due := true, inn := Y.inn ++ [d], want := Y.want + 1 } ∧ TookB (gotE (ackE Y 0 16) true k d) Z (k + 1) := by
  obtain ⟨h1, h2, h3, h4, h5, h6⟩ := h
  have hA : ackE Y 0 16 = { Y with lim := max Y.lim 16 } := by
    unfold ackE
    rw [if_neg (by omega), if_pos (by omega)]
  have hG : gotE (ackE Y 0 16) true k d = { Y with lim := max Y.lim 16, due := true, inn := Y.inn ++ [d], want := Y.want + 1 } := by
    rw [hA]
    unfold gotE
    rw [if_pos rfl, if_pos ⟨show k = Y.want by omega, show Y.inn.length < Y.win by omega⟩]
  refine ⟨hG, ?_⟩
  rw [hG]
  refine ⟨h1, h2, by simp only; omega, h4, by simp only [List.length_append, List.length_singleton]; omega, fun j e he => ?_⟩
  by_cases hj : j < Y.inn.length
  · simp only at he
    rw [List.getElem?_append_left hj] at he
    exact h6 j e he
  · simp only at he
    have h7 := (List.getElem?_eq_some_iff.1 he).1
    rw [List.length_append, List.length_singleton] at h7
    rw [List.getElem?_append_right (by omega), show j - Y.inn.length = 0 by omega] at he
    cases he
    rw [show j = k by omega]; exact hd
/-- Packets in a row, all with bodies. -/
def pkL (k : Nat) (ds : Nat → Bd) : List Pk := (List.range k).map fun i => ⟨0 + i, 0, true, 16, ds i⟩
theorem pkL_at {k i : Nat} {ds : Nat → Bd} (h : i < k) : (pkL k ds)[i]? = some ⟨0 + i, 0, true, 16, ds i⟩ := by simp [pkL, h]
/-- The state of LineOwn's first loop. -/
def OwnSt (w wr : World) (bx b_y : Nat) (X Y : En) (B3 : Nat) (vl : Value) (n : Nat) (xs : List Value) : Prop :=
  ∃ vox vix voy viy, Two w wr bx b_y X Y vox vix voy viy ∧ wr.ownsRow B3 29 1 vl n xs ∧ ∀ g, vl.ownBlock = some g → g ∉ enS bx vox vix ∧ g ∉ enS b_y voy viy
end Go
namespace Go.Proofs.Ytfgipbjaaciiiaa
open Go.RowKit
set_option maxRecDepth 100000 in
set_option maxHeartbeats 8000000 in
theorem lineOwn_walk (a : Option Addr) (len cap : Nat) (A : Nat → Option Addr) (L C : Nat → Nat) (Z : Nat → List Int) (w : World) (f : BRowsV w a len cap A L C Z) :
    Calls Try.prog 4 #[.slice a len cap] w fun e w' => e = .returned (.bool true) ∧ Keep [] w w' := by
  obtain ⟨N, hN⟩ : ∃ N : Nat, min len 8 = N := ⟨_, rfl⟩
  have HMN : Hid ((min (len : Int) 8).toNat = N) := Lib.hid (by omega)
  have hN8 : N ≤ 8 := by omega
  have hNl : N ≤ len := by omega
  have hroom := f.room
  have hmost := f.most
  unfold maxLen at hmost
  have HF := Lib.hid f
  have HCV : Hid (∀ ad, a = some ad → ∀ j u, (cutV A L C N 0)[j]? = some u → w.cell? (ad.add j) = some u) := Lib.hid (fun ad ha j u hu => by
    have hj := (List.getElem?_eq_some_iff.1 hu).1
    simp only [cutV, List.length_map, List.length_range] at hj
    obtain ⟨b, off, h1, h2⟩ := f.cells (by omega)
    rw [ha] at h1
    cases h1
    rw [Go.WideShapes.add_plain, h2 j (by omega), ← hu]
    simp [cutV, hj])
  have HNIL : Hid (a = none → N = 0) := Lib.hid (fun h => by have := f.onNil h; omega)
  have HLC : Hid ((cutV A L C N 0).length = N) := Lib.hid (by simp [cutV])
  clear f hN
  go_enter Try.func4, Try.ntmps4
  go_wp2_with (first | (with_reducible refine Txt.wp_region_text mixed quiet (by decide +kernel) ?_) | (with_reducible refine Txt.text_done (by kernel_rfl) ?_) | (go_at_call 10; (with_reducible refine begun10_any.mono ?_); rintro e w1 ⟨rfl, hk1⟩) | (go_at_call 11; (with_reducible refine (lines11_any (a := 15) (b := 15) (wa := 15) (wb := 15) (by decide) (by decide)).mono ?_); rintro e w2 ⟨bx, b_y, rfl, hk2, hne2, hx2, hy2⟩; have HK2 := Lib.hid (hk1.trans hk2); have HX2 := Lib.hid hx2; have HY2 := Lib.hid hy2; have HNE2 := Lib.hid hne2; have HK1 := Lib.hid hk1; clear hk2 hx2 hy2 hne2 hk1) | (go_at_call 16; rw [HMN.out]; (with_reducible refine (clone16_any (vs := cutV A L C N 0) HLC.out (cutV_one A L C N 0) HNIL.out (fun ad ha j u hu => HK2.out.cell (HCV.out ad ha j u hu) (by simp)) (by omega)).mono ?_); rintro e w3 ⟨v3, rfl, hk3, ho3⟩; obtain ⟨a3, c3, rfl, h31, h32, h33⟩ := ownAny ho3; have HO3 := Lib.hid ho3; have HK3 := Lib.hid hk3; clear ho3 hk3 h33))
  have hw2 := HK2.out.size
  have HST : Hid (OwnSt w w3 bx b_y (en0 16) (en0 16) w2.heap.size (.slice a3 N c3) N (cutV A L C N 0)) := Lib.hid (by
    have hb := HK1.out.size
    have hx : EnAt w2 w.heap.size bx (en0 16) (.slice none 0 0) (.slice none 0 0) := ⟨Nat.le_trans hb HX2.out.hB, HX2.out.blk, ownBase HX2.out.out hb, ownBase HX2.out.inn hb, HX2.out.bo, HX2.out.bi⟩
    have hy : EnAt w2 w.heap.size b_y (en0 16) (.slice none 0 0) (.slice none 0 0) := ⟨Nat.le_trans hb HY2.out.hB, HY2.out.blk, ownBase HY2.out.out hb, ownBase HY2.out.inn hb, HY2.out.bo, HY2.out.bi⟩
    have hne := HNE2.out
    refine ⟨_, _, _, _, Two.keep0 ⟨HK2.out, hx, hy, by simpa [enS, Value.ownBlock] using hne, EnOk.en0 (by decide) (by decide), EnOk.en0 (by decide) (by decide)⟩ HK3.out, HO3.out, fun g hg => ⟨fun hm => ?_, fun hm => ?_⟩⟩
    · have := (hx.lt g hm).2; have := (HO3.out.lt g hg).1; omega
    · have := (hy.lt g hm).2; have := (HO3.out.lt g hg).1; omega)
  clear HX2 HY2 HNE2 HK1 HK3 HO3 HCV HLC HNIL
  unfold maxLen at h32
  go_loopw [31] (fun j wr => ∃ (k : Nat) (l : List Pd), k ≤ N ∧ j = .int .i64 k ∧ l.length = k ∧ Hid (∀ i p, l[i]? = some p → p.sent = false ∧ p.b.bs = (Z i).take 100) ∧ Hid (OwnSt w wr bx b_y { en0 16 with out := l } (en0 16) w2.heap.size (.slice a3 N c3) N (cutV A L C N k))) (fun j _ => N - (intOf j).toNat)
  case atStart => exact ⟨0, [], by omega, rfl, rfl, Lib.hid (fun i p hp => by simp at hp), HST⟩
  case round =>
    obtain ⟨k, l, hk, rfl, hlk, HU, HO⟩ := hrel
    obtain ⟨vox, vix, voy, viy, hT, hO, hG⟩ := HO.out
    by_cases hlt : k < N
    · obtain ⟨a3', c3', he, -, -, hcc⟩ := ownAny hO
      injection he with he1 _ he3
      subst he1 he3
      obtain ⟨g3, rfl, hg3b, hg3l, hg3c, hg3z⟩ := hcc (by omega)
      have hcell := hg3c k (by omega)
      rw [show (cutV A L C N k)[k]? = some (.slice (A k) (L k) (C k)) by simp [cutV, hlt]] at hcell
      have hBV := HF.out.rows k (by omega)
      have hr1 := hBV.room
      have hr2 := hBV.most
      unfold maxLen at hr2
      have hZl := hBV.len
      obtain ⟨t, ht⟩ : ∃ t : Nat, min (L k) 100 = t := ⟨_, rfl⟩
      have hcs := cutV_set (A := A) (L := L) (C := C) hlt
      rw [ht] at hcs
      have hZt : (Z k).take 100 = (Z k).take t := by
        by_cases h : L k ≤ 100
        · rw [List.take_of_length_le (by omega), List.take_of_length_le (by omega)]
        · rw [show t = 100 by omega]
      have hBT := hBV.take (t := t) (by omega)
      have hTl : ((Z k).take t).length = t := hBT.len
      obtain ⟨T, hTT⟩ : ∃ T, (Z k).take t = T := ⟨_, rfl⟩
      rw [hTT] at hBT hTl hZt
      obtain ⟨Ak, hAk⟩ : ∃ x, A k = x := ⟨_, rfl⟩
      obtain ⟨Lk, hLk⟩ : ∃ x, L k = x := ⟨_, rfl⟩
      obtain ⟨Ck, hCk⟩ : ∃ x, C k = x := ⟨_, rfl⟩
      rw [hAk, hLk, hCk] at hcell
      rw [hAk, hCk] at hBT hcs
      rw [hLk] at hr1 ht
      rw [hCk] at hr1 hr2
      have hmt : (min (Lk : Int) 100).toNat = t := by omega
      have HMT := Lib.hid hmt
      have ht100 : t ≤ 100 := by omega
      have HKA : Hid (Keep [g3] wr (wr.setCell ⟨g3, k, none⟩ (.slice Ak t Ck))) := Lib.hid ((Keep.refl _ _).setCell (.inl (by simp)) _)
      have hg3w : w.heap.size ≤ g3 := by omega
      have hn29 : NoB [g3] wr := fun x hx cs f hc => by
        obtain rfl := List.mem_singleton.1 hx
        obtain ⟨c9, h9⟩ := ownCells hO rfl
        exact neType h9 hc (by decide) rfl
      have HTA := Lib.hid (hT.keepN HKA.out (fun g hg => by rw [List.mem_singleton.1 hg]; exact hg3w) (fun g hg hm => (hG g3 rfl).1 (by rw [← List.mem_singleton.1 hm]; exact hg)) (fun g hg hm => (hG g3 rfl).2 (by rw [← List.mem_singleton.1 hm]; exact hg)) hn29)
      have HOA := Lib.hid (own_set hO hlt (.slice Ak t Ck))
      rw [hcs] at HOA
      have HGG := Lib.hid hG
      have HBA := Lib.hid (hBT.keep HTA.out.kx (by simp))
      have HBT := Lib.hid hBT
      have HTL := Lib.hid hTl
      have HZT := Lib.hid hZt
      have HLK := Lib.hid hlk
      have hrs := hT.kx.size
      have HXl : Hid (∀ p ∈ l, ∀ x, p.b.a = some x → x.block < wr.heap.size) := Lib.hid (fun p hp x hx => (hT.x.bo p hp).lt x hx)
      have HR : Hid (({ en0 16 with out := l } : En).out.length < ({ en0 16 with out := l } : En).win) := Lib.hid (by simp only [en0]; omega)
      clear hT hO hG HO hg3c hcc hBV hBT hTl hZt hZl hTT hAk hLk hCk hcs hlk hn29 ht
      go_wp2_with (first | (with_reducible refine Txt.wp_region_text mixed quiet (by decide +kernel) ?_) | (with_reducible refine Txt.text_done (by kernel_rfl) ?_) | (go_at_call 17; (with_reducible refine (clone17_p HBA.out (by omega)).mono ?_); rintro e w4 ⟨a4, c4, rfl, hk4, hok4, hfr4⟩; have HT4 := Lib.hid (HTA.out.keep0 hk4); have HO4 := Lib.hid (own_keep HOA.out hk4 (by simp)); have HOK4 := Lib.hid hok4; have HFR4 := Lib.hid hfr4; have hb4 : BytesV w4 a4 T.length c4 T := hok4.1; rw [HTL.out] at hb4; have HB4 := Lib.hid hb4; clear hk4 hok4 hfr4 hb4) | (go_at_call 13; (with_reducible refine (put13_any HT4.out.x HT4.out.ox HB4.out (by omega) HR.out).mono ?_); rintro e w5 ⟨rfl, vo5, a5, c5, hf5, ht5⟩; have HT5 := Lib.hid (HT4.out.onX ht5 (EnOk.put HT4.out.ox HR.out (Nat.le_trans (Nat.le_of_eq HTL.out) (by omega)))); have HO5 := Lib.hid (apart_step ht5 HT4.out.x HO4.out (fun g hg => (HGG.out g hg).1)); have HOK5 := Lib.hid (ht5.bd HT4.out.x HOK4.out); have HF5 := Lib.hid hf5; have hb5 : BytesV w5 a4 T.length c4 T := (ht5.bd HT4.out.x HOK4.out).1; rw [HTL.out] at hb5; have HB5 := Lib.hid hb5; have HBK5 := Lib.hid (HBT.out.keep HT5.out.kx (by simp)); clear hf5 ht5 hb5) | (go_at_call 18; (with_reducible refine (equal18_same HB5.out HBK5.out).mono ?_); rintro e w6 ⟨rfl, rfl⟩) | (go_at_call 19; (with_reducible refine (spoil19_any HOK5.out HTL.out).mono ?_); rintro e w7 ⟨rfl, hk7⟩))
      have hfr : ∀ g ∈ (Bd.mk a4 c4 T).blk, wr.heap.size ≤ g ∧ g < w4.heap.size := fun g hg => by
        obtain ⟨x, hx, rfl⟩ := Bd.mem_blk hg
        have h1 := HFR4.out x hx
        simp at h1
        exact ⟨h1, HOK4.out.lt x hx⟩
      refine ⟨⟨k + 1, l ++ [⟨⟨a5, c5, T⟩, false⟩], hlt, by go_num, by rw [List.length_append, HLK.out]; rfl, Lib.hid (fun i p hp => ?_), Lib.hid ⟨_, _, _, _, HT5.out.keepG hk7 (fun g hg => by have := (hfr g hg).1; omega) HOK5.out.isB ?_ (fun d hd => by cases hd) (fun d hd => by cases hd) (fun d hd => by cases hd), rowG HO5.out.1 hk7 HOK5.out.isB (by decide), fun g hg => ⟨HO5.out.2 g hg, (HGG.out g hg).2⟩⟩⟩, by simp [intOf]; omega⟩
      · by_cases hi : i < l.length
        · rw [List.getElem?_append_left hi] at hp
          exact HU.out i p hp
        · have h1 := (List.getElem?_eq_some_iff.1 hp).1
          rw [List.length_append, List.length_singleton] at h1
          have h2 : i = l.length := by omega
          subst h2
          rw [List.getElem?_append_right (Nat.le_refl _), Nat.sub_self] at hp
          cases hp
          exact ⟨rfl, by rw [HLK.out]; exact HZT.out.symm⟩
      · intro p hp x hx hm
        have h1 := hfr _ hm
        rcases List.mem_append.1 hp with hp | hp
        · have := HXl.out p hp x hx; omega
        · obtain rfl := List.mem_singleton.1 hp
          have := HF5.out x hx; omega
    · obtain rfl : k = N := by omega
      have HT0 := Lib.hid hT
      have HO0 := Lib.hid hO
      have HG0 := Lib.hid hG
      have HLK := Lib.hid hlk
      obtain ⟨S8, hS8⟩ : ∃ S, wr.heap.size = S := ⟨_, rfl⟩
      have HS8 := Lib.hid hS8
      have HXl : Hid (∀ p ∈ l, ∀ x, p.b.a = some x → x.block < S8) := Lib.hid (fun p hp x hx => by have := (hT.x.bo p hp).lt x hx; omega)
      have hpe : ∀ ds, outP { en0 16 with out := l } ds = pkL k ds := fun ds => by
        rw [outP_all (fun p hp => by obtain ⟨i, hi, rfl⟩ := List.getElem_of_mem hp; exact (HU.out i _ (List.getElem?_eq_getElem hi)).1) (by simp only [en0]; omega) rfl, hlk]
        rfl
      have HPE := Lib.hid hpe
      clear hT hO hG hlk HO hpe hS8
      go_wp2_with (first | (with_reducible refine Txt.wp_region_text mixed quiet (by decide +kernel) ?_) | (with_reducible refine Txt.text_done (by kernel_rfl) ?_) | (go_at_call 14; (with_reducible refine (out14_any HT0.out.x HT0.out.ox).mono ?_); rintro e w8 ⟨v8, rfl, ds, ho8, ht8, hd8⟩; rw [HPE.out] at ho8; rw [show (pkL k ds).length = k by simp [pkL]] at ho8; obtain ⟨a8, c8, rfl, h81, h82, h83⟩ := ownAny ho8; have HT8 := Lib.hid (HT0.out.onX ht8 HT0.out.ox.outE); have HO8 := Lib.hid (apart_step ht8 HT0.out.x HO0.out (fun g hg => (HG0.out g hg).1)); have HD8 := Lib.hid hd8; have HK8 := Lib.hid ht8.keep.size; rw [HS8.out] at ho8; have HP8 := Lib.hid ho8; unfold maxLen at h82; clear h83 ho8 ht8 hd8))
      obtain ⟨X1, hX1⟩ : ∃ X, outE { en0 16 with out := l } = X := ⟨_, rfl⟩
      have hT8 := HT8.out
      rw [hX1] at hT8
      have hst8 : OwnSt w w8 bx b_y X1 (en0 16) w2.heap.size (.slice a3 k c3) k (cutV A L C k k) := ⟨_, _, _, _, hT8, HO8.out.1, fun g hg => ⟨HO8.out.2 g hg, (HG0.out g hg).2⟩⟩
      have HX1 : Hid (∀ p ∈ X1.out, ∀ x, p.b.a = some x → x.block < S8) := Lib.hid (fun p hp x hx => by
        rw [← hX1] at hp
        obtain ⟨q, hq, he⟩ := sentL_bodies p hp
        rw [he] at hx
        exact HXl.out q hq x hx)
      have hd8 : ∀ i, i < k → ∃ p, l[i]? = some p ∧ p.sent = false ∧ (ds i).bs = p.b.bs ∧ (ds i).ok w8 ∧ (∀ x, (ds i).a = some x → S8 ≤ x.block) ∧ ∀ j, j < i → ∀ x y, (ds j).a = some x → (ds i).a = some y → x.block ≠ y.block := fun i hi => by
        have hil : i < l.length := by rw [HLK.out]; exact hi
        have hpi := List.getElem?_eq_getElem hil
        obtain ⟨h1, h2, h3, h4⟩ := HD8.out i (by have := HLK.out; simp only [en0]; omega) _ hpi (HU.out i _ hpi).1
        refine ⟨_, hpi, (HU.out i _ hpi).1, h1, h2, fun x hx => by have := h3 x hx; rw [HS8.out] at this; exact this, fun j hj x y hx hy => ?_⟩
        have hjl : j < l.length := by omega
        have hpj := List.getElem?_eq_getElem hjl
        exact h4 j hj _ hpj (HU.out j _ hpj).1 x y hx hy
      have HX1E := Lib.hid hX1
      have HXI : Hid (X1.inn = []) := Lib.hid (by rw [← hX1]; rfl)
      have HXO : Hid (X1.out.length = k ∧ X1.lim = 16 ∧ X1.due = false ∧ X1.base = 0 ∧ X1.want = 0 ∧ X1.win = 16) := Lib.hid (by rw [← hX1]; exact ⟨by simp only [outE, sentL_len]; exact HLK.out, rfl, rfl, rfl, rfl, rfl⟩)
      have HXZ : Hid (∀ j, j < k → ∃ q, X1.out[j]? = some q ∧ q.b.bs = (Z j).take 100) := Lib.hid (fun j hj => by
        have hjl : j < l.length := by rw [HLK.out]; exact hj
        refine ⟨⟨l[j].b, true⟩, ?_, (HU.out j _ (List.getElem?_eq_getElem hjl)).2⟩
        rw [← hX1]
        exact sentL_lt (by have := HLK.out; simp only [en0]; omega) (List.getElem?_eq_getElem hjl))
      have HPE2 : Hid (∀ ds, outP { X1 with lim := if 0 < X1.out.length then max X1.lim 1 else X1.lim, out := X1.out.map (fun p => ⟨p.b, false⟩) } ds = pkL k ds) := Lib.hid (fun ds => by
        obtain ⟨h1, h2, h3, h4, h5, h6⟩ := HXO.out
        rw [outP_all (E := { X1 with lim := if 0 < X1.out.length then max X1.lim 1 else X1.lim, out := X1.out.map (fun p => ⟨p.b, false⟩) }) (fun p hp => by obtain ⟨q, _, rfl⟩ := List.mem_map.1 hp; rfl) (by simp only [List.length_map]; split <;> omega) h3]
        simp only [List.length_map, h1, h4, h5, h6, HXI.out]
        rfl)
      have HST8 := Lib.hid hst8
      have HDA : Hid (∀ i, i < k → ∀ x, (ds i).a = some x → S8 ≤ x.block) := Lib.hid (fun i hi => by obtain ⟨p, _, _, _, _, h, _⟩ := hd8 i hi; exact h)
      have HDN : Hid (∀ i, i < k → ∀ j, j < i → ∀ x y, (ds j).a = some x → (ds i).a = some y → x.block ≠ y.block) := Lib.hid (fun i hi => by obtain ⟨p, _, _, _, _, _, h⟩ := hd8 i hi; exact h)
      have HDK : Hid (∀ i, i < k → (ds i).ok w8) := Lib.hid (fun i hi => by obtain ⟨p, _, _, _, h, _⟩ := hd8 i hi; exact h)
      have HDL : Hid (∀ i, i < k → (ds i).bs.length ≤ 1000) := Lib.hid (fun i hi => by
        obtain ⟨p, h0, _, h, _⟩ := hd8 i hi
        rw [h, (HU.out i p h0).2, List.length_take]; omega)
      have hS8w : w.heap.size ≤ S8 := by rw [← HS8.out]; exact HT0.out.kx.size
      have h88 : S8 ≤ w8.heap.size := by rw [← HS8.out]; exact HK8.out
      clear hT8 hst8 hd8 hX1 HT8 HO8 HD8
      go_loopw [63] (fun j wr => ∃ i : Nat, i ≤ k ∧ j = .int .i64 i ∧ S8 ≤ wr.heap.size ∧ Hid (OwnSt w wr bx b_y X1 (en0 16) w2.heap.size (.slice a3 k c3) k (cutV A L C k k)) ∧ Hid (wr.ownsRow S8 34 5 (.slice a8 k c8) k (pksC (pkL k ds))) ∧ Hid (∀ i', i ≤ i' → i' < k → (ds i').ok wr)) (fun j _ => k - (intOf j).toNat)
      case atStart => exact ⟨0, by omega, rfl, h88, HST8, HP8, Lib.hid (fun i _ h => HDK.out i h)⟩
      case round =>
        obtain ⟨i, hi, rfl, hs89, HS9, HP9, HD9⟩ := hrel
        by_cases hlt2 : i < k
        · obtain ⟨g8, c8', he, -, -, hgl, -, hq⟩ := pkrow HP9.out (by omega)
          injection he with he1 _ he3
          subst he1
          have hq2 := hq i _ (pkL_at hlt2)
          obtain ⟨⟨da, dc, dbs⟩, hdi⟩ : ∃ d, ds i = d := ⟨_, rfl⟩
          have hdo := HD9.out i (Nat.le_refl _) hlt2
          rw [hdi] at hq2 hdo
          simp only [Nat.zero_add] at hq2
          obtain ⟨n, hn⟩ : ∃ n, dbs.length = n := ⟨_, rfl⟩
          rw [hn] at hq2
          obtain ⟨q0, q1, q2, q3, q4⟩ := hq2
          have HN := Lib.hid hn
          have HDI := Lib.hid hdi
          have HDO : Hid (∀ o, (Bd.mk da dc dbs).ok (wr.alloc o)) := Lib.hid (fun o => hdo.keep ((Keep.refl [] wr).alloc o) (NoB.nil _))
          clear hq hdo hdi hn he3
          go_wp2_with (first | (with_reducible refine Txt.wp_region_text mixed quiet (by decide +kernel) ?_) | (with_reducible refine Txt.text_done (by kernel_rfl) ?_) | (go_at_call 19; (with_reducible refine (spoil19_any (HDO.out _) HN.out).mono ?_); rintro e w9 ⟨rfl, hk9⟩))
          obtain ⟨vox9, vix9, voy9, viy9, hT9, hO9, hG9⟩ := HS9.out
          have hisB := (HDO.out (.cells #[.int .u32 i, .int .u32 0, .bool true, .int .i64 16, .slice da n dc] 34)).isB
          have hbl : ∀ g ∈ (Bd.mk da dc dbs).blk, ∃ x, (ds i).a = some x ∧ x.block = g ∧ S8 ≤ g := fun g hg => by
            obtain ⟨x, hx, rfl⟩ := Bd.mem_blk hg
            exact ⟨x, by rw [HDI.out]; exact hx, rfl, HDA.out i hlt2 x (by rw [HDI.out]; exact hx)⟩
          refine ⟨⟨i + 1, hlt2, by go_num, (by have := hk9.size; simp at this; omega), Lib.hid ⟨_, _, _, _, (hT9.keep0 ((Keep.refl [] wr).alloc _)).keepG hk9 (fun g hg => ?_) hisB (fun p hp x hx hm => ?_) (fun d hd => by rw [HXI.out] at hd; cases hd) (fun d hd => by cases hd) (fun d hd => by cases hd), rowG (own_keep hO9 ((Keep.refl [] wr).alloc _) (by simp)) hk9 hisB (by decide), hG9⟩, Lib.hid (rowG (own_keep HP9.out ((Keep.refl [] wr).alloc _) (by simp)) hk9 hisB (by decide)), Lib.hid (fun i' h1 h2 => ?_)⟩, by simp [intOf]; omega⟩
          · obtain ⟨_, _, _, h1⟩ := hbl g hg; omega
          · obtain ⟨_, _, _, h1⟩ := hbl _ hm
            have := HX1.out p hp x hx; omega
          · refine ((HD9.out i' (by omega) h2).keep ((Keep.refl [] wr).alloc _) (NoB.nil _)).keepG hk9 (fun x hx hm => ?_)
            obtain ⟨y, hy, h3, _⟩ := hbl _ hm
            exact HDN.out i' h2 i (by omega) y x hy hx h3
        · obtain rfl : i = k := by omega
          obtain ⟨vox9, vix9, voy9, viy9, hT9, hO9, hG9⟩ := HS9.out
          have HT9 := Lib.hid hT9
          have HO9 := Lib.hid hO9
          have HG9 := Lib.hid hG9
          clear hT9 hO9 hG9 HS9 HP9 HD9 HP8 HST8 HDK HDN HDA HDL
          go_wp2_with (first | (with_reducible refine Txt.wp_region_text mixed quiet (by decide +kernel) ?_) | (with_reducible refine Txt.text_done (by kernel_rfl) ?_) | (go_at_call 20; (with_reducible refine (tick20_any HT9.out.x HT9.out.ox).mono ?_); rintro e w10 ⟨rfl, ht10⟩; have HT10 := Lib.hid (HT9.out.onX ht10 HT9.out.ox.tick); have HO10 := Lib.hid (apart_step ht10 HT9.out.x HO9.out (fun g hg => (HG9.out g hg).1)); have HT10k := Lib.hid ht10.keep.size; clear ht10) | (go_at_call 14; (with_reducible refine (out14_any HT10.out.x HT10.out.ox).mono ?_); rintro e w11 ⟨v11, rfl, ds2, ho11, ht11, hd11⟩; rw [HPE2.out] at ho11; rw [show (pkL i ds2).length = i by simp [pkL]] at ho11; obtain ⟨a11, c11, rfl, h111, h112, h113⟩ := ownAny ho11; have HT11 := Lib.hid (HT10.out.onX ht11 HT10.out.ox.outE); have HO11 := Lib.hid (apart_step ht11 HT10.out.x HO10.out.1 HO10.out.2); have HD11 := Lib.hid hd11; have HK11 := Lib.hid ht11.keep.size; have HP11 := Lib.hid ho11; unfold maxLen at h112; clear h113 ho11 ht11 hd11))
          obtain ⟨X3, hX3⟩ : ∃ X, outE { X1 with lim := if 0 < X1.out.length then max X1.lim 1 else X1.lim, out := X1.out.map (fun p => ⟨p.b, false⟩) } = X := ⟨_, rfl⟩
          obtain ⟨S11, hS11⟩ : ∃ S, w11.heap.size = S := ⟨_, rfl⟩
          have h810 : S8 ≤ w10.heap.size := by
            have := HT10k.out
            omega
          have HX3 : Hid (∀ p ∈ X3.out, ∀ x, p.b.a = some x → x.block < S8) := Lib.hid (fun p hp x hx => by
            rw [← hX3] at hp
            obtain ⟨q, hq, he⟩ := sentL_bodies p hp
            obtain ⟨r, hr, rfl⟩ := List.mem_map.1 hq
            rw [he] at hx
            exact HX1.out r hr x hx)
          have HX3I : Hid (X3.inn = []) := Lib.hid (by rw [← hX3]; exact HXI.out)
          have hd2 : ∀ i', i' < i → (ds2 i').bs = (Z i').take 100 ∧ (ds2 i').ok w11 ∧ (∀ x, (ds2 i').a = some x → w10.heap.size ≤ x.block) ∧ ∀ j, j < i' → ∀ x y, (ds2 j).a = some x → (ds2 i').a = some y → x.block ≠ y.block := fun i' hi' => by
            obtain ⟨h1, h2, h3, h4, h5, h6⟩ := HXO.out
            obtain ⟨q, hq, hqz⟩ := HXZ.out i' hi'
            have hq2 : ({ X1 with lim := if 0 < X1.out.length then max X1.lim 1 else X1.lim, out := X1.out.map (fun p => ⟨p.b, false⟩) } : En).out[i']? = some ⟨q.b, false⟩ := by simp [hq]
            obtain ⟨g1, g2, g3, g4⟩ := HD11.out i' (by simp only [List.length_map]; rw [if_pos (by omega)]; omega) _ hq2 rfl
            refine ⟨by rw [g1]; exact hqz, g2, g3, fun j hj x y hx hy => ?_⟩
            obtain ⟨q', hq', _⟩ := HXZ.out j (by omega)
            have hq3 : ({ X1 with lim := if 0 < X1.out.length then max X1.lim 1 else X1.lim, out := X1.out.map (fun p => ⟨p.b, false⟩) } : En).out[j]? = some ⟨q'.b, false⟩ := by simp [hq']
            exact g4 j hj _ hq3 rfl x y hx hy
          have HD2 := Lib.hid hd2
          have hT11 := HT11.out
          rw [hX3] at hT11
          have h1011 : w10.heap.size ≤ S11 := by rw [← hS11]; exact HK11.out
          have HDB : Hid (∀ i', i' < i → ∀ x, (ds2 i').a = some x → x.block < S11) := Lib.hid (fun i' hi' x hx => by rw [← hS11]; exact (hd2 i' hi').2.1.lt x hx)
          have HST11 : Hid (OwnSt w w11 bx b_y X3 (en0 16) w2.heap.size (.slice a3 i c3) i (cutV A L C i i)) := Lib.hid ⟨_, _, _, _, hT11, HO11.out.1, fun g hg => ⟨HO11.out.2 g hg, (HG9.out g hg).2⟩⟩
          have HTK0 : Hid (TookB (en0 16) Z 0) := Lib.hid ⟨rfl, rfl, rfl, rfl, rfl, fun j d h => by simp [en0] at h⟩
          have hs11 : S11 ≤ w11.heap.size := by omega
          have hw10 : w.heap.size ≤ w10.heap.size := HT10.out.kx.size
          clear hd2 hT11 hX3 HT11 HO11 HD11 HT10 HO10 HT9 HO9 hS11
          go_loopw [76] (fun j wr => ∃ (i' : Nat) (Y : En), i' ≤ i ∧ j = .int .i64 i' ∧ S11 ≤ wr.heap.size ∧ Hid (TookB Y Z i') ∧ Hid (OwnSt w wr bx b_y X3 Y w2.heap.size (.slice a3 i c3) i (cutV A L C i i)) ∧ Hid (wr.ownsRow w10.heap.size 34 5 (.slice a11 i c11) i (pksC (pkL i ds2))) ∧ Hid (∀ j, i' ≤ j → j < i → (ds2 j).ok wr) ∧ Hid (∀ d ∈ Y.inn, ∀ x, d.a = some x → S11 ≤ x.block)) (fun j _ => i - (intOf j).toNat)
          case atStart => exact ⟨0, en0 16, by omega, rfl, hs11, HTK0, HST11, HP11, Lib.hid (fun j _ h => (HD2.out j h).2.1), Lib.hid (fun d hd => by cases hd)⟩
          case round =>
            obtain ⟨k', Y, hk', rfl, hsw, HTK, HSY, HPY, HDY, HIY⟩ := hrel
            obtain ⟨vox4, vix4, voy4, viy4, hT4, hO4, hG4⟩ := HSY.out
            by_cases hlt4 : k' < i
            · obtain ⟨g11, c11', he, -, -, hgl, -, hq⟩ := pkrow HPY.out (by omega)
              injection he with he1 _ he3
              subst he1
              have hq2 := hq k' _ (pkL_at hlt4)
              obtain ⟨⟨da, dc, dbs⟩, hdi⟩ : ∃ d, ds2 k' = d := ⟨_, rfl⟩
              have hdo := HDY.out k' (Nat.le_refl _) hlt4
              have hdz := (HD2.out k' hlt4).1
              rw [hdi] at hq2 hdo hdz
              simp only [Nat.zero_add] at hq2
              obtain ⟨n, hn⟩ : ∃ n, dbs.length = n := ⟨_, rfl⟩
              have hn100 : n ≤ 100 := by
                have : dbs = (Z k').take 100 := hdz
                rw [← hn, this, List.length_take]; omega
              rw [hn] at hq2
              obtain ⟨q0, q1, q2, q3, q4⟩ := hq2
              have HN := Lib.hid hn
              have HDI := Lib.hid hdi
              have HDZ : Hid (dbs = (Z k').take 100) := Lib.hid hdz
              have HDO := Lib.hid hdo
              have HT4 := Lib.hid hT4
              have HO4 := Lib.hid hO4
              have HG4 := Lib.hid hG4
              have HYW : Hid ((ackE Y 0 16).want + 1 ≤ 1000000) := Lib.hid (by rw [ack_want]; have := HTK.out.2.2.1; omega)
              have HALL : Hid (∀ o, Keep [] wr (wr.alloc o)) := Lib.hid (fun o => (Keep.refl [] wr).alloc o)
              have HBX : Hid (∀ o, (wr.alloc o).heap[wr.heap.size]? = some o) := Lib.hid (fun o => blk_new wr o)
              clear hq hdo hdi hn he3 hdz hT4 hO4 hG4 HSY
              go_wp2_with (first | (with_reducible refine Txt.wp_region_text mixed quiet (by decide +kernel) ?_) | (with_reducible refine Txt.text_done (by kernel_rfl) ?_) | (go_at_call 17; (with_reducible refine (clone17_k (w0 := wr) (S := []) (d := ⟨da, dc, dbs⟩) HDO.out (HALL.out _) (NoB.nil _) HN.out (by omega)).mono ?_); rintro e w12 ⟨a12, c12, rfl, hk12, hok12, hfr12⟩; have hbx := hk12.at (HBX.out _) (by simp); obtain ⟨x0, x1, x2, x3, x4, xz⟩ := row5 hbx; have hk13 := (HALL.out _).trans hk12; have HT12 := Lib.hid (HT4.out.keep0 hk13); have HO12 := Lib.hid (own_keep HO4.out hk13 (by simp)); have HP12 := Lib.hid (own_keep HPY.out hk13 (by simp)); have HDO12 := Lib.hid (HDO.out.keep hk13 (NoB.nil _)); have HOK12 := Lib.hid hok12; have HK13 := Lib.hid hk13; have HBX12 := Lib.hid hbx; clear hk12 hok12 hfr12 hk13 hbx) | (go_at_call 15; (with_reducible refine (come15_i (seq := k') (ack := 0) (win := 16) (s := k') (k := 0) (wi := 16) (n := n) (has := true) HT12.out.y HT12.out.oy HDO12.out (by omega) (by omega) (by decide) (by decide) rfl rfl rfl HN.out).mono ?_); rintro e w13 ⟨rfl, vo13, vi13, a13, c13, hf13, ht13⟩; have HT13 := Lib.hid (HT12.out.onY ht13 ((HT12.out.oy.ack (ack := 0) (win := 16) (by decide) (by decide)).got HYW.out)); have hbx := ht13.keep.at HBX12.out (notEn HT12.out.y HBX12.out (by decide) (by decide) (by decide)); obtain ⟨y0, y1, y2, y3, y4, yz⟩ := row5 hbx; have HKT := Lib.hid ht13; have hb1 : BytesV w13 da dbs.length dc dbs := (ht13.bd HT12.out.y HDO12.out).1; have hb2 : BytesV w13 a12 dbs.length c12 dbs := (ht13.bd HT12.out.y HOK12.out).1; rw [HN.out] at hb1 hb2; have HB1 := Lib.hid hb1; have HB2 := Lib.hid hb2; have HF13 := Lib.hid hf13; clear hf13 ht13 hbx hb1 hb2) | (go_at_call 18; (with_reducible refine (equal18_same HB1.out HB2.out).mono ?_); rintro e w6 ⟨rfl, rfl⟩) | (go_at_call 19; (with_reducible refine (spoil19_any (HKT.out.bd HT12.out.y HDO12.out) HN.out).mono ?_); rintro e w14 ⟨rfl, hk14⟩))
              have hst := HTK.out.step (d := ⟨a13, c13, dbs⟩) (by omega) HDZ.out
              have hisB := (HKT.out.bd HT12.out.y HDO12.out).isB
              have hbl : ∀ g ∈ (Bd.mk da dc dbs).blk, ∃ x, (ds2 k').a = some x ∧ x.block = g ∧ w10.heap.size ≤ g ∧ g < S11 := fun g hg => by
                obtain ⟨x, hx, rfl⟩ := Bd.mem_blk hg
                have hx' : (ds2 k').a = some x := by rw [HDI.out]; exact hx
                exact ⟨x, hx', rfl, (HD2.out k' hlt4).2.2.1 x hx', HDB.out k' hlt4 x hx'⟩
              have hI : ∀ d ∈ (gotE (ackE Y 0 16) true k' ⟨a13, c13, dbs⟩).inn, ∀ x, d.a = some x → S11 ≤ x.block := fun d hd x hx => by
                rw [hst.1] at hd
                rcases List.mem_append.1 hd with hd | hd
                · exact HIY.out d hd x hx
                · obtain rfl := List.mem_singleton.1 hd
                  have := HF13.out x hx
                  have := HK13.out.size
                  omega
              obtain ⟨hO13, hG13⟩ := apart_step HKT.out HT12.out.y HO12.out (fun g hg => (HG4.out g hg).2)
              have hkk := HK13.out.size
              have hk13s := HKT.out.keep.size
              refine ⟨⟨k' + 1, _, hlt4, by go_num, (by have := hk14.size; omega), Lib.hid hst.2, Lib.hid ⟨_, _, _, _, HT13.out.keepG hk14 (fun g hg => ?_) hisB (fun p hp x hx hm => ?_) (fun d hd => by rw [HX3I.out] at hd; cases hd) (fun p hp => by rw [hst.2.2.2.2.1] at hp; cases hp) (fun d hd x hx hm => ?_), rowG hO13 hk14 hisB (by decide), fun g hg => ⟨(HG4.out g hg).1, hG13 g hg⟩⟩, Lib.hid (rowG (HKT.out.row HT12.out.y HP12.out (by decide) (by decide) (by decide)) hk14 hisB (by decide)), Lib.hid (fun j h1 h2 => ?_), Lib.hid hI⟩, by simp [intOf]; omega⟩
              · obtain ⟨_, _, _, h1, _⟩ := hbl g hg; omega
              · obtain ⟨_, _, _, h1, _⟩ := hbl _ hm
                have := HX3.out p hp x hx; omega
              · obtain ⟨_, _, _, _, h1⟩ := hbl _ hm
                have := hI d hd x hx; omega
              · refine (HKT.out.bd HT12.out.y ((HDY.out j (by omega) h2).keep HK13.out (NoB.nil _))).keepG hk14 (fun x hx hm => ?_)
                obtain ⟨y, hy, h3, _⟩ := hbl _ hm
                exact (HD2.out j h2).2.2.2 k' (by omega) y x hy hx h3
            · obtain rfl : k' = i := by omega
              have HKX := Lib.hid hT4.kx
              have hin := hT4.y.inn
              have hbi := hT4.y.bi
              have hyl := HTK.out.2.2.2.2.1
              rw [hyl] at hin
              obtain ⟨a20, c20, rfl, h201, h202, -⟩ := ownAny hin
              have hby := hT4.y.blk
              have hNb : NoB [b_y] wr := fun x hx cs f hc => by
                obtain rfl := List.mem_singleton.1 hx
                exact neType hby hc (by decide) rfl
              have HR1 : Hid (∀ w', Keep [b_y] wr w' → RowB w' a20 k' (fun j => (Z j).take 100)) := Lib.hid (fun w' hkw' h0 => by
                have hin' := own_keep hin hkw' (fun g hg hm => by
                  obtain ⟨c9, h9⟩ := ownCells hin hg
                  exact neType h9 hby (by decide) (List.mem_singleton.1 hm))
                obtain ⟨b, o, h1, h2⟩ := (RowB.ofBds hin' (fun d hd => (hbi d hd).keep hkw' hNb)) h0
                refine ⟨b, o, h1, fun j hj => ?_⟩
                obtain ⟨a', c', h3, h4⟩ := h2 j hj
                have e : (Y.inn.getD j noBd).bs = (Z j).take 100 := by
                  have hjl : j < Y.inn.length := by omega
                  rw [List.getD_eq_getElem?_getD, List.getElem?_eq_getElem hjl]
                  exact HTK.out.2.2.2.2.2 j _ (List.getElem?_eq_getElem hjl)
                dsimp only at h3 h4 ⊢
                rw [e] at h3 h4
                exact ⟨a', c', h3, h4⟩)
              have HKF : Hid (∀ w', Keep [b_y] wr w' → Keep [] w w') := Lib.hid (fun w' hkw' => hT4.kx.call hkw' (fun x hx => .inr (by rw [List.mem_singleton.1 hx]; exact hT4.y.hB)))
              have HR2 : Hid (∀ w', Keep [b_y] wr w' → RowB w' a3 k' (fun j => (Z j).take 100)) := Lib.hid (fun w' hkw' h0 => by
                obtain ⟨a', c', he, _, _, h5⟩ := ownAny hO4
                injection he with he1 _ he3
                obtain ⟨g, hg, _, _, hc, _⟩ := h5 h0
                refine ⟨g, 0, he1.trans hg, fun j hj => ?_⟩
                have h6 := hc j (by omega)
                rw [show (cutV A L C k' k')[j]? = some (.slice (A j) (min (L j) 100) (C j)) by simp [cutV, hj]] at h6
                have hB := (HF.out.rows j (by omega)).take (t := min (L j) 100) (Nat.min_le_left _ _)
                have hln := (HF.out.rows j (by omega)).len
                have e : (Z j).take (min (L j) 100) = (Z j).take 100 := by
                  by_cases h : L j ≤ 100
                  · rw [List.take_of_length_le (by omega), List.take_of_length_le (by omega)]
                  · rw [show min (L j) 100 = 100 by omega]
                have hlen := hB.len
                rw [e] at hB hlen
                dsimp only
                rw [Nat.zero_add, hlen]
                refine ⟨_, _, hkw'.cell h6 (fun hm => ?_), hB.keep (HKF.out _ hkw') (by simp)⟩
                have h7 := (hG4 g (by rw [he1.trans hg]; rfl)).2
                have h8 : g = b_y := List.mem_singleton.1 hm
                exact h7 (by rw [h8]; simp [enS]))
              have HT4 := Lib.hid hT4
              have HM1 : Hid (k' ≤ c20 ∧ c20 ≤ maxLen) := Lib.hid ⟨h201, h202⟩
              have HM2 : Hid (k' ≤ c3 ∧ c3 ≤ maxLen) := Lib.hid ⟨h31, by unfold maxLen; exact h32⟩
              have HO4 := Lib.hid hO4
              have HIN := Lib.hid hin
              have HHH := Lib.hid h202
              unfold maxLen at h202
              clear hT4 hO4 hG4 HSY HPY hin hbi hyl
              go_wp2_with (first | (with_reducible refine Txt.wp_region_text mixed quiet (by decide +kernel) ?_) | (with_reducible refine Txt.text_done (by kernel_rfl) ?_) | (go_at_call 22; (with_reducible refine (got22_any HT4.out.y HT4.out.oy).mono ?_); rintro e w15 ⟨rfl, hk15, he15⟩; have HKB := Lib.hid hk15; clear hk15 he15) | (go_at_call 21; (with_reducible refine (equalF21_same (HR1.out _ HKB.out) (HR2.out _ HKB.out) (by omega) HM1.out HM2.out).mono ?_); rintro e w16 ⟨rfl, hk16⟩))
              go_ret
              exact ⟨rfl, (HKF.out _ HKB.out).trans hk16⟩
end Go.Proofs.Ytfgipbjaaciiiaa
/- One direction of the channel, in plain words. -/
namespace Go
def bsOf (l : List Bd) : List (List Int) := l.map Bd.bs
/-- From the end E to the end O: P was put in at E, G was got at O, W is under way to O, V to E. -/
structure Dir (E O : En) (P G : List Bd) (W V : List Pk) : Prop where
  len : E.base + E.out.length = P.length
  out : ∀ i p, E.out[i]? = some p → ∃ d, P[E.base + i]? = some d ∧ p.b.bs = d.bs
  base : E.base ≤ O.want
  want : O.want ≤ P.length
  got : bsOf (G ++ O.inn) = (bsOf P).take O.want
  way : ∀ q ∈ W, q.has = true → ∃ d, P[q.seq]? = some d ∧ q.body.bs = d.bs
  ack : ∀ q ∈ V, q.ack ≤ O.want
section
variable {E O E' O' : En} {P G : List Bd} {W V : List Pk}
/-- What is not of this direction. -/
theorem Dir.asE (h : Dir E O P G W V) (h1 : E'.base = E.base) (h2 : E'.out.length = E.out.length) (h3 : ∀ (i : Nat) (p : Pd), E'.out[i]? = some p → ∃ q : Pd, E.out[i]? = some q ∧ p.b.bs = q.b.bs) : Dir E' O P G W V :=
  ⟨by rw [h1, h2]; exact h.len, fun i p hp => by
    obtain ⟨q, hq, he⟩ := h3 i p hp
    obtain ⟨d, hd, hb⟩ := h.out i q hq
    exact ⟨d, by rw [h1]; exact hd, he.trans hb⟩, by rw [h1]; exact h.base, h.want, h.got, h.way, h.ack⟩
theorem Dir.asO (h : Dir E O P G W V) (h1 : O'.want = O.want) (h2 : O'.inn = O.inn) : Dir E O' P G W V :=
  ⟨h.len, h.out, by rw [h1]; exact h.base, by rw [h1]; exact h.want, by rw [h1, h2]; exact h.got, h.way, by rw [h1]; exact h.ack⟩
theorem Dir.put (h : Dir E O P G W V) {d : Bd} {p : Pd} (hp : p.b.bs = d.bs) : Dir { E with out := E.out ++ [p] } O (P ++ [d]) G W V := by
  have hl := h.len
  refine ⟨by simp only [List.length_append, List.length_singleton]; omega, fun i q hq => ?_, h.base, by simp only [List.length_append, List.length_singleton]; have := h.want; omega, ?_, fun q hq hh => ?_, h.ack⟩
  · simp only at hq ⊢
    by_cases hi : i < E.out.length
    · rw [List.getElem?_append_left hi] at hq
      obtain ⟨e, he, hb⟩ := h.out i q hq
      exact ⟨e, by rw [List.getElem?_append_left (List.getElem?_eq_some_iff.1 he).1]; exact he, hb⟩
    · have h1 := (List.getElem?_eq_some_iff.1 hq).1
      rw [List.length_append, List.length_singleton] at h1
      rw [List.getElem?_append_right (by omega), show i - E.out.length = 0 by omega] at hq
      cases hq
      exact ⟨d, by rw [List.getElem?_append_right (by omega), show E.base + i - P.length = 0 by omega]; rfl, hp⟩
  · rw [h.got]
    unfold bsOf
    rw [List.map_append, List.take_append_of_le_length (by rw [List.length_map]; exact h.want)]
  · obtain ⟨e, he, hb⟩ := h.way q hq hh
    exact ⟨e, by rw [List.getElem?_append_left (List.getElem?_eq_some_iff.1 he).1]; exact he, hb⟩
theorem Dir.ackd (h : Dir E O P G W V) {a win : Nat} (ha : a ≤ O.want) : Dir (ackE E a win) O P G W V := by
  unfold ackE
  split
  · rename_i hc
    have hl := h.len
    refine ⟨by simp only [List.length_drop]; omega, fun i p hp => ?_, ha, h.want, h.got, h.way, h.ack⟩
    simp only [List.getElem?_drop] at hp
    obtain ⟨d, hd, hb⟩ := h.out _ p hp
    exact ⟨d, by rw [show E.base + (a - E.base + i) = a + i by omega] at hd; exact hd, hb⟩
  · split
    · exact h.asE rfl rfl (fun i p hp => ⟨p, hp, rfl⟩)
    · exact h
theorem gotE_side (E : En) (has : Bool) (seq : Nat) (d : Bd) : (gotE E has seq d).base = E.base ∧ (gotE E has seq d).out = E.out := by
  unfold gotE
  split
  · split <;> exact ⟨rfl, rfl⟩
  · exact ⟨rfl, rfl⟩
theorem ackE_side (E : En) (a w : Nat) : (ackE E a w).want = E.want ∧ (ackE E a w).inn = E.inn ∧ (ackE E a w).win = E.win := by
  unfold ackE
  split
  · exact ⟨rfl, rfl, rfl⟩
  · split <;> exact ⟨rfl, rfl, rfl⟩
theorem Dir.gotd (h : Dir E O P G W V) {has : Bool} {seq : Nat} {d : Bd} (hd : has = true → ∃ e, P[seq]? = some e ∧ d.bs = e.bs) : Dir E (gotE O has seq d) P G W V := by
  unfold gotE
  split
  · rename_i hh
    split
    · rename_i hc
      obtain ⟨e, he, hb⟩ := hd hh
      rw [hc.1] at he
      have hel := (List.getElem?_eq_some_iff.1 he).1
      refine ⟨h.len, h.out, by simp only; have := h.base; omega, by simp only; omega, ?_, h.way, fun q hq => by simp only; have := h.ack q hq; omega⟩
      simp only
      rw [← List.append_assoc]
      have hg := h.got
      unfold bsOf at hg ⊢
      rw [List.map_append, hg, List.take_add_one, List.getElem?_map, he]
      simp [hb]
    · exact h.asO rfl rfl
  · exact h
theorem Dir.taken (h : Dir E O P G W V) (due : Bool) : Dir E { O with inn := [], due := due } P (G ++ O.inn) W V :=
  ⟨h.len, h.out, h.base, h.want, by rw [List.append_nil]; exact h.got, h.way, h.ack⟩
theorem Dir.lessW (h : Dir E O P G W V) {W' V' : List Pk} (h1 : ∀ q ∈ W', q ∈ W) (h2 : ∀ q ∈ V', q ∈ V) : Dir E O P G W' V' :=
  ⟨h.len, h.out, h.base, h.want, h.got, fun q hq => h.way q (h1 q hq), fun q hq => h.ack q (h2 q hq)⟩
/-- What the end sends. -/
theorem outL_mem {ds : Nat → Bd} : ∀ (k : Nat) (q : Pk), q ∈ outL E ds k → ∃ i p, i < k ∧ E.out[i]? = some p ∧ p.sent = false ∧ q = ⟨E.base + i, E.want, true, E.win - E.inn.length, ds i⟩
  | 0, q, h => by cases h
  | k + 1, q, h => by
    rw [outL] at h
    rcases List.mem_append.1 h with h | h
    · obtain ⟨i, p, h1, h2⟩ := outL_mem k q h
      exact ⟨i, p, by omega, h2⟩
    · split at h
      · rename_i p hp
        split at h
        · cases h
        · rename_i hs
          exact ⟨k, p, by omega, hp, by simpa using hs, List.mem_singleton.1 h⟩
      · cases h
theorem outP_mem {ds : Nat → Bd} {q : Pk} (h : q ∈ outP E ds) : q.ack = E.want ∧ q.win = E.win - E.inn.length ∧ (q.has = true → ∃ i p, i < min E.lim E.out.length ∧ E.out[i]? = some p ∧ p.sent = false ∧ q.seq = E.base + i ∧ q.body = ds i) ∧ (q.has = false → q.seq = E.base + E.out.length ∧ q.body = noBd) := by
  unfold outP at h
  split at h
  · obtain rfl := List.mem_singleton.1 h
    exact ⟨rfl, rfl, fun h => (by cases h), fun _ => ⟨rfl, rfl⟩⟩
  · obtain ⟨i, p, h1, h2, h3, rfl⟩ := outL_mem _ q h
    exact ⟨rfl, rfl, fun _ => ⟨i, p, h1, h2, h3, rfl, rfl⟩, fun h => (by cases h)⟩
theorem outE_at (E : En) {i : Nat} {p : Pd} (h : (outE E).out[i]? = some p) : ∃ q, E.out[i]? = some q ∧ p.b.bs = q.b.bs := by
  have hl : i < E.out.length := by have := (List.getElem?_eq_some_iff.1 h).1; simpa [outE, sentL_len] using this
  refine ⟨E.out[i], List.getElem?_eq_getElem hl, ?_⟩
  unfold outE sentL at h
  simp only at h
  by_cases hi : i < min E.lim E.out.length
  · rw [List.getElem?_append_left (by simp; omega), List.getElem?_map, List.getElem?_take, if_pos hi, List.getElem?_eq_getElem hl] at h
    cases h; rfl
  · rw [List.getElem?_append_right (by simp; omega), List.getElem?_drop] at h
    simp only [List.length_map, List.length_take] at h
    rw [show min E.lim E.out.length + (i - min (min E.lim E.out.length) E.out.length) = i by omega, List.getElem?_eq_getElem hl] at h
    cases h; rfl
theorem Dir.sends (h : Dir E O P G W V) {ds : Nat → Bd} (hds : ∀ i p, i < min E.lim E.out.length → E.out[i]? = some p → p.sent = false → (ds i).bs = p.b.bs) : Dir (outE E) O P G (W ++ outP E ds) V := by
  have h1 := h.asE (E' := outE E) rfl (by simp [outE, sentL_len]) (fun i p hp => outE_at E hp)
  refine ⟨h1.len, h1.out, h1.base, h1.want, h1.got, fun q hq hh => ?_, h1.ack⟩
  rcases List.mem_append.1 hq with hq | hq
  · exact h.way q hq hh
  · obtain ⟨_, _, h2, _⟩ := outP_mem hq
    obtain ⟨i, p, h3, h4, h5, h6, h7⟩ := h2 hh
    obtain ⟨d, hd, hb⟩ := h.out i p h4
    exact ⟨d, by rw [h6]; exact hd, by rw [h7, hds i p h3 h4 h5, hb]⟩
theorem Dir.answers (h : Dir E O P G W V) {ds : Nat → Bd} : Dir E (outE O) P G W (V ++ outP O ds) := by
  have h1 := h.asO (O' := outE O) rfl rfl
  refine ⟨h1.len, h1.out, h1.base, h1.want, h1.got, h1.way, fun q hq => ?_⟩
  rcases List.mem_append.1 hq with hq | hq
  · exact h1.ack q hq
  · rw [(outP_mem hq).1]; exact Nat.le_refl _
end
end Go
