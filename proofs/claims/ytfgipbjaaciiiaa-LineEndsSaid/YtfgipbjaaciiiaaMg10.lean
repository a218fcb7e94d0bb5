/- Texts laid together: L19 L20 L21. -/
import Derived.Test.YtfgipbjaaciiiaaMg9
import Derived.Deep.RegionLaw
namespace Go
/-- Bounds of the play after k steps. -/
structure LBd (k : Nat) (X : Nat → En) (P G : Nat → List Bd) (W : Nat → List Pk) : Prop where
  put : ∀ e, e < 2 → (P e).length ≤ k
  got : ∀ e, e < 2 → (G e).length ≤ 16 * k
  way : ∀ e, e < 2 → (W e).length ≤ 16 * k
  pk : ∀ e, e < 2 → ∀ q ∈ W e, q.win ≤ 16 ∧ q.seq ≤ 1000 ∧ q.ack ≤ 1000 ∧ q.body.bs.length ≤ 1000
  small : ∀ e, e < 2 → ∀ d ∈ P e, d.bs.length ≤ 1000
theorem out_small {k : Nat} {X : Nat → En} {P G : Nat → List Bd} {W : Nat → List Pk} {e : Nat} {w0 w : World} {ds : Nat → Bd} (h : LInv X P G W) (hb : LBd k X P G W) (he : e < 2) (hk : k < 300) (hok : EnOk (X e)) (hd : DsOk w0 w (X e) ds (min (X e).lim (X e).out.length)) : ∀ q ∈ outP (X e) ds, q.win ≤ 16 ∧ q.seq ≤ 1000 ∧ q.ack ≤ 1000 ∧ q.body.bs.length ≤ 1000 := fun q hq => by
  obtain ⟨h1, h2, h3, h4⟩ := outP_mem hq
  obtain ⟨d1, d2⟩ := h.both he
  have hp := hb.put e he
  have hp2 := hb.put (1 - e) (by omega)
  have hl := d1.len
  have hwt := d2.want
  have hw := hok.win
  refine ⟨by omega, ?_, by omega, ?_⟩
  · cases hh : q.has with
    | true => obtain ⟨i, p, g1, g2, g3, g4, g5⟩ := h3 hh; omega
    | false => have := (h4 hh).1; omega
  · cases hh : q.has with
    | true =>
      obtain ⟨i, p, g1, g2, g3, g4, g5⟩ := h3 hh
      rw [g5, (hd i g1 p g2 g3).1]
      exact hok.bo p (List.mem_of_getElem? g2)
    | false => rw [(h4 hh).2]; exact Nat.zero_le _
theorem results5 {P : Program} {fn : Func} {s1 s2 s3 s4 s5 : Tmp} {t3 t4 : TypeId} (h : fn.results = #[.tmp s1, .tmp s2, .cell s3 t3, .cell s4 t4, .tmp s5]) {tmps : Array Value} {w : World} {a3 a4 : Addr} (h3 : tmps.getD s3 undef = .pointer (some a3)) (h4 : tmps.getD s4 undef = .pointer (some a4)) {v3 v4 : Value} (hl3 : (loadVar t3 a3).run P w = .ok v3 w) (hl4 : (loadVar t4 a4).run P w = .ok v4 w) :
    (results fn tmps).run P w = .ok (.tuple #[tmps.getD s1 undef, tmps.getD s2 undef, v3, v4, tmps.getD s5 undef]) w := by
  have h3' : tmps[s3]?.getD undef = .pointer (some a3) := by simpa using h3
  have h4' : tmps[s4]?.getD undef = .pointer (some a4) := by simpa using h4
  simp [results, h, h3', h4', hl3, hl4, asAddr]
theorem cells_two {w : World} {q : Nat} {a b : Value} {T : TypeId} (h : w.heap[q]? = some (.cells #[a, b] T (0, 0))) : ∀ j v, ([a, b] : List Value)[j]? = some v → w.cell? ((⟨q, 0, none⟩ : Addr).add j) = some v := fun j v hv => by
  rw [Go.WideShapes.add_plain, Nat.zero_add, cellAt h j, ← hv]; simp
def en0' (n : Nat) : En := ⟨n, n, 0, 0, [], [], false⟩
/-- The state of the play: in memory and in plain words. -/
def Play (w0 w : World) (qe qw qp qg k : Nat) (B : Nat → Nat) : Prop :=
  ∃ tag X VO VI VW VP VG W P G, PW w0 w qe qw qp qg tag B X VO VI VW VP VG W P G ∧ LInv X P G W ∧ LBd k X P G W
theorem wrap_o01 {o : Nat} (h : o < 2) : IntKind.i64.wrap (o : Int) = (o : Int) := by
  rcases (show o = 0 ∨ o = 1 by omega) with rfl | rfl <;> decide
theorem Bd.ok.v {w : World} {d : Bd} (h : d.ok w) : BytesV w d.a d.bs.length d.c d.bs := h.1
theorem bytes_new3 (w : World) (x y z : Int) (hx : 0 ≤ x ∧ x < 256) (hy : 0 ≤ y ∧ y < 256) (hz : 0 ≤ z ∧ z < 256) : (Bd.mk (some ⟨w.heap.size, 0, none⟩) 3 [x, y, z]).ok (w.alloc (.cells #[.int .u8 x, .int .u8 y, .int .u8 z] 5)) := by
  have hb := blk_new w (.cells #[.int .u8 x, .int .u8 y, .int .u8 z] 5)
  obtain ⟨h0, h1, h2, _⟩ := row3 hb
  refine ⟨⟨rfl, Nat.le_refl _, by simp only; unfold maxLen; omega, fun u hu => ?_, fun _ => ⟨w.heap.size, 0, rfl, fun i hi => ?_⟩, fun h => by cases h⟩, fun a ha => by cases ha; exact ⟨rfl, _, hb, rfl⟩⟩
  · simp only [List.mem_cons, List.not_mem_nil, or_false] at hu
    rcases hu with rfl | rfl | rfl <;> assumption
  · have hi : i < 3 := hi
    match i, hi with
    | 0, _ => exact h0
    | 1, _ => exact h1
    | 2, _ => exact h2
theorem play_start {w w2 wf : World} {bx b_y n m : Nat} (h2 : Keep [] ((w.alloc (.cells #[.slice none 0 0, .slice none 0 0] 46)).alloc (.cells #[.slice none 0 0, .slice none 0 0] 46)) w2) (hne : bx ≠ b_y)
    (hx : EnAt w2 ((w.alloc (.cells #[.slice none 0 0, .slice none 0 0] 46)).alloc (.cells #[.slice none 0 0, .slice none 0 0] 46)).heap.size bx (en0' n) (.slice none 0 0) (.slice none 0 0)) (hy : EnAt w2 ((w.alloc (.cells #[.slice none 0 0, .slice none 0 0] 46)).alloc (.cells #[.slice none 0 0, .slice none 0 0] 46)).heap.size b_y (en0' m) (.slice none 0 0) (.slice none 0 0))
    (hn : 1 ≤ n ∧ n ≤ 16) (hm : 1 ≤ m ∧ m ≤ 16)
    (hf : wf = ((w2.alloc (.cells #[.pointer (some ⟨bx, 0, none⟩), .pointer (some ⟨b_y, 0, none⟩)] 82)).alloc (.cells #[.slice none 0 0, .slice none 0 0] 83))) :
    Play w wf w2.heap.size (w2.heap.size + 1) w.heap.size (w.heap.size + 1) 0 (fun e => if e = 0 then bx else b_y) := by
  subst hf
  have s1 : (w.alloc (.cells #[.slice none 0 0, .slice none 0 0] 46)).heap.size = w.heap.size + 1 := by show (w.heap.push _).size = _; rw [Array.size_push]
  have s2 : ((w.alloc (.cells #[.slice none 0 0, .slice none 0 0] 46)).alloc (.cells #[.slice none 0 0, .slice none 0 0] 46)).heap.size = w.heap.size + 2 := by show ((w.alloc (.cells #[.slice none 0 0, .slice none 0 0] 46)).heap.push _).size = _; rw [Array.size_push, s1]
  have s3 : (w2.alloc (.cells #[.pointer (some ⟨bx, 0, none⟩), .pointer (some ⟨b_y, 0, none⟩)] 82)).heap.size = w2.heap.size + 1 := by show (w2.heap.push _).size = _; rw [Array.size_push]
  have hsz := h2.size
  rw [s2] at hsz hx hy
  have hkw : Keep [] w w2 := (((Keep.refl [] w).alloc _).alloc _).trans h2
  have hk3 : Keep [] w2 ((w2.alloc (.cells #[.pointer (some ⟨bx, 0, none⟩), .pointer (some ⟨b_y, 0, none⟩)] 82)).alloc (.cells #[.slice none 0 0, .slice none 0 0] 83)) := ((Keep.refl [] w2).alloc _).alloc _
  have b0 := blk_new w (.cells #[.slice none 0 0, .slice none 0 0] 46)
  have b1 := blk_new (w.alloc (.cells #[.slice none 0 0, .slice none 0 0] 46)) (.cells #[.slice none 0 0, .slice none 0 0] 46)
  have b2 := blk_new w2 (.cells #[.pointer (some ⟨bx, 0, none⟩), .pointer (some ⟨b_y, 0, none⟩)] 82)
  have b3 := blk_new (w2.alloc (.cells #[.pointer (some ⟨bx, 0, none⟩), .pointer (some ⟨b_y, 0, none⟩)] 82)) (.cells #[.slice none 0 0, .slice none 0 0] 83)
  rw [s1] at b1
  rw [s3] at b3
  have hb : ∀ {b : Nat} {E : En}, EnAt w2 (w.heap.size + 2) b E (.slice none 0 0) (.slice none 0 0) → EnAt ((w2.alloc (.cells #[.pointer (some ⟨bx, 0, none⟩), .pointer (some ⟨b_y, 0, none⟩)] 82)).alloc (.cells #[.slice none 0 0, .slice none 0 0] 83)) w.heap.size b E (.slice none 0 0) (.slice none 0 0) := fun h =>
    have h9 := h.keep0 hk3
    ⟨by have := h9.hB; omega, h9.blk, ownBase h9.out (by omega), ownBase h9.inn (by omega), h9.bo, h9.bi⟩
  have hok : ∀ {n : Nat}, 1 ≤ n ∧ n ≤ 16 → EnOk (en0' n) := fun h => EnOk.en0 h.1 h.2
  refine ⟨fun g => if g = b_y then 1 else 0, fun e => if e = 0 then en0' n else en0' m, fun _ => .slice none 0 0, fun _ => .slice none 0 0, fun _ => .slice none 0 0, fun _ => .slice none 0 0, fun _ => .slice none 0 0, fun _ => [], fun _ => [], fun _ => [], ⟨hkw.trans hk3, fun e he => ?_, ((Keep.refl [] _).alloc _).at b2 (by simp), b3, hk3.at (h2.at (((Keep.refl [] _).alloc _).at b0 (by simp)) (by simp)) (by simp), hk3.at (h2.at b1 (by simp)) (by simp), ⟨by omega, by omega, by omega, by omega, by omega⟩, fun e he => ⟨World.ownsRow_nil _ _ _ _, fun q hq => (by cases hq), fun g hg => (by cases hg)⟩, fun e he => ⟨World.ownsRow_nil _ _ _ _, fun q hq => (by cases hq), fun g hg => (by cases hg)⟩, fun e he => ⟨World.ownsRow_nil _ _ _ _, fun q hq => (by cases hq), fun g hg => (by cases hg)⟩⟩, fun e he => ?_, ⟨fun e he => Nat.zero_le _, fun e he => Nat.zero_le _, fun e he => Nat.zero_le _, fun e he q hq => (by cases hq), fun e he q hq => (by cases hq)⟩⟩
  · rcases (show e = 0 ∨ e = 1 by omega) with rfl | rfl
    · refine ⟨hb hx, hok hn, fun g hg => ?_⟩
      have : g = bx := by simpa [enS, Value.ownBlock] using hg
      subst this
      exact if_neg hne
    · refine ⟨hb hy, hok hm, fun g hg => ?_⟩
      have : g = b_y := by simpa [enS, Value.ownBlock] using hg
      subst this
      exact if_pos rfl
  · have hd : ∀ n m, Dir (en0' n) (en0' m) [] [] [] [] := fun n m => ⟨rfl, fun i p hp => (by simp [en0'] at hp), Nat.le_refl _, Nat.le_refl _, rfl, fun q hq => (by cases hq), fun q hq => (by cases hq)⟩
    rcases (show e = 0 ∨ e = 1 by omega) with rfl | rfl
    · exact hd n m
    · exact hd m n
theorem PW.putsAt {w0 w w' : World} {qe qw qp qg : Nat} {tag B : Nat → Nat} {X : Nat → En} {VO VI VW VP VG : Nat → Value} {W : Nat → List Pk} {P G : Nat → List Bd} (h : PW w0 w qe qw qp qg tag B X VO VI VW VP VG W P G) {e : Nat} (he : e < 2) (hk : Keep (enS (B e) (VO e) (VI e)) w w') :
    w'.heap[qp]? = some (.cells #[VP 0, VP 1] 46 (0, 0)) ∧ w'.heap[qw]? = some (.cells #[VW 0, VW 1] 83 (0, 0)) ∧ w'.heap[qg]? = some (.cells #[VG 0, VG 1] 46 (0, 0)) := by
  have hx := (h.en e he).1
  exact ⟨hk.at h.puts (notEn hx h.puts (by decide) (by decide) (by decide)), hk.at h.way (notEn hx h.way (by decide) (by decide) (by decide)), hk.at h.gots (notEn hx h.gots (by decide) (by decide) (by decide))⟩
theorem put_bodies {w0 w w1 : World} {qe qw qp qg : Nat} {tag B : Nat → Nat} {X : Nat → En} {VO VI VW VP VG : Nat → Value} {W : Nat → List Pk} {P G : Nat → List Bd} (h : PW w0 w qe qw qp qg tag B X VO VI VW VP VG W P G) {e : Nat} (he : e < 2) (hk : Keep (VP e).ownBlock.toList w w1) {d : Bd} (hd : d.ok w) : ∀ q ∈ P e ++ [d], q.ok w1 := by
  have hnb : NoB (VP e).ownBlock.toList w := fun g hg cs f hc => by
    obtain ⟨c, h1⟩ := ownCells (h.rp e he).1 (by simpa using hg)
    exact neType h1 hc (by decide) rfl
  intro q hq
  rcases List.mem_append.1 hq with hq | hq
  · exact ((h.rp e he).2.1 q hq).keep hk hnb
  · rw [List.mem_singleton.1 hq]; exact hd.keep hk hnb
theorem way_bodies {w0 w w1 : World} {qe qw qp qg : Nat} {tag B : Nat → Nat} {X : Nat → En} {VO VI VW VP VG : Nat → Value} {W : Nat → List Pk} {P G : Nat → List Bd} (h : PW w0 w qe qw qp qg tag B X VO VI VW VP VG W P G) {e j : Nat} (he : e < 2) (hk : Keep (VW e).ownBlock.toList w w1) : ∀ q ∈ (W e).eraseIdx j, q.body.ok w1 := by
  have hnb : NoB (VW e).ownBlock.toList w := fun g hg cs f hc => by
    obtain ⟨c, h1⟩ := ownCells (h.rw e he).1 (by simpa using hg)
    exact neType h1 hc (by decide) rfl
  exact fun q hq => ((h.rw e he).2.1 q (List.mem_of_mem_eraseIdx hq)).keep hk hnb
theorem own_news {w : World} {B e n c : Nat} {a : Option Addr} {xs : List Value} (ho : w.ownsRow B e 1 (.slice a n c) n xs) : 0 < n → ∃ ad, a = some ad ∧ ∀ j u, xs[j]? = some u → w.cell? (ad.add j) = some u := fun hn => by
  obtain ⟨a', c', he, _, _, h5⟩ := ownAny ho
  injection he with he _ _
  obtain ⟨g, hg, _, _, hc, _⟩ := h5 hn
  refine ⟨_, he.trans hg, fun j u hu => ?_⟩
  have hj := (List.getElem?_eq_some_iff.1 hu).1
  have hl : xs.length = n := by simpa using ho.1
  rw [Go.WideShapes.add_plain, Nat.zero_add, hc j (by omega)]; exact hu
theorem got_to {w w' : World} {B b : Nat} {E : En} {vo vi : Value} {due : Bool} (hk : Keep [b] w w') (h : EnAt w' B b { E with inn := [], due := due } vo (.slice none 0 0)) : EnTo w w' B b { E with inn := [], due := due } vo vi vo (.slice none 0 0) :=
  ⟨h, hk.more (fun x hx => by rw [List.mem_singleton.1 hx]; simp [enS]), Nw.refl _ _, fun g hg => by cases hg⟩
theorem nw_any {w : World} {v v' r : Value} (hv : v.ownBlock = r.ownBlock) (h : v'.ownBlock = r.ownBlock ∨ v'.ownBlock = some w.heap.size) : Nw w v v' := fun x hx => by
  rcases h with h | h
  · left; rw [hv, ← h]; exact hx
  · right; rw [h] at hx; cases hx; exact Nat.le_refl _
theorem got_bodies {w0 w w1 : World} {qe qw qp qg : Nat} {tag B : Nat → Nat} {X : Nat → En} {VO VI VW VP VG : Nat → Value} {W : Nat → List Pk} {P G : Nat → List Bd} (h : PW w0 w qe qw qp qg tag B X VO VI VW VP VG W P G) {e : Nat} (he : e < 2) (hk : Keep (VG e).ownBlock.toList w w1) {l : List Bd} (hd : ∀ d ∈ l, d.ok w) : ∀ q ∈ G e ++ l, q.ok w1 := by
  have hnb : NoB (VG e).ownBlock.toList w := fun g hg cs f hc => by
    obtain ⟨c, h1⟩ := ownCells (h.rg e he).1 (by simpa using hg)
    exact neType h1 hc (by decide) rfl
  intro q hq
  rcases List.mem_append.1 hq with hq | hq
  · exact ((h.rg e he).2.1 q hq).keep hk hnb
  · exact (hd q hq).keep hk hnb
theorem own_newsM {w : World} {B e m n c : Nat} {a : Option Addr} {xs : List Value} (ho : w.ownsRow B e m (.slice a n c) n xs) : 0 < n → ∃ ad, a = some ad ∧ ∀ j u, xs[j]? = some u → w.cell? (ad.add j) = some u := fun hn => by
  obtain ⟨a', c', he, _, _, h5⟩ := ownAny ho
  injection he with he _ _
  obtain ⟨g, hg, _, _, hc, _⟩ := h5 hn
  refine ⟨_, he.trans hg, fun j u hu => ?_⟩
  have hj := (List.getElem?_eq_some_iff.1 hu).1
  have hl : xs.length = n * m := ho.1
  rw [Go.WideShapes.add_plain, Nat.zero_add, hc j (by omega)]; exact hu
theorem outP_len {E : En} {ds : Nat → Bd} (h : E.lim ≤ 16) : (outP E ds).length ≤ 16 := by
  unfold outP
  split
  · simp
  · have := outL_len E ds (min E.lim E.out.length); omega
theorem outP_bodies {w0 w : World} {E : En} {ds : Nat → Bd} (hd : DsOk w0 w E ds (min E.lim E.out.length)) : ∀ q ∈ outP E ds, q.body.ok w := fun q hq => by
  obtain ⟨_, _, h1, h2⟩ := outP_mem hq
  cases hh : q.has with
  | true =>
    obtain ⟨i, p, h3, h4, h5, _, h6⟩ := h1 hh
    rw [h6]; exact (hd i h3 p h4 h5).2.1
  | false => rw [(h2 hh).2]; exact noBd_ok w
theorem way_more {w0 w w1 : World} {qe qw qp qg : Nat} {tag B : Nat → Nat} {X : Nat → En} {VO VI VW VP VG : Nat → Value} {W : Nat → List Pk} {P G : Nat → List Bd} (h : PW w0 w qe qw qp qg tag B X VO VI VW VP VG W P G) {e : Nat} (he : e < 2) (hk : Keep (VW e).ownBlock.toList w w1) {l : List Pk} (hd : ∀ q ∈ l, q.body.ok w) : ∀ q ∈ W e ++ l, q.body.ok w1 := by
  have hnb : NoB (VW e).ownBlock.toList w := fun g hg cs f hc => by
    obtain ⟨c, h1⟩ := ownCells (h.rw e he).1 (by simpa using hg)
    exact neType h1 hc (by decide) rfl
  intro q hq
  rcases List.mem_append.1 hq with hq | hq
  · exact ((h.rw e he).2.1 q hq).keep hk hnb
  · exact (hd q hq).keep hk hnb
theorem nw_at {w : World} {v v' : Value} {g n c : Nat} (hv : v.ownBlock = v'.ownBlock) (h : v'.ownBlock = some g ∨ g = w.heap.size) : Nw w v (.slice (some ⟨g, 0, none⟩) n c) := fun x hx => by
  have hgx : g = x := by simpa [Value.ownBlock] using hx
  subst hgx
  rcases h with h | h
  · left; rw [hv]; exact h
  · right; omega
section
variable {k : Nat} {X : Nat → En} {P G : Nat → List Bd} {W : Nat → List Pk} {e : Nat}
theorem LBd.mono (h : LBd k X P G W) : LBd (k + 1) X P G W :=
  ⟨fun e he => by have := h.put e he; omega, fun e he => by have := h.got e he; omega, fun e he => by have := h.way e he; omega, h.pk, h.small⟩
theorem LBd.monoX (h : LBd k X P G W) {X' : Nat → En} : LBd (k + 1) X' P G W :=
  ⟨fun e he => by have := h.put e he; omega, fun e he => by have := h.got e he; omega, fun e he => by have := h.way e he; omega, h.pk, h.small⟩
theorem LBd.lessW (h : LBd k X P G W) {X' : Nat → En} {W' : List Pk} (hw : ∀ q ∈ W', q ∈ W e) (hl : W'.length ≤ (W e).length) : LBd (k + 1) X' P G (upd W e W') := by
  refine ⟨fun e he => by have := h.put e he; omega, fun e he => by have := h.got e he; omega, fun j hj => ?_, fun j hj q hq => ?_, h.small⟩
  · have := h.way j hj
    by_cases hje : j = e
    · subst hje; rw [upd_same]; omega
    · rw [upd_other _ _ hje]; omega
  · by_cases hje : j = e
    · subst hje; rw [upd_same] at hq; exact h.pk j hj q (hw q hq)
    · rw [upd_other _ _ hje] at hq; exact h.pk j hj q hq
theorem LBd.gotd (h : LBd k X P G W) (he : e < 2) {l : List Bd} (hl : l.length ≤ 16) {X' : Nat → En} : LBd (k + 1) X' P (upd G e (G e ++ l)) W := by
  refine ⟨fun e he => by have := h.put e he; omega, fun j hj => ?_, fun e he => by have := h.way e he; omega, h.pk, h.small⟩
  have := h.got j hj
  by_cases hje : j = e
  · subst hje; rw [upd_same, List.length_append]; omega
  · rw [upd_other _ _ hje]; omega
theorem LBd.sent (h : LBd k X P G W) {o : Nat} (ho : o < 2) {l : List Pk} (hl : l.length ≤ 16) (hq : ∀ q ∈ l, q.win ≤ 16 ∧ q.seq ≤ 1000 ∧ q.ack ≤ 1000 ∧ q.body.bs.length ≤ 1000) {X' : Nat → En} : LBd (k + 1) X' P G (upd W o (W o ++ l)) := by
  refine ⟨fun e he => by have := h.put e he; omega, fun e he => by have := h.got e he; omega, fun j hj => ?_, fun j hj q hqq => ?_, h.small⟩
  · have := h.way j hj
    by_cases hje : j = o
    · subst hje; rw [upd_same, List.length_append]; omega
    · rw [upd_other _ _ hje]; omega
  · by_cases hje : j = o
    · subst hje
      rw [upd_same] at hqq
      rcases List.mem_append.1 hqq with h1 | h1
      · exact h.pk j hj q h1
      · exact hq q h1
    · rw [upd_other _ _ hje] at hqq; exact h.pk j hj q hqq
theorem LBd.putd (h : LBd k X P G W) {d : Bd} (hd : d.bs.length ≤ 1000) {X' : Nat → En} : LBd (k + 1) X' (upd P e (P e ++ [d])) G W := by
  refine ⟨fun j hj => ?_, fun e he => by have := h.got e he; omega, fun e he => by have := h.way e he; omega, h.pk, fun j hj b hb => ?_⟩
  · have := h.put j hj
    by_cases hje : j = e
    · subst hje; rw [upd_same, List.length_append, List.length_singleton]; omega
    · rw [upd_other _ _ hje]; omega
  · by_cases hje : j = e
    · subst hje
      rw [upd_same] at hb
      rcases List.mem_append.1 hb with hb | hb
      · exact h.small j hj b hb
      · rw [List.mem_singleton.1 hb]; exact hd
    · rw [upd_other _ _ hje] at hb; exact h.small j hj b hb
end
end Go
namespace Go.Proofs.Ytfgipbjaaciiiaa
open Go.RowKit
theorem rest_ex (k n : Int) (w : World) (hn : 0 < n) (hn1 : n ≤ 1000000000) : Calls Try.prog 12 #[.int .i64 k, .int .i64 n] w fun e w' => ∃ q : Nat, e = .returned (.int .i64 q) ∧ (q : Int) < n ∧ w = w' := by
  obtain ⟨q, hq, hq2⟩ := rest_nat k n hn
  refine (rest_any k n w hn hn1).mono ?_
  rintro e w' ⟨rfl, rfl⟩
  exact ⟨q, by rw [hq], hq2, rfl⟩
theorem put13_or {w : World} {B b n : Nat} {E : En} {vo vi : Value} {a : Option Addr} {c : Nat} {bs : List Int} (h : EnAt w B b E vo vi) (hok : EnOk E) (hv : BytesV w a n c bs) (hn : n ≤ 1000) :
    Calls Try.prog 13 #[.pointer (some ⟨b, 0, none⟩), .slice a n c] w fun e w' => ∃ r : Int, e = .returned (.int .i64 r) ∧ Keep (enS b vo vi) w w' ∧ (r = 0 → ∃ vo' a' c', EnTo w w' B b { E with out := E.out ++ [⟨⟨a', c', bs⟩, false⟩] } vo vi vo' vi ∧ EnOk { E with out := E.out ++ [⟨⟨a', c', bs⟩, false⟩] }) ∧ (r ≠ 0 → Keep [] w w') := by
  by_cases hf : E.out.length < E.win
  · refine (put13_any h hok hv hn hf).mono ?_
    rintro e w' ⟨rfl, vo', a', c', _, ht⟩
    exact ⟨0, rfl, ht.keep, fun _ => ⟨vo', a', c', ht, hok.put hf (by show bs.length ≤ 1000; have := hv.len; omega)⟩, fun h => absurd rfl h⟩
  · refine (put13_full h hok hn (by have := hok.out; omega)).mono ?_
    rintro e w' ⟨rfl, hk⟩
    exact ⟨9, rfl, hk.more (by simp), fun h => absurd h (by decide), fun _ => hk⟩
set_option maxRecDepth 100000 in
set_option maxHeartbeats 8000000 in
theorem played23_any {a b : Int} {ap : Option Addr} {len cap : Nat} {zs : List Int} {w : World} (hz : IntsV w ap len cap zs) :
    Calls Try.prog 23 #[.int .i64 a, .int .i64 b, .slice ap len cap] w fun e w' => ∃ qe qw qp qg tag B X VO VI VW VP VG W P G, e = .returned (.tuple #[.pointer (some ⟨B 0, 0, none⟩), .pointer (some ⟨B 1, 0, none⟩), .agg #[VP 0, VP 1], .agg #[VG 0, VG 1], .bool true]) ∧ PW w w' qe qw qp qg tag B X VO VI VW VP VG W P G ∧ LInv X P G W ∧ LBd 300 X P G W := by
  obtain ⟨wa, ha, ha2⟩ := rest_nat a 16 (by decide)
  obtain ⟨wb, hb, hb2⟩ := rest_nat b 16 (by decide)
  have HA := Lib.hid ha
  have HB := Lib.hid hb
  obtain ⟨i29, hi29, hy0, hy1, hy2⟩ := info_parts2 info29
  obtain ⟨i34, hi34, hz34, hs34, hb34⟩ := info_parts2 info34
  obtain ⟨N, hN⟩ : ∃ N : Nat, min len 300 = N := ⟨_, rfl⟩
  have hmn : (min (len : Int) 300).toNat = N := by omega
  have hroom := hz.room
  have hmost := hz.most
  unfold maxLen at hmost
  have HZ := Lib.hid hz
  clear ha hb hz
  go_enter Try.func23, Try.ntmps23
  go_wp2_with (first | (with_reducible refine Txt.wp_region_text mixed quiet (by decide +kernel) ?_) | (with_reducible refine Txt.text_done (by kernel_rfl) ?_) | (go_at_call 11; (with_reducible refine (lines11_any HA.out HB.out).mono ?_); rintro e w2 ⟨bx, b_y, rfl, hk2, hne2, hx2, hy2⟩; have HK2 := Lib.hid hk2; have HX2 := Lib.hid hx2; have HY2 := Lib.hid hy2; have HNE2 := Lib.hid hne2; clear hk2 hx2 hy2 hne2))
  have HPL : Hid (Play w ((w2.alloc (.cells #[.pointer (some ⟨bx, 0, none⟩), .pointer (some ⟨b_y, 0, none⟩)] 82)).alloc (.cells #[.slice none 0 0, .slice none 0 0] 83)) w2.heap.size (w2.heap.size + 1) w.heap.size (w.heap.size + 1) 0 (fun e => if e = 0 then bx else b_y)) := Lib.hid (play_start HK2.out HNE2.out HX2.out HY2.out (by omega) (by omega) rfl)
  clear HK2 HX2 HY2 HNE2
  obtain ⟨qe, hqe⟩ : ∃ x, w2.heap.size = x := ⟨_, rfl⟩
  obtain ⟨qp, hqp⟩ : ∃ x, w.heap.size = x := ⟨_, rfl⟩
  obtain ⟨B, hB⟩ : ∃ x : Nat → Nat, (fun e => if e = 0 then bx else b_y) = x := ⟨_, rfl⟩
  rw [hqe, hqp, hB] at HPL
  have HB0 : Hid (bx = B 0 ∧ b_y = B 1) := Lib.hid (by rw [← hB]; exact ⟨rfl, rfl⟩)
  rw [hqe, hqp]
  clear hB hqe hqp
  go_loopw [10, 37] (fun ok j wr => ∃ k : Nat, k ≤ N ∧ ok = .bool true ∧ j = .int .i64 k ∧ Hid (Play w wr qe (qe + 1) qp (qp + 1) k B)) (fun _ j _ => N - (intOf j).toNat)
  case atStart => exact ⟨0, by omega, rfl, rfl, HPL⟩
  case round =>
    obtain ⟨k, hk, rfl, rfl, HP⟩ := hrel
    by_cases hlt : k < N
    · obtain ⟨bz, off, rfl, hcz⟩ := HZ.out.cells (by omega)
      have hcw := hcz k (by omega)
      obtain ⟨z, hz⟩ : ∃ z, zs.getD k 0 = z := ⟨_, rfl⟩
      rw [hz] at hcw
      obtain ⟨tag, X, VO, VI, VW, VP, VG, W, P, G, hPW, hLI, hBD⟩ := HP.out
      have hcr := hPW.kx.cell hcw (by simp)
      have hce : ∀ e, e < 2 → wr.cell? ⟨qe, e, none⟩ = some (.pointer (some ⟨B e, 0, none⟩)) := fun e he => two_at (V := fun e => .pointer (some ⟨B e, 0, none⟩)) hPW.ends he
      have HPW := Lib.hid hPW
      have HLI := Lib.hid hLI
      have HBD := Lib.hid hBD
      have hk300 : k < 300 := by omega
      clear hPW hLI hBD HP hcz hz
      have tok1 : True := trivial
      go_wp2_with (first | (with_reducible refine Txt.wp_region_text mixed quiet (by decide +kernel) ?_) | (with_reducible refine Txt.text_done (by kernel_rfl) ?_) | (go_at_call 12; have _t := tok1; (with_reducible refine (rest_ex _ 2 _ (by decide) (by decide)).mono ?_); rintro e w3 ⟨en, rfl, hen, rfl⟩; have he : en < 2 := (by omega); have hce2 := hce en he; obtain ⟨aw, cw, hvw, hw1, hw2, -⟩ := ownAny (HPW.out.rw en he).1; have hcw2 := two_at HPW.out.way he; rw [hvw] at hcw2; obtain ⟨ap2, cp2, hvp, hp1, hp2, -⟩ := ownAny (HPW.out.rp en he).1; have HVP := Lib.hid hvp; have HVW := Lib.hid hvw; have HBB : Hid ((Bd.mk (some ⟨wr.heap.size, 0, none⟩) 3 [(k : Int) % 256, (k : Int) / 256, (en : Int)]).ok (wr.alloc (.cells #[.int .u8 ((k : Int) % 256), .int .u8 ((k : Int) / 256), .int .u8 (en : Int)] 5))) := Lib.hid (bytes_new3 wr _ _ _ (by omega) (by omega) (by omega)); have hl300 := HBD.out.put en he; have HPA : Hid (∀ x, PW w (wr.alloc x) qe (qe + 1) qp (qp + 1) tag B X VO VI VW VP VG W P G) := Lib.hid (fun x => HPW.out.keep0 ((Keep.refl [] wr).alloc x)); have HBV : Hid (BytesV (wr.alloc (.cells #[.int .u8 ((k : Int) % 256), .int .u8 ((k : Int) / 256), .int .u8 (en : Int)] 5)) (some ⟨wr.heap.size, 0, none⟩) 3 3 [(k : Int) % 256, (k : Int) / 256, (en : Int)]) := Lib.hid (Bd.ok.v HBB.out); have HEN : Hid (∀ x, EnAt (wr.alloc x) w.heap.size (B en) (X en) (VO en) (VI en)) := Lib.hid (fun x => ((HPA.out x).en en he).1); obtain ⟨o, ho⟩ : ∃ o, 1 - en = o := ⟨_, rfl⟩; have ho2 : o < 2 := (by omega); have hoi : (1 : Int) - (en : Int) = (o : Int) := (by omega); have hwo : IntKind.i64.wrap (o : Int) = (o : Int) := wrap_o01 ho2; have hoi2 : (o : Int) < 2 := (by omega); have HOO := Lib.hid ho; obtain ⟨ao, co, hvo, ho3, ho4, -⟩ := ownAny (HPW.out.rw o ho2).1; have HVO := Lib.hid hvo; have hco2 := two_at (V := VW) HPW.out.way ho2; rw [hvo] at hco2; clear hvo ho; have HEN0 := Lib.hid (HPW.out.en en he).1; obtain ⟨ai, ci, hvi, hi1, hi2, -⟩ := ownAny HEN0.out.inn; have HVI := Lib.hid hvi; obtain ⟨ag, cg, hvg, hg1, hg2, -⟩ := ownAny (HPW.out.rg en he).1; have HVG := Lib.hid hvg; have hcg2 := two_at (V := VG) HPW.out.gots he; rw [hvg] at hcg2; have HPWD := Lib.hid (HPW.out.keep0 (Keep.refl [] wr).drew); have HEND := Lib.hid (HPWD.out.en en he).1; have HI16 : Hid ((X en).inn.length ≤ 16) := Lib.hid (by have h8 := (HPW.out.en en he).2.1.inn; have h9 := (HPW.out.en en he).2.1.win; omega); clear hvi hvg; have HWL : Hid (((W en).length : Int) ≤ 1000000000) := Lib.hid (by have := HBD.out.way en he; omega); have HEO : Hid (EnOk (X en)) := Lib.hid (HPW.out.en en he).2.1; clear hvw hvp tok1 _t) | (go_at_call 12; (with_reducible refine (rest_ex _ 8 _ (by decide) (by decide)).mono ?_); rintro e w3 ⟨kd, rfl, hkd, rfl⟩) | (go_at_call 12; (with_reducible refine (rest_ex _ 2 _ (by decide) (by decide)).mono ?_); rintro e w3 ⟨kd2, rfl, hkd2, rfl⟩) | (go_at_call 12; (with_reducible refine (rest_ex _ 3 _ (by decide) (by decide)).mono ?_); rintro e w3 ⟨kd3, rfl, hkd3, rfl⟩) | (go_at_call 13; (with_reducible refine (put13_or (HEN.out _) HEO.out HBV.out (by decide)).mono ?_); rintro e w4 ⟨r, rfl, hk4, hyes, hno⟩; obtain ⟨hp4, -, -⟩ := (HPA.out _).putsAt he hk4; have hcp4 := two_at (V := VP) hp4 he; rw [HVP.out] at hcp4; have hzp4 := thaw hp4; have hbl4 := lt_of_blk hp4; have HYES := Lib.hid hyes; have HNO := Lib.hid hno; clear hyes hno hk4 hp4) | (go_at_call 20; (with_reducible refine (tick20_any HEN0.out HEO.out).mono ?_); rintro e w20 ⟨rfl, ht20⟩; have HF20 := Lib.hid (HPW.out.onEnd he ht20 HEO.out.tick); clear ht20) | (go_at_call 12; have hpos : 0 < (W en).length := Nat.pos_of_ne_zero (fun h0 => (by simp_all)); (with_reducible refine (rest_ex _ ((W en).length : Int) _ (Int.natCast_pos.2 hpos) HWL.out).mono ?_); rintro e w3 ⟨jj, rfl, hjj, rfl⟩; have hjl : jj < (W en).length := (by omega); obtain ⟨gw, cw', he1, -, -, hgwl, -, hqs⟩ := pkrow (HPW.out.rw en he).1 hpos; have haw : aw = some ⟨gw, 0, none⟩ := (by have h9 := HVW.out.symm.trans he1; injection h9); subst haw; have hq5 := hqs jj _ (List.getElem?_eq_getElem hjl); obtain ⟨⟨seq, ack, has, win, ⟨da, dc, dbs⟩⟩, hqq⟩ : ∃ q, (W en)[jj] = q := ⟨_, rfl⟩; rw [hqq] at hq5; have HQM : Hid ((⟨seq, ack, has, win, ⟨da, dc, dbs⟩⟩ : Pk) ∈ W en) := Lib.hid (by rw [← hqq]; exact List.getElem_mem _); obtain ⟨q0, q1, q2, q3, q4⟩ := hq5; obtain ⟨nb, hnb⟩ : ∃ n, dbs.length = n := ⟨_, rfl⟩; simp only at q0 q1 q2 q3 q4; rw [hnb] at q4; have HNB := Lib.hid hnb; have HDB := Lib.hid ((HPW.out.rw en he).2.1 _ HQM.out); have hpk := HBD.out.pk en he _ HQM.out; simp only at hpk; rw [hnb] at hpk; have HP1 : Hid (seq ≤ 1000000) := Lib.hid (by omega); have HP2 : Hid (ack ≤ 1000000) := Lib.hid (by omega); have HP3 : Hid (win ≤ 16) := Lib.hid hpk.1; have HP4 : Hid (nb ≤ 1000) := Lib.hid hpk.2.2.2; have HWT : Hid ((ackE (X en) ack win).want + 1 ≤ 1000000) := Lib.hid (by rw [ack_want]; have h8 := (HLI.out.both he).2.want; have h9 := HBD.out.put (1 - en) (by omega); omega); have HLL : Hid ((W en).length ≤ 100000) := Lib.hid (by have := HBD.out.way en he; omega); have hjb : jj ≤ 100000 := (by have := HLL.out; omega); clear hqq he1 hqs hnb hpk) | (go_at_call 15; (with_reducible refine (come15_i (seq := seq) (ack := ack) (win := win) HEN0.out HEO.out HDB.out HP4.out HP1.out HP2.out HP3.out rfl rfl rfl HNB.out).mono ?_); rintro e w15 ⟨rfl, vo15, vi15, a15, c15, hf15, ht15⟩; have HF15 := Lib.hid (HPW.out.onEnd he ht15 ((HEO.out.ack HP2.out HP3.out).got HWT.out)); obtain ⟨-, hw15, -⟩ := HPW.out.putsAt he ht15.keep; have hcw15 := two_at (V := VW) hw15 he; rw [HVW.out] at hcw15; have hzw15 := thaw hw15; have hbw15 := lt_of_blk hw15; have how15 := (HF15.out.rw en he).1; rw [HVW.out] at how15; have HOW15 := Lib.hid how15; clear hf15 ht15 hw15 how15) | (go_at_call 41; (with_reducible refine (delete41_any HOW15.out hjl HLL.out).mono ?_); rintro e w16 ⟨v16, rfl, hv16, hk16, ho16⟩; obtain ⟨a16, c16, rfl, h161, h162, -⟩ := ownAny ho16; have hle16 : ((W en).eraseIdx jj).length = (W en).length - 1 := (by rw [List.length_eraseIdx, if_pos hjl]); have HF16 := Lib.hid (HF15.out.onWay he (l := (W en).eraseIdx jj) (by rw [HVW.out]; exact hk16) (by rw [hle16]; exact ho16) (way_bodies HF15.out he (by rw [HVW.out]; exact hk16)) (fun g hg => .inl (by rw [HVW.out, ← hv16]; exact hg))); have hw16 := hk16.at HF15.out.way (fun hm => (by obtain ⟨c9, h9⟩ := ownCells HOW15.out (by simpa using hm); exact neType h9 HF15.out.way (by decide) rfl)); have hcw16 := two_at (V := VW) hw16 he; rw [HVW.out] at hcw16; have hzw16 := thaw hw16; have hbw16 := lt_of_blk hw16; clear hk16 ho16 hw16 hv16) | (at_builtin; obtain ⟨vo5, a5, c5, ht5, hok5⟩ := HYES.out (eq_of_beq (by assumption)); have HPW5 := Lib.hid (((HPA.out _).onEnd he ht5 hok5).keep0 ((Keep.refl [] w4).alloc (.cells #[.slice (some ⟨wr.heap.size, 0, none⟩) 3 3] 29))); have ho5 := (HPW5.out.rp en he).1; rw [HVP.out] at ho5; have HO5 := Lib.hid ho5; have HBD5 := Lib.hid ((ht5.bd (HEN.out _) HBB.out).keep ((Keep.refl [] w4).alloc (.cells #[.slice (some ⟨wr.heap.size, 0, none⟩) 3 3] 29)) (NoB.nil _)); have HSZ5 : Hid (w.heap.size ≤ (w4.alloc (.cells #[.slice (some ⟨wr.heap.size, 0, none⟩) 3 3] 29)).heap.size) := Lib.hid HPW5.out.kx.size; have HM5 : Hid ((P en).length + 1 ≤ maxLen) := Lib.hid (by unfold maxLen; omega); have HM6 : Hid (((P en).length + 1) * 24 ≤ 140737488355328) := Lib.hid (by omega); have HC5 : Hid (∀ u ∈ [Value.slice (some ⟨wr.heap.size, 0, none⟩) 3 3], u.oneCell' = true) := Lib.hid (by intro u hu; rw [List.mem_singleton.1 hu]; rfl); clear ho5 ht5 hok5; refine wpList_append_lies _ rfl _ _ 37 rfl w.heap.size 29 i29 (.slice none 0 0) 1 24 Try.underlying37 hi29 hy0 hy1 hy2 rfl (by decide) (.slice ap2 (P en).length cp2) (P en).length ((P en).map Bd.val) rfl HO5.out ⟨w4.heap.size, 0, none⟩ 1 1 [.slice (some ⟨wr.heap.size, 0, none⟩) 3 3] rfl rfl (cells_new w4 [.slice (some ⟨wr.heap.size, 0, none⟩) 3 3] 29 (0, 0)) HC5.out (by decide) HM5.out HM6.out HSZ5.out _ rfl ?_; intro gz cz w6 hown6 hgr6 hat6 _; have hk6 : Keep (VP en).ownBlock.toList (w4.alloc (.cells #[.slice (some ⟨wr.heap.size, 0, none⟩) 3 3] 29)) w6 := Keep.ofGrown hgr6 (fun x hx => by rw [HVP.out]; simp [hx]); have hp6 := hk6.at HPW5.out.puts (fun hm => (by obtain ⟨c9, h9⟩ := ownCells (HPW5.out.rp en he).1 (by simpa using hm); exact neType h9 HPW5.out.puts (by decide) rfl)); have hcp6 := two_at (V := VP) hp6 he; rw [HVP.out] at hcp6; have hzp6 := thaw hp6; have hbl6 := lt_of_blk hp6; have HO6 : Hid (w6.ownsRow w.heap.size 29 1 (.slice (some ⟨gz, 0, none⟩) ((P en).length + 1) cz) (P en ++ [Bd.mk (some ⟨wr.heap.size, 0, none⟩) 3 [(k : Int) % 256, (k : Int) / 256, (en : Int)]]).length ((P en ++ [Bd.mk (some ⟨wr.heap.size, 0, none⟩) 3 [(k : Int) % 256, (k : Int) / 256, (en : Int)]]).map Bd.val)) := Lib.hid (by rw [List.length_append, List.length_singleton, List.map_append]; exact hown6); have HF6 := Lib.hid (HPW5.out.onPut he hk6 HO6.out (put_bodies HPW5.out he hk6 HBD5.out) (nw_at (by rw [HVP.out]) hat6)); clear hp6 hown6 hgr6 hk6 hat6))
      all_goals first | (have hl9 := HLI.out.put he (p := ⟨⟨a5, c5, [(k : Int) % 256, (k : Int) / 256, (en : Int)]⟩, false⟩) (d := Bd.mk (some ⟨wr.heap.size, 0, none⟩) 3 [(k : Int) % 256, (k : Int) / 256, (en : Int)]) rfl; have hb9 := HBD.out.putd (e := en) (d := Bd.mk (some ⟨wr.heap.size, 0, none⟩) 3 [(k : Int) % 256, (k : Int) / 256, (en : Int)]) (show (3 : Nat) ≤ 1000 by decide) (X' := (upd X en { X en with out := (X en).out ++ [⟨⟨a5, c5, [(k : Int) % 256, (k : Int) / 256, (en : Int)]⟩, false⟩] })); have hp9 : Play w (w6.setCell ⟨qp, en, none⟩ (.slice (some ⟨gz, 0, none⟩) ((P en).length + 1) cz)) qe (qe + 1) qp (qp + 1) (k + 1) B := ⟨_, _, _, _, _, _, _, _, _, _, HF6.out, hl9, hb9⟩; exact ⟨⟨k + 1, hlt, rfl, by go_num, Lib.hid hp9⟩, by simp [intOf]; omega⟩) | exact ⟨⟨k + 1, hlt, rfl, by go_num, Lib.hid ⟨_, _, _, _, _, _, _, _, _, _, (HPA.out _).keep0 (HNO.out (fun h => by simp_all)), HLI.out, HBD.out.mono⟩⟩, by simp [intOf]; omega⟩ | (have hl9 := HLI.out.tick he (if 0 < (X en).out.length then max (X en).lim 1 else (X en).lim); have hp9 : Play w w20 qe (qe + 1) qp (qp + 1) (k + 1) B := ⟨_, _, _, _, _, _, _, _, _, _, HF20.out, hl9, HBD.out.monoX⟩; exact ⟨⟨k + 1, hlt, rfl, by go_num, Lib.hid hp9⟩, by simp [intOf]; omega⟩) | (have hl9 := HLI.out.come he HQM.out (d := ⟨a15, c15, dbs⟩) rfl; have hp9 : Play w w15 qe (qe + 1) qp (qp + 1) (k + 1) B := ⟨_, _, _, _, _, _, _, _, _, _, HF15.out, hl9, HBD.out.monoX⟩; exact ⟨⟨k + 1, hlt, rfl, by go_num, Lib.hid hp9⟩, by simp [intOf]; omega⟩) | (have hl9 := (HLI.out.come he HQM.out (d := ⟨a15, c15, dbs⟩) rfl).less he (W' := (W en).eraseIdx jj) (fun q hq => List.mem_of_mem_eraseIdx hq); have hb9 := HBD.out.lessW (e := en) (W' := (W en).eraseIdx jj) (fun q hq => List.mem_of_mem_eraseIdx hq) (by rw [hle16]; omega) (X' := upd X en (gotE (ackE (X en) ack win) has seq ⟨a15, c15, dbs⟩)); have hp9 : Play w (w16.setCell ⟨qe + 1, en, none⟩ (.slice a16 ((W en).length - 1) c16)) qe (qe + 1) qp (qp + 1) (k + 1) B := ⟨_, _, _, _, _, _, _, _, _, _, HF16.out, hl9, hb9⟩; exact ⟨⟨k + 1, hlt, rfl, by go_num, Lib.hid hp9⟩, by simp [intOf]; omega⟩) | exact ⟨⟨k + 1, hlt, rfl, by go_num, Lib.hid ⟨_, _, _, _, _, _, _, _, _, _, HPW.out, HLI.out, HBD.out.mono⟩⟩, by simp [intOf]; omega⟩ | (go_region_law (first | (refine step_append_any rfl (.tmp 59) (.tmp 61) 37 rfl w.heap.size 29 i29 (.slice none 0 0) 1 24 Try.underlying37 hi29 hy0 hy1 hy2 rfl (by decide) (.slice ag (G en).length cg) (G en).length ((G en).map Bd.val) (by simp [Act.eval]) HOG.out ai (X en).inn.length ci ((X en).inn.map Bd.val) (by simp [Act.eval]) HLI4.out HNI.out (one_bds _) HMG.out HMH.out HBG.out ?_; intro a6 c6 w6 hown6 hgr6 hat6; have hk6 : Keep (VG en).ownBlock.toList w4 w6 := Keep.ofGrown hgr6 (fun x hx => (by rw [HVG.out]; simp [hx])); have hg6 := hk6.at HPW4.out.gots (fun hm => (by obtain ⟨c9, h9⟩ := ownCells (HPW4.out.rg en he).1 (by simpa using hm); exact neType h9 HPW4.out.gots (by decide) rfl)); have hcg6 := two_at (V := VG) hg6 he; rw [HVG.out] at hcg6; have hzg6 := thaw hg6; have hbg6 := lt_of_blk hg6; have HFG := Lib.hid (HPW4.out.onGot he (l := G en ++ (X en).inn) hk6 (by rw [List.length_append, List.map_append]; exact hown6) (got_bodies HPW4.out he hk6 HBI4.out) (nw_any (by rw [HVG.out]) hat6)); clear hown6 hgr6 hat6 hk6 hg6) | (go_simp; go_at_call 22; (with_reducible refine (got22_any HEND.out HEO.out).mono ?_); rintro e w4 ⟨rfl, hk4, he4⟩; have HPW4 := Lib.hid (HPWD.out.onEnd he (got_to hk4 he4) (HEO.out.taken _)); have hg4 := HPW4.out.gots; have hcg4 := two_at (V := VG) hg4 he; rw [HVG.out] at hcg4; have hog := (HPW4.out.rg en he).1; rw [HVG.out] at hog; have HOG := Lib.hid hog; have hin := own_keep HEND.out.inn hk4 (fun g hg hm => (by obtain ⟨c9, h9⟩ := ownCells HEND.out.inn hg; exact neType h9 HEND.out.blk (by decide) (List.mem_singleton.1 hm))); rw [HVI.out] at hin; have HNI := Lib.hid (own_news hin); have HBI4 : Hid (∀ d ∈ (X en).inn, d.ok w4) := Lib.hid (fun d hd => (HEND.out.bi d hd).keep hk4 (fun x hx cs f hc => (by rw [List.mem_singleton.1 hx] at hc; exact neType HEND.out.blk hc (by decide) rfl))); have HLI4 : Hid (((X en).inn.map Bd.val).length = (X en).inn.length * 1) := Lib.hid (by rw [List.length_map, Nat.mul_one]); have HMG : Hid ((G en).length + (X en).inn.length ≤ maxLen) := Lib.hid (by have := HBD.out.got en he; have := HI16.out; unfold maxLen; omega); have HMH : Hid (((G en).length + (X en).inn.length) * 24 ≤ 140737488355328) := Lib.hid (by have := HBD.out.got en he; have := HI16.out; omega); have HBG : Hid (w.heap.size ≤ w4.heap.size) := Lib.hid HPW4.out.kx.size; rw [HVI.out]; clear hk4 he4 hg4 hog hin)); all_goals (go_wp2_with (first | (with_reducible refine Txt.wp_region_text mixed quiet (by decide +kernel) ?_) | (with_reducible refine Txt.text_done (by kernel_rfl) ?_)); have hl9 := HLI.out.taken he ((X en).due || decide (0 < (X en).inn.length)); have hb9 := HBD.out.gotd he (l := (X en).inn) HI16.out (X' := upd X en { X en with inn := [], due := (X en).due || decide (0 < (X en).inn.length) }); have hp9 : Play w (w6.setCell ⟨qp + 1, en, none⟩ (.slice a6 ((G en).length + (X en).inn.length) c6)) qe (qe + 1) qp (qp + 1) (k + 1) B := ⟨_, _, _, _, _, _, _, _, _, _, HFG.out, hl9, hb9⟩; exact ⟨⟨k + 1, hlt, rfl, by go_num, Lib.hid hp9⟩, by simp [intOf]; omega⟩)) | (go_region_law (first | (refine step_append_any rfl (.tmp 95) (.tmp 97) 30 rfl w.heap.size 34 i34 _ 5 48 Try.underlying30 hi34 hz34 hs34 hb34 rfl (by decide) (.slice ao (W o).length co) (W o).length (pksC (W o)) (by simp [Act.eval]) HOW4.out a7 (outP (X en) ds7).length c7 (pksC (outP (X en) ds7)) (by simp [Act.eval]) HLN4.out HNW4.out (one_pks _) HM14.out HM24.out HM34.out ?_; intro a6 c6 w6 hown6 hgr6 hat6; have hk6 : Keep (VW o).ownBlock.toList w4 w6 := Keep.ofGrown hgr6 (fun x hx => (by rw [HVO.out]; simp [hx])); have hg6 := hk6.at HPW4.out.way (fun hm => (by obtain ⟨c9, h9⟩ := ownCells (HPW4.out.rw o ho2).1 (by simpa using hm); exact neType h9 HPW4.out.way (by decide) rfl)); have hcw6 := two_at (V := VW) hg6 ho2; rw [HVO.out] at hcw6; have hzw6 := thaw hg6; have hbw6 := lt_of_blk hg6; have HFW := Lib.hid (HPW4.out.onWay ho2 (l := W o ++ outP (X en) ds7) hk6 (by rw [List.length_append, pksC_app]; exact hown6) (way_more HPW4.out ho2 hk6 HBO4.out) (nw_any (by rw [HVO.out]) hat6)); clear hown6 hgr6 hat6 hk6 hg6) | (go_simp; go_at_call 14; (with_reducible refine (out14_any HEND.out HEO.out).mono ?_); rintro e w4 ⟨v7, rfl, ds7, hon7, ht7, hd7⟩; obtain ⟨a7, c7, rfl, -, -, -⟩ := ownAny hon7; have HPW4 := Lib.hid (HPWD.out.onEnd he ht7 HEO.out.outE); have hw4 := HPW4.out.way; have hcw4 := two_at (V := VW) hw4 ho2; rw [HVO.out] at hcw4; have how := (HPW4.out.rw o ho2).1; rw [HVO.out] at how; have HOW4 := Lib.hid how; have HNW4 := Lib.hid (own_newsM hon7); have HBO4 := Lib.hid (outP_bodies hd7); have HD7 := Lib.hid hd7; have HL16 : Hid ((outP (X en) ds7).length ≤ 16) := Lib.hid (outP_len HEO.out.lim); have HLN4 : Hid ((pksC (outP (X en) ds7)).length = (outP (X en) ds7).length * 5) := Lib.hid (pksC_len _); have HM14 : Hid ((W o).length + (outP (X en) ds7).length ≤ maxLen) := Lib.hid (by have := HBD.out.way o ho2; have := HL16.out; unfold maxLen; omega); have HM24 : Hid (((W o).length + (outP (X en) ds7).length) * 48 ≤ 140737488355328) := Lib.hid (by have := HBD.out.way o ho2; have := HL16.out; omega); have HM34 : Hid (w.heap.size ≤ w4.heap.size) := Lib.hid HPW4.out.kx.size; clear hon7 ht7 hd7 hw4 how)); all_goals (go_wp2_with (first | (with_reducible refine Txt.wp_region_text mixed quiet (by decide +kernel) ?_) | (with_reducible refine Txt.text_done (by kernel_rfl) ?_)); have hl9 := HLI.out.sends he (ds := ds7) (fun i p h1 h2 h3 => (HD7.out i h1 p h2 h3).1); rw [HOO.out] at hl9; have hb9 := HBD.out.sent ho2 HL16.out (out_small HLI.out HBD.out he hk300 HEO.out HD7.out) (X' := upd X en (outE (X en))); have hp9 : Play w (w6.setCell ⟨qe + 1, o, none⟩ (.slice a6 ((W o).length + (outP (X en) ds7).length) c6)) qe (qe + 1) qp (qp + 1) (k + 1) B := ⟨_, _, _, _, _, _, _, _, _, _, HFW.out, hl9, hb9⟩; exact ⟨⟨k + 1, hlt, rfl, by go_num, Lib.hid hp9⟩, by simp [intOf]; omega⟩))
    · obtain rfl : k = N := by omega
      obtain ⟨tag, X, VO, VI, VW, VP, VG, W, P, G, hPW, hLI, hBD⟩ := HP.out
      have HPW := Lib.hid hPW
      have HLI := Lib.hid hLI
      have HBD := Lib.hid hBD
      clear hPW hLI hBD HP
      go_wp2_with (first | (with_reducible refine Txt.wp_region_text mixed quiet (by decide +kernel) ?_) | (with_reducible refine Txt.text_done (by kernel_rfl) ?_))
      obtain ⟨hB1, hB2⟩ := HB0.out
      refine bodyPost_ret (results5 Try.results23 rfl rfl (run_loadVar_at _ ⟨qp, 0, none⟩ 46 [VP 0, VP 1] _ (cells_two HPW.out.puts) Try.underlying46 rfl (by kernel_rfl)) (run_loadVar_at _ ⟨qp + 1, 0, none⟩ 46 [VG 0, VG 1] _ (cells_two HPW.out.gots) Try.underlying46 rfl (by kernel_rfl))) rfl ⟨_, _, _, _, _, B, _, _, _, _, VP, VG, _, _, _, ?_, HPW.out, HLI.out, ?_⟩
      · rw [← hB1, ← hB2]; rfl
      · have hb := HBD.out
        exact ⟨fun e he => by have := hb.put e he; omega, fun e he => by have := hb.got e he; omega, fun e he => by have := hb.way e he; omega, hb.pk, hb.small⟩
end Go.Proofs.Ytfgipbjaaciiiaa
/- LineOnce: what is got is a beginning of what was put in. -/
namespace Go
theorem PW.copy {w0 w : World} {qe qw qp qg qp' qg' : Nat} {tag B : Nat → Nat} {X : Nat → En} {VO VI VW VP VG : Nat → Value} {W : Nat → List Pk} {P G : Nat → List Bd} (h : PW w0 w qe qw qp qg tag B X VO VI VW VP VG W P G)
    (hp : w.heap[qp']? = some (.cells #[VP 0, VP 1] 46 (0, 0))) (hg : w.heap[qg']? = some (.cells #[VG 0, VG 1] 46 (0, 0))) (hn : w0.heap.size ≤ qp' ∧ w0.heap.size ≤ qg' ∧ qp' ≠ qg') : PW w0 w qe qw qp' qg' tag B X VO VI VW VP VG W P G :=
  ⟨h.kx, h.en, h.ends, h.way, hp, hg, ⟨h.new.1, h.new.2.1, hn.1, hn.2.1, hn.2.2⟩, h.rw, h.rp, h.rg⟩
theorem PW.base {w0 w1 w : World} {qe qw qp qg : Nat} {tag B : Nat → Nat} {X : Nat → En} {VO VI VW VP VG : Nat → Value} {W : Nat → List Pk} {P G : Nat → List Bd} (hk : Keep [] w0 w1) (h : PW w1 w qe qw qp qg tag B X VO VI VW VP VG W P G) : PW w0 w qe qw qp qg tag B X VO VI VW VP VG W P G := by
  have hs := hk.size
  obtain ⟨n1, n2, n3, n4, n5⟩ := h.new
  exact ⟨hk.trans h.kx, fun e he => ⟨⟨Nat.le_trans hs (h.en e he).1.hB, (h.en e he).1.blk, ownBase (h.en e he).1.out hs, ownBase (h.en e he).1.inn hs, (h.en e he).1.bo, (h.en e he).1.bi⟩, (h.en e he).2⟩, h.ends, h.way, h.puts, h.gots, ⟨by omega, by omega, by omega, by omega, n5⟩,
    fun e he => ⟨ownBase (h.rw e he).1 hs, (h.rw e he).2⟩, fun e he => ⟨ownBase (h.rp e he).1 hs, (h.rp e he).2⟩, fun e he => ⟨ownBase (h.rg e he).1 hs, (h.rg e he).2⟩⟩
theorem RowB.less {w : World} {a : Option Addr} {n m : Nat} {Z Z' : Nat → List Int} (h : RowB w a m Z') (hn : n ≤ m) (hz : ∀ i, i < n → Z i = Z' i) : RowB w a n Z := fun h0 => by
  obtain ⟨b, o, h1, h2⟩ := h (by omega)
  refine ⟨b, o, h1, fun i hi => ?_⟩
  rw [hz i hi]; exact h2 i (by omega)
end Go
namespace Go.Proofs.Ytfgipbjaaciiiaa
open Go.RowKit
set_option maxRecDepth 100000 in
theorem front24_same {w : World} {a1 a2 : Option Addr} {n m c1 c2 : Nat} {Z : Nat → List Int} (h1 : RowB w a1 n Z) (h2 : RowB w a2 n Z) (hn : n ≤ 100000) (hnm : n ≤ m) (hm1 : n ≤ c1 ∧ c1 ≤ maxLen) (hm2 : m ≤ c2 ∧ c2 ≤ maxLen) :
    Calls Try.prog 24 #[.slice a1 n c1, .slice a2 m c2] w fun e w' => e = .returned (.bool true) ∧ Keep [] w w' := by
  have H1 := Lib.hid h1
  have H2 := Lib.hid h2
  have HM1 := Lib.hid hm1
  have HM2 : Hid (n ≤ c2 ∧ c2 ≤ maxLen) := Lib.hid ⟨by omega, hm2.2⟩
  obtain ⟨hm3, hm4⟩ := hm1
  obtain ⟨hm5, hm6⟩ := hm2
  unfold maxLen at hm4 hm6
  clear h1 h2
  go_enter Try.func24, Try.ntmps24
  go_wp2_with (first | (with_reducible refine Txt.wp_region_text mixed quiet (by decide +kernel) ?_) | (with_reducible refine Txt.text_done (by kernel_rfl) ?_) | (go_at_call 21; (with_reducible refine (equalF21_same H1.out H2.out hn HM1.out HM2.out).mono ?_); rintro e w2 ⟨rfl, hk2⟩))
  all_goals (go_ret; exact ⟨rfl, hk2⟩)
end Go.Proofs.Ytfgipbjaaciiiaa
namespace Go.Proofs.Ytfgipbjaaciiiaa
open Go.RowKit
theorem prefix_of {l p : List Bd} {k : Nat} (h : bsOf l = (bsOf p).take k) : l.length ≤ p.length ∧ ∀ i, i < l.length → (l.getD i noBd).bs = (p.getD i noBd).bs := by
  have hl := congrArg List.length h
  simp only [bsOf, List.length_map, List.length_take] at hl
  refine ⟨by omega, fun i hi => ?_⟩
  have hi2 : i < p.length := by omega
  have h1 := congrArg (fun x => x[i]?) h
  simp only [bsOf, List.getElem?_map, List.getElem?_take] at h1
  rw [if_pos (by omega), List.getElem?_eq_getElem hi, List.getElem?_eq_getElem hi2] at h1
  simp only [Option.map_some, Option.some.injEq] at h1
  rw [List.getD_eq_getElem?_getD, List.getD_eq_getElem?_getD, List.getElem?_eq_getElem hi, List.getElem?_eq_getElem hi2]
  exact h1
theorem alloc3 (w : World) (o1 o2 o3 : Obj) : (((w.alloc o1).alloc o2).alloc o3).heap[w.heap.size]? = some o1 ∧ (((w.alloc o1).alloc o2).alloc o3).heap[w.heap.size + 1]? = some o2 ∧ (((w.alloc o1).alloc o2).alloc o3).heap[w.heap.size + 1 + 1]? = some o3 := by
  have s1 : (w.alloc o1).heap.size = w.heap.size + 1 := by show (w.heap.push _).size = _; rw [Array.size_push]
  have s2 : ((w.alloc o1).alloc o2).heap.size = w.heap.size + 1 + 1 := by show ((w.alloc o1).heap.push _).size = _; rw [Array.size_push, s1]
  refine ⟨?_, ?_, ?_⟩
  · rw [blk_alloc, if_neg (by omega), blk_alloc, if_neg (by omega), blk_alloc, if_pos rfl]
  · rw [blk_alloc, if_neg (by omega), blk_alloc, if_pos (by omega)]
  · rw [blk_alloc, if_pos (by omega)]
def OncePl (w wr : World) (qe qw qp qg k : Nat) (B : Nat → Nat) : Prop :=
  ∃ tag X VO VI VW VP VG W P G, PW w wr qe qw qp qg tag B X VO VI VW VP VG W P G ∧ LInv X P G W ∧ LBd k X P G W
set_option maxRecDepth 100000 in
set_option maxHeartbeats 8000000 in
theorem lineOnce_walk (a b : Int) (ap : Option Addr) (len cap : Nat) (zs : List Int) (w : World) (hz : IntsV w ap len cap zs) :
    Calls Try.prog 5 #[.int .i64 a, .int .i64 b, .slice ap len cap] w fun e w' => e = .returned (.bool true) ∧ Keep [] w w' := by
  have HZ := Lib.hid hz
  obtain ⟨i29, hi29, hy0, hy1, hy2⟩ := info_parts2 info29
  clear hz
  go_enter Try.func5, Try.ntmps5
  go_wp2_with (first | (with_reducible refine Txt.wp_region_text mixed quiet (by decide +kernel) ?_) | (with_reducible refine Txt.text_done (by kernel_rfl) ?_) | (go_at_call 10; (with_reducible refine begun10_any.mono ?_); rintro e w1 ⟨rfl, hk1⟩) | (go_at_call 23; (with_reducible refine (played23_any (HZ.out.keep hk1 (by simp))).mono ?_); rintro e w2 ⟨qe, qw, qp, qg, tag, B, X, VO, VI, VW, VP, VG, W, P, G, rfl, hPW, hLI, hBD⟩; have HPW := Lib.hid (PW.base hk1 hPW); have HLI := Lib.hid hLI; have HBD := Lib.hid hBD; obtain ⟨p0, x0, hp0, -, -, -⟩ := ownAny (hPW.rp 0 (by decide)).1; obtain ⟨p1, x1, hp1, -, -, -⟩ := ownAny (hPW.rp 1 (by decide)).1; obtain ⟨g0, y0, hg0, -, -, -⟩ := ownAny (hPW.rg 0 (by decide)).1; obtain ⟨g1, y1, hg1, -, -, -⟩ := ownAny (hPW.rg 1 (by decide)).1; rw [hp0, hp1, hg0, hg1]; have HP0 := Lib.hid hp0; have HP1 := Lib.hid hp1; have HG0 := Lib.hid hg0; have HG1 := Lib.hid hg1; clear hPW hLI hBD hp0 hp1 hg0 hg1))
  obtain ⟨b1, b2, b3⟩ := alloc3 w2 (.cells #[.slice p0 (P 0).length x0, .slice p1 (P 1).length x1] 46) (.cells #[.slice g0 (G 0).length y0, .slice g1 (G 1).length y1] 46) (.cells #[.pointer (some ⟨B 0, 0, none⟩), .pointer (some ⟨B 1, 0, none⟩)] 23)
  have hsw := HPW.out.kx.size
  have HST : Hid (OncePl w (((w2.alloc (.cells #[.slice p0 (P 0).length x0, .slice p1 (P 1).length x1] 46)).alloc (.cells #[.slice g0 (G 0).length y0, .slice g1 (G 1).length y1] 46)).alloc (.cells #[.pointer (some ⟨B 0, 0, none⟩), .pointer (some ⟨B 1, 0, none⟩)] 23)) qe qw w2.heap.size (w2.heap.size + 1) (300 + 0) B) := Lib.hid ⟨_, _, _, _, _, _, _, _, _, _, (HPW.out.keep0 ((((Keep.refl [] w2).alloc _).alloc _).alloc _)).copy (by rw [HP0.out, HP1.out]; exact b1) (by rw [HG0.out, HG1.out]; exact b2) ⟨by omega, by omega, by omega⟩, HLI.out, HBD.out⟩
  have HQ := Lib.hid b3
  clear b1 b2 b3 HPW HLI HBD HP0 HP1 HG0 HG1
  obtain ⟨q1, hq1⟩ : ∃ x, w2.heap.size = x := ⟨_, rfl⟩
  rw [hq1] at HST HQ ⊢
  clear hq1 hsw
  go_loopw [32] (fun j wr => ∃ i : Nat, i ≤ 2 ∧ j = .int .i64 i ∧ Hid (OncePl w wr qe qw q1 (q1 + 1) (300 + i) B) ∧ Hid (wr.heap[q1 + 1 + 1]? = some (.cells #[.pointer (some ⟨B 0, 0, none⟩), .pointer (some ⟨B 1, 0, none⟩)] 23 (0, 0)))) (fun j _ => 2 - (intOf j).toNat)
  case atStart => exact ⟨0, by omega, rfl, HST, HQ⟩
  case round =>
    obtain ⟨e, hk, rfl, HP, HQR⟩ := hrel
    obtain ⟨tag, X, VO, VI, VW, VP, VG, W, P, G, hPW, hLI, hBD⟩ := HP.out
    by_cases he : e < 2
    · have hce := two_at (V := fun e => .pointer (some ⟨B e, 0, none⟩)) HQR.out he
      have HPW := Lib.hid hPW
      have HLI := Lib.hid hLI
      have HBD := Lib.hid hBD
      obtain ⟨o, ho⟩ : ∃ o, 1 - e = o := ⟨_, rfl⟩
      have ho2 : o < 2 := by omega
      have hoi : (1 : Int) - (e : Int) = (o : Int) := by omega
      have HOO := Lib.hid ho
      have hwo : IntKind.i64.wrap (o : Int) = (o : Int) := wrap_o01 ho2
      have hoi2 : (o : Int) < 2 := by omega
      have HEN0 := Lib.hid (hPW.en e he).1
      have HEO : Hid (EnOk (X e)) := Lib.hid (hPW.en e he).2.1
      obtain ⟨ai, ci, hvi, hi1, hi2, -⟩ := ownAny HEN0.out.inn
      have HVI := Lib.hid hvi
      obtain ⟨ag, cg, hvg, hg1, hg2, -⟩ := ownAny (hPW.rg e he).1
      have HVG := Lib.hid hvg
      have hcg2 := two_at (V := VG) hPW.gots he
      rw [hvg] at hcg2
      obtain ⟨apo, cpo, hvp, hp1, hp2, -⟩ := ownAny (hPW.rp o ho2).1
      have HVPO := Lib.hid hvp
      have hcpo := two_at (V := VP) hPW.puts ho2
      rw [hvp] at hcpo
      have HPWD := Lib.hid (hPW.keep0 (Keep.refl [] wr).drew)
      have HEND := Lib.hid (HPWD.out.en e he).1
      have HQD : Hid (wr.drew.heap[q1 + 1 + 1]? = some (.cells #[.pointer (some ⟨B 0, 0, none⟩), .pointer (some ⟨B 1, 0, none⟩)] 23 (0, 0))) := Lib.hid HQR.out
      have HI16 : Hid ((X e).inn.length ≤ 16) := Lib.hid (by have h8 := HEO.out.inn; have h9 := HEO.out.win; omega)
      unfold maxLen at hi2 hg2 hp2
      clear hvi hvg hvp hPW hLI hBD HP ho
      go_wp2_with (first | (with_reducible refine Txt.wp_region_text mixed quiet (by decide +kernel) ?_) | (with_reducible refine Txt.text_done (by kernel_rfl) ?_))
      go_region_law (first | (refine step_append_any rfl (.tmp 40) (.tmp 42) 37 rfl w.heap.size 29 i29 (.slice none 0 0) 1 24 Try.underlying37 hi29 hy0 hy1 hy2 rfl (by decide) (.slice ag (G e).length cg) (G e).length ((G e).map Bd.val) (by simp [Act.eval]) HOG.out ai (X e).inn.length ci ((X e).inn.map Bd.val) (by simp [Act.eval]) HLI4.out HNI.out (one_bds _) HMG.out HMH.out HBG.out ?_; intro a6 c6 w6 hown6 hgr6 hat6; have hk6 : Keep (VG e).ownBlock.toList w4 w6 := Keep.ofGrown hgr6 (fun x hx => (by rw [HVG.out]; simp [hx])); have hg6 := hk6.at HPW4.out.gots (fun hm => (by obtain ⟨c9, h9⟩ := ownCells (HPW4.out.rg e he).1 (by simpa using hm); exact neType h9 HPW4.out.gots (by decide) rfl)); have hcg6 := two_at (V := VG) hg6 he; rw [HVG.out] at hcg6; have hzg6 := thaw hg6; have hcp6 := two_at (V := VP) (hk6.at HPW4.out.puts (fun hm => (by obtain ⟨c9, h9⟩ := ownCells (HPW4.out.rg e he).1 (by simpa using hm); exact neType h9 HPW4.out.puts (by decide) rfl))) ho2; rw [HVPO.out] at hcp6; have hq6 := hk6.at HQ4.out (fun hm => (by obtain ⟨c9, h9⟩ := ownCells (HPW4.out.rg e he).1 (by simpa using hm); exact neType h9 HQ4.out (by decide) rfl)); have HQ6 := Lib.hid hq6; clear hq6; have hbg6 := lt_of_blk hg6; have HFG := Lib.hid (HPW4.out.onGot he (l := G e ++ (X e).inn) hk6 (by rw [List.length_append, List.map_append]; exact hown6) (got_bodies HPW4.out he hk6 HBI4.out) (nw_any (by rw [HVG.out]) hat6)); clear hown6 hgr6 hat6 hk6 hg6) | (go_simp; go_at_call 22; (with_reducible refine (got22_any HEND.out HEO.out).mono ?_); rintro e w4 ⟨rfl, hk4, he4⟩; have HPW4 := Lib.hid (HPWD.out.onEnd he (got_to hk4 he4) (HEO.out.taken _)); have hg4 := HPW4.out.gots; have HQ4 := Lib.hid (hk4.at HQD.out (fun hm => neType HQD.out HEND.out.blk (by decide) (List.mem_singleton.1 hm))); have hcg4 := two_at (V := VG) hg4 he; rw [HVG.out] at hcg4; have hog := (HPW4.out.rg e he).1; rw [HVG.out] at hog; have HOG := Lib.hid hog; have hin := own_keep HEND.out.inn hk4 (fun g hg hm => (by obtain ⟨c9, h9⟩ := ownCells HEND.out.inn hg; exact neType h9 HEND.out.blk (by decide) (List.mem_singleton.1 hm))); rw [HVI.out] at hin; have HNI := Lib.hid (own_news hin); have HBI4 : Hid (∀ d ∈ (X e).inn, d.ok w4) := Lib.hid (fun d hd => (HEND.out.bi d hd).keep hk4 (fun x hx cs f hc => (by rw [List.mem_singleton.1 hx] at hc; exact neType HEND.out.blk hc (by decide) rfl))); have HLI4 : Hid (((X e).inn.map Bd.val).length = (X e).inn.length * 1) := Lib.hid (by rw [List.length_map, Nat.mul_one]); have HMG : Hid ((G e).length + (X e).inn.length ≤ maxLen) := Lib.hid (by have := HBD.out.got e he; have := HI16.out; unfold maxLen; omega); have HMH : Hid (((G e).length + (X e).inn.length) * 24 ≤ 140737488355328) := Lib.hid (by have := HBD.out.got e he; have := HI16.out; omega); have HBG : Hid (w.heap.size ≤ w4.heap.size) := Lib.hid HPW4.out.kx.size; rw [HVI.out]; clear hk4 he4 hg4 hog hin))
      all_goals
        have hFD := HFG.out.keep0 (Keep.refl [] _).drew
        have hro := (hFD.rg e he).1
        have hrb := (hFD.rg e he).2.1
        rw [upd_same, upd_same] at hro
        rw [upd_same] at hrb
        rw [List.length_append] at hro
        have hpo := (hFD.rp o ho2).1
        have hpb := (hFD.rp o ho2).2.1
        rw [HVPO.out] at hpo
        have hdir := (HLI.out.both he).2.got
        rw [HOO.out] at hdir
        obtain ⟨hle, hZZ⟩ := prefix_of hdir
        rw [List.length_append] at hle hZZ
        obtain ⟨a9, c9, he9, hc91, hc92, -⟩ := ownAny hro
        have hcc : c9 = c6 := by injection he9 with _ _ h; exact h.symm
        subst hcc
        have HR1 := Lib.hid (RowB.ofBds hro hrb)
        have HR2 := Lib.hid ((RowB.ofBds hpo hpb).less hle hZZ)
        have HN9 : Hid ((G e).length + (X e).inn.length ≤ 100000) := Lib.hid (by have := HBD.out.got e he; have := HI16.out; omega)
        have HM1 : Hid ((G e).length + (X e).inn.length ≤ c9 ∧ c9 ≤ maxLen) := Lib.hid ⟨hc91, hc92⟩
        have HM2 : Hid ((P o).length ≤ cpo ∧ cpo ≤ maxLen) := Lib.hid ⟨hp1, by unfold maxLen; exact hp2⟩
        have HLE := Lib.hid hle
        have HFD := Lib.hid hFD
        have hgot := two_at (V := upd VG e (.slice a6 ((G e).length + (X e).inn.length) c9)) hFD.gots he
        rw [upd_same] at hgot
        have hput := two_at (V := VP) hFD.puts ho2
        rw [HVPO.out] at hput
        unfold maxLen at hc92
        clear hFD hro hrb hpo hpb hdir he9 hle hZZ
        go_wp2_with fail
        go_region_law (first | (go_simp; go_at_call 24; (with_reducible refine (front24_same HR1.out HR2.out HN9.out HLE.out HM1.out HM2.out).mono ?_); rintro e7 w7 ⟨rfl, hk7⟩))
      all_goals
        go_wp2_with (first | (with_reducible refine Txt.wp_region_text mixed quiet (by decide +kernel) ?_) | (with_reducible refine Txt.text_done (by kernel_rfl) ?_))
        have hl9 := HLI.out.taken he ((X e).due || decide (0 < (X e).inn.length))
        have hb9 := HBD.out.gotd he (l := (X e).inn) HI16.out (X' := upd X e { X e with inn := [], due := (X e).due || decide (0 < (X e).inn.length) })
        have hp9 : OncePl w w7 qe qw q1 (q1 + 1) (300 + (e + 1)) B := ⟨_, _, _, _, _, _, _, _, _, _, HFD.out.keep0 hk7, hl9, hb9⟩
        have hq9 : w7.heap[q1 + 1 + 1]? = some (.cells #[.pointer (some ⟨B 0, 0, none⟩), .pointer (some ⟨B 1, 0, none⟩)] 23 (0, 0)) := hk7.at (by rw [blk_drew, blk_setCell, if_neg (by omega)]; exact HQ6.out) (by simp)
        exact ⟨⟨e + 1, by omega, by go_num, Lib.hid hp9, Lib.hid hq9⟩, by simp [intOf]; omega⟩
    · obtain rfl : e = 2 := by omega
      have hkx := hPW.kx
      clear hPW hLI hBD HP
      go_wp2_with (first | (with_reducible refine Txt.wp_region_text mixed quiet (by decide +kernel) ?_) | (with_reducible refine Txt.text_done (by kernel_rfl) ?_))
      go_ret
      exact ⟨rfl, hkx⟩
end Go.Proofs.Ytfgipbjaaciiiaa
