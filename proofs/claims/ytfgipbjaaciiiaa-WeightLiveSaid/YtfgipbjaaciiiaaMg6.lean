/- Texts laid together: WP4 W14 W15. -/
import Derived.Test.YtfgipbjaaciiiaaMg5
/- Weighted reference counting, in plain words: everything comes home. -/
namespace Go
/-- What deliveries leave. -/
def CR (s s' : WS) : Prop := s'.nodes = s.nodes ∧ s'.th.length = s.th.length ∧ ((∀ y ∈ s.ways, y.back = true) → (∀ y ∈ s'.ways, y.back = true) ∧ ∀ t x, (tgAt s' t).refs x = (tgAt s t).refs x)
theorem CR.refl (s : WS) : CR s s := ⟨rfl, rfl, fun h => ⟨h, fun _ _ => rfl⟩⟩
theorem CR.trans {a b c : WS} (h : CR a b) (k : CR b c) : CR a c :=
  ⟨k.1.trans h.1, k.2.1.trans h.2.1, fun hb => by
    obtain ⟨h1, h2⟩ := h.2.2 hb
    obtain ⟨k1, k2⟩ := k.2.2 h1
    exact ⟨k1, fun t x => (k2 t x).trans (h2 t x)⟩⟩
theorem come_step {s : WS} (hi : WInv s) {L : Nat} (hL : s.ways.length = L + 1) : ∃ s', comeW s 0 = (s', 0) ∧ WInv s' ∧ CR s s' ∧ s'.ways.length = L := by
  obtain ⟨s', c, hc⟩ : ∃ s' c, comeW s 0 = (s', c) := ⟨_, _, rfl⟩
  obtain ⟨h1, h2, h3⟩ := come_inv hi hc
  have hh := hc
  unfold comeW at hh
  rw [if_pos ⟨Int.le_refl _, by rw [hL]; omega⟩] at hh
  have h0 : (0 : Int).toNat = 0 := rfl
  rw [h0] at hh
  have hlen : (s.ways.eraseIdx 0).length = L := by rw [List.length_eraseIdx, if_pos (by omega)]; omega
  have hmem : wyAt s 0 ∈ s.ways := by unfold wyAt; rw [List.getD_eq_getElem?_getD, List.getElem?_eq_getElem (show 0 < s.ways.length by omega)]; exact List.getElem_mem _
  have hth := (hi.wy _ hmem).1
  obtain ⟨hs, rfl⟩ := Prod.mk.inj hh
  refine ⟨s', hc, h1, ⟨h2, h3, fun hb => ?_⟩, ?_⟩
  · have hx := hb _ hmem
    rw [if_pos hx] at hs
    refine ⟨fun y hy => ?_, fun t x => ?_⟩
    · have hw : s'.ways = s.ways.eraseIdx 0 := by rw [← hs]; rfl
      rw [hw] at hy
      exact hb y (List.mem_of_mem_eraseIdx hy)
    · rw [← hs, tgAt_addBack (show (wyAt s 0).th < ({ s with ways := s.ways.eraseIdx 0 } : WS).th.length from hth)]
      split
      · next e => subst e; rfl
      · rfl
  · have hw : s'.ways = s.ways.eraseIdx 0 := by
      rw [← hs]; split <;> rfl
    rw [hw, hlen]
theorem drop_step {s : WS} {r t : Nat} (hi : WInv s) (hr : (r : Int) < s.nodes) (ht : t < s.th.length) (hw : s.ways = []) : ∃ s' c, dropW s r t = (s', c) ∧ (c = 0 ∨ c = 4) ∧ WInv s' ∧ s'.nodes = s.nodes ∧ s'.th.length = s.th.length ∧ (∀ y ∈ s'.ways, y.back = true) ∧ ∀ x, (tgAt s' t).refs x = if x = r then 0 else (tgAt s t).refs x := by
  obtain ⟨s', c, hc⟩ : ∃ s' c, dropW s r t = (s', c) := ⟨_, _, rfl⟩
  obtain ⟨h1, h2, h3⟩ := drop_inv hi hc
  refine ⟨s', c, hc, ?_⟩
  unfold dropW at hc
  obtain ⟨q, c1, hh⟩ : ∃ q c, hasW s r t = (q, c) := ⟨_, _, rfl⟩
  rw [hh] at hc
  dsimp only at hc
  rcases hasW_pos hh with ⟨h0, _, _, _, hq, hq0⟩ | ⟨hne, _, h6⟩
  · rw [if_neg (by omega), if_neg (by rw [hw]; simp)] at hc
    obtain ⟨rfl, rfl⟩ := Prod.mk.inj hc
    refine ⟨.inl rfl, h1, h2, h3, fun y hy => ?_, fun x => ?_⟩
    · rw [hw] at hy
      obtain rfl := List.mem_singleton.1 (by simpa using hy)
      rfl
    · have h9 := tgAt_setRef (s := s) (show (t : Int).toNat < s.th.length by simpa using ht) r 0 t
      rw [if_pos (by simp)] at h9
      show (tgAt (setRef s (t : Int).toNat r 0) t).refs x = _
      rw [h9]
      simp
  · obtain ⟨h4, h5⟩ := h6 (isN_iff.2 ⟨by omega, hr⟩) (by omega) (by omega)
    rw [if_pos hne] at hc
    obtain ⟨rfl, rfl⟩ := Prod.mk.inj hc
    refine ⟨.inr h4, h1, h2, h3, fun y hy => (by rw [hw] at hy; cases hy), fun x => ?_⟩
    split
    · next e => rw [e]; simpa using h5
    · rfl
theorem home_all {s : WS} {t : Nat} (hi : WInv s) (hn : s.nodes = 3) (ht : t < s.th.length) (hw : s.ways = []) (h0 : ∀ x : Int, 0 ≤ x → x < 3 → (tgAt s t).refs x = 0) : (tgAt s t).back = 65536 := by
  have h := (hi.tg t ht).2.2.2.2
  rw [hn, hw, sumR_zero (3 : Int).toNat (fun x h1 h2 => h0 x h1 (by simpa using h2))] at h
  simpa [wsum] using h
end Go
namespace Go.Proofs.Ytfgipbjaaciiiaa
open Go.RowKit
set_option maxRecDepth 100000 in
set_option maxHeartbeats 4000000 in
theorem come36_any {w0 w : World} {Wb n Bx : Nat} {s : WS} (hb : w.heap[Bx]? = some (.cells #[.pointer (some ⟨Wb, 0, none⟩)] 52 (0, 0))) (h : WC w0 Wb n s w) (hi : WInv s) (hn : n ≤ 100000) :
    Calls Try.prog 36 #[.pointer (some ⟨Bx, 0, none⟩)] w fun e w' => ∃ s', e = .returned (.bool true) ∧ WC w0 Wb (n + 61) s' w' ∧ WInv s' ∧ CR s s' ∧ s'.ways = [] ∧ Out w w' := by
  obtain ⟨N, hN⟩ : ∃ N, s.ways.length = N := ⟨_, rfl⟩
  have hN60 := hi.way
  rw [hN] at hN60
  have HN := Lib.hid hN
  have HB := Lib.hid hb
  have HC := Lib.hid h
  have HI := Lib.hid hi
  clear hb h hi hN
  go_enter Try.func36, Try.ntmps36
  go_wp2_with (first | (with_reducible refine Txt.wp_region_text mixed quiet (by decide +kernel) ?_) | (with_reducible refine Txt.text_done (by kernel_rfl) ?_))
  go_loopw [2] (fun i wr => ∃ (r L : Nat) (s' : WS), L + r = N ∧ i = .int .i64 r ∧ Hid (WC w0 Wb (n + r) s' wr) ∧ Hid (WInv s') ∧ Hid (CR s s') ∧ Hid (s'.ways.length = L) ∧ Out w wr) (fun i _ => 61 - (intOf i).toNat)
  case atStart => exact ⟨0, N, s, by omega, rfl, HC, HI, Lib.hid (CR.refl s), HN, Out.keep (Keep.refl _ _)⟩
  case round =>
    obtain ⟨r, L, s', hL, rfl, HC1, HI1, HR, HLW, ho⟩ := hrel
    have hbx := ho _ _ _ _ HB.out (by decide) (by decide) (by decide) (by decide)
    obtain ⟨c0, _⟩ := row1 hbx
    have HBX := Lib.hid hbx
    clear hbx
    cases L with
    | zero =>
      have hW : s'.ways = [] := List.eq_nil_of_length_eq_zero HLW.out
      have HWW := Lib.hid hW
      clear hW
      go_wp2_with (first | (with_reducible refine Txt.wp_region_text mixed quiet (by decide +kernel) ?_) | (with_reducible refine Txt.text_done (by kernel_rfl) ?_) | (go_at_call 37; (with_reducible refine (under37_any HC1.out HI1.out.bd).mono ?_); rintro e w2 ⟨v2, rfl, hk2, ho2⟩; obtain ⟨a2, c2, rfl, _, _⟩ := own_any ho2; rw [HLW.out]; have HC2 := Lib.hid (HC1.out.keep hk2); clear ho2))
      go_ret
      exact ⟨s', rfl, HC2.out.mono (by omega), HI1.out, HR.out, HWW.out, ho.trans (Out.keep hk2)⟩
    | succ L =>
      obtain ⟨s2, hcm, hi2, hr2, hl2⟩ := come_step HI1.out HLW.out
      have HCM := Lib.hid hcm
      have HI2 := Lib.hid hi2
      have HR2 := Lib.hid hr2
      have HL2 := Lib.hid hl2
      clear hcm hi2 hr2 hl2
      go_wp2_with (first | (with_reducible refine Txt.wp_region_text mixed quiet (by decide +kernel) ?_) | (with_reducible refine Txt.text_done (by kernel_rfl) ?_) | (go_at_call 37; (with_reducible refine (under37_any HC1.out HI1.out.bd).mono ?_); rintro e w2 ⟨v2, rfl, hk2, ho2⟩; obtain ⟨a2, c2, rfl, _, _⟩ := own_any ho2; rw [HLW.out]; have HC2 := Lib.hid (HC1.out.keep hk2); have d0 := hk2.cell c0 (by simp); clear ho2) | (go_at_call 31; (with_reducible refine (come31_any HC2.out HI1.out.bd (by omega) HCM.out).mono ?_); rintro e w3 ⟨rfl, hc3, ho3⟩; have HC3 := Lib.hid hc3; clear hc3))
      go_roundw
      case measure => simp [intOf]; omega
      case rel => exact ⟨r + 1, L, s2, by omega, by go_num, HC3, HI2, Lib.hid (HR.out.trans HR2.out), HL2, (ho.trans (Out.keep hk2)).trans ho3⟩
end Go.Proofs.Ytfgipbjaaciiiaa
namespace Go.Proofs.Ytfgipbjaaciiiaa
open Go.RowKit
set_option maxRecDepth 100000 in
set_option maxHeartbeats 8000000 in
theorem weightLive_walk (a : Option Addr) (len cap : Nat) (zs : List Int) (w : World) (hv : IntsV w a len cap zs) :
    Calls Try.prog 9 #[.slice a len cap] w fun e w' => e = .returned (.bool true) ∧ Keep [] w w' := by
  have HV := Lib.hid hv
  clear hv
  go_enter Try.func9, Try.ntmps9
  go_wp2_with (first | (with_reducible refine Txt.wp_region_text mixed quiet (by decide +kernel) ?_) | (with_reducible refine Txt.text_done (by kernel_rfl) ?_) | (go_at_call 26; refine (begun26_any _).mono ?_; rintro e w0 ⟨rfl, hk0⟩) | (go_at_call 33; (with_reducible refine (weights33_any _ _ _ _ _ (HV.out.keep hk0 (by simp))).mono ?_); rintro e w1 ⟨Wb, m, s, rfl, hc, hi, hn, hm⟩; have HC := Lib.hid hc; have HI := Lib.hid hi; have HN := Lib.hid hn; have HM := Lib.hid hm; have HBX := Lib.hid (blk_new w1 (.cells #[.pointer (some ⟨Wb, 0, none⟩)] 52)); have HC2 := Lib.hid (HC.out.keep ((Keep.refl [] w1).alloc (.cells #[.pointer (some ⟨Wb, 0, none⟩)] 52))); clear hc hi hn hm) | (go_at_call 36; (with_reducible refine (come36_any HBX.out HC2.out HI.out (by omega)).mono ?_); rintro e w2 ⟨s2, rfl, hc2, hi2, hr2, hw2, ho2⟩; have HC3 := Lib.hid hc2; have HI2 := Lib.hid hi2; have HR2 := Lib.hid hr2; have HW2 := Lib.hid hw2; have HB2 := Lib.hid (ho2 _ _ _ _ HBX.out (by decide) (by decide) (by decide) (by decide)); clear hc2 hi2 hr2 hw2))
  have hm20 : m ≤ 20 := by have := HI.out.len; have := HM.out; omega
  have HN2 : Hid (s2.nodes = 3) := Lib.hid (HR2.out.1.trans HN.out)
  have HM2 : Hid (s2.th.length = m) := Lib.hid (HR2.out.2.1.trans HM.out)
  obtain ⟨Bx, hBx⟩ : ∃ b, w1.heap.size = b := ⟨_, rfl⟩
  rw [hBx] at HB2
  simp only [hBx]
  clear HBX hBx HC2 HR2
  go_loopw [7, 8, 9, 10, 11, 27, 30] (fun _ _ _ _ _ i _ wr => ∃ (t : Nat) (s3 : WS), t ≤ m ∧ i = .int .i64 t ∧ Hid (WC w0 Wb (300 + 200 * t) s3 wr) ∧ Hid (WInv s3) ∧ Hid (s3.nodes = 3) ∧ Hid (s3.th.length = m) ∧ Hid (s3.ways = []) ∧ Hid (wr.heap[Bx]? = some (.cells #[.pointer (some ⟨Wb, 0, none⟩)] 52 (0, 0)))) (fun _ _ _ _ _ i _ _ => m - (intOf i).toNat)
  case atStart => exact ⟨0, s2, by omega, rfl, Lib.hid (HC3.out.mono (by omega)), HI2, HN2, HM2, HW2, HB2⟩
  case round =>
    obtain ⟨t, s3, ht, rfl, HC4, HI4, HN4, HM4, HW4, HB4⟩ := hrel
    by_cases hlt : t < m
    · go_wp2_with (first | (with_reducible refine Txt.wp_region_text mixed quiet (by decide +kernel) ?_) | (with_reducible refine Txt.text_done (by kernel_rfl) ?_))
      go_loopw [8, 9, 30] (fun _ _ i wr' => ∃ (r : Nat) (s4 : WS), r ≤ 3 ∧ i = .int .i64 r ∧ Hid (WC w0 Wb (300 + 200 * t + 65 * r) s4 wr') ∧ Hid (WInv s4) ∧ Hid (s4.nodes = 3) ∧ Hid (s4.th.length = m) ∧ Hid (s4.ways = []) ∧ Hid (wr'.heap[Bx]? = some (.cells #[.pointer (some ⟨Wb, 0, none⟩)] 52 (0, 0))) ∧ Hid (∀ x : Int, 0 ≤ x → x < r → (tgAt s4 t).refs x = 0)) (fun _ _ i _ => 3 - (intOf i).toNat)
      case atStart => exact ⟨0, s3, by omega, rfl, HC4, HI4, HN4, HM4, HW4, HB4, Lib.hid (fun x h1 h2 => absurd h1 (by omega))⟩
      case round =>
        obtain ⟨r, s4, hr, rfl, HC5, HI5, HN5, HM5, HW5, HB5, HZ⟩ := hrel
        obtain ⟨c0, _⟩ := row1 HB5.out
        have hts : t < s4.th.length := by rw [HM5.out]; exact hlt
        by_cases hlr : r < 3
        · obtain ⟨s5, c, hd, hcc, hi6, hn6, hl6, hb6, hz6⟩ := drop_step HI5.out (show (r : Int) < s4.nodes by rw [HN5.out]; omega) hts HW5.out
          have HD := Lib.hid hd
          have HI6 := Lib.hid hi6
          have HN6 : Hid (s5.nodes = 3) := Lib.hid (hn6.trans HN5.out)
          have HM6 : Hid (s5.th.length = m) := Lib.hid (hl6.trans HM5.out)
          have HB6 := Lib.hid hb6
          have HZ6 := Lib.hid hz6
          clear hd hi6 hn6 hl6 hb6 hz6 hts
          rcases hcc with rfl | rfl
          · go_wp2_with (first | (with_reducible refine Txt.wp_region_text mixed quiet (by decide +kernel) ?_) | (with_reducible refine Txt.text_done (by kernel_rfl) ?_) | (go_at_call 32; (with_reducible refine (drop32_any HC5.out HI5.out.bd (by omega) HD.out).mono ?_); rintro e w6 ⟨rfl, hc6, ho6⟩; have HC6 := Lib.hid hc6; have HB7 := Lib.hid (ho6 _ _ _ _ HB5.out (by decide) (by decide) (by decide) (by decide)); clear hc6) | (go_at_call 36; (with_reducible refine (come36_any HB7.out HC6.out HI6.out (by omega)).mono ?_); rintro e w7 ⟨s7, rfl, hc7, hi7, hr7, hw7, ho7⟩; have HC7 := Lib.hid hc7; have HI7 := Lib.hid hi7; have HR7 := Lib.hid hr7; have HW7 := Lib.hid hw7; have HB8 := Lib.hid (ho7 _ _ _ _ HB7.out (by decide) (by decide) (by decide) (by decide)); clear hc7 hi7 hr7 hw7))
            go_roundw
            case measure => simp [intOf]; omega
            case rel => exact ⟨r + 1, s7, by omega, by go_num, Lib.hid (HC7.out.mono (by omega)), HI7, Lib.hid (HR7.out.1.trans HN6.out), Lib.hid (HR7.out.2.1.trans HM6.out), HW7, HB8, Lib.hid (fun x h1 h2 => by
              rw [(HR7.out.2.2 HB6.out).2 t x, HZ6.out x]
              split
              · rfl
              · exact HZ.out x h1 (by omega))⟩
          · go_wp2_with (first | (with_reducible refine Txt.wp_region_text mixed quiet (by decide +kernel) ?_) | (with_reducible refine Txt.text_done (by kernel_rfl) ?_) | (go_at_call 32; (with_reducible refine (drop32_any HC5.out HI5.out.bd (by omega) HD.out).mono ?_); rintro e w6 ⟨rfl, hc6, ho6⟩; have HC6 := Lib.hid hc6; have HB7 := Lib.hid (ho6 _ _ _ _ HB5.out (by decide) (by decide) (by decide) (by decide)); clear hc6) | (go_at_call 36; (with_reducible refine (come36_any HB7.out HC6.out HI6.out (by omega)).mono ?_); rintro e w7 ⟨s7, rfl, hc7, hi7, hr7, hw7, ho7⟩; have HC7 := Lib.hid hc7; have HI7 := Lib.hid hi7; have HR7 := Lib.hid hr7; have HW7 := Lib.hid hw7; have HB8 := Lib.hid (ho7 _ _ _ _ HB7.out (by decide) (by decide) (by decide) (by decide)); clear hc7 hi7 hr7 hw7))
            go_roundw
            case measure => simp [intOf]; omega
            case rel => exact ⟨r + 1, s7, by omega, by go_num, Lib.hid (HC7.out.mono (by omega)), HI7, Lib.hid (HR7.out.1.trans HN6.out), Lib.hid (HR7.out.2.1.trans HM6.out), HW7, HB8, Lib.hid (fun x h1 h2 => by
              rw [(HR7.out.2.2 HB6.out).2 t x, HZ6.out x]
              split
              · rfl
              · exact HZ.out x h1 (by omega))⟩
        · obtain rfl : r = 3 := by omega
          have HF := Lib.hid (freed34_any HC5.out HI5.out.bd hts (decide_eq_true (home_all HI5.out HN5.out hts HW5.out HZ.out)))
          clear hts
          go_wp2_with (first | (with_reducible refine Txt.wp_region_text mixed quiet (by decide +kernel) ?_) | (with_reducible refine Txt.text_done (by kernel_rfl) ?_) | (go_at_call 34; (with_reducible refine HF.out.mono ?_); rintro e w8 ⟨rfl, rfl⟩))
          go_roundw
          case measure => simp [intOf]; omega
          case rel => exact ⟨t + 1, s4, by omega, by go_num, Lib.hid (HC5.out.mono (by omega)), HI5, HN5, HM5, HW5, HB5⟩
    · go_wp2_with (first | (with_reducible refine Txt.wp_region_text mixed quiet (by decide +kernel) ?_) | (with_reducible refine Txt.text_done (by kernel_rfl) ?_))
      go_ret
      exact ⟨rfl, hk0.trans HC4.out.1⟩
end Go.Proofs.Ytfgipbjaaciiiaa
