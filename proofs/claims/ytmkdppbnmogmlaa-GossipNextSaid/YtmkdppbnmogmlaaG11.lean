import Derived.Test.YtmkdppbnmogmlaaG10
import Derived.Test.YtmkdppbnmogmlaaGP6
namespace Go.Proofs.Ytmkdppbnmogmlaa
open Go.RowKit
theorem starts_net (n : Nat) (ticks : Int) (hn : n ≤ 8) (t1 : 1 ≤ ticks) (t2 : ticks ≤ 100) : NetOk n 0 (starts n ticks) := starts_ok n ticks hn t1 t2
theorem make_was (w : World) : (Instr.makeSlice 34 (.int .i64 3) (.int .i64 3)).run Try.prog w = .ok (.slice (some ⟨w.heap.size, 0, none⟩) 3 3) (w.alloc (.cells #[.slice none 0 0, .slice none 0 0, .slice none 0 0] 35)) := by kernel_rfl
/-- What was said, one by one. -/
def WasAt (w : World) (d k : Nat) (gs : List Gs) : Prop :=
  ∃ cs : List Value, w.heap[d]? = some (.cells cs.toArray 35 (0, 0)) ∧ cs.length = 3 ∧ ∀ i, i < k → ∃ a c, cs[i]? = some (.slice a 3 c) ∧ LnsV w a 3 c (stateL (gat gs i).rs) ∧ ∀ x, a = some x → d < x.block
theorem WasAt.keep {S : List Nat} {w w' : World} {d k : Nat} {gs : List Gs} (h : WasAt w d k gs) (hk : Keep S w w') (hs : ∀ b ∈ S, b < d) : WasAt w' d k gs := by
  obtain ⟨cs, h1, h2, h3⟩ := h
  refine ⟨cs, hk.at h1 (fun hm => by have := hs d hm; omega), h2, fun i hi => ?_⟩
  obtain ⟨a, c, h4, h5, h6⟩ := h3 i hi
  exact ⟨a, c, h4, h5.keep hk (fun x hx hm => by have := hs _ hm; have := h6 x hx; omega), h6⟩
theorem WasAt.put {w : World} {d k : Nat} {gs : List Gs} (h : WasAt w d k gs) (hk : k < 3) {a : Option Addr} {c : Nat} (hl : LnsV w a 3 c (stateL (gat gs k).rs)) (hx : ∀ x, a = some x → d < x.block) :
    WasAt (w.setCell ⟨d, k, none⟩ (.slice a 3 c)) d (k + 1) gs := by
  obtain ⟨cs, h1, h2, h3⟩ := h
  have hks : Keep [d] w (w.setCell ⟨d, k, none⟩ (.slice a 3 c)) := (Keep.refl _ _).setCell (.inl (by simp)) _
  refine ⟨cs.set k (.slice a 3 c), ?_, by simpa using h2, fun i hi => ?_⟩
  · rw [blk_setCell, if_pos rfl, h1]; simp
  · by_cases e : i = k
    · subst e
      exact ⟨a, c, by simp [h2, hk], hl.keep hks (fun x hx' hm => by have := hx x hx'; simp at hm; omega), hx⟩
    · obtain ⟨a', c', h4, h5, h6⟩ := h3 i (by omega)
      exact ⟨a', c', by rw [List.getElem?_set_ne (by omega)]; exact h4, h5.keep hks (fun x hx' hm => by have := h6 x hx'; simp at hm; omega), h6⟩
theorem WasAt.cell {w : World} {d k : Nat} {gs : List Gs} (h : WasAt w d k gs) {i : Nat} (hi : i < 3) : ∃ old, w.cell? ⟨d, i, none⟩ = some old ∧ ∀ j, w.frozen? ⟨d, j, none⟩ = false := by
  obtain ⟨cs, h1, h2, _⟩ := h
  refine ⟨cs[i]'(by omega), ?_, thaw h1⟩
  rw [cellAt h1, List.getElem?_toArray, List.getElem?_eq_getElem (by omega)]
theorem WasAt.at_ {w : World} {d k : Nat} {gs : List Gs} (h : WasAt w d k gs) {i : Nat} (hi : i < k) : ∃ a c, w.cell? ⟨d, i, none⟩ = some (.slice a 3 c) ∧ LnsV w a 3 c (stateL (gat gs i).rs) := by
  obtain ⟨cs, h1, h2, h3⟩ := h
  obtain ⟨a, c, h4, h5, _⟩ := h3 i hi
  exact ⟨a, c, by rw [cellAt h1, List.getElem?_toArray, h4], h5⟩
theorem state_full {b n : Nat} {g : Gs} {w : World} (h : GAt 55 w b g) (hf : Full n g) (hn : n ≤ 8) :
    Calls Try.prog 15 #[.pointer (some ⟨b, 0, none⟩)] w fun e w' => ∃ a c, e = .returned (.slice a n c) ∧ Keep [] w w' ∧ LnsV w' a n c (stateL g.rs) ∧ ∀ x, a = some x → w.heap.size ≤ x.block :=
  (state_any h).mono fun e w' ⟨a, m, c, he, hk, hl, hx⟩ => by
    have hm : m = n := by rw [← hl.len]; exact full_len h.2 hf hn
    subst hm
    exact ⟨a, c, he, hk, hl, hx⟩
theorem sub_ints {w : World} {b off n c k : Nat} {zs : List Int} (h : IntsV w (some ⟨b, off, none⟩) n c zs) (hk : k < n) (m : Nat) (h1 : 1 ≤ m) (hm : m ≤ c) : IntsV w (some ⟨b, off + k, none⟩) 1 m [zs.getD k 0] := by
  refine ⟨rfl, h1, Nat.le_trans hm h.most, fun z hz => ?_, fun _ => ⟨b, off + k, rfl, fun i hi => ?_⟩⟩
  · simp at hz
    subst hz
    rw [List.getElem?_eq_getElem (by rw [h.len]; exact hk), Option.getD_some]
    exact h.wf _ (List.getElem_mem _)
  · obtain ⟨b', off', he, hc⟩ := h.cells (by omega)
    cases he
    obtain rfl : i = 0 := by omega
    exact hc k hk
set_option maxRecDepth 100000 in
set_option maxHeartbeats 4000000 in
theorem gossipGrows_walk (pa : Option Addr) (len cap : Nat) (zs : List Int) (w : World) (hv : IntsV w pa len cap zs) :
    Calls Try.prog 4 #[.slice pa len cap] w fun e w' => e = .returned (.bool true) ∧ Keep [] w w' := by
  have hroom := hv.room
  have hmost := hv.most
  unfold maxLen at hmost
  obtain ⟨N, hN, hNl, hN1⟩ : ∃ N : Nat, (if (100 : Int) < (len : Int) then (100 : Int) else (len : Int)) = (N : Int) ∧ N ≤ len ∧ N ≤ 100 :=
    ⟨min 100 len, by split <;> omega, by omega, by omega⟩
  have HV := Lib.hid hv
  have HN3 : Hid ((3 : Int) = ((3 : Nat) : Int)) := Lib.hid rfl
  have hmk := make_was
  clear hv
  go_enter Try.func4, Try.ntmps4
  go_wp2_with (first | (go_at_call 9; refine (begun_any _).mono ?_; rintro e w0 ⟨rfl, hk0⟩) | (go_at_call 11; refine (net_any HN3 _ (by omega) (by omega) (by omega) (by omega)).mono ?_; rintro e w1 ⟨a, c, bs, rfl, hk1, hnet⟩; have HN := Lib.hid hnet; clear hnet) | (with_reducible refine Txt.wp_region_text mixed quiet (by decide +kernel) ?_) | (with_reducible refine Txt.text_done (by kernel_rfl) ?_))
  have hkw : Keep [] w w1 := hk0.call hk1 (by simp)
  have hsz0 := hk0.size
  have HLO := Lib.hid HN.out.lo
  clear hk0 hk1
  go_loopw [29] (fun i wr => ∃ (k : Nat) (gs : List Gs), k ≤ N ∧ i = .int .i64 k ∧ Keep [] w wr ∧ Hid (NetAt wr a 3 c bs gs w0.heap.size) ∧ Hid (NetOk 3 k gs)) (fun i _ => N - (intOf i).toNat)
  case atStart => exact ⟨0, starts 3 2, by omega, rfl, hkw, HN, starts_net 3 2 (by omega) (by omega) (by omega)⟩
  case round =>
    obtain ⟨k, gs, hk, rfl, hkw1, HA, HOK⟩ := hrel
    by_cases hlt : k < N
    · have hdec : decide ((k : Int) < (N : Int)) = true := by simp; omega
      go_wp2_with fail
      obtain ⟨wo, rfl⟩ : ∃ wo : World, wo = wr := ⟨_, rfl⟩
      go_loopw [37] (fun i wr => ∃ j : Nat, j ≤ 3 ∧ i = .int .i64 j ∧ Keep [] wo wr ∧ wo.heap.size < wr.heap.size ∧ Hid (WasAt wr wo.heap.size j gs)) (fun i _ => 3 - (intOf i).toNat)
      case atStart => exact ⟨0, by omega, rfl, (Keep.refl [] wo).alloc _, by simp, Lib.hid ⟨[.slice none 0 0, .slice none 0 0, .slice none 0 0], blk_new _ _, rfl, fun i hi => absurd hi (by omega)⟩⟩
      case round =>
        obtain ⟨j, hj, rfl, hko, hszw, HW⟩ := hrel
        by_cases hlj : j < 3
        · have hnet := HA.out.keep hko
          obtain ⟨b, off, rfl, hcj⟩ := hnet.ptr hlj
          have hgj := hnet.at_ j hlj
          have hmj := hnet.mem hlj
          have HFU := Lib.hid (HOK.out.ok j hlj).2
          generalize bs.getD j 0 = bj at *
          have HGJ := Lib.hid hgj
          have hjI : (0 : Int) ≤ (j : Int) ∧ (j : Int) < 3 := by omega
          clear hgj hnet hmj
          go_wp2_with (first | (go_at_call 15; refine (state_full (by first | exact HGJ.out | exact HGJ.out.drew) HFU.out (by omega)).mono ?_; rintro e w2 ⟨sa, sc, rfl, hk2d, hls, hsb⟩; have hk2 : Keep [] wr w2 := (by first | exact hk2d | exact (Keep.refl _ _).drew.trans hk2d); clear hk2d; obtain ⟨old, hcd, hfz⟩ := (HW.out.keep hk2 (by simp)).cell hlj; have HLS := Lib.hid hls; have HSB := Lib.hid hsb; clear hls hsb) | (with_reducible refine Txt.wp_region_text mixed quiet (by decide +kernel) ?_) | (with_reducible refine Txt.text_done (by kernel_rfl) ?_))
          go_roundw
          case measure => simp [intOf]; omega
          case rel =>
            have hsz2 := hk2.size
            refine ⟨j + 1, by omega, by go_num, ?_, by simp; omega, Lib.hid ?_⟩
            · repeat (first | apply Keep.drew | refine Keep.setCell ?_ (.inr (Nat.le_refl _)) _ | exact hko.trans hk2)
            · exact (HW.out.keep hk2 (by simp)).put hlj HLS.out (fun x hx => by have h9 : wr.heap.size ≤ x.block := HSB.out x hx; omega)
        · obtain rfl : j = 3 := by omega
          have HNET := Lib.hid (HA.out.keep hko)
          obtain ⟨b2, off2, rfl, hcell⟩ := HV.out.cells (by omega)
          have hsub := fun m h1 hm => sub_ints (HV.out.keep (hkw1.trans hko) (by simp)) (show k < len by omega) m h1 hm
          have hb2 : b2 ∉ bs := fun hm => by
            have h1 := HLO.out b2 hm
            have h2 := World.block_lt_of_cell? w _ (hcell 0 (by omega))
            dsimp only at h2; omega
          have HB2 := Lib.hid hb2
          have HSUB := Lib.hid hsub
          have hbsd : ∀ x ∈ bs, x < wo.heap.size := fun x hx => by
            obtain ⟨i, hi, rfl⟩ := List.getElem_of_mem hx
            have hl := HA.out.p.len
            have := (HA.out.at_ i (by omega)).lt
            rwa [List.getD_eq_getElem?_getD, List.getElem?_eq_getElem hi] at this
          have HBSD := Lib.hid hbsd
          clear hcell hsub hb2 hbsd
          generalize zs.getD k 0 = z at *
          go_wp2_with (first | (go_at_call 16; refine (chatter_any HNET.out HOK.out (by omega) (by omega) (HSUB.out _ (by omega) (by omega)) (fun _ x hx => by cases hx; exact HB2.out)).mono ?_; rintro e w3 ⟨rfl, hk3, hn3⟩) | (with_reducible refine Txt.wp_region_text mixed quiet (by decide +kernel) ?_) | (with_reducible refine Txt.text_done (by kernel_rfl) ?_))
          have HN3' : Hid (NetAt w3 a 3 c bs (chatStep gs z) w0.heap.size) := Lib.hid hn3
          have HOK3 : Hid (NetOk 3 ((k : Int) + 1) (chatStep gs z)) := Lib.hid (chat_ok HOK.out (by omega) z (by omega))
          have HGR := Lib.hid (chat_grown HOK.out (by omega) z (by omega))
          have HW3 := Lib.hid (HW.out.keep hk3 HBSD.out)
          have hkw3 : Keep [] w w3 := (hkw1.trans hko).call hk3 (fun x hx => .inr (by have := HLO.out x hx; omega))
          generalize chatStep gs z = gs2 at *
          have HDS := Lib.hid (show wo.heap.size < w3.heap.size by have := hk3.size; omega)
          clear hn3 hk3 hko hszw HNET HW hkw1 HA HSUB HBSD
          generalize wo.heap.size = d at *
          go_loopw [58] (fun i wr => ∃ j : Nat, j ≤ 3 ∧ i = .int .i64 j ∧ Keep [] w3 wr) (fun i _ => 3 - (intOf i).toNat)
          case atStart => exact ⟨0, by omega, rfl, Keep.refl _ _⟩
          case round =>
            obtain ⟨j, hj, rfl, hk4⟩ := hrel
            by_cases hlj : j < 3
            · have hnet := HN3'.out.keep hk4
              obtain ⟨b, off, rfl, hcj⟩ := hnet.ptr hlj
              have hgj := hnet.at_ j hlj
              have HFU := Lib.hid (HOK3.out.ok j hlj)
              have HFU0 := Lib.hid (HOK.out.ok j hlj)
              obtain ⟨A, C, hcd, hwl⟩ := (HW3.out.keep hk4 (by simp)).at_ hlj
              generalize bs.getD j 0 = bj at *
              have HGJ := Lib.hid hgj
              have HWL := Lib.hid hwl
              have HGRJ := Lib.hid (HGR.out j hlj)
              have hdecj : decide ((j : Int) < 3) = true := by simp; omega
              clear hgj hnet hwl
              go_wp2_with (first | (go_at_call 15; refine (state_full (by first | exact HGJ.out | exact HGJ.out.drew) HFU.out.2 (by omega)).mono ?_; rintro e w5 ⟨sa, sc, rfl, hk5d, hls, _⟩; have hk5 : Keep [] wr w5 := (by first | exact hk5d | exact (Keep.refl _ _).drew.trans hk5d); clear hk5d; have hcd5 := hk5.cell hcd (by simp); have HLS := Lib.hid hls; clear hls) | (with_reducible refine Txt.wp_region_text mixed quiet (by decide +kernel) ?_) | (with_reducible refine Txt.text_done (by kernel_rfl) ?_))
              have hkw5 : Keep [] w3 w5 := hk4.trans hk5
              have HWL5 := Lib.hid (HWL.out.keep hk5 (by simp))
              obtain ⟨wi, rfl⟩ : ∃ wi : World, wi = w5 := ⟨_, rfl⟩
              clear hk5 hk4 HWL
              go_loopw [75] (fun i wr => ∃ m : Nat, m ≤ 3 ∧ i = .int .i64 m ∧ Keep [] wi wr) (fun i _ => 3 - (intOf i).toNat)
              case atStart => exact ⟨0, by omega, rfl, Keep.refl _ _⟩
              case round =>
                obtain ⟨m, hm, rfl, hk6⟩ := hrel
                by_cases hlm : m < 3
                · obtain ⟨b5, off5, rfl, n0, n1, n2⟩ := (HLS.out.keep hk6 (by simp)).at_ hlm
                  obtain ⟨b6, off6, rfl, p0, p1, p2⟩ := (HWL5.out.keep hk6 (by simp)).at_ hlm
                  have hcd6 := hk6.cell hcd5 (by simp)
                  have hg := HGRJ.out m hlm
                  rw [full_lat HFU.out.1.len HFU.out.2 (by omega) hlm] at n0 n1 n2
                  rw [full_lat HFU0.out.1.len HFU0.out.2 (by omega) hlm] at p0 p1 p2
                  generalize lat (gat gs j).rs (m + 1) = X at *
                  generalize lat (gat gs2 j).rs (m + 1) = Y at *
                  obtain ⟨q, t, u⟩ := X
                  obtain ⟨q', t', u'⟩ := Y
                  unfold Grown at hg
                  dsimp only at *
                  obtain ⟨hq, hg⟩ := hg
                  subst hq
                  have hlb5 := World.block_lt_of_cell? _ _ n0
                  have hlb6 := World.block_lt_of_cell? _ _ p0
                  have hlbd := World.block_lt_of_cell? _ _ hcd6
                  dsimp only at hlb5 hlb6 hlbd
                  have hne5 : ¬ b5 = wr.heap.size := by omega
                  have hne6 : ¬ b6 = wr.heap.size := by omega
                  have hned : ¬ d = wr.heap.size := by omega
                  have hKK : ∀ w', Keep [] wr w' → Keep [] wi w' := fun w' h => hk6.trans h
                  rcases hg with hg | ⟨hg, hu⟩
                  · go_wp2_with (first | (with_reducible refine Txt.wp_region_text mixed quiet (by decide +kernel) ?_) | (with_reducible refine Txt.text_done (by kernel_rfl) ?_))
                    go_roundw
                    case measure => simp [intOf]; omega
                    case rel => exact ⟨m + 1, by omega, by go_num, hKK _ (by repeat (first | exact Keep.refl _ _ | apply Keep.drew | apply Keep.alloc))⟩
                  · subst hg
                    go_wp2_with (first | (with_reducible refine Txt.wp_region_text mixed quiet (by decide +kernel) ?_) | (with_reducible refine Txt.text_done (by kernel_rfl) ?_))
                    go_roundw
                    case measure => simp [intOf]; omega
                    case rel => exact ⟨m + 1, by omega, by go_num, hKK _ (by repeat (first | exact Keep.refl _ _ | apply Keep.drew | apply Keep.alloc))⟩
                · go_wp2_with fail
                  go_roundw
                  case measure => simp [intOf]; omega
                  case rel => exact ⟨j + 1, by omega, by go_num, hkw5.trans hk6⟩
            · go_wp2_with fail
              go_roundw
              case measure => simp [intOf]; omega
              case rel => exact ⟨k + 1, gs2, by omega, by go_num, hkw3.trans hk4, Lib.hid (HN3'.out.keep hk4), Lib.hid (by have h9 := HOK3.out; rwa [show ((k + 1 : Nat) : Int) = (k : Int) + 1 by omega])⟩
    · go_wp2_with fail
      go_ret
      exact ⟨rfl, hkw1⟩
end Go.Proofs.Ytmkdppbnmogmlaa
