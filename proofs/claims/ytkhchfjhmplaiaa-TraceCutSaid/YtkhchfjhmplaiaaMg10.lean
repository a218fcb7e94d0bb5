/- Texts laid together: H41. -/
import Derived.Test.YtkhchfjhmplaiaaMg9
namespace Go.Proofs.Ytkhchfjhmplaiaa
open Go.RowKit
theorem two_rows {w : World} {B3 O3 c3 M lenb capb : Nat} {b : Option Addr} {P bs : List Int} (hP : BytesV w (some ⟨B3, O3, none⟩) M c3 P) (hb : BytesV w b lenb capb bs) :
    BRows (w.alloc (.cells #[.slice (some ⟨B3, O3, none⟩) M c3, .slice b lenb capb] 60)) w.heap.size 2 (fun k => if k = 0 then some ⟨B3, O3, none⟩ else b) (fun k => if k = 0 then M else lenb) (fun k => if k = 0 then c3 else capb) (fun k => if k = 0 then P else bs) := fun k hk => by
  have hbl := blk_new w (.cells #[.slice (some ⟨B3, O3, none⟩) M c3, .slice b lenb capb] 60)
  have hkA : Keep [] w (w.alloc (.cells #[.slice (some ⟨B3, O3, none⟩) M c3, .slice b lenb capb] 60)) := (Keep.refl _ _).alloc _
  rcases (by omega : k = 0 ∨ k = 1) with e | e
  · subst e; exact ⟨by rw [cellAt hbl]; rfl, hP.keep hkA (by simp)⟩
  · subst e; exact ⟨by rw [cellAt hbl]; rfl, hb.keep hkA (by simp)⟩
set_option maxRecDepth 100000 in
set_option maxHeartbeats 4000000 in
theorem traceCut_walk (a : Option Addr) (len cap : Nat) (zs : List Int) (x : Int) (b : Option Addr) (lenb capb : Nat) (bs : List Int) (w : World) (hv : IntsV w a len cap zs) (hvb : BytesV w b lenb capb bs) (hlb : lenb ≤ 140737488351232) :
    Calls Try.prog 17 #[.slice a len cap, .int .i64 x, .slice b lenb capb] w fun e w' => e = .returned (.bool true) ∧ Keep [] w w' := by
  obtain ⟨N, hN⟩ : ∃ N, (hist zs).length = N := ⟨_, rfl⟩
  have hok : HOk (hist zs) := (hist_inv zs).ok
  have HEV := Lib.hid (hist_ev zs)
  have HLE := Lib.hid hok.len
  have HV := Lib.hid hv
  have HVB := Lib.hid hvb
  have HOK := Lib.hid hok
  have HN := Lib.hid hN
  obtain ⟨P, hP⟩ : ∃ P, packB (hist zs) = P := ⟨_, rfl⟩
  obtain ⟨M, hM⟩ : ∃ M, P.length = M := ⟨_, rfl⟩
  have hM1 : M ≤ 802 := by have h1 := pack_len hok; have h2 := hok.len; rw [hP, hM] at h1; omega
  have hM0 : 0 < M := by
    have h1 := congrArg List.length (packB_eq (hist zs))
    rw [hP, hM, List.length_append] at h1
    have h2 : 1 ≤ (encN (hist zs).length).length := by
      by_cases e : (hist zs).length < 128
      · rw [encN_small e]; simp
      · rw [encN_big e]; simp
    omega
  obtain ⟨i, hi, hi1⟩ := at_nat x hM0
  have HI := Lib.hid hi
  have HP := Lib.hid hP
  have HM := Lib.hid hM
  have HBP : Hid (Bytes P) := Lib.hid (by rw [← hP]; exact pack_bytes hok.len HEV.out)
  have HSI : Hid (Short (P.take i)) := Lib.hid (pack_cut hok.len HEV.out (s := P.drop i) (fun h => by have := congrArg List.length h; simp at this; omega) (by rw [hP, List.take_append_drop]))
  have HTI : Hid (Bytes (P.take i)) := Lib.hid (fun z hz => HBP.out z (List.mem_of_mem_take hz))
  have HLI : Hid ((P.take i).length = i) := Lib.hid (by simp; omega)
  clear hv hvb hok hN hi hP hM
  go_enter Try.func17, Try.ntmps17
  go_wp2_with (first | (go_at_call 35; refine (tbegun_any _).mono ?_; rintro e w0 ⟨rfl, hk0⟩) | (go_at_call 20; refine (history_at (HV.out.keep hk0 (by simp)) HN).mono ?_; rintro e w2 ⟨a2, c2, rfl, hk2, hv2⟩; have HV2 := Lib.hid hv2; have hD2 := hk0.trans hk2; clear hv2) | (go_at_call 48; (with_reducible refine (pack_any HV2.out HOK.out).mono ?_); rintro e w3 ⟨v3, rfl, hk3, ho3⟩; rw [HP.out, HM.out] at ho3; obtain ⟨a3, c3, rfl, hb3, hl3, hr3, hm3⟩ := own_bytes ho3; have HB3 := Lib.hid hb3; have hD3 := hD2.trans hk3; have hm3' := hm3; unfold maxLen at hm3'; obtain ⟨B3, O3, rfl, hc3⟩ := hb3 hM0; have HC3 := Lib.hid hc3; clear hb3 ho3 hl3 hc3) | (go_at_call 21; (with_reducible refine (rest_at HI (by omega) (by omega)).mono ?_); rintro e w' ⟨rfl, rfl⟩))
  refine (unpack49_any (bs := P.take i) (fun hi0 => ⟨B3, O3, rfl, fun j hj => by rw [HC3.out j (by omega)]; simp [List.getD_eq_getElem?_getD, hj]⟩) HLI.out (by omega) hm3 HTI.out).mono ?_
  rintro e w4 ⟨v4, x4, rfl, hk4, _, _, _, hs4⟩
  obtain rfl := hs4 HSI.out (by rw [HLI.out]; omega)
  have hD4 := hD3.trans hk4
  have HBR := Lib.hid (two_rows (BytesV.keep ⟨HM.out, hr3, hm3, HBP.out, HB3.out, fun h => by cases h⟩ hk4 (by simp)) (HVB.out.keep hD4 (by simp)))
  have hkQ : Keep [] w4 (w4.alloc (.cells #[.slice (some ⟨B3, O3, none⟩) M c3, .slice b lenb capb] 60)) := (Keep.refl _ _).alloc _
  have HLB := Lib.hid HVB.out.len
  have HBB := Lib.hid HVB.out.wf
  have HSUM : Hid (sumN (fun k => if k = 0 then M else lenb) 2 = M + lenb) := Lib.hid (by simp [sumN])
  have HCAT : Hid (catZ (fun k => if k = 0 then P else bs) 2 = P ++ bs) := Lib.hid (by simp [catZ])
  clear hs4
  go_wp2_with (first | (go_at_call 53; (with_reducible refine (concat53_any HBR.out (by omega) (by omega) (by unfold maxLen; omega) (by rw [HSUM.out]; omega) (by rw [HSUM.out]; omega)).mono ?_); rintro e w5 ⟨v5, rfl, hk5, ho5⟩; rw [HSUM.out, HCAT.out] at ho5; obtain ⟨a5, c5, rfl, hb5, hl5, hr5, hm5⟩ := own_bytes ho5; have HB5 := Lib.hid hb5; have HL5 := Lib.hid hl5; have hD5 := (hD4.trans hkQ).trans hk5; clear ho5 hb5 hl5))
  have HLP : Hid ((P ++ bs).length = M + lenb) := Lib.hid (by rw [List.length_append, HM.out, HLB.out])
  refine (unpack49_any HB5.out HLP.out hr5 hm5 (fun z hz => by
    rcases List.mem_append.1 hz with h | h
    · exact HBP.out z h
    · exact HBB.out z h)).mono ?_
  rintro e w6 ⟨v6, x6, rfl, hk6, hz6, _, hd6, _⟩
  have hD6 := hD5.trans hk6
  by_cases hl0 : lenb = 0
  · subst hl0
    have hbs : bs = [] := List.eq_nil_of_length_eq_zero HLB.out
    have hx : x6 = 0 := hd6 (hist zs) (by rw [hbs, List.append_nil, ← HP.out]; exact pack_dec HLE.out HEV.out) HOK.out (by rw [HLP.out]; omega)
    subst hx
    clear hz6 hd6
    go_wp2_with fail
    go_ret
    exact ⟨rfl, hD6⟩
  · have hne : bs ≠ [] := fun h => by have := HLB.out; rw [h] at this; simp at this; omega
    have hsh : Short (P ++ bs) := by rw [← HP.out]; exact pack_long HLE.out HEV.out hne
    have hx : x6 ≠ 0 := fun h => by
      obtain ⟨_, _, h9, _, _, _, _, _, hdec⟩ := hz6 h
      rw [short_dec hsh] at hdec; cases hdec
    have hxb : (x6 != 0) = true := by simpa using hx
    clear hz6 hd6 hsh
    go_wp2_with fail
    go_ret
    refine ⟨?_, hD6⟩
    have hd : decide (0 < lenb) = true := decide_eq_true (by omega)
    rw [hd]; rfl
end Go.Proofs.Ytkhchfjhmplaiaa
