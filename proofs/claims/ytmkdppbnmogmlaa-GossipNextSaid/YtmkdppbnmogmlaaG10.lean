import Derived.Test.YtmkdppbnmogmlaaG8
import Derived.Test.YtmkdppbnmogmlaaGP5
import Derived.Deep.RegionHeld3
namespace Go.Proofs.Ytmkdppbnmogmlaa
open Go.RowKit
theorem doubt_any {b : Nat} {g : Gs} {w : World} {N : Int} {n m : Nat} (h : GAt 55 w b g) (hN : Hid (N = m)) (h1 : 1 ≤ m) (hm : m ≤ n) (hn : n ≤ 8) (hf : Full n g) :
    Calls Try.prog 13 #[.pointer (some ⟨b, 0, none⟩), .int .i64 N] w fun e w' => ∃ k, e = .returned (.int .i64 k) ∧ Keep [b] w w' ∧ GAt 55 w' b (doubtG g m) := by
  have hq : (lat g.rs m).q ≠ 0 := (hf m (by omega)).2 ⟨h1, hm⟩
  unfold doubtG
  by_cases hno : (m : Int) = g.me ∨ (lat g.rs m).u ≠ 1
  · rw [if_pos hno]
    exact (doubt_no h hN h1 (by omega) hq (by rw [hN.out]; exact hno)).mono fun e w' ⟨k, he, hk⟩ => ⟨k, he, hk.more (by simp), h.keep hk (by simp)⟩
  · rw [if_neg hno]
    have hu : (lat g.rs m).u = 1 := by
      by_cases h : (lat g.rs m).u = 1
      · exact h
      · exact absurd (.inr h) hno
    exact (doubt_ok h hN h1 (by omega) hq (by rw [hN.out]; exact fun e => hno (.inl e)) (q := (lat g.rs m).q) (t := (lat g.rs m).g) (by rw [← hu])).mono fun e w' ⟨he, hk, hg⟩ => ⟨0, he, hk, hg⟩
set_option maxHeartbeats 4000000 in
theorem chatter_any {a pa : Option Addr} {n c len cap lo : Nat} {bs : List Nat} {gs : List Gs} {zs : List Int} {B : Int} {w : World} (hn : NetAt w a n c bs gs lo) (hok : NetOk n B gs) (h1 : 1 ≤ n) (hB : B + 150 ≤ 1099511627776)
    (hv : IntsV w pa len cap zs) (hp : 0 < len → ∀ x, pa = some x → x.block ∉ bs) :
    Calls Try.prog 16 #[.slice a n c, .slice pa len cap] w fun e w' => e = .returned (.bool true) ∧ Keep bs w w' ∧ NetAt w' a n c bs (chatL gs (zs.take 150)) lo := by
  have hroom := hv.room
  have hmost := hv.most
  unfold maxLen at hmost
  have h8 := hok.hi
  obtain ⟨N, hN, hNl, hN1⟩ : ∃ N : Nat, (if (150 : Int) < (len : Int) then (150 : Int) else (len : Int)) = (N : Int) ∧ N ≤ len ∧ N ≤ 150 :=
    ⟨min 150 len, by split <;> omega, by omega, by omega⟩
  have HNE : Hid (zs.take 150 = zs.take N) := Lib.hid (by
    have hl := hv.len
    by_cases h : 150 < len
    · have : N = 150 := by split at hN <;> omega
      rw [this]
    · have : N = len := by split at hN <;> omega
      rw [List.take_of_length_le (by omega), List.take_of_length_le (by omega)])
  have HL := Lib.hid hv.len
  have HV := Lib.hid hv
  have HNET := Lib.hid hn
  have HOK := Lib.hid hok
  have HP := Lib.hid hp
  clear hv hn hok hp
  go_enter Try.func16, Try.ntmps16
  go_wp2_with fail
  go_loopw [15] (fun i wr => ∃ k : Nat, k ≤ N ∧ i = .int .i64 k ∧ Keep bs w wr ∧ Hid (NetAt wr a n c bs (chatL gs (zs.take k)) lo)) (fun i _ => N - (intOf i).toNat)
  case atStart => exact ⟨0, by omega, rfl, Keep.refl _ _, HNET⟩
  case round =>
    obtain ⟨k, hk, rfl, hkw, HA⟩ := hrel
    by_cases hlt : k < N
    · obtain ⟨b2, off2, rfl, hcell⟩ := HV.out.cells (by omega)
      have hpb : b2 ∉ bs := HP.out (by omega) ⟨b2, off2, none⟩ rfl
      have hck := hkw.cell (hcell k (by omega)) hpb
      have HPB := Lib.hid hpb
      clear hpb
      clear hcell
      have hS := chatL_snoc gs zs k (by rw [HL.out]; omega)
      have hokk := chatL_ok (by omega) (zs.take k) HOK.out (by rw [List.length_take, HL.out]; omega)
      have hBk : B + ((zs.take k).length : Int) + 1 ≤ 1099511627776 := by rw [List.length_take, HL.out]; omega
      generalize B + ((zs.take k).length : Int) = Bk at *
      generalize zs.getD k 0 = z at *
      unfold chatStep at hS
      rw [hokk.len] at hS
      dsimp only at hS
      obtain ⟨hi, hi2⟩ := rest_lt (k := wrap64 (z.tdiv 8)) (show 0 < n by omega)
      obtain ⟨hj, hj2⟩ := rest_lt (k := wrap64 (z.tdiv 64)) (show 0 < n by omega)
      generalize (restI (wrap64 (z.tdiv 8)) n).toNat = i at *
      generalize (restI (wrap64 (z.tdiv 64)) n).toNat = j at *
      have HI := Lib.hid hi2.symm
      have HJ := Lib.hid hj2.symm
      obtain ⟨op, hop, hop1⟩ := rest_nat z 8 (by omega)
      rw [hop] at hS
      have HOP := Lib.hid hop
      have HOKK := Lib.hid hokk
      obtain ⟨b, off, rfl, hcs⟩ := HA.out.p.cells (by omega)
      have hci := hcs i hi
      have hcj := hcs j hj
      have hgi := HA.out.at_ i hi
      have hgj := HA.out.at_ j hj
      have hmi := HA.out.mem hi
      obtain ⟨bi, hbi⟩ : ∃ bi, bs.getD i 0 = bi := ⟨_, rfl⟩
      obtain ⟨bj, hbj⟩ : ∃ bj, bs.getD j 0 = bj := ⟨_, rfl⟩
      rw [hbi] at hci hgi hmi
      rw [hbj] at hcj hgj
      have HBI := Lib.hid hbi
      have HGI := Lib.hid hgi
      have HGJ := Lib.hid hgj
      have HM := Lib.hid hmi
      have HBN : Hid (b ∉ [bi]) := Lib.hid (by
        intro h; simp at h
        exact (HA.out.pa ⟨b, off, none⟩ rfl).2 (h ▸ hmi))
      have HJN : Hid ((j : Int) + 1 = ((j + 1 : Nat) : Int)) := Lib.hid (by omega)
      have h256 : (256 : Int) = 256 := rfl
      clear hop hokk hcs hgi hgj hmi hbi hbj hi2 hj2 h256
      have HFI := Lib.hid (HOKK.out.ok i hi)
      have HFJ := Lib.hid (HOKK.out.ok j hj)
      by_cases h0 : (op : Int) = 0
      · rw [if_pos h0] at hS
        have HS := Lib.hid hS
        have h00 : op = 0 := by omega
        clear hS h0
        subst h00
        go_wp2_with (first | (go_at_call 10; (with_reducible refine (rest_at HI (by omega) (by omega)).mono ?_); rintro e w' ⟨rfl, rfl⟩) | (go_at_call 10; (with_reducible refine (rest_at HJ (by omega) (by omega)).mono ?_); rintro e w' ⟨rfl, rfl⟩) | (go_at_call 10; (with_reducible refine (rest_at HOP (by omega) (by omega)).mono ?_); rintro e w' ⟨rfl, rfl⟩) | (with_reducible refine Txt.wp_region_text mixed quiet (by decide +kernel) ?_) | (with_reducible refine Txt.text_done (by kernel_rfl) ?_) | (go_at_call 13; refine (doubt_any HGI.out HJN (by omega) (by omega) h8 HFI.out.2).mono ?_; rintro e w2 ⟨r, rfl, hk2, hg2⟩; have HG2 := Lib.hid hg2; clear hg2))
        go_roundw
        case measure => simp [intOf]; omega
        case rel =>
          have hk2' : Keep [bi] wr w2 := by first | exact hk2 | exact (Keep.refl _ _).drew.trans hk2
          exact ⟨k + 1, by omega, by go_num, hkw.call hk2' (by intro x hx; simp at hx; exact .inl (hx ▸ HM.out)), Lib.hid (by rw [HS.out]; exact HA.out.put hi (by rw [HBI.out]; exact hk2') (by rw [HBI.out]; exact HG2.out))⟩
      · rw [if_neg h0] at hS
        by_cases h1 : (op : Int) = 1
        · rw [if_pos h1] at hS
          have HS := Lib.hid hS
          have h00 : op = 1 := by omega
          clear hS h1 h0
          subst h00
          go_wp2_with (first | (go_at_call 10; (with_reducible refine (rest_at HI (by omega) (by omega)).mono ?_); rintro e w' ⟨rfl, rfl⟩) | (go_at_call 10; (with_reducible refine (rest_at HJ (by omega) (by omega)).mono ?_); rintro e w' ⟨rfl, rfl⟩) | (go_at_call 10; (with_reducible refine (rest_at HOP (by omega) (by omega)).mono ?_); rintro e w' ⟨rfl, rfl⟩) | (with_reducible refine Txt.wp_region_text mixed quiet (by decide +kernel) ?_) | (with_reducible refine Txt.text_done (by kernel_rfl) ?_) | (go_at_call 12; refine (tick_any HGI.out (fun x hx => ⟨(HFI.out.1.tm x hx).1, (HFI.out.1.tm x hx).2.1⟩)).mono ?_; rintro e w2 ⟨rfl, hk2, hg2⟩; have HG2 := Lib.hid hg2; clear hg2))
          go_roundw
          case measure => simp [intOf]; omega
          case rel =>
            have hk2' : Keep [bi] wr w2 := by first | exact hk2 | exact (Keep.refl _ _).drew.trans hk2
            exact ⟨k + 1, by omega, by go_num, hkw.call hk2' (by intro x hx; simp at hx; exact .inl (hx ▸ HM.out)), Lib.hid (by rw [HS.out]; exact HA.out.put hi (by rw [HBI.out]; exact hk2') (by rw [HBI.out]; exact HG2.out))⟩
        · rw [if_neg h1] at hS
          have HS := Lib.hid hS
          clear hS
          go_wp2_with (first | (go_at_call 10; (with_reducible refine (rest_at HI (by omega) (by omega)).mono ?_); rintro e w' ⟨rfl, rfl⟩) | (go_at_call 10; (with_reducible refine (rest_at HJ (by omega) (by omega)).mono ?_); rintro e w' ⟨rfl, rfl⟩) | (go_at_call 10; (with_reducible refine (rest_at HOP (by omega) (by omega)).mono ?_); rintro e w' ⟨rfl, rfl⟩) | (with_reducible refine Txt.wp_region_text mixed quiet (by decide +kernel) ?_) | (with_reducible refine Txt.text_done (by kernel_rfl) ?_))
          go_region_held3 (fun w' => w'.cell? ⟨b, off + i, none⟩ = some (.pointer (some ⟨bi, 0, none⟩)) ∧ w'.cell? ⟨b, off + j, none⟩ = some (.pointer (some ⟨bj, 0, none⟩))) (go_keep) (first | (go_at_call 15; refine (state_any (by first | exact HGJ.out | exact HGJ.out.drew)).mono ?_; rintro e w2 ⟨sa, sn, sc, rfl, hk2d, hls, hsb⟩; have hk2 : Keep [] wr w2 := (by first | exact hk2d | exact (Keep.refl _ _).drew.trans hk2d); clear hk2d; have hci2 := hk2.cell hci (by simp); have hcj2 := hk2.cell hcj (by simp)) | (go_at_call 18; refine (merge_any (HGI.out.keep hk2 (by simp)) hls (rows_ok HFJ.out.1) (fun x hx => by have h9 : wr.heap.size ≤ x.block := hsb x hx; have := HGI.out.lt; omega)).mono ?_; rintro e w3 ⟨rfl, hk3, hg3⟩; have hci3 := hk3.cell hci2 HBN.out; have hcj3 := hk3.cell hcj2 HBN.out))
          go_wp2_with fail
          go_roundw
          case measure => simp [intOf]; omega
          case rel =>
            have hk3' : Keep [bi] wr w3 := (hk2.more (by simp)).trans hk3
            exact ⟨k + 1, by omega, by go_num, hkw.call hk3' (by intro x hx; simp at hx; exact .inl (hx ▸ HM.out)), Lib.hid (by rw [HS.out]; exact HA.out.put hi (by rw [HBI.out]; exact hk3') (by rw [HBI.out]; exact hg3))⟩
    · obtain rfl : k = N := by omega
      have hfin := HA.out
      rw [← HNE.out] at hfin
      have HF := Lib.hid hfin
      clear hfin
      go_wp2_with fail
      go_ret
      exact ⟨rfl, hkw, HF.out⟩
end Go.Proofs.Ytmkdppbnmogmlaa
