/- Texts laid together: N13 N14 N15. -/
import Derived.Test.YtfgdgdjdlnchlaaMg5
import Derived.Deep.CutBlock
import Derived.Deep.RegionLaw
import Derived.Deep.CutRange
import Derived.Deep.DeepCutAuto
import Derived.Laws.IdiomStrings
/- Names: register. -/
namespace Go
theorem range_ptrs (ps : Nat → Nat) (k p : Nat) : (List.range (k + 1)).map (fun i => ptr (if i = k then p else ps i)) = (List.range k).map (fun i => ptr (ps i)) ++ [ptr p] := by
  rw [List.range_succ, List.map_append]
  congr 1
  · refine List.map_congr_left fun i hi => ?_
    rw [List.mem_range] at hi
    rw [if_neg (by omega)]
  · simp
end Go
namespace Go.Proofs.Ytfgdgdjdlnchlaa
open Go.RowKit
open Go.Nm
theorem info28 : (Try.prog.info? 28).map (fun i => (i.zero, i.size, i.bytes)) = some (some (.pointer none), 1, 8) := by kernel_rfl
theorem own_ptrs {w : World} {B n : Nat} {v : Value} {ps : Nat → Nat} (ho : w.ownsRow B 28 1 v n ((List.range n).map (fun i => ptr (ps i)))) : ∃ a c, v = .slice a n c ∧ n ≤ c ∧ c ≤ 9223372036854775807 ∧ (0 < n → ∃ g, a = some ⟨g, 0, none⟩ ∧ ∀ (i : Nat), i < n → w.cell? ⟨g, i, none⟩ = some (.pointer (some ⟨ps i, 0, none⟩))) := by
  rcases ho.2 with ⟨rfl, h0⟩ | ⟨g, cap, cur, rfl, hb, hg, hnc, hcm, hcs, ht⟩
  · exact ⟨none, 0, by rw [h0], by omega, Nat.zero_le _, fun h => by omega⟩
  · refine ⟨_, _, rfl, hnc, hcm, fun _ => ⟨g, rfl, fun i hi => ?_⟩⟩
    rw [cell_of_row w g i cur 28 (0, 0) hg]
    have : (cur.toList.take (n * 1))[i]? = ((List.range n).map (fun i => ptr (ps i)))[i]? := by rw [ht]
    rw [List.getElem?_take, if_pos (by omega)] at this
    simp [hi, ptr] at this
    simpa using this
theorem conv1 (W : World) (b : UInt8) : (convert 53 9 (.slice (some ⟨W.heap.size, 0, none⟩) 1 1)).run Try.prog (W.alloc (.cells #[.int .u8 (b.toNat : Int)] 5)).drew = .ok (.string ⟨#[b]⟩) (W.alloc (.cells #[.int .u8 (b.toNat : Int)] 5)).drew :=
  run_convert_bytes_back _ 53 9 5 ⟨W.heap.size, 0, none⟩ 1 [b] Try.underlying53 Try.underlying5 Try.underlying9 (fun j hj => by
    obtain rfl : j = 0 := by simpa using hj
    rw [Go.WideShapes.add_plain, Nat.zero_add]
    exact (cell_of_row _ W.heap.size 0 #[.int .u8 (b.toNat : Int)] 5 (0, 0) (blk_new W _)))
set_option maxRecDepth 100000 in
set_option maxHeartbeats 8000000 in
theorem register9_any {w : World} {ap : Option Addr} {len cap : Nat} {zs : List Int} (n : Nat) (hn1 : 1 ≤ n) (hn : n ≤ 4) (hv : IntsV w ap len cap zs) :
    Calls Try.prog 9 #[.int .i64 n, .slice ap len cap] w fun e w' => ∃ (v : Value) (ps : Nat → Nat) (st : Nat → Reg), e = .returned (.tuple #[v, .bool true]) ∧ RC w n ps st w' ∧ w'.ownsRow w.heap.size 28 1 v n ((List.range n).map (fun i => ptr (ps i))) ∧ SOk n st 150 := by
  have hroom := hv.room
  have hmost := hv.most
  have h9 : maxLen = 9223372036854775807 := rfl
  rw [h9] at hmost
  obtain ⟨N, hN⟩ : ∃ N : Nat, min len 150 = N := ⟨_, rfl⟩
  have hmn : (min (len : Int) 150).toNat = N := by omega
  have hNl : N ≤ len := by omega
  have hN1 : N ≤ 150 := by omega
  have HV := Lib.hid hv
  obtain ⟨i28, hi28, hz0, hz1, hz2⟩ := infoN info28
  clear hv h9
  go_enter Try.func9, Try.ntmps9
  go_wp2_with (first | (with_reducible refine Txt.wp_region_text mixed quiet (by decide +kernel) ?_) | (with_reducible refine Txt.text_done (by kernel_rfl) ?_))
  go_loopw [15, 6] (fun j v wr => ∃ (k : Nat) (ps : Nat → Nat) (st : Nat → Reg), k ≤ n ∧ j = .int .i64 k ∧ Hid (RC w k ps st wr) ∧ Hid (wr.ownsRow w.heap.size 28 1 v k ((List.range k).map (fun i => ptr (ps i)))) ∧ Hid (SOk k st 0)) (fun j _ _ => n - (intOf j).toNat)
  case atStart => exact ⟨0, fun _ => 0, fun _ => ⟨0, 0, fun _ => none⟩, by omega, rfl, Lib.hid (RC.none _ _ _), Lib.hid (World.ownsRow_nil _ _ _ _), Lib.hid (fun i hi => absurd hi (Nat.not_lt_zero _))⟩
  case round =>
    obtain ⟨k, ps, st, hk, rfl, HR, HO, HS⟩ := hrel
    obtain ⟨av, cv, hav, hcv1, hcv2⟩ := ownSliceN HO.out
    subst hav
    by_cases hlt : k < n
    · have hdec : decide ((k : Int) < (n : Int)) = true := by simp; omega
      have hnew := new17_any HR.out ((k : Int) + 1) ⟨by omega, by omega⟩
      have HNEW := Lib.hid hnew
      clear hnew
      have HSZ := Lib.hid HR.out.keep.size
      go_wp2_with (first | (with_reducible refine Txt.wp_region_text mixed quiet (by decide +kernel) ?_) | (with_reducible refine Txt.text_done (by kernel_rfl) ?_) | (go_at_call 17; (with_reducible refine HNEW.out.mono ?_); rintro e w1 ⟨p, rfl, hrc, hk1, hp1⟩; have HRC := Lib.hid hrc; have HK1 := Lib.hid hk1; have HOA := Lib.hid (own_keep (own_keep HO.out hk1 (by simp)) ((Keep.refl [] w1).alloc (.cells #[.pointer (some ⟨p, 0, none⟩)] 28)) (fun _ _ h => absurd h List.not_mem_nil)); have HSZ1 := Lib.hid hrc.keep.size; have HKA : Hid (Keep [] w1 (w1.alloc (.cells #[.pointer (some ⟨p, 0, none⟩)] 28))) := Lib.hid ((Keep.refl [] w1).alloc _); clear hrc hk1) | (at_builtin; refine wpList_append_lies _ rfl _ _ 24 rfl w.heap.size 28 i28 (.pointer none) 1 8 Try.underlying24 hi28 hz0 hz1 hz2 rfl (by decide) (.slice av k cv) k ((List.range k).map (fun i => ptr (ps i))) rfl HOA.out ⟨w1.heap.size, 0, none⟩ 1 1 [.pointer (some ⟨p, 0, none⟩)] rfl rfl (cells_new w1 [.pointer (some ⟨p, 0, none⟩)] 28 (0, 0)) (by simp [Value.oneCell']) (by decide) (by unfold maxLen; omega) (by omega) (Nat.le_trans HSZ1.out HKA.out.size) _ rfl ?_; intro g9 c9 w9 hown9 hgr9 hat9 hlt9; have HO9 := Lib.hid hown9; have HG9 := Lib.hid hgr9; clear hown9 hgr9 hat9))
      have hk9 : Keep (Value.slice av k cv).ownBlock.toList (w1.alloc (.cells #[.pointer (some ⟨p, 0, none⟩)] 28)) w9 := Keep.ofGrown HG9.out (fun x hx => by simp [hx])
      refine ⟨⟨k + 1, fun j => if j = k then p else ps j, upd st k ⟨(k : Int) + 1, 0, fun _ => none⟩, hlt, by go_num, Lib.hid ?_, Lib.hid (by rw [range_ptrs]; exact HO9.out), Lib.hid (fun i hi => ?_)⟩, by simp [intOf]; omega⟩
      · refine (HRC.out.kept HKA.out).keptS hk9 (fun b hb => ?_)
        obtain ⟨h1, h2, cs, h3⟩ := ownLtN HOA.out b (by simpa using hb)
        exact ⟨h1, cs, 28, (0, 0), h3, by decide⟩
      · by_cases e : i = k
        · subst e
          rw [upd_same]
          exact ⟨ROk.new _, rfl, rfl⟩
        · rw [upd_other e]
          exact HS.out i (by omega)
    · obtain rfl : k = n := by omega
      have hdec : decide ((k : Int) < (k : Int)) = false := by simp
      obtain ⟨WL, hWL⟩ : ∃ WL, WL = wr := ⟨_, rfl⟩
      subst hWL
      obtain ⟨gl, gc, hge, -, -, hgl⟩ := own_ptrs HO.out
      obtain ⟨g, hga, hgcell⟩ := hgl (by omega)
      injection hge with hge _ hcc
      subst hge
      subst hga
      subst hcc
      have HGC := Lib.hid hgcell
      clear hgl hgcell
      go_wp2_with (first | (with_reducible refine Txt.wp_region_text mixed quiet (by decide +kernel) ?_) | (with_reducible refine Txt.text_done (by kernel_rfl) ?_))
      go_loopw [41, 11, 12, 13] (fun j _ _ _ wr => ∃ (r : Nat) (st : Nat → Reg), r ≤ N ∧ j = .int .i64 r ∧ Hid (RC w k ps st wr) ∧ Hid (SOk k st r) ∧ Hid (NK WL wr)) (fun j _ _ _ _ => N - (intOf j).toNat)
      case atStart => exact ⟨0, st, by omega, rfl, HR, HS, Lib.hid (NK.refl _)⟩
      case round =>
        obtain ⟨r, st', hr, rfl, HR', HS', HNK⟩ := hrel
        by_cases hlt2 : r < N
        · obtain ⟨b1, off, rfl, hc⟩ := (HV.out.keep HR'.out.keep (by simp)).cells (by omega)
          have hcx := hc r (by omega)
          obtain ⟨z, hz⟩ : ∃ z, zs.getD r 0 = z := ⟨_, rfl⟩
          rw [hz] at hcx
          have hdec2 : decide ((r : Int) < (N : Int)) = true := by simp; omega
          obtain ⟨qi, hqi, hqik⟩ := rest_nat (wrap64 (z.tdiv 8)) k (by omega)
          have HQI := Lib.hid hqi
          obtain ⟨ql, hql, hql5⟩ := rest_nat (wrap64 (z.tdiv 64)) 5 (by omega)
          have HQL := Lib.hid hql
          have hqk : qi < k := by omega
          have hql' : ql < 5 := by omega
          have hkp : (0 : Int) < (k : Int) := by omega
          have hkm : (k : Int) ≤ 1000000000 := by omega
          obtain ⟨s, hs⟩ : ∃ s : ByteArray, encStr (nm (let5 ql)) = .string s := ⟨_, rfl⟩
          have HSS := Lib.hid hs
          obtain ⟨W1, hW1⟩ : ∃ W1, W1 = wr := ⟨_, rfl⟩
          subst hW1
          clear hc hz hqi hql
          go_upto_region 13 with (first | (with_reducible refine Txt.wp_region_text mixed quiet (by decide +kernel) ?_) | (with_reducible refine Txt.text_done (by kernel_rfl) ?_))
          go_cut [12, 13] (fun v12 v13 wx => v12 = .int .i64 qi ∧ v13 = .string s ∧ Hid (Keep [] W1 wx))
          case first =>
            clear HSS
            obtain rfl | rfl | rfl | rfl : k = 1 ∨ k = 2 ∨ k = 3 ∨ k = 4 := by omega
            · have HQN : Hid (restI (wrap64 (z.tdiv 8)) 1 = qi) := HQI
              obtain rfl | rfl | rfl | rfl | rfl : ql = 0 ∨ ql = 1 ∨ ql = 2 ∨ ql = 3 ∨ ql = 4 := by omega
              all_goals
                injection hs with hs
                subst hs
              · have hconv : (convert 53 9 (.slice (some ⟨W1.heap.size, 0, none⟩) 1 1)).run Try.prog (W1.alloc (.cells #[.int .u8 97] 5)).drew = .ok (.string ⟨#[97]⟩) (W1.alloc (.cells #[.int .u8 97] 5)).drew := conv1 W1 97
                go_wp2_with (first | (with_reducible refine Txt.wp_region_text mixed quiet (by decide +kernel) ?_) | (with_reducible refine Txt.text_done (by kernel_rfl) ?_) | (go_at_call 10; (with_reducible refine (rest_at HQN (by decide) (by decide)).mono ?_); rintro e w' ⟨rfl, rfl⟩) | (go_at_call 10; (with_reducible refine (rest_at HQI (by decide) (by decide)).mono ?_); rintro e w' ⟨rfl, rfl⟩) | (go_at_call 10; (with_reducible refine (rest_at HQL (by decide) (by decide)).mono ?_); rintro e w' ⟨rfl, rfl⟩))
                go_meet
                exact ⟨rfl, rfl, Lib.hid (((Keep.refl [] W1).alloc _).drew)⟩
              · have hconv : (convert 53 9 (.slice (some ⟨W1.heap.size, 0, none⟩) 1 1)).run Try.prog (W1.alloc (.cells #[.int .u8 98] 5)).drew = .ok (.string ⟨#[98]⟩) (W1.alloc (.cells #[.int .u8 98] 5)).drew := conv1 W1 98
                go_wp2_with (first | (with_reducible refine Txt.wp_region_text mixed quiet (by decide +kernel) ?_) | (with_reducible refine Txt.text_done (by kernel_rfl) ?_) | (go_at_call 10; (with_reducible refine (rest_at HQN (by decide) (by decide)).mono ?_); rintro e w' ⟨rfl, rfl⟩) | (go_at_call 10; (with_reducible refine (rest_at HQI (by decide) (by decide)).mono ?_); rintro e w' ⟨rfl, rfl⟩) | (go_at_call 10; (with_reducible refine (rest_at HQL (by decide) (by decide)).mono ?_); rintro e w' ⟨rfl, rfl⟩))
                go_meet
                exact ⟨rfl, rfl, Lib.hid (((Keep.refl [] W1).alloc _).drew)⟩
              · have hconv : (convert 53 9 (.slice (some ⟨W1.heap.size, 0, none⟩) 1 1)).run Try.prog (W1.alloc (.cells #[.int .u8 99] 5)).drew = .ok (.string ⟨#[99]⟩) (W1.alloc (.cells #[.int .u8 99] 5)).drew := conv1 W1 99
                go_wp2_with (first | (with_reducible refine Txt.wp_region_text mixed quiet (by decide +kernel) ?_) | (with_reducible refine Txt.text_done (by kernel_rfl) ?_) | (go_at_call 10; (with_reducible refine (rest_at HQN (by decide) (by decide)).mono ?_); rintro e w' ⟨rfl, rfl⟩) | (go_at_call 10; (with_reducible refine (rest_at HQI (by decide) (by decide)).mono ?_); rintro e w' ⟨rfl, rfl⟩) | (go_at_call 10; (with_reducible refine (rest_at HQL (by decide) (by decide)).mono ?_); rintro e w' ⟨rfl, rfl⟩))
                go_meet
                exact ⟨rfl, rfl, Lib.hid (((Keep.refl [] W1).alloc _).drew)⟩
              · have hconv : (convert 53 9 (.slice (some ⟨W1.heap.size, 0, none⟩) 1 1)).run Try.prog (W1.alloc (.cells #[.int .u8 100] 5)).drew = .ok (.string ⟨#[100]⟩) (W1.alloc (.cells #[.int .u8 100] 5)).drew := conv1 W1 100
                go_wp2_with (first | (with_reducible refine Txt.wp_region_text mixed quiet (by decide +kernel) ?_) | (with_reducible refine Txt.text_done (by kernel_rfl) ?_) | (go_at_call 10; (with_reducible refine (rest_at HQN (by decide) (by decide)).mono ?_); rintro e w' ⟨rfl, rfl⟩) | (go_at_call 10; (with_reducible refine (rest_at HQI (by decide) (by decide)).mono ?_); rintro e w' ⟨rfl, rfl⟩) | (go_at_call 10; (with_reducible refine (rest_at HQL (by decide) (by decide)).mono ?_); rintro e w' ⟨rfl, rfl⟩))
                go_meet
                exact ⟨rfl, rfl, Lib.hid (((Keep.refl [] W1).alloc _).drew)⟩
              · have hconv : (convert 53 9 (.slice (some ⟨W1.heap.size, 0, none⟩) 1 1)).run Try.prog (W1.alloc (.cells #[.int .u8 101] 5)).drew = .ok (.string ⟨#[101]⟩) (W1.alloc (.cells #[.int .u8 101] 5)).drew := conv1 W1 101
                go_wp2_with (first | (with_reducible refine Txt.wp_region_text mixed quiet (by decide +kernel) ?_) | (with_reducible refine Txt.text_done (by kernel_rfl) ?_) | (go_at_call 10; (with_reducible refine (rest_at HQN (by decide) (by decide)).mono ?_); rintro e w' ⟨rfl, rfl⟩) | (go_at_call 10; (with_reducible refine (rest_at HQI (by decide) (by decide)).mono ?_); rintro e w' ⟨rfl, rfl⟩) | (go_at_call 10; (with_reducible refine (rest_at HQL (by decide) (by decide)).mono ?_); rintro e w' ⟨rfl, rfl⟩))
                go_meet
                exact ⟨rfl, rfl, Lib.hid (((Keep.refl [] W1).alloc _).drew)⟩
            · have HQN : Hid (restI (wrap64 (z.tdiv 8)) 2 = qi) := HQI
              obtain rfl | rfl | rfl | rfl | rfl : ql = 0 ∨ ql = 1 ∨ ql = 2 ∨ ql = 3 ∨ ql = 4 := by omega
              all_goals
                injection hs with hs
                subst hs
              · have hconv : (convert 53 9 (.slice (some ⟨W1.heap.size, 0, none⟩) 1 1)).run Try.prog (W1.alloc (.cells #[.int .u8 97] 5)).drew = .ok (.string ⟨#[97]⟩) (W1.alloc (.cells #[.int .u8 97] 5)).drew := conv1 W1 97
                go_wp2_with (first | (with_reducible refine Txt.wp_region_text mixed quiet (by decide +kernel) ?_) | (with_reducible refine Txt.text_done (by kernel_rfl) ?_) | (go_at_call 10; (with_reducible refine (rest_at HQN (by decide) (by decide)).mono ?_); rintro e w' ⟨rfl, rfl⟩) | (go_at_call 10; (with_reducible refine (rest_at HQI (by decide) (by decide)).mono ?_); rintro e w' ⟨rfl, rfl⟩) | (go_at_call 10; (with_reducible refine (rest_at HQL (by decide) (by decide)).mono ?_); rintro e w' ⟨rfl, rfl⟩))
                go_meet
                exact ⟨rfl, rfl, Lib.hid (((Keep.refl [] W1).alloc _).drew)⟩
              · have hconv : (convert 53 9 (.slice (some ⟨W1.heap.size, 0, none⟩) 1 1)).run Try.prog (W1.alloc (.cells #[.int .u8 98] 5)).drew = .ok (.string ⟨#[98]⟩) (W1.alloc (.cells #[.int .u8 98] 5)).drew := conv1 W1 98
                go_wp2_with (first | (with_reducible refine Txt.wp_region_text mixed quiet (by decide +kernel) ?_) | (with_reducible refine Txt.text_done (by kernel_rfl) ?_) | (go_at_call 10; (with_reducible refine (rest_at HQN (by decide) (by decide)).mono ?_); rintro e w' ⟨rfl, rfl⟩) | (go_at_call 10; (with_reducible refine (rest_at HQI (by decide) (by decide)).mono ?_); rintro e w' ⟨rfl, rfl⟩) | (go_at_call 10; (with_reducible refine (rest_at HQL (by decide) (by decide)).mono ?_); rintro e w' ⟨rfl, rfl⟩))
                go_meet
                exact ⟨rfl, rfl, Lib.hid (((Keep.refl [] W1).alloc _).drew)⟩
              · have hconv : (convert 53 9 (.slice (some ⟨W1.heap.size, 0, none⟩) 1 1)).run Try.prog (W1.alloc (.cells #[.int .u8 99] 5)).drew = .ok (.string ⟨#[99]⟩) (W1.alloc (.cells #[.int .u8 99] 5)).drew := conv1 W1 99
                go_wp2_with (first | (with_reducible refine Txt.wp_region_text mixed quiet (by decide +kernel) ?_) | (with_reducible refine Txt.text_done (by kernel_rfl) ?_) | (go_at_call 10; (with_reducible refine (rest_at HQN (by decide) (by decide)).mono ?_); rintro e w' ⟨rfl, rfl⟩) | (go_at_call 10; (with_reducible refine (rest_at HQI (by decide) (by decide)).mono ?_); rintro e w' ⟨rfl, rfl⟩) | (go_at_call 10; (with_reducible refine (rest_at HQL (by decide) (by decide)).mono ?_); rintro e w' ⟨rfl, rfl⟩))
                go_meet
                exact ⟨rfl, rfl, Lib.hid (((Keep.refl [] W1).alloc _).drew)⟩
              · have hconv : (convert 53 9 (.slice (some ⟨W1.heap.size, 0, none⟩) 1 1)).run Try.prog (W1.alloc (.cells #[.int .u8 100] 5)).drew = .ok (.string ⟨#[100]⟩) (W1.alloc (.cells #[.int .u8 100] 5)).drew := conv1 W1 100
                go_wp2_with (first | (with_reducible refine Txt.wp_region_text mixed quiet (by decide +kernel) ?_) | (with_reducible refine Txt.text_done (by kernel_rfl) ?_) | (go_at_call 10; (with_reducible refine (rest_at HQN (by decide) (by decide)).mono ?_); rintro e w' ⟨rfl, rfl⟩) | (go_at_call 10; (with_reducible refine (rest_at HQI (by decide) (by decide)).mono ?_); rintro e w' ⟨rfl, rfl⟩) | (go_at_call 10; (with_reducible refine (rest_at HQL (by decide) (by decide)).mono ?_); rintro e w' ⟨rfl, rfl⟩))
                go_meet
                exact ⟨rfl, rfl, Lib.hid (((Keep.refl [] W1).alloc _).drew)⟩
              · have hconv : (convert 53 9 (.slice (some ⟨W1.heap.size, 0, none⟩) 1 1)).run Try.prog (W1.alloc (.cells #[.int .u8 101] 5)).drew = .ok (.string ⟨#[101]⟩) (W1.alloc (.cells #[.int .u8 101] 5)).drew := conv1 W1 101
                go_wp2_with (first | (with_reducible refine Txt.wp_region_text mixed quiet (by decide +kernel) ?_) | (with_reducible refine Txt.text_done (by kernel_rfl) ?_) | (go_at_call 10; (with_reducible refine (rest_at HQN (by decide) (by decide)).mono ?_); rintro e w' ⟨rfl, rfl⟩) | (go_at_call 10; (with_reducible refine (rest_at HQI (by decide) (by decide)).mono ?_); rintro e w' ⟨rfl, rfl⟩) | (go_at_call 10; (with_reducible refine (rest_at HQL (by decide) (by decide)).mono ?_); rintro e w' ⟨rfl, rfl⟩))
                go_meet
                exact ⟨rfl, rfl, Lib.hid (((Keep.refl [] W1).alloc _).drew)⟩
            · have HQN : Hid (restI (wrap64 (z.tdiv 8)) 3 = qi) := HQI
              obtain rfl | rfl | rfl | rfl | rfl : ql = 0 ∨ ql = 1 ∨ ql = 2 ∨ ql = 3 ∨ ql = 4 := by omega
              all_goals
                injection hs with hs
                subst hs
              · have hconv : (convert 53 9 (.slice (some ⟨W1.heap.size, 0, none⟩) 1 1)).run Try.prog (W1.alloc (.cells #[.int .u8 97] 5)).drew = .ok (.string ⟨#[97]⟩) (W1.alloc (.cells #[.int .u8 97] 5)).drew := conv1 W1 97
                go_wp2_with (first | (with_reducible refine Txt.wp_region_text mixed quiet (by decide +kernel) ?_) | (with_reducible refine Txt.text_done (by kernel_rfl) ?_) | (go_at_call 10; (with_reducible refine (rest_at HQN (by decide) (by decide)).mono ?_); rintro e w' ⟨rfl, rfl⟩) | (go_at_call 10; (with_reducible refine (rest_at HQI (by decide) (by decide)).mono ?_); rintro e w' ⟨rfl, rfl⟩) | (go_at_call 10; (with_reducible refine (rest_at HQL (by decide) (by decide)).mono ?_); rintro e w' ⟨rfl, rfl⟩))
                go_meet
                exact ⟨rfl, rfl, Lib.hid (((Keep.refl [] W1).alloc _).drew)⟩
              · have hconv : (convert 53 9 (.slice (some ⟨W1.heap.size, 0, none⟩) 1 1)).run Try.prog (W1.alloc (.cells #[.int .u8 98] 5)).drew = .ok (.string ⟨#[98]⟩) (W1.alloc (.cells #[.int .u8 98] 5)).drew := conv1 W1 98
                go_wp2_with (first | (with_reducible refine Txt.wp_region_text mixed quiet (by decide +kernel) ?_) | (with_reducible refine Txt.text_done (by kernel_rfl) ?_) | (go_at_call 10; (with_reducible refine (rest_at HQN (by decide) (by decide)).mono ?_); rintro e w' ⟨rfl, rfl⟩) | (go_at_call 10; (with_reducible refine (rest_at HQI (by decide) (by decide)).mono ?_); rintro e w' ⟨rfl, rfl⟩) | (go_at_call 10; (with_reducible refine (rest_at HQL (by decide) (by decide)).mono ?_); rintro e w' ⟨rfl, rfl⟩))
                go_meet
                exact ⟨rfl, rfl, Lib.hid (((Keep.refl [] W1).alloc _).drew)⟩
              · have hconv : (convert 53 9 (.slice (some ⟨W1.heap.size, 0, none⟩) 1 1)).run Try.prog (W1.alloc (.cells #[.int .u8 99] 5)).drew = .ok (.string ⟨#[99]⟩) (W1.alloc (.cells #[.int .u8 99] 5)).drew := conv1 W1 99
                go_wp2_with (first | (with_reducible refine Txt.wp_region_text mixed quiet (by decide +kernel) ?_) | (with_reducible refine Txt.text_done (by kernel_rfl) ?_) | (go_at_call 10; (with_reducible refine (rest_at HQN (by decide) (by decide)).mono ?_); rintro e w' ⟨rfl, rfl⟩) | (go_at_call 10; (with_reducible refine (rest_at HQI (by decide) (by decide)).mono ?_); rintro e w' ⟨rfl, rfl⟩) | (go_at_call 10; (with_reducible refine (rest_at HQL (by decide) (by decide)).mono ?_); rintro e w' ⟨rfl, rfl⟩))
                go_meet
                exact ⟨rfl, rfl, Lib.hid (((Keep.refl [] W1).alloc _).drew)⟩
              · have hconv : (convert 53 9 (.slice (some ⟨W1.heap.size, 0, none⟩) 1 1)).run Try.prog (W1.alloc (.cells #[.int .u8 100] 5)).drew = .ok (.string ⟨#[100]⟩) (W1.alloc (.cells #[.int .u8 100] 5)).drew := conv1 W1 100
                go_wp2_with (first | (with_reducible refine Txt.wp_region_text mixed quiet (by decide +kernel) ?_) | (with_reducible refine Txt.text_done (by kernel_rfl) ?_) | (go_at_call 10; (with_reducible refine (rest_at HQN (by decide) (by decide)).mono ?_); rintro e w' ⟨rfl, rfl⟩) | (go_at_call 10; (with_reducible refine (rest_at HQI (by decide) (by decide)).mono ?_); rintro e w' ⟨rfl, rfl⟩) | (go_at_call 10; (with_reducible refine (rest_at HQL (by decide) (by decide)).mono ?_); rintro e w' ⟨rfl, rfl⟩))
                go_meet
                exact ⟨rfl, rfl, Lib.hid (((Keep.refl [] W1).alloc _).drew)⟩
              · have hconv : (convert 53 9 (.slice (some ⟨W1.heap.size, 0, none⟩) 1 1)).run Try.prog (W1.alloc (.cells #[.int .u8 101] 5)).drew = .ok (.string ⟨#[101]⟩) (W1.alloc (.cells #[.int .u8 101] 5)).drew := conv1 W1 101
                go_wp2_with (first | (with_reducible refine Txt.wp_region_text mixed quiet (by decide +kernel) ?_) | (with_reducible refine Txt.text_done (by kernel_rfl) ?_) | (go_at_call 10; (with_reducible refine (rest_at HQN (by decide) (by decide)).mono ?_); rintro e w' ⟨rfl, rfl⟩) | (go_at_call 10; (with_reducible refine (rest_at HQI (by decide) (by decide)).mono ?_); rintro e w' ⟨rfl, rfl⟩) | (go_at_call 10; (with_reducible refine (rest_at HQL (by decide) (by decide)).mono ?_); rintro e w' ⟨rfl, rfl⟩))
                go_meet
                exact ⟨rfl, rfl, Lib.hid (((Keep.refl [] W1).alloc _).drew)⟩
            · have HQN : Hid (restI (wrap64 (z.tdiv 8)) 4 = qi) := HQI
              obtain rfl | rfl | rfl | rfl | rfl : ql = 0 ∨ ql = 1 ∨ ql = 2 ∨ ql = 3 ∨ ql = 4 := by omega
              all_goals
                injection hs with hs
                subst hs
              · have hconv : (convert 53 9 (.slice (some ⟨W1.heap.size, 0, none⟩) 1 1)).run Try.prog (W1.alloc (.cells #[.int .u8 97] 5)).drew = .ok (.string ⟨#[97]⟩) (W1.alloc (.cells #[.int .u8 97] 5)).drew := conv1 W1 97
                go_wp2_with (first | (with_reducible refine Txt.wp_region_text mixed quiet (by decide +kernel) ?_) | (with_reducible refine Txt.text_done (by kernel_rfl) ?_) | (go_at_call 10; (with_reducible refine (rest_at HQN (by decide) (by decide)).mono ?_); rintro e w' ⟨rfl, rfl⟩) | (go_at_call 10; (with_reducible refine (rest_at HQI (by decide) (by decide)).mono ?_); rintro e w' ⟨rfl, rfl⟩) | (go_at_call 10; (with_reducible refine (rest_at HQL (by decide) (by decide)).mono ?_); rintro e w' ⟨rfl, rfl⟩))
                go_meet
                exact ⟨rfl, rfl, Lib.hid (((Keep.refl [] W1).alloc _).drew)⟩
              · have hconv : (convert 53 9 (.slice (some ⟨W1.heap.size, 0, none⟩) 1 1)).run Try.prog (W1.alloc (.cells #[.int .u8 98] 5)).drew = .ok (.string ⟨#[98]⟩) (W1.alloc (.cells #[.int .u8 98] 5)).drew := conv1 W1 98
                go_wp2_with (first | (with_reducible refine Txt.wp_region_text mixed quiet (by decide +kernel) ?_) | (with_reducible refine Txt.text_done (by kernel_rfl) ?_) | (go_at_call 10; (with_reducible refine (rest_at HQN (by decide) (by decide)).mono ?_); rintro e w' ⟨rfl, rfl⟩) | (go_at_call 10; (with_reducible refine (rest_at HQI (by decide) (by decide)).mono ?_); rintro e w' ⟨rfl, rfl⟩) | (go_at_call 10; (with_reducible refine (rest_at HQL (by decide) (by decide)).mono ?_); rintro e w' ⟨rfl, rfl⟩))
                go_meet
                exact ⟨rfl, rfl, Lib.hid (((Keep.refl [] W1).alloc _).drew)⟩
              · have hconv : (convert 53 9 (.slice (some ⟨W1.heap.size, 0, none⟩) 1 1)).run Try.prog (W1.alloc (.cells #[.int .u8 99] 5)).drew = .ok (.string ⟨#[99]⟩) (W1.alloc (.cells #[.int .u8 99] 5)).drew := conv1 W1 99
                go_wp2_with (first | (with_reducible refine Txt.wp_region_text mixed quiet (by decide +kernel) ?_) | (with_reducible refine Txt.text_done (by kernel_rfl) ?_) | (go_at_call 10; (with_reducible refine (rest_at HQN (by decide) (by decide)).mono ?_); rintro e w' ⟨rfl, rfl⟩) | (go_at_call 10; (with_reducible refine (rest_at HQI (by decide) (by decide)).mono ?_); rintro e w' ⟨rfl, rfl⟩) | (go_at_call 10; (with_reducible refine (rest_at HQL (by decide) (by decide)).mono ?_); rintro e w' ⟨rfl, rfl⟩))
                go_meet
                exact ⟨rfl, rfl, Lib.hid (((Keep.refl [] W1).alloc _).drew)⟩
              · have hconv : (convert 53 9 (.slice (some ⟨W1.heap.size, 0, none⟩) 1 1)).run Try.prog (W1.alloc (.cells #[.int .u8 100] 5)).drew = .ok (.string ⟨#[100]⟩) (W1.alloc (.cells #[.int .u8 100] 5)).drew := conv1 W1 100
                go_wp2_with (first | (with_reducible refine Txt.wp_region_text mixed quiet (by decide +kernel) ?_) | (with_reducible refine Txt.text_done (by kernel_rfl) ?_) | (go_at_call 10; (with_reducible refine (rest_at HQN (by decide) (by decide)).mono ?_); rintro e w' ⟨rfl, rfl⟩) | (go_at_call 10; (with_reducible refine (rest_at HQI (by decide) (by decide)).mono ?_); rintro e w' ⟨rfl, rfl⟩) | (go_at_call 10; (with_reducible refine (rest_at HQL (by decide) (by decide)).mono ?_); rintro e w' ⟨rfl, rfl⟩))
                go_meet
                exact ⟨rfl, rfl, Lib.hid (((Keep.refl [] W1).alloc _).drew)⟩
              · have hconv : (convert 53 9 (.slice (some ⟨W1.heap.size, 0, none⟩) 1 1)).run Try.prog (W1.alloc (.cells #[.int .u8 101] 5)).drew = .ok (.string ⟨#[101]⟩) (W1.alloc (.cells #[.int .u8 101] 5)).drew := conv1 W1 101
                go_wp2_with (first | (with_reducible refine Txt.wp_region_text mixed quiet (by decide +kernel) ?_) | (with_reducible refine Txt.text_done (by kernel_rfl) ?_) | (go_at_call 10; (with_reducible refine (rest_at HQN (by decide) (by decide)).mono ?_); rintro e w' ⟨rfl, rfl⟩) | (go_at_call 10; (with_reducible refine (rest_at HQI (by decide) (by decide)).mono ?_); rintro e w' ⟨rfl, rfl⟩) | (go_at_call 10; (with_reducible refine (rest_at HQL (by decide) (by decide)).mono ?_); rintro e w' ⟨rfl, rfl⟩))
                go_meet
                exact ⟨rfl, rfl, Lib.hid (((Keep.refl [] W1).alloc _).drew)⟩
          case rest =>
            obtain ⟨rfl, rfl, HKX⟩ := hcut
            have HRX := Lib.hid (HR'.out.kept HKX.out)
            have HNX := Lib.hid (HNK.out.trans (NK.ofKeep HKX.out))
            have HPX : Hid (∀ w', NK WL w' → ∀ i, i < k → w'.cell? ⟨g, i, none⟩ = some (.pointer (some ⟨ps i, 0, none⟩))) := Lib.hid (fun w' hn i hi => by
              obtain ⟨a', c', he', -, -, hl'⟩ := own_ptrs (hn.own (by decide) HO.out)
              injection he' with he' _ _
              obtain ⟨g', hg', hc'⟩ := hl' (by omega)
              rw [← he'] at hg'
              injection hg' with hg'
              injection hg' with hg' _ _
              rw [hg']
              exact hc' i hi)
            obtain ⟨hrok, hnz⟩ := HS'.out qi hqk
            have HROK := Lib.hid hrok
            have HNZ := Lib.hid hnz
            have hlo := hrok.lo
            have hhi := hrok.hi
            obtain ⟨op, hop, hop8⟩ := rest_nat z 8 (by omega)
            have HOP := Lib.hid hop
            obtain ⟨qr, hqr, hqr50⟩ := rest_nat (wrap64 (z.tdiv 512)) 50 (by omega)
            have HQR := Lib.hid hqr
            obtain ⟨qj, hqj, hqjk⟩ := rest_nat (wrap64 (z.tdiv 512)) k (by omega)
            have HQJ := Lib.hid hqj
            have hqj' : qj < k := by omega
            have HLN := Lib.hid (let5_ne ql)
            have HC8 := Lib.hid (HPX.out _ HNX.out qi hqk)
            clear hrok hnz hop hqr hqj hqjk hqik
            have hop8' : op < 8 := by omega
            by_cases h3 : op < 3
            · have HSET := Lib.hid (set13_any (HRX.out.kept ((Keep.refl [] _).drew)) hqk (let5 ql) (1 + (qr : Int)) ⟨hlo, by omega⟩ (by omega))
              rw [HSS.out] at HSET
              have HRN := Lib.hid (HROK.out.write (by omega) (let5 ql) (ref := 1 + (qr : Int)) ⟨by omega, by omega⟩)
              have HSN : Hid (SOk k (upd st' qi (Ytfgdgdjdlnchlaa.wr (st' qi) (let5 ql) (1 + (qr : Int)))) ((r : Int) + 1)) := Lib.hid ((HS'.out.mono (by omega)).upd HRN.out (HNZ.out.set HLN.out _))
              have c8 := HC8.out
              obtain ⟨SN, hsn⟩ : ∃ SN, upd st' qi (Ytfgdgdjdlnchlaa.wr (st' qi) (let5 ql) (1 + (qr : Int))) = SN := ⟨_, rfl⟩
              rw [hsn] at HSET HSN
              have hi1 : (qi : Int) < (k : Int) := by omega
              have hi0 : (0 : Int) ≤ (qi : Int) := by omega
              clear hsn
              have hop3 : op = 0 ∨ op = 1 ∨ op = 2 := by omega
              obtain rfl | rfl | rfl := hop3
              all_goals
                go_upto_region 20 with (first | (with_reducible refine Txt.wp_region_text mixed quiet (by decide +kernel) ?_) | (with_reducible refine Txt.text_done (by kernel_rfl) ?_) | (go_at_call 10; (with_reducible refine (rest_at HOP (by decide) (by decide)).mono ?_); rintro e w' ⟨rfl, rfl⟩))
                go_wp2_with (first | (with_reducible refine Txt.wp_region_text mixed quiet (by decide +kernel) ?_) | (with_reducible refine Txt.text_done (by kernel_rfl) ?_) | (go_at_call 10; (with_reducible refine (rest_at HOP (by decide) (by decide)).mono ?_); rintro e w' ⟨rfl, rfl⟩) | (go_at_call 10; (with_reducible refine (rest_at HQR (by decide) (by decide)).mono ?_); rintro e w' ⟨rfl, rfl⟩) | (go_at_call 13; (with_reducible refine HSET.out.mono ?_); rintro e w5 ⟨rfl, hrc, hnk⟩; have HRC5 := Lib.hid hrc; have HNK5 := Lib.hid ((HNX.out.trans (NK.ofKeep ((Keep.refl [] _).drew))).trans hnk); clear hrc hnk))
                exact ⟨⟨r + 1, SN, by omega, by go_num, HRC5, HSN, HNK5⟩, by simp [intOf]; omega⟩
            · have hi1 : (qi : Int) < (k : Int) := by omega
              have hi0 : (0 : Int) ≤ (qi : Int) := by omega
              by_cases h4 : op = 3
              · subst h4
                have HDR := Lib.hid (drop14_any HRX.out hqk (let5 ql) ⟨hlo, by omega⟩)
                rw [HSS.out] at HDR
                have HSN : Hid (SOk k (upd st' qi (dropR (st' qi) (let5 ql))) ((r : Int) + 1)) := Lib.hid ((HS'.out.mono (by omega)).upd (HROK.out.drop (by omega) (let5 ql)) (HNZ.out.drop HLN.out))
                obtain ⟨SN, hsn⟩ : ∃ SN, upd st' qi (dropR (st' qi) (let5 ql)) = SN := ⟨_, rfl⟩
                rw [hsn] at HDR HSN
                clear hsn
                have c8 := HC8.out
                go_wp2_with (first | (with_reducible refine Txt.wp_region_text mixed quiet (by decide +kernel) ?_) | (with_reducible refine Txt.text_done (by kernel_rfl) ?_) | (go_at_call 10; (with_reducible refine (rest_at HOP (by decide) (by decide)).mono ?_); rintro e w' ⟨rfl, rfl⟩) | (go_at_call 10; (with_reducible refine (rest_at HQR (by decide) (by decide)).mono ?_); rintro e w' ⟨rfl, rfl⟩) | (go_at_call 14; (with_reducible refine HDR.out.mono ?_); rintro e w5 ⟨rfl, hrc, hnk⟩; have HRC5 := Lib.hid hrc; have HNK5 := Lib.hid (HNX.out.trans hnk); clear hrc hnk))
                exact ⟨⟨r + 1, SN, by omega, by go_num, HRC5, HSN, HNK5⟩, by simp [intOf]; omega⟩
              · have o0 : ((op : Int) == 0) = false := by rw [beq_eq_false_iff_ne]; omega
                have o1 : ((op : Int) == 1) = false := by rw [beq_eq_false_iff_ne]; omega
                have o2 : ((op : Int) == 2) = false := by rw [beq_eq_false_iff_ne]; omega
                have o3 : ((op : Int) == 3) = false := by rw [beq_eq_false_iff_ne]; omega
                have c8 := HC8.out
                have c9 := HPX.out _ HNX.out qj hqj'
                have HST := Lib.hid (state12_any HRX.out hqj')
                obtain ⟨hrok2, hnz2⟩ := HS'.out qj hqj'
                have HOK2 := Lib.hid hrok2.ok
                have hhi2 := hrok2.hi
                have HSN : Hid (SOk k (upd st' qi (mergeR (st' qi) (st' qj).f)) ((r : Int) + 1)) := Lib.hid (((HS'.out).upd (HROK.out.merge (hrok2.ok.mono hrok2.hi)) (HNZ.out.merge hnz2)).mono (by omega))
                obtain ⟨SN, hsn⟩ : ∃ SN, upd st' qi (mergeR (st' qi) (st' qj).f) = SN := ⟨_, rfl⟩
                have hcb : (st' qj).count ≤ 1000000 := by omega
                have HME : Hid (∀ w7 v7, Keep [] wc w7 → w7.ownsRow wc.heap.size 40 4 v7 (rows (st' qj).f).length ((rows (st' qj).f).flatMap rc) → ∃ a7 m7 c7, v7 = .slice a7 m7 c7 ∧ Calls Try.prog 11 #[.pointer (some ⟨ps qi, 0, none⟩), .slice a7 m7 c7] w7 fun e w' => e = .returned (.int .i64 0) ∧ RC w k ps SN w' ∧ NK w7 w') := Lib.hid (fun w7 v7 hk7 ho7 => by
                  obtain ⟨a7, c7, rfl, hv7, -⟩ := EltV.ofOwn rc_len (by decide) ho7
                  refine ⟨a7, _, c7, rfl, ?_⟩
                  have h9 := merge11_any (HRX.out.kept hk7) hqk hv7 HOK2.out hcb
                  rw [hsn] at h9
                  exact h9)
                rw [hsn] at HSN
                have hj1 : (qj : Int) < (k : Int) := by omega
                have hj0 : (0 : Int) ≤ (qj : Int) := by omega
                clear hrok2 hnz2 hsn hcb hhi2
                have HKD : Hid (∀ w7, Keep [] wc.drew w7 → Keep [] wc w7) := Lib.hid (fun w7 hk7 => ((Keep.refl [] wc).drew).trans hk7)
                have HST' : Hid (Calls Try.prog 12 #[.pointer (some ⟨ps qj, 0, none⟩)] wc.drew fun e w' => ∃ v, e = .returned v ∧ Keep [] wc w' ∧ ∃ a7 m7 c7, v = .slice a7 m7 c7 ∧ Hid (Calls Try.prog 11 #[.pointer (some ⟨ps qi, 0, none⟩), .slice a7 m7 c7] w' fun e w2 => e = .returned (.int .i64 0) ∧ RC w k ps SN w2 ∧ NK w' w2)) := Lib.hid ((state12_any (HRX.out.kept ((Keep.refl [] _).drew)) hqj').mono (by
                  rintro e w7 ⟨v7, rfl, hk7, ho7⟩
                  obtain ⟨a7, m7, c7, h1, h2⟩ := HME.out w7 v7 (HKD.out _ hk7) ho7
                  exact ⟨v7, rfl, HKD.out _ hk7, a7, m7, c7, h1, Lib.hid h2⟩))
                have HCX : Hid (∀ w7, Keep [] wc w7 → w7.cell? ⟨g, qi, none⟩ = some (.pointer (some ⟨ps qi, 0, none⟩))) := Lib.hid (fun w7 hk7 => HPX.out _ (HNX.out.trans (NK.ofKeep hk7)) qi hqk)
                clear HST HME HKD
                have HQJ2 : Hid (restI (IntKind.i64.wrap (z.tdiv 512)) k = qj) := Lib.hid (by have h9 := HQJ.out; unfold wrap64 at h9; rw [IntKind.wrap_i64]; exact h9)
                go_upto_region 15 with (first | (with_reducible refine Txt.wp_region_text mixed quiet (by decide +kernel) ?_) | (with_reducible refine Txt.text_done (by kernel_rfl) ?_) | (go_at_call 10; (with_reducible refine (rest_at HOP (by decide) (by decide)).mono ?_); rintro e w' ⟨rfl, rfl⟩))
                go_region_law (first | (go_simp; go_at_call 10; (with_reducible refine (rest_at HQJ2 hkp hkm).mono ?_); rintro e6 w6 ⟨rfl, rfl⟩) | (go_simp; go_at_call 12; (with_reducible refine HST'.out.mono ?_); rintro e6 w7 ⟨v7, rfl, hk7, a7, m7, c7, rfl, HME7⟩; have HK7 := Lib.hid hk7; have c8' := HCX.out _ hk7; clear hk7) | (go_simp; go_at_call 11; (with_reducible refine HME7.out.mono ?_); rintro e6 w8 ⟨rfl, hrc, hnk⟩; have HRC5 := Lib.hid hrc; have HNK5 := Lib.hid ((HNX.out.trans (NK.ofKeep HK7.out)).trans hnk); clear hrc hnk))
                all_goals
                  go_wp2_with fail
                  exact ⟨⟨r + 1, SN, by omega, by go_num, HRC5, HSN, HNK5⟩, by simp [intOf]; omega⟩
        · obtain rfl : r = N := by omega
          have hdec2 : decide ((r : Int) < (r : Int)) = false := by simp
          go_wp2_with (first | (with_reducible refine Txt.wp_region_text mixed quiet (by decide +kernel) ?_) | (with_reducible refine Txt.text_done (by kernel_rfl) ?_))
          go_ret2
          exact ⟨_, ps, st', rfl, HR'.out, HNK.out.own (by decide) HO.out, HS'.out.mono (by omega)⟩
end Go.Proofs.Ytfgdgdjdlnchlaa
/- Names: namesBegun; telling. -/
namespace Go.Proofs.Ytfgdgdjdlnchlaa
open Go.RowKit
open Go.Nm
theorem register9_at {w : World} {ap : Option Addr} {len cap : Nat} {zs : List Int} (n : Nat) (N : Int) (hN : N = (n : Int)) (hn1 : 1 ≤ n) (hn : n ≤ 4) (hv : IntsV w ap len cap zs) :
    Calls Try.prog 9 #[.int .i64 N, .slice ap len cap] w fun e w' => ∃ (v : Value) (ps : Nat → Nat) (st : Nat → Reg), e = .returned (.tuple #[v, .bool true]) ∧ RC w n ps st w' ∧ w'.ownsRow w.heap.size 28 1 v n ((List.range n).map (fun i => ptr (ps i))) ∧ SOk n st 150 := by
  subst hN
  exact register9_any n hn1 hn hv
theorem told {w0 w : World} {n : Nat} {ps : Nat → Nat} {st : Nat → Reg} (h : RC w0 n ps st w) {j : Nat} (hj : j < n) {B : Int} (hok : MOk (st j).f B) (hB : B ≤ 1000000) :
    Calls Try.prog 12 #[.pointer (some ⟨ps j, 0, none⟩)] w fun e w' => ∃ (a : Option Addr) (m c : Nat), e = .returned (.slice a m c) ∧ Keep [] w w' ∧ Hid (RC w0 n ps st w') ∧ Hid (w'.ownsRow w.heap.size 40 4 (.slice a m c) m ((rows (st j).f).flatMap rc)) ∧ Hid (EltV rc 4 w' a m c (rows (st j).f)) ∧
      Hid (∀ i, i < n → Calls Try.prog 11 #[.pointer (some ⟨ps i, 0, none⟩), .slice a m c] w' fun e w2 => e = .returned (.int .i64 0) ∧ RC w0 n ps (upd st i (mergeR (st i) (st j).f)) w2 ∧ NK w' w2) := by
  refine (state12_any h hj).mono ?_
  rintro e w' ⟨v, rfl, hk, ho⟩
  obtain ⟨a, c, rfl, hv, -⟩ := EltV.ofOwn rc_len (by decide) ho
  exact ⟨a, _, c, rfl, hk, Lib.hid (h.kept hk), Lib.hid ho, Lib.hid hv, Lib.hid (fun i hi => merge11_any (h.kept hk) hi hv hok hB)⟩
theorem ptrsAt {WL w' : World} {B k g c : Nat} {ps : Nat → Nat} (ho : WL.ownsRow B 28 1 (.slice (some ⟨g, 0, none⟩) k c) k ((List.range k).map (fun i => ptr (ps i)))) (hn : NK WL w') : ∀ i, i < k → w'.cell? ⟨g, i, none⟩ = some (.pointer (some ⟨ps i, 0, none⟩)) := fun i hi => by
  obtain ⟨a', c', he', -, -, hl'⟩ := own_ptrs (hn.own (by decide) ho)
  injection he' with he' _ _
  obtain ⟨g', hg', hc'⟩ := hl' (by omega)
  rw [← he'] at hg'
  injection hg' with hg'
  injection hg' with hg' _ _
  rw [hg']
  exact hc' i hi
theorem foundW (r : Reg) (k : Fin 7) {ref : Int} (h : 0 < ref := by decide) : findR ((Ytfgdgdjdlnchlaa.wr r k ref).f k) = (ref, 0) := by
  unfold Ytfgdgdjdlnchlaa.wr setF findR
  simp [h]
set_option maxRecDepth 100000 in
set_option maxHeartbeats 2000000 in
theorem begun8_any {w : World} : Calls Try.prog 8 #[] w fun e w' => e = .returned (.bool true) ∧ Keep [] w w' := by
  have HREG := Lib.hid (register9_at (w := w) (ap := none) (len := 0) (cap := 0) (zs := []) 1 1 rfl (by decide) (by decide) ⟨rfl, Nat.le_refl _, Nat.zero_le _, (fun z hz => absurd hz List.not_mem_nil), fun h => absurd h (by decide)⟩)
  have hnm : encStr (nm 1) = .string ⟨#[97, 98]⟩ := rfl
  go_enter Try.func8, Try.ntmps8
  go_wp2_with (first | (with_reducible refine Txt.wp_region_text mixed quiet (by decide +kernel) ?_) | (with_reducible refine Txt.text_done (by kernel_rfl) ?_) | (go_at_call 9; (with_reducible refine HREG.out.mono ?_); rintro e w1 ⟨v, ps, st, rfl, hrc, ho, hs⟩; obtain ⟨a, c, rfl, hc1, hc2, hcell⟩ := own_ptrs ho; obtain ⟨g, rfl, hg⟩ := hcell (by decide); have c0 := hg 0 (by decide); have HRC := Lib.hid hrc; have hro := (hs 0 (by decide)).1; have hlo := hro.lo; have hhi := hro.hi; have hset := set13_any hrc (i := 0) (by decide) 1 7 ⟨hlo, (by omega)⟩ (by decide); rw [hnm] at hset; have HSET := Lib.hid hset; have HOO := Lib.hid ho; have HKP := Lib.hid hrc.keep; clear hg hcell hrc ho hs hro hlo hhi hset) | (go_at_call 13; (with_reducible refine HSET.out.mono ?_); rintro e w2 ⟨rfl, hrc, hnk⟩; have HRC2 := Lib.hid hrc; have c0' := ptrsAt HOO.out hnk 0 (by decide); have hf := find15_any hrc (i := 0) (by decide) 1; rw [hnm, upd_same, foundW] at hf; have HF := Lib.hid hf; clear hrc hnk hf) | (go_at_call 15; (with_reducible refine HF.out.mono ?_); rintro e w3 ⟨rfl, hk3⟩; have HK3 := Lib.hid hk3; clear hk3))
  go_ret
  exact ⟨rfl, HRC2.out.keep.trans HK3.out⟩
end Go.Proofs.Ytfgdgdjdlnchlaa
/- NamesAgree. -/
namespace Go.Proofs.Ytfgdgdjdlnchlaa
open Go.RowKit
open Go.Nm
structure AInv (f0 : Nat → F) (J : F) (r x y : Nat) (st : Nat → Reg) : Prop where
  up : ∀ i, i < 4 → Le (st i).f J
  own : ∀ i, i < 4 → Le (f0 i) (st i).f
  all : ∀ i j, i < 4 → j < 4 → (1 ≤ r ∨ i < x ∨ (i = x ∧ j < y)) → Le (f0 j) (st i).f
def J4 (f : Nat → F) : F := Nm.merge (Nm.merge (f 0) (f 1)) (Nm.merge (f 2) (f 3))
theorem le_J4 (f : Nat → F) : ∀ i, i < 4 → Le (f i) (J4 f) := fun i hi => by
  unfold J4
  obtain rfl | rfl | rfl | rfl : i = 0 ∨ i = 1 ∨ i = 2 ∨ i = 3 := by omega
  · exact (Le.left _ _).trans (Le.left _ _)
  · exact (Le.right _ _).trans (Le.left _ _)
  · exact (Le.left _ _).trans (Le.right _ _)
  · exact (Le.right _ _).trans (Le.right _ _)
theorem J4_le {f : Nat → F} {g : F} (h : ∀ i, i < 4 → Le (f i) g) : Le (J4 f) g :=
  ((h 0 (by decide)).merge (h 1 (by decide))).merge ((h 2 (by decide)).merge (h 3 (by decide)))
theorem AInv.start (f0 : Nat → Reg) : AInv (fun i => (f0 i).f) (J4 fun i => (f0 i).f) 0 0 0 f0 :=
  ⟨fun i hi => le_J4 (fun i => (f0 i).f) i hi, fun i _ => Le.refl _, fun i j _ _ h => by omega⟩
theorem AInv.step {f0 : Nat → F} {J : F} {r x y : Nat} {st : Nat → Reg} (h : AInv f0 J r x y st) (hx : x < 4) (hy : y < 4) : AInv f0 J r x (y + 1) (upd st x (mergeR (st x) (st y).f)) := by
  refine ⟨fun i hi => ?_, fun i hi => ?_, fun i j hi hj hc => ?_⟩
  · by_cases e : i = x
    · subst e
      rw [upd_same]
      exact (h.up i hi).merge (h.up y hy)
    · rw [upd_other e]; exact h.up i hi
  · by_cases e : i = x
    · subst e
      rw [upd_same]
      exact (h.own i hi).trans (Le.left _ _)
    · rw [upd_other e]; exact h.own i hi
  · by_cases e : i = x
    · subst e
      rw [upd_same]
      by_cases ej : j = y
      · subst ej
        exact (h.own j hj).trans (Le.right _ _)
      · exact (h.all i j hi hj (by omega)).trans (Le.left _ _)
    · rw [upd_other e]; exact h.all i j hi hj (by omega)
theorem AInv.row {f0 : Nat → F} {J : F} {r x : Nat} {st : Nat → Reg} (h : AInv f0 J r x 4 st) : AInv f0 J r (x + 1) 0 st :=
  ⟨h.up, h.own, fun i j hi hj hc => h.all i j hi hj (by omega)⟩
theorem AInv.round {f0 : Nat → F} {J : F} {r : Nat} {st : Nat → Reg} (h : AInv f0 J r 4 0 st) : AInv f0 J (r + 1) 0 0 st :=
  ⟨h.up, h.own, fun i j hi hj _ => h.all i j hi hj (by omega)⟩
theorem AInv.done {f0 : Nat → F} {r : Nat} {st : Nat → Reg} (h : AInv f0 (J4 f0) r 0 0 st) (hr : 1 ≤ r) : ∀ i, i < 4 → (st i).f = J4 f0 := fun i hi =>
  Le.antisymm (h.up i hi) (J4_le (fun j hj => h.all i j hi hj (.inl hr)))
theorem SOk.told {n : Nat} {st : Nat → Reg} {B : Int} (h : SOk n st B) {i j : Nat} (hi : i < n) (hj : j < n) : SOk n (Go.upd st i (mergeR (st i) (st j).f)) B :=
  h.upd ((h i hi).1.merge ((h j hj).1.ok.mono (h j hj).1.hi)) ((h i hi).2.merge (h j hj).2)
set_option maxRecDepth 100000 in
set_option maxHeartbeats 8000000 in
theorem namesAgree_walk (ap : Option Addr) (len cap : Nat) (zs : List Int) (w : World) (hz : IntsV w ap len cap zs) :
    Calls Try.prog 4 #[.slice ap len cap] w fun e w' => e = .returned (.bool true) ∧ Keep [] w w' := by
  have HZ := Lib.hid hz
  clear hz
  go_enter Try.func4, Try.ntmps4
  go_wp2_with (first | (with_reducible refine Txt.wp_region_text mixed quiet (by decide +kernel) ?_) | (with_reducible refine Txt.text_done (by kernel_rfl) ?_) | (go_at_call 8; (with_reducible refine begun8_any.mono ?_); rintro e w1 ⟨rfl, hk1⟩; have HK1 := Lib.hid hk1; clear hk1) | (go_at_call 9; (with_reducible refine (register9_at 4 4 rfl (by decide) (by decide) (HZ.out.keep HK1.out (by simp))).mono ?_); rintro e w2 ⟨v, ps, st0, rfl, hrc, ho, hs⟩; obtain ⟨a, c, rfl, hc1, hc2, hcell⟩ := own_ptrs ho; obtain ⟨g, rfl, -⟩ := hcell (by decide); have HRC := Lib.hid hrc; have HO := Lib.hid ho; have HS := Lib.hid hs; clear hcell hrc ho hs))
  go_loopw [20] (fun j wr => ∃ (r : Nat) (st : Nat → Reg), r ≤ 2 ∧ j = .int .i64 r ∧ Hid (RC w1 4 ps st wr) ∧ Hid (SOk 4 st 150) ∧ Hid (NK w2 wr) ∧ Hid (AInv (fun i => (st0 i).f) (J4 fun i => (st0 i).f) r 0 0 st)) (fun j _ => 2 - (intOf j).toNat)
  case atStart => exact ⟨0, st0, by omega, rfl, HRC, HS, Lib.hid (NK.refl _), Lib.hid (AInv.start _)⟩
  case round =>
    obtain ⟨r, st, hr, rfl, HR, HSO, HNK, HA⟩ := hrel
    by_cases hlt : r < 2
    · have hdec : decide ((r : Int) < 2) = true := by simp; omega
      go_wp2_with (first | (with_reducible refine Txt.wp_region_text mixed quiet (by decide +kernel) ?_) | (with_reducible refine Txt.text_done (by kernel_rfl) ?_))
      go_loopw [24] (fun j wr => ∃ (x : Nat) (st : Nat → Reg), x ≤ 4 ∧ j = .int .i64 x ∧ Hid (RC w1 4 ps st wr) ∧ Hid (SOk 4 st 150) ∧ Hid (NK w2 wr) ∧ Hid (AInv (fun i => (st0 i).f) (J4 fun i => (st0 i).f) r x 0 st)) (fun j _ => 4 - (intOf j).toNat)
      case atStart => exact ⟨0, st, by omega, rfl, HR, HSO, HNK, HA⟩
      case round =>
        obtain ⟨x, st, hx, rfl, HR, HSO, HNK, HA⟩ := hrel
        by_cases hxt : x < 4
        · have hdecx : decide ((x : Int) < 4) = true := by simp; omega
          have cx := ptrsAt HO.out HNK.out x hxt
          go_wp2_with (first | (with_reducible refine Txt.wp_region_text mixed quiet (by decide +kernel) ?_) | (with_reducible refine Txt.text_done (by kernel_rfl) ?_))
          go_loopw [30] (fun j wr => ∃ (y : Nat) (st : Nat → Reg), y ≤ 4 ∧ j = .int .i64 y ∧ Hid (RC w1 4 ps st wr) ∧ Hid (SOk 4 st 150) ∧ Hid (NK w2 wr) ∧ Hid (AInv (fun i => (st0 i).f) (J4 fun i => (st0 i).f) r x y st)) (fun j _ => 4 - (intOf j).toNat)
          case atStart => exact ⟨0, st, by omega, rfl, HR, HSO, HNK, HA⟩
          case round =>
            obtain ⟨y, st, hy, rfl, HR, HSO, HNK, HA⟩ := hrel
            by_cases hyt : y < 4
            · have hdecy : decide ((y : Int) < 4) = true := by simp; omega
              have cy := ptrsAt HO.out HNK.out y hyt
              have HT := Lib.hid (told HR.out hyt (HSO.out y hyt).1.ok (Int.le_trans (HSO.out y hyt).1.hi (by decide)))
              go_wp2_with (first | (with_reducible refine Txt.wp_region_text mixed quiet (by decide +kernel) ?_) | (with_reducible refine Txt.text_done (by kernel_rfl) ?_) | (go_at_call 12; (with_reducible refine HT.out.mono ?_); rintro e w3 ⟨a3, m3, c3, rfl, hk3, HR3, HO3, HV3, HM3⟩; have HMX := Lib.hid (HM3.out x hxt); have HK3 := Lib.hid hk3; clear hk3) | (go_at_call 11; (with_reducible refine HMX.out.mono ?_); rintro e w4 ⟨rfl, hrc4, hnk4⟩; have HRC4 := Lib.hid hrc4; have HNK4 := Lib.hid ((HNK.out.trans (NK.ofKeep HK3.out)).trans hnk4); clear hrc4 hnk4))
              exact ⟨⟨y + 1, _, by omega, by go_num, HRC4, Lib.hid (HSO.out.told hxt hyt), HNK4, Lib.hid (HA.out.step hxt hyt)⟩, by simp [intOf]; omega⟩
            · obtain rfl : y = 4 := by omega
              go_wp2_with (first | (with_reducible refine Txt.wp_region_text mixed quiet (by decide +kernel) ?_) | (with_reducible refine Txt.text_done (by kernel_rfl) ?_))
              exact ⟨⟨x + 1, st, by omega, by go_num, HR, HSO, HNK, Lib.hid HA.out.row⟩, by simp [intOf]; omega⟩
        · obtain rfl : x = 4 := by omega
          go_wp2_with (first | (with_reducible refine Txt.wp_region_text mixed quiet (by decide +kernel) ?_) | (with_reducible refine Txt.text_done (by kernel_rfl) ?_))
          exact ⟨⟨r + 1, st, by omega, by go_num, HR, HSO, HNK, Lib.hid HA.out.round⟩, by simp [intOf]; omega⟩
    · have hdec : decide ((r : Int) < 2) = false := by simp; omega
      have HALL := Lib.hid (HA.out.done (by omega))
      clear hr hlt
      go_wp2_with (first | (with_reducible refine Txt.wp_region_text mixed quiet (by decide +kernel) ?_) | (with_reducible refine Txt.text_done (by kernel_rfl) ?_))
      go_loopw [44] (fun j wr => ∃ (i : Nat), i ≤ 4 ∧ j = .int .i64 i ∧ Hid (RC w1 4 ps st wr) ∧ Hid (NK w2 wr)) (fun j _ => 4 - (intOf j).toNat)
      case atStart => exact ⟨0, by omega, rfl, HR, HNK⟩
      case round =>
        obtain ⟨i, hi, rfl, HR, HNK⟩ := hrel
        by_cases hit : i < 4
        · have hdeci : decide ((i : Int) < 4) = true := by simp; omega
          have ci := ptrsAt HO.out HNK.out i hit
          have c0 := ptrsAt HO.out HNK.out 0 (by decide)
          have HT := Lib.hid (fun W (hk : Keep [] wr W) => told (HR.out.kept hk) hit (HSO.out i hit).1.ok (Int.le_trans (HSO.out i hit).1.hi (by decide)))
          have HT0 := Lib.hid (fun W (hk : Keep [] wr W) => told (HR.out.kept hk) (j := 0) (by decide) (HSO.out 0 (by decide)).1.ok (Int.le_trans (HSO.out 0 (by decide)).1.hi (by decide)))
          have HEQ : Hid (decide (rows (st i).f = rows (st 0).f) = true) := Lib.hid (decide_eq_true (by rw [HALL.out i hit, HALL.out 0 (by decide)]))
          go_upto_region 22 with (first | (with_reducible refine Txt.wp_region_text mixed quiet (by decide +kernel) ?_) | (with_reducible refine Txt.text_done (by kernel_rfl) ?_))
          go_region_law (first | (go_simp; go_at_call 12; (with_reducible refine (HT.out _ ((Keep.refl [] wr).drew)).mono ?_); rintro e3 w3 ⟨a3, m3, c3, rfl, hk3, HR3, HO3, HV3, HM3⟩; have HK3 := Lib.hid (((Keep.refl [] wr).drew).trans hk3); have c0' := ptrsAt HO.out (HNK.out.trans (NK.ofKeep HK3.out)) 0 (by decide); clear hk3 HM3) | (go_simp; go_at_call 12; (with_reducible refine (HT0.out _ HK3.out).mono ?_); rintro e4 w4 ⟨a4, m4, c4, rfl, hk4, HR4, HO4, HV4, HM4⟩; have HK4 := Lib.hid (HK3.out.trans hk4); have HV3' := Lib.hid (HV3.out.keep rc_len hk4 (by simp)); clear hk4) | (go_simp; go_at_call 16; (with_reducible refine (equal16_any HV3'.out HV4.out).mono ?_); rintro e5 w5 ⟨rfl, hk5⟩; rw [HEQ.out]; have HK5 := Lib.hid (HK4.out.trans hk5); clear hk5))
          all_goals
            go_wp2_with fail
            exact ⟨⟨i + 1, by omega, by go_num, Lib.hid (HR.out.kept HK5.out), Lib.hid (HNK.out.trans (NK.ofKeep HK5.out))⟩, by simp [intOf]; omega⟩
        · obtain rfl : i = 4 := by omega
          go_wp2_with (first | (with_reducible refine Txt.wp_region_text mixed quiet (by decide +kernel) ?_) | (with_reducible refine Txt.text_done (by kernel_rfl) ?_))
          go_ret
          exact ⟨rfl, HK1.out.trans HR.out.keep⟩
end Go.Proofs.Ytfgdgdjdlnchlaa
