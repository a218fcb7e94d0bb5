import Derived.Test.YtmdfkbckpekchaaRst
namespace Go.Proofs.Ytmdfkbckpekchaa
open Go.RowKit
abbrev i64 (n : Int) : Value := .int .i64 n
def storeC (value epoch rej : Int) : Array Value := #[.int .i64 value, .int .i64 epoch, .int .i64 rej]
def leaseC (now epoch node till : Int) : Array Value := #[.int .i64 now, .int .i64 epoch, .int .i64 node, .int .i64 till]

set_option maxHeartbeats 400000 in
theorem newStore_any (w : World) : Calls Try.prog 19 #[] w fun e w' => e = .returned (.pointer (some ⟨w.heap.size, 0, none⟩)) ∧ w' = w.alloc (.cells #[.int .i64 0, .int .i64 0, .int .i64 0] 61) := by
  go_enter Try.func19, Try.ntmps19
  go_wp2_with (first | (with_reducible refine Txt.wp_region_text mixed quiet (by kernel_rfl) ?_) | (with_reducible refine Txt.text_done (by kernel_rfl) ?_) | go_in)
  go_ret
  exact ⟨rfl, rfl⟩
set_option maxHeartbeats 400000 in
theorem get_any {b : Nat} {value epoch rej : Int} {T : TypeId} {w : World} (hb : w.heap[b]? = some (.cells (storeC value epoch rej) T (0, 0))) :
    Calls Try.prog 22 #[.pointer (some ⟨b, 0, none⟩)] w fun e w' => e = .returned (.tuple #[.int .i64 value, .int .i64 epoch, .int .i64 rej]) ∧ Keep [] w w' := by
  obtain ⟨h0, h1, h2, hf⟩ := row3 hb
  clear hb
  go_enter Try.func22, Try.ntmps22
  go_wp2_with (first | (with_reducible refine Txt.wp_region_text mixed quiet (by kernel_rfl) ?_) | (with_reducible refine Txt.text_done (by kernel_rfl) ?_) | go_in)
  go_ret3
  exact ⟨rfl, (Keep.refl _ _).drew⟩
set_option maxHeartbeats 400000 in
theorem put_low {b : Nat} {value epoch rej e v : Int} {T : TypeId} {w : World} (hb : w.heap[b]? = some (.cells (storeC value epoch rej) T (0, 0))) (he : 1 ≤ e) (hlt : e < epoch) (hr : 0 ≤ rej) (hr' : rej ≤ 1000000) :
    Calls Try.prog 21 #[.pointer (some ⟨b, 0, none⟩), .int .i64 e, .int .i64 v] w fun en w' => en = .returned (.int .i64 23) ∧ Keep [b] w w' ∧ w'.heap[b]? = some (.cells (storeC value epoch (rej + 1)) T (0, 0)) := by
  obtain ⟨h0, h1, h2, hf⟩ := row3 hb
  have HB := Lib.hid hb
  clear hb
  go_enter Try.func21, Try.ntmps21
  go_wp2_with (first | (with_reducible refine Txt.wp_region_text mixed quiet (by kernel_rfl) ?_) | (with_reducible refine Txt.text_done (by kernel_rfl) ?_) | go_in)
  all_goals go_ret
  all_goals refine ⟨rfl, ?_, ?_⟩
  · repeat (first | exact Keep.refl _ _ | apply Keep.drew | apply Keep.alloc | refine Keep.setCell ?_ (by simp) _)
  · simp [HB.out, storeC]
set_option maxHeartbeats 400000 in
theorem put_high {b : Nat} {value epoch rej e v : Int} {T : TypeId} {w : World} (hb : w.heap[b]? = some (.cells (storeC value epoch rej) T (0, 0))) (he : 1 ≤ e) (hlt : epoch ≤ e) :
    Calls Try.prog 21 #[.pointer (some ⟨b, 0, none⟩), .int .i64 e, .int .i64 v] w fun en w' => en = .returned (.int .i64 0) ∧ Keep [b] w w' ∧ w'.heap[b]? = some (.cells (storeC v e rej) T (0, 0)) := by
  obtain ⟨h0, h1, h2, hf⟩ := row3 hb
  have HB := Lib.hid hb
  clear hb
  go_enter Try.func21, Try.ntmps21
  go_wp2_with (first | (with_reducible refine Txt.wp_region_text mixed quiet (by kernel_rfl) ?_) | (with_reducible refine Txt.text_done (by kernel_rfl) ?_) | go_in)
  all_goals go_ret
  all_goals refine ⟨rfl, ?_, ?_⟩
  · repeat (first | exact Keep.refl _ _ | apply Keep.drew | apply Keep.alloc | refine Keep.setCell ?_ (by simp) _)
  · simp [HB.out, storeC]
set_option maxHeartbeats 400000 in
theorem take_held {b : Nat} {now epoch node till : Int} {T : TypeId} {w : World} (hb : w.heap[b]? = some (.cells (leaseC now epoch node till) T (0, 0))) {n t : Int} (ha : 1 ≤ n) (hz : n ≤ 8) (ht : 1 ≤ t) (hu : t ≤ 1000) (hh : ¬ node = 0) (hl : now < till) :
    Calls Try.prog 24 #[.pointer (some ⟨b, 0, none⟩), .int .i64 n, .int .i64 t] w fun en w' => en = .returned (.tuple #[.int .i64 0, .int .i64 5]) ∧ Keep [] w w' := by
  obtain ⟨h0, h1, h2, h3, hf⟩ := row4 hb
  have HB := Lib.hid hb
  clear hb
  go_enter Try.func24, Try.ntmps24
  go_wp2_with (first | (with_reducible refine Txt.wp_region_text mixed quiet (by kernel_rfl) ?_) | (with_reducible refine Txt.text_done (by kernel_rfl) ?_) | go_in)
  all_goals go_ret2
  all_goals first | refine ⟨rfl, ?_⟩ | (exfalso; simp_all; done) | (exfalso; simp_all; omega)
  all_goals repeat (first | exact Keep.refl _ _ | apply Keep.drew | apply Keep.alloc | refine Keep.setCell ?_ (by simp) _)
set_option maxHeartbeats 400000 in
theorem take_free {b : Nat} {now epoch node till : Int} {T : TypeId} {w : World} (hb : w.heap[b]? = some (.cells (leaseC now epoch node till) T (0, 0))) {n t : Int} (ha : 1 ≤ n) (hz : n ≤ 8) (ht : 1 ≤ t) (hu : t ≤ 1000) (hn0 : 0 ≤ now) (hn1 : now ≤ 1000000) (he0 : 0 ≤ epoch) (he1 : epoch ≤ 1000000) (hh : node = 0 ∨ till ≤ now) :
    Calls Try.prog 24 #[.pointer (some ⟨b, 0, none⟩), .int .i64 n, .int .i64 t] w fun en w' => en = .returned (.tuple #[.int .i64 (epoch + 1), .int .i64 0]) ∧ Keep [b] w w' ∧ w'.heap[b]? = some (.cells (leaseC now (epoch + 1) n (now + t)) T (0, 0)) := by
  obtain ⟨h0, h1, h2, h3, hf⟩ := row4 hb
  have HB := Lib.hid hb
  clear hb
  go_enter Try.func24, Try.ntmps24
  go_wp2_with (first | (with_reducible refine Txt.wp_region_text mixed quiet (by kernel_rfl) ?_) | (with_reducible refine Txt.text_done (by kernel_rfl) ?_) | go_in)
  all_goals go_ret2
  all_goals first | refine ⟨rfl, ?_, ?_⟩ | (exfalso; simp_all; done) | (exfalso; simp_all; omega)
  all_goals first | (simp [HB.out, leaseC]; done) | (repeat (first | exact Keep.refl _ _ | apply Keep.drew | apply Keep.alloc | refine Keep.setCell ?_ (by simp) _))
set_option maxHeartbeats 400000 in
theorem keep_none {b : Nat} {now epoch node till : Int} {T : TypeId} {w : World} (hb : w.heap[b]? = some (.cells (leaseC now epoch node till) T (0, 0))) {n e t : Int} (ht : 1 ≤ t) (hu : t ≤ 1000) (hh : ¬ node = n) :
    Calls Try.prog 25 #[.pointer (some ⟨b, 0, none⟩), .int .i64 n, .int .i64 e, .int .i64 t] w fun en w' => en = .returned (.int .i64 4) ∧ Keep [] w w' := by
  obtain ⟨h0, h1, h2, h3, hf⟩ := row4 hb
  have HB := Lib.hid hb
  clear hb
  go_enter Try.func25, Try.ntmps25
  go_wp2_with (first | (with_reducible refine Txt.wp_region_text mixed quiet (by kernel_rfl) ?_) | (with_reducible refine Txt.text_done (by kernel_rfl) ?_) | go_in)
  all_goals go_ret
  all_goals first | refine ⟨rfl, ?_⟩ | (exfalso; simp_all; done) | (exfalso; simp_all; omega)
  all_goals repeat (first | exact Keep.refl _ _ | apply Keep.drew | apply Keep.alloc | refine Keep.setCell ?_ (by simp) _)
set_option maxHeartbeats 400000 in
theorem keep_gone {b : Nat} {now epoch node till : Int} {T : TypeId} {w : World} (hb : w.heap[b]? = some (.cells (leaseC now epoch node till) T (0, 0))) {t : Int} (ha : 1 ≤ node) (ht : 1 ≤ t) (hu : t ≤ 1000) (hl : till ≤ now) :
    Calls Try.prog 25 #[.pointer (some ⟨b, 0, none⟩), .int .i64 node, .int .i64 epoch, .int .i64 t] w fun en w' => en = .returned (.int .i64 23) ∧ Keep [] w w' := by
  obtain ⟨h0, h1, h2, h3, hf⟩ := row4 hb
  have HB := Lib.hid hb
  clear hb
  have hq : (node != 0) = true := by rw [bne_iff_ne]; omega
  go_enter Try.func25, Try.ntmps25
  go_wp2_with (first | (with_reducible refine Txt.wp_region_text mixed quiet (by kernel_rfl) ?_) | (with_reducible refine Txt.text_done (by kernel_rfl) ?_) | go_in)
  all_goals go_ret
  all_goals first | refine ⟨rfl, ?_⟩ | (exfalso; simp_all; done) | (exfalso; simp_all; omega)
  all_goals repeat (first | exact Keep.refl _ _ | apply Keep.drew | apply Keep.alloc | refine Keep.setCell ?_ (by simp) _)
set_option maxHeartbeats 400000 in
theorem keep_ok {b : Nat} {now epoch node till : Int} {T : TypeId} {w : World} (hb : w.heap[b]? = some (.cells (leaseC now epoch node till) T (0, 0))) {t : Int} (ha : 1 ≤ node) (ht : 1 ≤ t) (hu : t ≤ 1000) (hl : now < till) (hn0 : 0 ≤ now) (hn1 : now ≤ 1000000)  :
    Calls Try.prog 25 #[.pointer (some ⟨b, 0, none⟩), .int .i64 node, .int .i64 epoch, .int .i64 t] w fun en w' => en = .returned (.int .i64 0) ∧ Keep [b] w w' ∧ w'.heap[b]? = some (.cells (leaseC now epoch node (if till < now + t then now + t else till)) T (0, 0)) := by
  obtain ⟨h0, h1, h2, h3, hf⟩ := row4 hb
  have HB := Lib.hid hb
  clear hb
  have hq : (node != 0) = true := by rw [bne_iff_ne]; omega
  go_enter Try.func25, Try.ntmps25
  go_wp2_with (first | (with_reducible refine Txt.wp_region_text mixed quiet (by kernel_rfl) ?_) | (with_reducible refine Txt.text_done (by kernel_rfl) ?_) | go_in)
  all_goals go_ret
  all_goals first | refine ⟨rfl, ?_, ?_⟩ | (exfalso; simp_all; done) | (exfalso; simp_all; omega)
  all_goals first | (simp [HB.out, leaseC]; done) | (repeat (first | exact Keep.refl _ _ | apply Keep.drew | apply Keep.alloc | refine Keep.setCell ?_ (by simp) _))
set_option maxHeartbeats 400000 in
theorem leave_none {b : Nat} {now epoch node till : Int} {T : TypeId} {w : World} (hb : w.heap[b]? = some (.cells (leaseC now epoch node till) T (0, 0))) {n e : Int} (hh : ¬ node = n) :
    Calls Try.prog 26 #[.pointer (some ⟨b, 0, none⟩), .int .i64 n, .int .i64 e] w fun en w' => en = .returned (.int .i64 4) ∧ Keep [] w w' := by
  obtain ⟨h0, h1, h2, h3, hf⟩ := row4 hb
  have HB := Lib.hid hb
  clear hb
  go_enter Try.func26, Try.ntmps26
  go_wp2_with (first | (with_reducible refine Txt.wp_region_text mixed quiet (by kernel_rfl) ?_) | (with_reducible refine Txt.text_done (by kernel_rfl) ?_) | go_in)
  all_goals go_ret
  all_goals first | refine ⟨rfl, ?_⟩ | (exfalso; simp_all; done) | (exfalso; simp_all; omega)
  all_goals repeat (first | exact Keep.refl _ _ | apply Keep.drew | apply Keep.alloc | refine Keep.setCell ?_ (by simp) _)
set_option maxHeartbeats 400000 in
theorem leave_ok {b : Nat} {now epoch node till : Int} {T : TypeId} {w : World} (hb : w.heap[b]? = some (.cells (leaseC now epoch node till) T (0, 0))) (ha : 1 ≤ node) :
    Calls Try.prog 26 #[.pointer (some ⟨b, 0, none⟩), .int .i64 node, .int .i64 epoch] w fun en w' => en = .returned (.int .i64 0) ∧ Keep [b] w w' ∧ w'.heap[b]? = some (.cells (leaseC now epoch 0 till) T (0, 0)) := by
  obtain ⟨h0, h1, h2, h3, hf⟩ := row4 hb
  have HB := Lib.hid hb
  clear hb
  have hq : (node != 0) = true := by rw [bne_iff_ne]; omega
  go_enter Try.func26, Try.ntmps26
  go_wp2_with (first | (with_reducible refine Txt.wp_region_text mixed quiet (by kernel_rfl) ?_) | (with_reducible refine Txt.text_done (by kernel_rfl) ?_) | go_in)
  all_goals go_ret
  all_goals first | refine ⟨rfl, ?_, ?_⟩ | (exfalso; simp_all; done) | (exfalso; simp_all; omega)
  all_goals first | (simp [HB.out, leaseC]; done) | (repeat (first | exact Keep.refl _ _ | apply Keep.drew | apply Keep.alloc | refine Keep.setCell ?_ (by simp) _))
set_option maxHeartbeats 400000 in
theorem tick_ok {b : Nat} {now epoch node till : Int} {T : TypeId} {w : World} (hb : w.heap[b]? = some (.cells (leaseC now epoch node till) T (0, 0))) {n : Int} (ha : 0 ≤ n) (hz : n ≤ 1000) (hn0 : 0 ≤ now) (hn1 : now ≤ 1000000)  :
    Calls Try.prog 27 #[.pointer (some ⟨b, 0, none⟩), .int .i64 n] w fun en w' => en = .returned (.int .i64 0) ∧ Keep [b] w w' ∧ w'.heap[b]? = some (.cells (leaseC (now + n) epoch node till) T (0, 0)) := by
  obtain ⟨h0, h1, h2, h3, hf⟩ := row4 hb
  have HB := Lib.hid hb
  clear hb
  go_enter Try.func27, Try.ntmps27
  go_wp2_with (first | (with_reducible refine Txt.wp_region_text mixed quiet (by kernel_rfl) ?_) | (with_reducible refine Txt.text_done (by kernel_rfl) ?_) | go_in)
  all_goals go_ret
  all_goals first | refine ⟨rfl, ?_, ?_⟩ | (exfalso; simp_all; done) | (exfalso; simp_all; omega)
  all_goals first | (simp [HB.out, leaseC]; done) | (repeat (first | exact Keep.refl _ _ | apply Keep.drew | apply Keep.alloc | refine Keep.setCell ?_ (by simp) _))
set_option maxHeartbeats 400000 in
theorem who_held {b : Nat} {now epoch node till : Int} {T : TypeId} {w : World} (hb : w.heap[b]? = some (.cells (leaseC now epoch node till) T (0, 0))) (hn0 : 0 ≤ now) (hn1 : now ≤ 1000000) (ht : till ≤ 1000000) (hh : ¬ node = 0) (hl : now < till) :
    Calls Try.prog 28 #[.pointer (some ⟨b, 0, none⟩)] w fun en w' => en = .returned (.tuple #[.int .i64 node, .int .i64 epoch, .int .i64 (till - now)]) ∧ Keep [] w w' := by
  obtain ⟨h0, h1, h2, h3, hf⟩ := row4 hb
  have HB := Lib.hid hb
  clear hb
  go_enter Try.func28, Try.ntmps28
  go_wp2_with (first | (with_reducible refine Txt.wp_region_text mixed quiet (by kernel_rfl) ?_) | (with_reducible refine Txt.text_done (by kernel_rfl) ?_) | go_in)
  all_goals go_ret3
  all_goals first | refine ⟨rfl, ?_⟩ | (exfalso; simp_all; done) | (exfalso; simp_all; omega)
  all_goals repeat (first | exact Keep.refl _ _ | apply Keep.drew | apply Keep.alloc | refine Keep.setCell ?_ (by simp) _)
set_option maxHeartbeats 400000 in
theorem who_free {b : Nat} {now epoch node till : Int} {T : TypeId} {w : World} (hb : w.heap[b]? = some (.cells (leaseC now epoch node till) T (0, 0))) (hh : node = 0 ∨ till ≤ now) :
    Calls Try.prog 28 #[.pointer (some ⟨b, 0, none⟩)] w fun en w' => en = .returned (.tuple #[.int .i64 0, .int .i64 epoch, .int .i64 0]) ∧ Keep [] w w' := by
  obtain ⟨h0, h1, h2, h3, hf⟩ := row4 hb
  have HB := Lib.hid hb
  clear hb
  go_enter Try.func28, Try.ntmps28
  go_wp2_with (first | (with_reducible refine Txt.wp_region_text mixed quiet (by kernel_rfl) ?_) | (with_reducible refine Txt.text_done (by kernel_rfl) ?_) | go_in)
  all_goals go_ret3
  all_goals first | refine ⟨rfl, ?_⟩ | (exfalso; simp_all; done) | (exfalso; simp_all; omega)
  all_goals repeat (first | exact Keep.refl _ _ | apply Keep.drew | apply Keep.alloc | refine Keep.setCell ?_ (by simp) _)
set_option maxHeartbeats 400000 in
theorem newLease_any (w : World) : Calls Try.prog 23 #[] w fun e w' => e = .returned (.pointer (some ⟨w.heap.size, 0, none⟩)) ∧ w' = w.alloc (.cells (leaseC 0 0 0 0) 64) := by
  go_enter Try.func23, Try.ntmps23
  go_wp2_with (first | (with_reducible refine Txt.wp_region_text mixed quiet (by kernel_rfl) ?_) | (with_reducible refine Txt.text_done (by kernel_rfl) ?_) | go_in)
  go_ret
  exact ⟨rfl, rfl⟩
end Go.Proofs.Ytmdfkbckpekchaa
