/- Texts laid together: R20. -/
import Derived.Test.YtfcellgjbbfobaaMg11
/- append(s[:n:n], x...): a new row, the old one stays. -/
namespace Go
open Go.RowKit
section
variable {P : Program} {w w' : World} {base e size n : Nat} {v : Value} {xs : List Value}
theorem wpList_append_capped {ops : Array Oper} {rest : List Oper} {o : Oper} {a : Act} {Q : Exit → Act → World → Prop} (hgd : o.guard = none) (s x : Operand) (t : TypeId)
    (ho : o.op = .call { callee := .builtin .append, args := #[s, x], argTypes := #[t, t] })
    (base : Nat) (e : TypeId) (i : TypeInfo) (z : Value) (size bytes : Nat) (ht : P.underlying t = some (.slice e)) (hi : P.info? e = some i) (hz : i.zero = some z)
    (hsize : i.size = size) (hby : i.bytes = bytes) (hzs : z.cells.size = size) (hsz : 0 < size)
    (av : Option Addr) (n cap : Nat) (xs : List Value) (hs : a.eval s = .slice av n n) (hown : w.ownsRow base e size (.slice av n cap) n xs)
    (ad : Addr) (m c : Nat) (news : List Value) (hx : a.eval x = .slice (some ad) m c) (hl : news.length = m * size) (hnews : ∀ j u, news[j]? = some u → w.cell? (ad.add j) = some u) (h1 : ∀ u ∈ news, u.oneCell' = true)
    (hm : 0 < m) (h63 : n + m ≤ maxLen) (hbytes : (n + m) * bytes ≤ 140737488355328)
    (h : ∀ g' c' w', w'.ownsRow w.heap.size e size (.slice (some ⟨g', 0, none⟩) (n + m) c') (n + m) (xs ++ news) → Keep [] w w' → wpList P ops Q rest (a.put o.dst (.slice (some ⟨g', 0, none⟩) (n + m) c')) w') : wpList P ops Q (o :: rest) a w := by
  have hxl := hown.1
  rcases hown.2 with ⟨hnil, h0⟩ | ⟨g, cap', cur, hv, hb, hg, hnc, hcm, hcs, htk⟩
  · injection hnil with hav _ _
    subst hav
    subst h0
    have hxs : xs = [] := List.eq_nil_of_length_eq_zero (by rw [hxl]; simp)
    subst hxs
    refine wpList_append_any hgd s x t ho w.heap.size e i z size bytes ht hi hz hsize hby hzs hsz (.slice none 0 0) 0 [] hs (World.ownsRow_nil _ _ _ _) (some ad) m c news hx hl (fun _ => ⟨ad, rfl, hnews⟩) h1 h63 hbytes (Nat.le_refl _) ?_
    intro a' c' w' ho' hg' hat
    have hk : Keep [] w w' := Keep.ofGrown hg' (fun k hk => by cases hk)
    rcases ho'.2 with ⟨_, h9⟩ | ⟨g', c2, _, hv', _⟩
    · omega
    · cases hv'
      exact h g' c' w' ho' hk
  · injection hv with hav hn2 hc2
    subst hav
    refine wpList_plain hgd fun K hK => ?_
    subst hsize
    subst hby
    have hsmall : n + m ≤ 9223372036854775807 := by simp only [maxLen] at h63; omega
    have hlen : (xs ++ news).length = (n + m) * i.size := by rw [List.length_append, hxl, hl, Nat.add_mul]
    have hcell : ∀ j u, xs[j]? = some u → w.cell? ((⟨g, 0, none⟩ : Addr).add j) = some u := fun j u hu => by
      rw [Addr.add_mid, Nat.zero_add, cell_of_row w g j cur e (0, 0) hg]
      have hj : j < n * i.size := by rw [← hxl]; exact (List.getElem?_eq_some_iff.1 hu).1
      rw [← htk, List.getElem?_take_of_lt hj, Array.getElem?_toList] at hu
      exact hu
    have hr := run_append_grow (P := P) w t o.type e i z ht hi hz ⟨g, 0, none⟩ n n xs hxl hcell ad m c news hl hnews (by omega) (by omega) (growslice_fits (by omega) hbytes)
    have hge := grownCap_ge w (n + m) n e
    have hcm2 : grownCap w (n + m) n e ≤ maxLen := grownCap_le_maxLen w (n + m) n e h63
    unfold Oper.wp execOp
    simp only [ho, resolve, invoke, builtin, Sem.run_bind, Sem.run_pure, Result.andThen_ok, List.map_toArray, List.map_cons, List.map_nil, hs, hx, hr]
    refine hK _ _ (h _ _ _ ⟨hlen, .inr ⟨w.heap.size, _, _, rfl, Nat.le_refl _, blk_new w.drew _, hge, hcm2, ?_, ?_⟩⟩ (((Keep.refl [] w).drew).alloc _))
    · simp only [Array.size_append, List.size_toArray, size_zeroCells, hzs, hxl, hl, ← Nat.add_mul]
      congr 1
      omega
    · simp only [Array.toList_append, List.append_assoc]
      rw [← List.append_assoc, ← hlen]
      exact List.take_left
end
end Go
