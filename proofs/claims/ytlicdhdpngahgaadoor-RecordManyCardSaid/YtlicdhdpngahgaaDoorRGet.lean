/- record.Get: the patches, the transactions, the pages that were changed. -/
import Derived.Test.YtlicdhdpngahgaaDoorParse
set_option linter.unusedVariables false
set_option linter.unusedSimpArgs false
namespace Go.Proofs.YtlicdhdpngahgaaDoor
open Go.Eng Go.RowKit
theorem T_pats : SlT Tryd.prog 25 39 (.agg #[.int .i64 0, .int .i64 0, .string ⟨#[]⟩]) 3 32 := ⟨by kernel_rfl, by kernel_rfl, rfl, by decide⟩
theorem T_txs : SlT Tryd.prog 26 41 (.agg #[.int .i64 0, .int .i64 0, .bool false, .slice none 0 0]) 4 48 := ⟨by kernel_rfl, by kernel_rfl, rfl, by decide⟩
theorem T_dirts : SlT Tryd.prog 27 74 (.agg #[.int .i64 0, .int .i64 0]) 2 16 := ⟨by kernel_rfl, by kernel_rfl, rfl, by decide⟩
theorem U_pats : Tryd.prog.underlying 25 = some (.slice 39) := by kernel_rfl
theorem U_txs : Tryd.prog.underlying 26 = some (.slice 41) := by kernel_rfl
theorem U_dirts : Tryd.prog.underlying 27 = some (.slice 74) := by kernel_rfl
theorem Gt.other {w0 w w' : World} {a0 t2 g t4 t5 t9 q : Nat} {s : Rd} {cs : Array Value} (h : Gt w0 w a0 t2 g t4 t5 t9 s cs) (ho : Only q w w') (hq : a0 ≤ q) : Gt w0 w' a0 t2 g t4 t5 t9 s cs :=
  h.far (ho.below _ (by have := h.lo2; have := h.log; have := h.lo4; have := h.lo5; have := h.lo9; have := h.lo0; omega)) fun p o hp e => by rw [ho.other p (by omega)]; exact e
theorem Gt.g0 {w0 w : World} {a0 t2 g t4 t5 t9 : Nat} {s : Rd} {cs : Array Value} (h : Gt w0 w a0 t2 g t4 t5 t9 s cs) : g < a0 ∧ t9 < a0 ∧ w0.heap.size ≤ a0 := by
  have := h.lo2; have := h.log; have := h.lo4; have := h.lo5; have := h.lo9; have := h.lo0
  omega
theorem set_set {cs : Array Value} {i : Nat} {u v : Value} : (cs.setIfInBounds i u).setIfInBounds i v = cs.setIfInBounds i v := by
  apply Array.ext_getElem?
  intro j
  simp only [Array.getElem?_setIfInBounds, Array.size_setIfInBounds]
  split <;> rfl
theorem cnt_of {s : Rd} : ∃ n : Nat, s.num.1 = (n : Int) ∧ n ≤ 65535 := ⟨s.num.1.toNat, by have := s.num_lt; omega, by have := s.num_lt; omega⟩
/-- The pages that were changed. -/
theorem Get_L33 {w0 w : World} {a0 a1 t2 g t4 t5 t9 : Nat} {t0 : Value} {s : Rd} {cs : Array Value} {k : Value → World → Prop} (h : Gt w0 w a0 t2 g t4 t5 t9 s cs) (hl : s.b.length ≤ 1000000000) (ha : a0 ≤ a1) (ha1 : a1 = w.heap.size) (hc : cs[13]? = some (.slice none 0 0))
    (hk : ∀ v w', Gt w0 w' a0 t2 g t4 t5 t9 (s.rep2 Rd.dirt).2 (cs.setIfInBounds 13 v) → Tail a0 w w' → w'.ownsRow a1 74 2 v (s.rep2 Rd.dirt).1.length (dx (s.rep2 Rd.dirt).1) → record_Get_J38 k [t0, .pointer (some ⟨t2, 0, none⟩), .pointer (some ⟨t4, 0, none⟩), .pointer (some ⟨t9, 0, none⟩)] w') :
    record_Get_J32 k [t0, .pointer (some ⟨t2, 0, none⟩), .pointer (some ⟨t4, 0, none⟩), .pointer (some ⟨t5, 0, none⟩), rLong g, .pointer (some ⟨t9, 0, none⟩)] w := by
  simp only [record_Get_J32, iw_add, iw_sub, iw_mul, iw_lss, iw_leq, iw_gtr, iw_geq, iw_eql, iw_neq, iw_quo, iw_rem, un_not, len_s, len_l, nck_p, fld_p, cv_i, unc_c, ex_0, ex_1, ex_2, st_eq, st_ne, brV_true, brV_false, brV_b, brV_not, one_one, nil_p, nil_pn, nil_n, nil_nn, decide_eq_true_eq, true_and, nb_ite, bs_size, Nat.zero_add, Bool.not_true, Bool.not_false, Bool.false_eq_true, eq_self, if_true, if_false, jn]
  obtain ⟨hg0, ht9, hw0⟩ := h.g0
  refine ldC_heap h.b5 (v := rNum g) rfl (h.num hl fun w1 h1 ho1 => ?_)
  obtain ⟨n, hn, hn6⟩ := cnt_of (s := s)
  have hsn : s.rep2 Rd.dirt = rep Rd.dirt n s.num.2 := by unfold Rd.rep2; rw [hn, Int.toNat_natCast]
  rw [hn]
  have hle := num_le s
  have hs1 := ho1.size
  have hc0 : cs.setIfInBounds 13 (.slice none 0 0) = cs := by
    apply Array.ext_getElem?
    intro j
    rw [Array.getElem?_setIfInBounds]
    by_cases hj : 13 = j
    · subst hj; rw [if_pos rfl, hc]; simp [h.size]
    · rw [if_neg hj]
  refine lp_ind _ (fun (m : Nat) x w2 => ∃ (o : Value) (out : List (Int × Int)) (s2 : Rd), x = [t0, .pointer (some ⟨t2, 0, none⟩), .pointer (some ⟨t4, 0, none⟩), .pointer (some ⟨t5, 0, none⟩), rLong g, .pointer (some ⟨t9, 0, none⟩), .int .i64 (m : Int)] ∧ m ≤ n ∧ s2.b.length ≤ s.b.length ∧ s.rep2 Rd.dirt = (out ++ (rep Rd.dirt m s2).1, (rep Rd.dirt m s2).2) ∧ out.length + m ≤ 65535 ∧ Gt w0 w2 a0 t2 g t4 t5 t9 s2 (cs.setIfInBounds 13 o) ∧ Tail a0 w w2 ∧ w2.ownsRow a1 74 2 o out.length (dx out)) id ?_ (i := n)
    ⟨.slice none 0 0, [], s.num.2, rfl, Nat.le_refl _, hle, by rw [hsn]; simp, by simp; omega, by rw [hc0]; exact h1, Tail.only ho1 hg0, by simpa [dx] using World.ownsRow_nil w1 a1 74 2⟩
  rintro m x w2 rec ⟨o, out, s2, rfl, hm, hs2, heq, hlen, h2, htl, hrow⟩ ih
  simp only [record_Get_L33, iw_add, iw_sub, iw_mul, iw_lss, iw_leq, iw_gtr, iw_geq, iw_eql, iw_neq, iw_quo, iw_rem, un_not, len_s, len_l, nck_p, fld_p, cv_i, unc_c, ex_0, ex_1, ex_2, st_eq, st_ne, brV_true, brV_false, brV_b, brV_not, one_one, nil_p, nil_pn, nil_n, nil_nn, decide_eq_true_eq, true_and, nb_ite, bs_size, Nat.zero_add, Bool.not_true, Bool.not_false, Bool.false_eq_true, eq_self, if_true, if_false, jn, jn]
  by_cases h0 : m = 0
  · subst h0
    rw [if_neg (by decide)]
    have : s.rep2 Rd.dirt = (out, s2) := by rw [heq]; simp [rep]
    rw [this] at hk
    exact hk o w2 h2 htl hrow
  obtain ⟨m, rfl⟩ : ∃ q, m = q + 1 := ⟨m - 1, by omega⟩
  rw [if_pos (by omega)]
  refine ldC_heap h2.b4 (v := .pointer (some ⟨g, 0, none⟩)) rfl (rbad_from h2.rd ?_)
  simp only [iw_add, iw_sub, iw_mul, iw_lss, iw_leq, iw_gtr, iw_geq, iw_eql, iw_neq, iw_quo, iw_rem, un_not, len_s, len_l, nck_p, fld_p, cv_i, unc_c, ex_0, ex_1, ex_2, st_eq, st_ne, brV_true, brV_false, brV_b, brV_not, one_one, nil_p, nil_pn, nil_n, nil_nn, decide_eq_true_eq, true_and, nb_ite, bs_size, Nat.zero_add, Bool.not_true, Bool.not_false, Bool.false_eq_true, eq_self, if_true, if_false, jn]
  by_cases hb : s2.bad = true
  · have : s.rep2 Rd.dirt = (out, s2) := by rw [heq, rep_bad hb]; simp
    rw [if_pos hb]
    rw [this] at hk
    exact hk o w2 h2 htl hrow
  rw [if_neg hb]
  have hs2w := htl.1
  refine ldC_heap h2.b5 (v := rNum g) rfl (h2.num (by omega) fun w3 h3 ho3 => ?_)
  have hle3 := num_le s2
  have hs3 := ho3.size
  simp only [fillL, Instr.fill, Value.cells]
  refine al_lit fun q w4 hL4 hq4 hqs => ?_
  refine stN_heap hq4 rfl rfl (by simp [isCell]) fun w5 hq5 hs5 hb5 ho5 => ?_
  have hs4 := hL4.size
  have hL5 : Later w3 w5 := hL4.trans (hb5 _ (by omega))
  have h5 := h3.later hL5
  have ha0 := h.a0le
  refine h5.long (by omega) fun w6 h6 ho6 => ?_
  have hs6 := ho6.size
  have hs55 := hL5.size
  have hq6 : w6.heap[q]? = some (.cells #[.int .i64 s2.num.1, .int .i64 0] 74 (0, 0)) := by rw [ho6.other q (by omega)]; exact hq5
  simp only [iw_add, iw_sub, iw_mul, iw_lss, iw_leq, iw_gtr, iw_geq, iw_eql, iw_neq, iw_quo, iw_rem, un_not, len_s, len_l, nck_p, fld_p, cv_i, unc_c, ex_0, ex_1, ex_2, st_eq, st_ne, brV_true, brV_false, brV_b, brV_not, one_one, nil_p, nil_pn, nil_n, nil_nn, decide_eq_true_eq, true_and, nb_ite, bs_size, Nat.zero_add, Bool.not_true, Bool.not_false, Bool.false_eq_true, eq_self, if_true, if_false, jn]
  refine stC_heap hq6 (by simp) rfl fun w7 hq7 ho7 => ?_
  have h7 := h6.other ho7 (by omega)
  have hs7 := ho7.size
  have hq7' : w7.heap[q]? = some (.cells #[.int .i64 s2.num.1, .int .i64 s2.num.2.long.1] 74 (0, 0)) := by simpa using hq7
  have ht7 : Tail a0 w2 w7 := ⟨by omega, fun p h1 h2 => by rw [ho7.other p (by omega), ho6.other p (by omega), hL5.block p (by omega), ho3.other p (by omega)]⟩
  have hr7 := ht7.row hrow ha
  refine ldC_heap h7.b9 (v := o) (by simp [h.size]) ?_
  refine ldN_heap hq7' rfl ?_
  refine blS_lit (dx [s2.dirt.1]).toArray (by simp [Instr.fill, Value.cells, dx, Rd.dirt]; apply Array.ext'; simp [List.range, List.range.loop]) rfl (by decide) fun v8 w8 hL8 hr8 hb8 => ?_
  have hs8 := hL8.size
  refine app T_dirts (hL8.row hr7) ((lst_row hr8).src U_dirts (by simp) (by decide) (dx_one _)) (by simp only [maxLen]; omega) (by omega) (by omega) fun v9 w9 hr9 hg9 hat9 _ => ?_
  have hs9 := hg9.size
  have hob : ∀ q, o.ownBlock = some q → a1 ≤ q ∧ q < w7.heap.size := fun q hq => hr7.lt q hq
  have h8 := h7.later hL8
  have h9 : Gt w0 w9 a0 t2 g t4 t5 t9 _ (cs.setIfInBounds 13 o) := h8.far ((Below.refl _ w8).grown hg9 (by omega) fun q hq => by have := (hob q hq).1; omega) fun q o' hq ho' => by
    rw [hg9.block q (lt_of_heap ho') (fun e => by have := (hob q e.symm).1; omega)]; exact ho'
  refine h9.set (by decide) (row_cell' hr9) fun w10 h10 ho10 => ?_
  rw [set_set] at h10
  have hs10 := ho10.size
  rw [wrap64 (by omega) (by omega)]
  have hv9 : ∀ q, v9.ownBlock = some q → a1 ≤ q := fun q hq => (hr9.lt q hq).1
  refine ih m _ _ (by simp) ⟨v9, out ++ [s2.dirt.1], s2.dirt.2, by rw [show ((m + 1 : Nat) : Int) - 1 = (m : Int) by omega], by omega, Nat.le_trans (dirt_le s2) hs2, ?_, by simp; omega, h10, ⟨by omega, fun p h1 h2 => ?_⟩, ?_⟩
  · rw [heq, rep_ok hb]
    simp
  · rw [ho10.other p (by omega), hg9.block p (by omega) (fun e => by have := (hob p e.symm).1; omega), hL8.block p (by omega), ht7.2 p h1 (by omega), htl.2 p h1 h2]
  · refine ownsRow_block (w := w9) ?_ fun q hq => ho10.other q (by have := hv9 q hq; omega)
    rw [List.length_append, dx_append]
    exact hr9
end Go.Proofs.YtlicdhdpngahgaaDoor
