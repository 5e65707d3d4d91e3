/- record.Get: the transactions, the patches. -/
import Derived.Test.YtlicdhdpngahgaaDoorRGet
set_option linter.unusedVariables false
set_option linter.unusedSimpArgs false
namespace Go.Proofs.YtlicdhdpngahgaaDoor
open Go.Eng Go.RowKit
theorem set_nil {cs : Array Value} {i : Nat} (hs : cs.size = 14) (hi : i < 14) (h : cs[i]? = some (.slice none 0 0)) : cs.setIfInBounds i (.slice none 0 0) = cs := by
  apply Array.ext_getElem?
  intro j
  rw [Array.getElem?_setIfInBounds]
  by_cases hj : i = j
  · subst hj; rw [if_pos rfl, h]; simp [hs, hi]
  · rw [if_neg hj]
/-- The transactions: their lists of pages are ps. -/
theorem Get_L25 {w0 w : World} {a0 a1 t2 g t4 t5 t9 : Nat} {t0 : Value} {s : Rd} {cs : Array Value} {k : Value → World → Prop} (h : Gt w0 w a0 t2 g t4 t5 t9 s cs) (hl : s.b.length ≤ 1000000000) (ha : a0 ≤ a1) (ha1 : a1 = w.heap.size) (hc : cs[12]? = some (.slice none 0 0))
    (hk : ∀ v ps w', Gt w0 w' a0 t2 g t4 t5 t9 (s.rep2 Rd.txi).2 (cs.setIfInBounds 12 v) → Tail a0 w w' → w'.ownsRow a1 41 4 v (s.rep2 Rd.txi).1.length (vx ps (s.rep2 Rd.txi).1) → ps.length = (s.rep2 Rd.txi).1.length →
      (∀ (i : Nat) (x : Txi), (s.rep2 Rd.txi).1[i]? = some x → ∃ u, ps[i]? = some u ∧ w'.ownsRow a1 3 1 u x.pages.length (ix x.pages) ∧ ∀ q, u.ownBlock = some q → v.ownBlock ≠ some q) →
      record_Get_J32 k [t0, .pointer (some ⟨t2, 0, none⟩), .pointer (some ⟨t4, 0, none⟩), .pointer (some ⟨t5, 0, none⟩), rLong g, .pointer (some ⟨t9, 0, none⟩)] w') :
    record_Get_J24 k [t0, .pointer (some ⟨t2, 0, none⟩), .pointer (some ⟨t4, 0, none⟩), .pointer (some ⟨t5, 0, none⟩), rLong g, rNums t5 t4, .pointer (some ⟨t9, 0, none⟩)] w := by
  simp only [record_Get_J24, iw_add, iw_sub, iw_mul, iw_lss, iw_leq, iw_gtr, iw_geq, iw_eql, iw_neq, iw_quo, iw_rem, un_not, len_s, len_l, nck_p, fld_p, cv_i, unc_c, ex_0, ex_1, ex_2, st_eq, st_ne, brV_true, brV_false, brV_b, brV_not, one_one, nil_p, nil_pn, nil_n, nil_nn, decide_eq_true_eq, true_and, nb_ite, bs_size, Nat.zero_add, Bool.not_true, Bool.not_false, Bool.false_eq_true, eq_self, if_true, if_false, jn]
  obtain ⟨hg0, ht9, hw0⟩ := h.g0
  refine ldC_heap h.b5 (v := rNum g) rfl (h.num hl fun w1 h1 ho1 => ?_)
  obtain ⟨n, hn, hn6⟩ := cnt_of (s := s)
  have hsn : s.rep2 Rd.txi = rep Rd.txi n s.num.2 := by unfold Rd.rep2; rw [hn, Int.toNat_natCast]
  rw [hn]
  have hle := num_le s
  have hs1 := ho1.size
  refine lp_ind _ (fun (m : Nat) x w2 => ∃ (o : Value) (ps : List Value) (out : List Txi) (s2 : Rd), x = [t0, .pointer (some ⟨t2, 0, none⟩), .pointer (some ⟨t4, 0, none⟩), .pointer (some ⟨t5, 0, none⟩), rLong g, rNums t5 t4, .pointer (some ⟨t9, 0, none⟩), .int .i64 (m : Int)] ∧ m ≤ n ∧ s2.b.length ≤ s.b.length ∧ s.rep2 Rd.txi = (out ++ (rep Rd.txi m s2).1, (rep Rd.txi m s2).2) ∧ out.length + m ≤ 65535 ∧ Gt w0 w2 a0 t2 g t4 t5 t9 s2 (cs.setIfInBounds 12 o) ∧ Tail a0 w w2 ∧ w2.ownsRow a1 41 4 o out.length (vx ps out) ∧ ps.length = out.length ∧
      (∀ (i : Nat) (x : Txi), out[i]? = some x → ∃ u, ps[i]? = some u ∧ w2.ownsRow a1 3 1 u x.pages.length (ix x.pages) ∧ ∀ q, u.ownBlock = some q → o.ownBlock ≠ some q)) id ?_ (i := n)
    ⟨.slice none 0 0, [], [], s.num.2, rfl, Nat.le_refl _, hle, by rw [hsn]; simp, by simp; omega, by rw [set_nil h.size (by decide) hc]; exact h1, Tail.only ho1 hg0, by simpa [vx] using World.ownsRow_nil w1 a1 41 4, rfl, by simp⟩
  rintro m x w2 rec ⟨o, ps, out, s2, rfl, hm, hs2, heq, hlen, h2, htl, hrow, hpl, hps⟩ ih
  simp only [record_Get_L25, iw_add, iw_sub, iw_mul, iw_lss, iw_leq, iw_gtr, iw_geq, iw_eql, iw_neq, iw_quo, iw_rem, un_not, len_s, len_l, nck_p, fld_p, cv_i, unc_c, ex_0, ex_1, ex_2, st_eq, st_ne, brV_true, brV_false, brV_b, brV_not, one_one, nil_p, nil_pn, nil_n, nil_nn, decide_eq_true_eq, true_and, nb_ite, bs_size, Nat.zero_add, Bool.not_true, Bool.not_false, Bool.false_eq_true, eq_self, if_true, if_false, jn, jn]
  by_cases h0 : m = 0
  · subst h0
    rw [if_neg (by decide)]
    have : s.rep2 Rd.txi = (out, s2) := by rw [heq]; simp [rep]
    rw [this] at hk
    exact hk o ps w2 h2 htl hrow hpl hps
  obtain ⟨m, rfl⟩ : ∃ q, m = q + 1 := ⟨m - 1, by omega⟩
  rw [if_pos (by omega)]
  refine ldC_heap h2.b4 (v := .pointer (some ⟨g, 0, none⟩)) rfl (rbad_from h2.rd ?_)
  simp only [iw_add, iw_sub, iw_mul, iw_lss, iw_leq, iw_gtr, iw_geq, iw_eql, iw_neq, iw_quo, iw_rem, un_not, len_s, len_l, nck_p, fld_p, cv_i, unc_c, ex_0, ex_1, ex_2, st_eq, st_ne, brV_true, brV_false, brV_b, brV_not, one_one, nil_p, nil_pn, nil_n, nil_nn, decide_eq_true_eq, true_and, nb_ite, bs_size, Nat.zero_add, Bool.not_true, Bool.not_false, Bool.false_eq_true, eq_self, if_true, if_false, jn]
  by_cases hb : s2.bad = true
  · have : s.rep2 Rd.txi = (out, s2) := by rw [heq, rep_bad hb]; simp
    rw [if_pos hb]
    rw [this] at hk
    exact hk o ps w2 h2 htl hrow hpl hps
  rw [if_neg hb]
  have hs2w := htl.1
  refine ldC_heap h2.b5 (v := rNum g) rfl (h2.num (by omega) fun w3 h3 ho3 => ?_)
  have hle3 := num_le s2
  have hs3 := ho3.size
  simp only [fillL, Instr.fill, Value.cells]
  refine al_lit fun q w4 hL4 hq4 hqs => ?_
  refine stN_heap hq4 rfl rfl (by simp [isCell]) fun w5 hq5 hs5 hb5 ho5 => ?_
  have hs4 := hL4.size
  have hL5 : Later w3 w5 := hL4.trans (hb5 _ (by omega))
  have h5 := h3.later hL5
  have ha0 := h.a0le
  have hs55 := hL5.size
  refine h5.long (by omega) fun w6 h6 ho6 => ?_
  have hle6 := long_le s2.num.2
  have hs6 := ho6.size
  have hq6 : w6.heap[q]? = some (.cells #[.int .i64 s2.num.1, .int .i64 0, .bool false, .slice none 0 0] 41 (0, 0)) := by rw [ho6.other q (by omega)]; exact hq5
  simp only [iw_add, iw_sub, iw_mul, iw_lss, iw_leq, iw_gtr, iw_geq, iw_eql, iw_neq, iw_quo, iw_rem, un_not, len_s, len_l, nck_p, fld_p, cv_i, unc_c, ex_0, ex_1, ex_2, st_eq, st_ne, brV_true, brV_false, brV_b, brV_not, one_one, nil_p, nil_pn, nil_n, nil_nn, decide_eq_true_eq, true_and, nb_ite, bs_size, Nat.zero_add, Bool.not_true, Bool.not_false, Bool.false_eq_true, eq_self, if_true, if_false, jn]
  refine stC_heap hq6 (by simp) rfl fun w7 hq7 ho7 => ?_
  have h7 := h6.other ho7 (by omega)
  have hs7 := ho7.size
  refine ldC_heap h7.b5 (v := rNum g) rfl (h7.num (by omega) fun w8 h8 ho8 => ?_)
  have hle8 := num_le s2.num.2.long.2
  have hs8 := ho8.size
  have hq8 : w8.heap[q]? = some (.cells #[.int .i64 s2.num.1, .int .i64 s2.num.2.long.1, .bool false, .slice none 0 0] 41 (0, 0)) := by rw [ho8.other q (by omega)]; simpa using hq7
  simp only [iw_add, iw_sub, iw_mul, iw_lss, iw_leq, iw_gtr, iw_geq, iw_eql, iw_neq, iw_quo, iw_rem, un_not, len_s, len_l, nck_p, fld_p, cv_i, unc_c, ex_0, ex_1, ex_2, st_eq, st_ne, brV_true, brV_false, brV_b, brV_not, one_one, nil_p, nil_pn, nil_n, nil_nn, decide_eq_true_eq, true_and, nb_ite, bs_size, Nat.zero_add, Bool.not_true, Bool.not_false, Bool.false_eq_true, eq_self, if_true, if_false, jn]
  refine stC_heap hq8 (by simp) rfl fun w9 hq9 ho9 => ?_
  have h9 := h8.other ho9 (by omega)
  have hs9 := ho9.size
  refine h9.nums (by omega) fun u w10 h10 ht10 hru => ?_
  have hle10 := nums_le s2.num.2.long.2.num.2
  have hcn10 := nums_cnt s2.num.2.long.2.num.2
  have hs10 := ht10.1
  have hqlt := lt_of_heap hq9
  have hq10 : w10.heap[q]? = some (.cells #[.int .i64 s2.num.1, .int .i64 s2.num.2.long.1, .bool (decide (s2.num.2.long.2.num.1 = 1)), .slice none 0 0] 41 (0, 0)) := by rw [ht10.2 q (by omega) (by omega)]; simpa using hq9
  refine stC_heap hq10 (by simp) (row_cell' hru) fun w11 hq11 ho11 => ?_
  have h11 := h10.other ho11 (by omega)
  have hs11 := ho11.size
  have hq11' : w11.heap[q]? = some (.cells #[.int .i64 s2.num.1, .int .i64 s2.num.2.long.1, .bool (decide (s2.num.2.long.2.num.1 = 1)), u] 41 (0, 0)) := by simpa using hq11
  have ht11 : Tail a0 w2 w11 := ⟨by omega, fun p h1 h2 => by rw [ho11.other p (by omega), ht10.2 p h1 (by omega), ho9.other p (by omega), ho8.other p (by omega), ho7.other p (by omega), ho6.other p (by omega), hL5.block p (by omega), ho3.other p (by omega)]⟩
  have hru11 : w11.ownsRow w9.heap.size 3 1 u s2.txi.1.pages.length (ix s2.txi.1.pages) := ownsRow_block hru fun p hp => ho11.other p (by have := (hru.lt p hp).1; omega)
  have hr11 := ht11.row hrow ha
  refine ldC_heap h11.b9 (v := o) (by simp [h.size]) ?_
  refine ldN_heap hq11' rfl ?_
  refine blS_lit (vx [u] [s2.txi.1]).toArray (by simp [Instr.fill, Value.cells, vx, Rd.txi]; apply Array.ext'; simp [List.range, List.range.loop]) rfl (by decide) fun v12 w12 hL12 hr12 hb12 => ?_
  have hs12 := hL12.size
  have hone : ∀ x ∈ vx [u] [s2.txi.1], x.oneCell' = true := by
    intro x hx
    simp only [vx, List.mem_cons, List.not_mem_nil, or_false] at hx
    rcases hx with rfl | rfl | rfl | rfl
    · rfl
    · rfl
    · rfl
    · rcases hru.2 with ⟨e, _⟩ | ⟨_, _, _, e, _⟩ <;> (rw [e]; rfl)
  have hvl : (vx [u] [s2.txi.1]).length = 1 * 4 := rfl
  refine app T_txs (hL12.row hr11) ((lst_row hr12).src U_txs hvl (by decide) hone) (by simp only [maxLen]; omega) (by omega) (by omega) fun v13 w13 hr13 hg13 hat13 _ => ?_
  have hs13 := hg13.size
  have hob : ∀ q, o.ownBlock = some q → a1 ≤ q ∧ q < w2.heap.size := fun q hq => hrow.lt q hq
  have h12 := h11.later hL12
  have h13 : Gt w0 w13 a0 t2 g t4 t5 t9 _ (cs.setIfInBounds 12 o) := h12.far ((Below.refl _ w12).grown hg13 (by omega) fun q hq => by have := (hob q hq).1; omega) fun q o' hq ho' => by
    rw [hg13.block q (lt_of_heap ho') (fun e => by have := (hob q e.symm).1; omega)]; exact ho'
  refine h13.set (by decide) (row_cell' hr13) fun w14 h14 ho14 => ?_
  rw [set_set] at h14
  have hs14 := ho14.size
  rw [wrap64 (by omega) (by omega)]
  have hv13 : ∀ q, v13.ownBlock = some q → a1 ≤ q ∧ (o.ownBlock = some q ∨ w12.heap.size ≤ q) := fun q hq => by
    refine ⟨(hr13.lt q hq).1, ?_⟩
    rcases hat13 with e | e
    · rw [e] at hq; exact .inl hq
    · rw [hq] at e; injection e with e; exact .inr (by omega)
  have hkeep : ∀ (x : Value) (xs : List Value) (n : Nat), w2.ownsRow a1 3 1 x n xs → (∀ q, x.ownBlock = some q → o.ownBlock ≠ some q) → w14.ownsRow a1 3 1 x n xs := fun x xs n hx hne => ownsRow_block hx fun q hq => by
    have hq1 := hx.lt q hq
    rw [ho14.other q (by omega), hg13.block q (by omega) (fun e => hne q hq e.symm), hL12.block q (by omega), ht11.2 q (by omega) hq1.2]
  refine ih m _ _ (by simp) ⟨v13, ps ++ [u], out ++ [s2.txi.1], s2.txi.2, by rw [show ((m + 1 : Nat) : Int) - 1 = (m : Int) by omega], by omega, Nat.le_trans (txi_le s2) hs2, ?_, by simp; omega, h14, ⟨by omega, fun p h1 h2 => ?_⟩, ?_, by simp [hpl], fun i x hx => ?_⟩
  · rw [heq, rep_ok hb]
    simp
  · rw [ho14.other p (by omega), hg13.block p (by omega) (fun e => by have := (hob p e.symm).1; omega), hL12.block p (by omega), ht11.2 p h1 (by omega), htl.2 p h1 h2]
  · refine ownsRow_block (w := w13) ?_ fun q hq => ho14.other q (by have := (hv13 q hq).1; omega)
    rw [List.length_append, vx_append _ _ _ _ hpl]
    exact hr13
  · by_cases hi : i < out.length
    · rw [List.getElem?_append_left hi] at hx
      obtain ⟨u', hu', hru', hne'⟩ := hps i x hx
      refine ⟨u', by rw [List.getElem?_append_left (by omega)]; exact hu', hkeep _ _ _ hru' hne', fun q hq e => ?_⟩
      rcases (hv13 q e).2 with e2 | e2
      · exact hne' q hq e2
      · have := (hru'.lt q hq).2; omega
    · rw [List.getElem?_append_right (by omega)] at hx
      have hi0 : i - out.length = 0 := by
        rcases Nat.eq_zero_or_pos (i - out.length) with h0 | h0
        · exact h0
        · rw [List.getElem?_eq_none (by simp; omega)] at hx; cases hx
      rw [hi0] at hx
      injection hx with hx
      subst hx
      refine ⟨u, by rw [List.getElem?_append_right (by omega), hpl, hi0]; rfl, ownsRow_mono (B := w9.heap.size) (by omega) (ownsRow_block hru11 fun q hq => ?_), fun q hq e => ?_⟩
      · have h1 := hru11.lt q hq
        rw [ho14.other q (by omega), hg13.block q (by omega) (fun e => by have := (hob q e.symm).2; omega), hL12.block q (by omega)]
      · have h1 := hru11.lt q hq
        rcases (hv13 q e).2 with e2 | e2
        · have := (hob q e2).2; omega
        · omega
end Go.Proofs.YtlicdhdpngahgaaDoor
