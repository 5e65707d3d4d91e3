/- record.Get: the patches; the end. -/
import Derived.Test.YtlicdhdpngahgaaDoorRGetB
set_option linter.unusedVariables false
set_option linter.unusedSimpArgs false
namespace Go.Proofs.YtlicdhdpngahgaaDoor
open Go.Eng Go.RowKit
theorem Get_L17 {w0 w : World} {a0 a1 t2 g t4 t5 t9 n : Nat} {t0 : Value} {s : Rd} {cs : Array Value} {k : Value → World → Prop} (hn : s.num.1 = (n : Int)) (h : Gt w0 w a0 t2 g t4 t5 t9 s.num.2 cs) (hl : s.b.length ≤ 1000000000) (ha : a0 ≤ a1) (ha1 : a1 = w.heap.size) (hc : cs[11]? = some (.slice none 0 0))
    (hk : ∀ v w', Gt w0 w' a0 t2 g t4 t5 t9 (s.rep2 Rd.pat).2 (cs.setIfInBounds 11 v) → Tail a0 w w' → w'.ownsRow a1 39 3 v (s.rep2 Rd.pat).1.length (qx (s.rep2 Rd.pat).1) → record_Get_J24 k [t0, .pointer (some ⟨t2, 0, none⟩), .pointer (some ⟨t4, 0, none⟩), .pointer (some ⟨t5, 0, none⟩), rLong g, rNums t5 t4, .pointer (some ⟨t9, 0, none⟩)] w') :
    lp (record_Get_L17 k) [t0, .pointer (some ⟨t2, 0, none⟩), .pointer (some ⟨t4, 0, none⟩), .pointer (some ⟨t5, 0, none⟩), rLong g, rText g, rNums t5 t4, .pointer (some ⟨t9, 0, none⟩), .int .i64 s.num.1] w := by
  obtain ⟨hg0, ht9, hw0⟩ := h.g0
  rw [hn]
  have hsn : s.rep2 Rd.pat = rep Rd.pat n s.num.2 := by unfold Rd.rep2; rw [hn, Int.toNat_natCast]
  have hn6 : n ≤ 65535 := by have := s.num_lt; omega
  have hle := num_le s
  refine lp_ind _ (fun (m : Nat) x w2 => ∃ (o : Value) (out : List Pat) (s2 : Rd), x = [t0, .pointer (some ⟨t2, 0, none⟩), .pointer (some ⟨t4, 0, none⟩), .pointer (some ⟨t5, 0, none⟩), rLong g, rText g, rNums t5 t4, .pointer (some ⟨t9, 0, none⟩), .int .i64 (m : Int)] ∧ m ≤ n ∧ s2.b.length ≤ s.b.length ∧ s.rep2 Rd.pat = (out ++ (rep Rd.pat m s2).1, (rep Rd.pat m s2).2) ∧ out.length + m ≤ 65535 ∧ Gt w0 w2 a0 t2 g t4 t5 t9 s2 (cs.setIfInBounds 11 o) ∧ Tail a0 w w2 ∧ w2.ownsRow a1 39 3 o out.length (qx out)) id ?_ (i := n)
    ⟨.slice none 0 0, [], s.num.2, rfl, Nat.le_refl _, hle, by rw [hsn]; simp, by simp; omega, by rw [set_nil h.size (by decide) hc]; exact h, Tail.refl _ _, by simpa [qx] using World.ownsRow_nil w a1 39 3⟩
  rintro m x w2 rec ⟨o, out, s2, rfl, hm, hs2, heq, hlen, h2, htl, hrow⟩ ih
  simp only [record_Get_L17, iw_add, iw_sub, iw_mul, iw_lss, iw_leq, iw_gtr, iw_geq, iw_eql, iw_neq, iw_quo, iw_rem, un_not, len_s, len_l, nck_p, fld_p, cv_i, unc_c, ex_0, ex_1, ex_2, st_eq, st_ne, brV_true, brV_false, brV_b, brV_not, one_one, nil_p, nil_pn, nil_n, nil_nn, decide_eq_true_eq, true_and, nb_ite, bs_size, Nat.zero_add, Bool.not_true, Bool.not_false, Bool.false_eq_true, eq_self, if_true, if_false, jn, jn]
  by_cases h0 : m = 0
  · subst h0
    rw [if_neg (by decide)]
    have : s.rep2 Rd.pat = (out, s2) := by rw [heq]; simp [rep]
    rw [this] at hk
    exact hk o w2 h2 htl hrow
  obtain ⟨m, rfl⟩ : ∃ q, m = q + 1 := ⟨m - 1, by omega⟩
  rw [if_pos (by omega)]
  refine ldC_heap h2.b4 (v := .pointer (some ⟨g, 0, none⟩)) rfl (rbad_from h2.rd ?_)
  simp only [iw_add, iw_sub, iw_mul, iw_lss, iw_leq, iw_gtr, iw_geq, iw_eql, iw_neq, iw_quo, iw_rem, un_not, len_s, len_l, nck_p, fld_p, cv_i, unc_c, ex_0, ex_1, ex_2, st_eq, st_ne, brV_true, brV_false, brV_b, brV_not, one_one, nil_p, nil_pn, nil_n, nil_nn, decide_eq_true_eq, true_and, nb_ite, bs_size, Nat.zero_add, Bool.not_true, Bool.not_false, Bool.false_eq_true, eq_self, if_true, if_false, jn]
  by_cases hb : s2.bad = true
  · have : s.rep2 Rd.pat = (out, s2) := by rw [heq, rep_bad hb]; simp
    rw [if_pos hb]
    rw [this] at hk
    exact hk o w2 h2 htl hrow
  rw [if_neg hb]
  have hs2w := htl.1
  have ha0 := h.a0le
  refine al_lit fun q w4 hL4 hq4 hqs => ?_
  have hs4 := hL4.size
  have h4 := h2.later hL4
  have hqlt := lt_of_heap hq4
  refine ldC_heap h4.b5 (v := rNum g) rfl (h4.num (by omega) fun w5 h5 ho5 => ?_)
  have hle5 := num_le s2
  have hs5 := ho5.size
  have hq5 : w5.heap[q]? = some (.cells #[.int .i64 0, .int .i64 0, .string ⟨#[]⟩] 39 (0, 0)) := by rw [ho5.other q (by omega)]; exact hq4
  simp only [iw_add, iw_sub, iw_mul, iw_lss, iw_leq, iw_gtr, iw_geq, iw_eql, iw_neq, iw_quo, iw_rem, un_not, len_s, len_l, nck_p, fld_p, cv_i, unc_c, ex_0, ex_1, ex_2, st_eq, st_ne, brV_true, brV_false, brV_b, brV_not, one_one, nil_p, nil_pn, nil_n, nil_nn, decide_eq_true_eq, true_and, nb_ite, bs_size, Nat.zero_add, Bool.not_true, Bool.not_false, Bool.false_eq_true, eq_self, if_true, if_false, jn]
  refine stC_heap hq5 (by simp) rfl fun w6 hq6 ho6 => ?_
  have h6 := h5.other ho6 (by omega)
  have hs6 := ho6.size
  refine ldC_heap h6.b5 (v := rNum g) rfl (h6.num (by omega) fun w7 h7 ho7 => ?_)
  have hle7 := num_le s2.num.2
  have hs7 := ho7.size
  have hq7 : w7.heap[q]? = some (.cells #[.int .i64 s2.num.1, .int .i64 0, .string ⟨#[]⟩] 39 (0, 0)) := by rw [ho7.other q (by omega)]; simpa using hq6
  refine stC_heap hq7 (by simp) rfl fun w8 hq8 ho8 => ?_
  have h8 := h7.other ho8 (by omega)
  have hs8 := ho8.size
  refine h8.text (by omega) fun w9 h9 ho9 => ?_
  have hs9 := ho9.size
  have hq9 : w9.heap[q]? = some (.cells #[.int .i64 s2.num.1, .int .i64 s2.num.2.num.1, .string ⟨#[]⟩] 39 (0, 0)) := by rw [ho9.other q (by omega)]; simpa using hq8
  refine stC_heap hq9 (by simp) rfl fun w10 hq10 ho10 => ?_
  have h10 := h9.other ho10 (by omega)
  have hs10 := ho10.size
  have hq10' : w10.heap[q]? = some (.cells #[.int .i64 s2.num.1, .int .i64 s2.num.2.num.1, .string (bs s2.num.2.num.2.text.1)] 39 (0, 0)) := by simpa using hq10
  have ht10 : Tail a0 w2 w10 := ⟨by omega, fun p h1 h2 => by rw [ho10.other p (by omega), ho9.other p (by omega), ho8.other p (by omega), ho7.other p (by omega), ho6.other p (by omega), ho5.other p (by omega), hL4.block p (by omega)]⟩
  have hr10 := ht10.row hrow ha
  refine ldC_heap h10.b9 (v := o) (by simp [h.size]) ?_
  refine ldN_heap hq10' rfl ?_
  refine blS_lit (qx [s2.pat.1]).toArray (by simp [Instr.fill, Value.cells, qx, Rd.pat]; apply Array.ext'; simp [List.range, List.range.loop]) rfl (by decide) fun v12 w12 hL12 hr12 hb12 => ?_
  have hs12 := hL12.size
  refine app T_pats (hL12.row hr10) ((lst_row hr12).src U_pats (by simp) (by decide) (qx_one _)) (by simp only [maxLen]; omega) (by omega) (by omega) fun v13 w13 hr13 hg13 hat13 _ => ?_
  have hs13 := hg13.size
  have hob : ∀ q, o.ownBlock = some q → a1 ≤ q ∧ q < w2.heap.size := fun q hq => hrow.lt q hq
  have h12 := h10.later hL12
  have h13 : Gt w0 w13 a0 t2 g t4 t5 t9 _ (cs.setIfInBounds 11 o) := h12.far ((Below.refl _ w12).grown hg13 (by omega) fun q hq => by have := (hob q hq).1; omega) fun q o' hq ho' => by
    rw [hg13.block q (lt_of_heap ho') (fun e => by have := (hob q e.symm).1; omega)]; exact ho'
  refine h13.set (by decide) (row_cell' hr13) fun w14 h14 ho14 => ?_
  rw [set_set] at h14
  have hs14 := ho14.size
  rw [wrap64 (by omega) (by omega)]
  have hv13 : ∀ q, v13.ownBlock = some q → a1 ≤ q := fun q hq => (hr13.lt q hq).1
  refine ih m _ _ (by simp) ⟨v13, out ++ [s2.pat.1], s2.pat.2, by rw [show ((m + 1 : Nat) : Int) - 1 = (m : Int) by omega], by omega, Nat.le_trans (pat_le s2) hs2, ?_, by simp; omega, h14, ⟨by omega, fun p h1 h2 => ?_⟩, ?_⟩
  · rw [heq, rep_ok hb]
    simp
  · rw [ho14.other p (by omega), hg13.block p (by omega) (fun e => by have := (hob p e.symm).1; omega), hL12.block p (by omega), ht10.2 p h1 (by omega), htl.2 p h1 h2]
  · refine ownsRow_block (w := w13) ?_ fun q hq => ho14.other q (by have := hv13 q hq; omega)
    rw [List.length_append, qx_append]
    exact hr13
theorem zero_rec {k : Value → Prop} (hk : k (.agg (rcells rec0 (.slice none 0 0) (.slice none 0 0) (.slice none 0 0) (.slice none 0 0)))) :
    fillL [(0, 1), (1, 1), (2, 1), (3, 1), (4, 1), (5, 1), (6, 4), (10, 1), (11, 1), (12, 1), (13, 1)] #[.int .i64 0, .int .i64 0, .int .i64 0, .int .i64 0, .string ⟨#[]⟩, .bool false, .string ⟨#[]⟩, .string ⟨#[]⟩, .int .i64 0, .int .i64 0, .slice none 0 0, .slice none 0 0, .slice none 0 0, .slice none 0 0] [] k := hk
/-- A record whose lists are the call's own, each in a block of its own. -/
structure RecO (w : World) (B : Nat) (vp vq vt vd : Value) (ps : List Value) (r : Rec) : Prop where
  p : w.ownsRow B 3 1 vp r.pages.length (ix r.pages)
  q : w.ownsRow B 39 3 vq r.patches.length (qx r.patches)
  t : w.ownsRow B 41 4 vt r.txs.length (vx ps r.txs)
  d : w.ownsRow B 74 2 vd r.dirty.length (dx r.dirty)
  n : ps.length = r.txs.length
  s : ∀ (i : Nat) (x : Txi), r.txs[i]? = some x → ∃ u, ps[i]? = some u ∧ w.ownsRow B 3 1 u x.pages.length (ix x.pages) ∧ ∀ q, u.ownBlock = some q → vt.ownBlock ≠ some q ∧ vp.ownBlock ≠ some q ∧ vq.ownBlock ≠ some q ∧ vd.ownBlock ≠ some q
  pq : ∀ q, vp.ownBlock = some q → vq.ownBlock ≠ some q ∧ vt.ownBlock ≠ some q ∧ vd.ownBlock ≠ some q
  qt : ∀ q, vq.ownBlock = some q → vt.ownBlock ≠ some q ∧ vd.ownBlock ≠ some q
  td : ∀ q, vt.ownBlock = some q → vd.ownBlock ≠ some q
theorem RecO.v {w : World} {B : Nat} {vp vq vt vd : Value} {ps : List Value} {r : Rec} (h : RecO w B vp vq vt vd ps r) : RecV w vp vq vt vd ps r :=
  ⟨lst_row h.p, lst_row h.q, lst_row h.t, lst_row h.d, h.n, fun i x hx => by obtain ⟨u, h1, h2, _⟩ := h.s i x hx; exact ⟨u, h1, lst_row h2⟩⟩
theorem RecO.mono {w : World} {B B' : Nat} {vp vq vt vd : Value} {ps : List Value} {r : Rec} (h : RecO w B vp vq vt vd ps r) (hB : B' ≤ B) : RecO w B' vp vq vt vd ps r :=
  ⟨ownsRow_mono hB h.p, ownsRow_mono hB h.q, ownsRow_mono hB h.t, ownsRow_mono hB h.d, h.n, fun i x hx => by obtain ⟨u, h1, h2, h3⟩ := h.s i x hx; exact ⟨u, h1, ownsRow_mono hB h2, h3⟩, h.pq, h.qt, h.td⟩
theorem rec0_v (w : World) : RecV w (.slice none 0 0) (.slice none 0 0) (.slice none 0 0) (.slice none 0 0) [] rec0 :=
  ⟨lst_nil _ _ _, lst_nil _ _ _, lst_nil _ _ _, lst_nil _ _ _, rfl, fun i x hx => by simp [rec0] at hx⟩
theorem Get_J38 {w0 w : World} {a0 t2 g t4 t5 t9 : Nat} {b : List UInt8} {x : Rec} {s : Rd} {vp vq vt vd : Value} {ps : List Value} {k : Value → World → Prop} (hT : Tab w) (h : Gt w0 w a0 t2 g t4 t5 t9 s (rcells x vp vq vt vd)) (hr : RecO w a0 vp vq vt vd ps x)
    (hk1 : (s.bad = false ∧ x.ok ∧ putB x = b) → ∀ w', Below w0.heap.size w0 w' → RecO w' a0 vp vq vt vd ps x → k (.tuple #[.agg (rcells x vp vq vt vd), .bool true]) w')
    (hk2 : ¬ (s.bad = false ∧ x.ok ∧ putB x = b) → ∀ w', Below w0.heap.size w0 w' → k (.tuple #[.agg (rcells rec0 (.slice none 0 0) (.slice none 0 0) (.slice none 0 0) (.slice none 0 0)), .bool false]) w') :
    record_Get_J38 k [.string (bs b), .pointer (some ⟨t2, 0, none⟩), .pointer (some ⟨t4, 0, none⟩), .pointer (some ⟨t9, 0, none⟩)] w := by
  obtain ⟨hg0, ht9, hw0⟩ := h.g0
  simp only [record_Get_J38, iw_add, iw_sub, iw_mul, iw_lss, iw_leq, iw_gtr, iw_geq, iw_eql, iw_neq, iw_quo, iw_rem, un_not, len_s, len_l, nck_p, fld_p, cv_i, unc_c, ex_0, ex_1, ex_2, st_eq, st_ne, brV_true, brV_false, brV_b, brV_not, one_one, nil_p, nil_pn, nil_n, nil_nn, decide_eq_true_eq, true_and, nb_ite, bs_size, Nat.zero_add, Bool.not_true, Bool.not_false, Bool.false_eq_true, eq_self, if_true, if_false, jn, jn]
  refine ldN_heap h.b9 rfl ?_
  refine Put_from hT hr.v fun w1 hL1 => ?_
  have h1 := h.later hL1
  have ha0 := h.a0le
  have hs1 := hL1.size
  have hlo := h.lo2
  have hlog := h.log
  have hlo4 := h.lo4
  have hlo5 := h.lo5
  have hlo9 := h.lo9
  have bad : ¬ (s.bad = false ∧ x.ok ∧ putB x = b) → record_Get_J40 k [.pointer (some ⟨t2, 0, none⟩)] w1 := fun hno => by
    simp only [record_Get_J40, iw_add, iw_sub, iw_mul, iw_lss, iw_leq, iw_gtr, iw_geq, iw_eql, iw_neq, iw_quo, iw_rem, un_not, len_s, len_l, nck_p, fld_p, cv_i, unc_c, ex_0, ex_1, ex_2, st_eq, st_ne, brV_true, brV_false, brV_b, brV_not, one_one, nil_p, nil_pn, nil_n, nil_nn, decide_eq_true_eq, true_and, nb_ite, bs_size, Nat.zero_add, Bool.not_true, Bool.not_false, Bool.false_eq_true, eq_self, if_true, if_false, jn]
    obtain ⟨c2, e1, e2⟩ := h1.z2
    refine zero_rec (stN_heap e2 e1 rfl (rcells_cell (rec0_v w1)) fun w2 e3 hs2 hb2 ho2 => ?_)
    refine ldN_heap e3 rfl ?_
    exact hk2 hno w2 (h1.below.trans (hb2 _ hlo))
  simp only [iw_add, iw_sub, iw_mul, iw_lss, iw_leq, iw_gtr, iw_geq, iw_eql, iw_neq, iw_quo, iw_rem, un_not, len_s, len_l, nck_p, fld_p, cv_i, unc_c, ex_0, ex_1, ex_2, st_eq, st_ne, brV_true, brV_false, brV_b, brV_not, one_one, nil_p, nil_pn, nil_n, nil_nn, decide_eq_true_eq, true_and, nb_ite, bs_size, Nat.zero_add, Bool.not_true, Bool.not_false, Bool.false_eq_true, eq_self, if_true, if_false, jn]
  refine ldC_heap h1.b4 (v := .pointer (some ⟨g, 0, none⟩)) rfl (rbad_from h1.rd ?_)
  simp only [iw_add, iw_sub, iw_mul, iw_lss, iw_leq, iw_gtr, iw_geq, iw_eql, iw_neq, iw_quo, iw_rem, un_not, len_s, len_l, nck_p, fld_p, cv_i, unc_c, ex_0, ex_1, ex_2, st_eq, st_ne, brV_true, brV_false, brV_b, brV_not, one_one, nil_p, nil_pn, nil_n, nil_nn, decide_eq_true_eq, true_and, nb_ite, bs_size, Nat.zero_add, Bool.not_true, Bool.not_false, Bool.false_eq_true, eq_self, if_true, if_false, jn]
  by_cases hb : s.bad = true
  · rw [if_pos hb]; exact bad fun h => by rw [h.1] at hb; cases hb
  rw [if_neg hb]
  by_cases ho : x.ok
  rotate_left
  · rw [if_neg (by simpa using ho)]; exact bad fun h => ho h.2.1
  rw [if_pos (by simpa using ho), if_pos ho]
  by_cases he : putB x = b
  rotate_left
  · rw [if_neg he]; exact bad fun h => he h.2.2
  rw [if_pos he]
  refine ldN_heap h1.b9 rfl ?_
  obtain ⟨c2, e1, e2⟩ := h1.z2
  refine stN_heap e2 e1 rfl (rcells_cell hr.v) fun w2 e3 hs2 hb2 ho2 => ?_
  refine ldN_heap e3 rfl ?_
  have keep : ∀ (e sz n : Nat) (v : Value) (xs : List Value), w.ownsRow a0 e sz v n xs → w2.ownsRow a0 e sz v n xs := fun e sz n v xs hr => ownsRow_block (hL1.row hr) fun q hq => ho2 q (by have := (hr.lt q hq).1; omega)
  refine hk1 ⟨by simpa using hb, ho, he⟩ w2 (h1.below.trans (hb2 _ hlo)) ⟨keep _ _ _ _ _ hr.p, keep _ _ _ _ _ hr.q, keep _ _ _ _ _ hr.t, keep _ _ _ _ _ hr.d, hr.n, fun i x hx => ?_, hr.pq, hr.qt, hr.td⟩
  obtain ⟨u, a, b, c⟩ := hr.s i x hx
  exact ⟨u, a, keep _ _ _ _ _ b, c⟩
theorem Gt.rows {a0 : Nat} {w w' : World} {B e sz n : Nat} {v : Value} {xs : List Value} (hr : w.ownsRow B e sz v n xs) (h : Tail a0 w w') (hB : a0 ≤ B) : w'.ownsRow a0 e sz v n xs := ownsRow_mono hB (h.row hr hB)
set_option maxHeartbeats 2000000 in
theorem Get_from {b : List UInt8} {w : World} {k : Value → World → Prop} (hT : Tab w) (hl : b.length ≤ 1000000000)
    (hk1 : getOk b → ∀ vp vq vt vd ps w', Later w w' → RecO w' w.heap.size vp vq vt vd ps (parse b) → k (.tuple #[.agg (rcells (parse b) vp vq vt vd), .bool true]) w')
    (hk2 : ¬ getOk b → ∀ w', Later w w' → k (.tuple #[.agg (rcells rec0 (.slice none 0 0) (.slice none 0 0) (.slice none 0 0) (.slice none 0 0)), .bool false]) w') :
    callW Tryd.prog (.func (.func 17) #[] #[]) [.string (bs b)] w k := by
  apply record_Get_call
  apply record_Get_run
  simp only [record_Get, iw_add, iw_sub, iw_mul, iw_lss, iw_leq, iw_gtr, iw_geq, iw_eql, iw_neq, iw_quo, iw_rem, un_not, len_s, len_l, nck_p, fld_p, cv_i, unc_c, ex_0, ex_1, ex_2, st_eq, st_ne, brV_true, brV_false, brV_b, brV_not, one_one, nil_p, nil_pn, nil_n, nil_nn, decide_eq_true_eq, true_and, nb_ite, bs_size, Nat.zero_add, Bool.not_true, Bool.not_false, Bool.false_eq_true, eq_self, if_true, if_false, jn]
  refine al_lit fun t2 w1 hL1 h2 h2s => ?_
  refine From_from fun g w2 hL2 hg hrd => ?_
  refine al_lit fun t4 w3 hL3 h4 h4s => ?_
  refine stC_heap h4 (by simp) rfl fun w4 h44 ho4 => ?_
  have h44' : w4.heap[t4]? = some (.cells #[.pointer (some ⟨g, 0, none⟩)] 69 (0, 0)) := by simpa using h44
  have h4d : w4.drew.heap[t4]? = some (.cells #[.pointer (some ⟨g, 0, none⟩)] 69 (0, 0)) := h44'
  have hc4 : ∀ w', Later w4.drew w' → holds [(⟨t4, 0, none⟩, .pointer (some ⟨g, 0, none⟩))] w' := fun w' hL => holds1 (by rw [heap_cell (hL.heap h4d)]; rfl)
  refine ldC_heap h4d (v := .pointer (some ⟨g, 0, none⟩)) rfl (ldC_heap h4d (v := .pointer (some ⟨g, 0, none⟩)) rfl (ldC_heap h4d (v := .pointer (some ⟨g, 0, none⟩)) rfl ?_))
  refine al_lit fun t5 w5 hL5 h5 h5s => ?_
  refine ⟨hc4 w5 hL5, hc4 w5 hL5, hc4 w5 hL5, ?_⟩
  refine stC_heap h5 (by simp) rfl fun w6 h55 ho6 => ?_
  have hs1 := hL1.size
  have hs2 := hL2.size
  have hs3 := hL3.size
  have hs4 := ho4.size
  have hs5 := hL5.size
  have hs6 := ho6.size
  have hlt1 := lt_of_heap h2
  have hlt2 := lt_of_heap hrd
  have hlt3 := lt_of_heap h4
  have hlt5 := lt_of_heap h5
  have hdr4 : w4.drew.heap.size = w4.heap.size := rfl
  have h54 : w6.heap[t4]? = some (.cells #[.pointer (some ⟨g, 0, none⟩)] 69 (0, 0)) := by rw [ho6.other t4 (by omega)]; exact hL5.heap h4d
  have hc6 : ∀ w', Later w6 w' → holds [(⟨t4, 0, none⟩, .pointer (some ⟨g, 0, none⟩))] w' := fun w' hL => holds1 (by rw [heap_cell (hL.heap h54)]; rfl)
  refine ⟨hc6 w6 (Later.refl _), hc6 w6 (Later.refl _), ?_⟩
  refine al_lit fun t9 w7 hL7 h9 h9s => ?_
  have hs7 := hL7.size
  have hlt9 := lt_of_heap h9
  have keep : ∀ (q : Nat) (o : Obj), q < w3.heap.size → q ≠ t4 → w3.heap[q]? = some o → w7.heap[q]? = some o := fun q o hq hne h => by
    refine hL7.heap ?_
    rw [ho6.other q (by omega), hL5.block q (by omega)]
    show w4.heap[q]? = _
    rw [ho4.other q hne]
    exact h
  have hbelow : Below w.heap.size w w7 := ((((((hL1.tr hL2).tr hL3).trans (ho4.below _ (by omega))).trans (Below.drew (Below.refl _ w4))).trans (hL5.mono (by omega))).trans (ho6.below _ (by omega))).trans (hL7.mono (by omega))
  have hG : Gt w w7 w7.heap.size t2 g t4 t5 t9 (hd1 b) (rcells rec0 (.slice none 0 0) (.slice none 0 0) (.slice none 0 0) (.slice none 0 0)) :=
    ⟨hbelow, ⟨_, rfl, keep t2 _ (by omega) (by omega) (hL3.heap (hL2.heap h2))⟩, keep g _ (by omega) (by omega) (hL3.heap hrd), hL7.heap h54, hL7.heap (by simpa using h55), h9, rfl, by omega, by omega, by omega, by omega, by omega, by omega, Nat.le_refl _⟩
  simp only [iw_add, iw_sub, iw_mul, iw_lss, iw_leq, iw_gtr, iw_geq, iw_eql, iw_neq, iw_quo, iw_rem, un_not, len_s, len_l, nck_p, fld_p, cv_i, unc_c, ex_0, ex_1, ex_2, st_eq, st_ne, brV_true, brV_false, brV_b, brV_not, one_one, nil_p, nil_pn, nil_n, nil_nn, decide_eq_true_eq, true_and, nb_ite, bs_size, Nat.zero_add, Bool.not_true, Bool.not_false, Bool.false_eq_true, eq_self, if_true, if_false, jn]
  have n1 := num_le (hd1 b)
  have n2 := num_le (hd2 b)
  have n3 := long_le (hd3 b)
  have n4 := long_le (hd4 b)
  have n5 := text_le (hd5 b)
  have n6 := num_le (hd6 b)
  have n7 := text_le (hd7 b)
  have n8 := text_le (hd8 b)
  have n9 := num_le (hd9 b)
  have n10 := num_le (hd10 b)
  have n11 := nums_le (hd11 b)
  have n12 := rep_le pat_le (ps1 b).num.1.toNat (ps1 b).num.2
  have n12' := num_le (ps1 b)
  have n13 := rep_le txi_le (ps2 b).num.1.toNat (ps2 b).num.2
  have n13' := num_le (ps2 b)
  have e1 : (hd1 b).b.length = b.length := rfl
  have e2 : (hd1 b).num.2 = hd2 b := rfl
  have e3 : (hd2 b).num.2 = hd3 b := rfl
  have e4 : (hd3 b).long.2 = hd4 b := rfl
  have e5 : (hd4 b).long.2 = hd5 b := rfl
  have e6 : (hd5 b).text.2 = hd6 b := rfl
  have e7 : (hd6 b).num.2 = hd7 b := rfl
  have e8 : (hd7 b).text.2 = hd8 b := rfl
  have e9 : (hd8 b).text.2 = hd9 b := rfl
  have e10 : (hd9 b).num.2 = hd10 b := rfl
  have e11 : (hd10 b).num.2 = hd11 b := rfl
  have e12 : (hd11 b).nums.2 = ps1 b := rfl
  have e13 : (rep Rd.pat (ps1 b).num.1.toNat (ps1 b).num.2).2 = ps2 b := rfl
  have e14 : (rep Rd.txi (ps2 b).num.1.toNat (ps2 b).num.2).2 = ps3 b := rfl
  rw [e2] at n1
  rw [e3] at n2
  rw [e4] at n3
  rw [e5] at n4
  rw [e6] at n5
  rw [e7] at n6
  rw [e8] at n7
  rw [e9] at n8
  rw [e10] at n9
  rw [e11] at n10
  rw [e12] at n11
  rw [e13] at n12
  rw [e14] at n13
  have l1 : (hd1 b).b.length ≤ 1000000000 := by omega
  have l2 : (hd2 b).b.length ≤ 1000000000 := by omega
  have l3 : (hd3 b).b.length ≤ 1000000000 := by omega
  have l4 : (hd4 b).b.length ≤ 1000000000 := by omega
  have l5 : (hd5 b).b.length ≤ 1000000000 := by omega
  have l6 : (hd6 b).b.length ≤ 1000000000 := by omega
  have l7 : (hd7 b).b.length ≤ 1000000000 := by omega
  have l8 : (hd8 b).b.length ≤ 1000000000 := by omega
  have l9 : (hd9 b).b.length ≤ 1000000000 := by omega
  have l10 : (hd10 b).b.length ≤ 1000000000 := by omega
  have l11 : (hd11 b).b.length ≤ 1000000000 := by omega
  have q1 : (ps1 b).b.length ≤ 1000000000 := by omega
  have q2 : (ps2 b).b.length ≤ 1000000000 := by omega
  have q3 : (ps3 b).b.length ≤ 1000000000 := by omega
  -- the head
  refine ldC_heap hG.b5 (v := rNum g) rfl (hG.num l1 fun x1 a1 _ => ?_)
  refine a1.set (by decide) rfl fun x2 a2 _ => ?_
  refine ldC_heap a2.b5 (v := rNum g) rfl (a2.num l2 fun x3 a3 _ => ?_)
  refine a3.set (by decide) rfl fun x4 a4 _ => ?_
  refine a4.long l3 fun x5 a5 _ => ?_
  refine a5.set (by decide) rfl fun x6 a6 _ => ?_
  refine a6.long l4 fun x7 a7 _ => ?_
  refine a7.set (by decide) rfl fun x8 a8 _ => ?_
  refine a8.text l5 fun x9 a9 _ => ?_
  refine a9.set (by decide) rfl fun x10 a10 _ => ?_
  refine ldC_heap a10.b5 (v := rNum g) rfl (a10.num l6 fun x11 a11 _ => ?_)
  simp only [iw_add, iw_sub, iw_mul, iw_lss, iw_leq, iw_gtr, iw_geq, iw_eql, iw_neq, iw_quo, iw_rem, un_not, len_s, len_l, nck_p, fld_p, cv_i, unc_c, ex_0, ex_1, ex_2, st_eq, st_ne, brV_true, brV_false, brV_b, brV_not, one_one, nil_p, nil_pn, nil_n, nil_nn, decide_eq_true_eq, true_and, nb_ite, bs_size, Nat.zero_add, Bool.not_true, Bool.not_false, Bool.false_eq_true, eq_self, if_true, if_false, jn]
  refine a11.set (by decide) rfl fun x12 a12 _ => ?_
  refine a12.text l7 fun x13 a13 _ => ?_
  refine a13.set (by decide) rfl fun x14 a14 _ => ?_
  refine a14.text l8 fun x15 a15 _ => ?_
  refine a15.set (by decide) rfl fun x16 a16 _ => ?_
  refine ldC_heap a16.b5 (v := rNum g) rfl (a16.num l9 fun x17 a17 _ => ?_)
  refine a17.set (by decide) rfl fun x18 a18 _ => ?_
  refine ldC_heap a18.b5 (v := rNum g) rfl (a18.num l10 fun x19 a19 _ => ?_)
  refine a19.set (by decide) rfl fun x20 a20 _ => ?_
  -- the lists
  refine a20.nums l11 fun vp x21 a21 tl21 hr21 => ?_
  refine a21.set (by decide) (row_cell' hr21) fun x22 a22 ho22 => ?_
  obtain ⟨hgl, htl, hwl⟩ := a22.g0
  have hz20 := a20.a0le
  have hr22 : x22.ownsRow w7.heap.size 3 1 vp (hd11 b).nums.1.length (ix (hd11 b).nums.1) := ownsRow_mono hz20 (ownsRow_block hr21 fun q hq => ho22.other q (by have := (hr21.lt q hq).1; omega))
  refine ldC_heap a22.b5 (v := rNum g) rfl (a22.num q1 fun x23 a23 ho23 => ?_)
  have hr23 := (Tail.only ho23 hgl).row hr22 (Nat.le_refl _)
  obtain ⟨n, hn, _⟩ := cnt_of (s := ps1 b)
  have hz23 := a23.a0le
  refine Get_L17 (s := ps1 b) (cs := _) hn a23 q1 hz23 rfl (by simp [rcells]) fun vq x24 a24 tl24 hr24 => ?_
  have hz24 := a24.a0le
  refine Get_L25 (s := ps2 b) a24 q2 hz24 rfl (by simp [rcells]) fun vt ps x25 a25 tl25 hr25 hpl25 hps25 => ?_
  have hz25 := a25.a0le
  refine Get_L33 (s := ps3 b) a25 q3 hz25 rfl (by simp [rcells]) fun vd x26 a26 tl26 hr26 => ?_
  have hcs : ∀ r : Rec, ((((((((((((((rcells rec0 (.slice none 0 0) (.slice none 0 0) (.slice none 0 0) (.slice none 0 0)).setIfInBounds 0 (.int .i64 r.kind)).setIfInBounds 1 (.int .i64 r.tx)).setIfInBounds 2 (.int .i64 r.prev)).setIfInBounds 3 (.int .i64 r.next)).setIfInBounds 4 (.string (bs r.key))).setIfInBounds 5 (.bool r.had)).setIfInBounds 6 (.string (bs r.okey))).setIfInBounds 7 (.string (bs r.oval))).setIfInBounds 8 (.int .i64 r.blob)).setIfInBounds 9 (.int .i64 r.size)).setIfInBounds 10 vp).setIfInBounds 11 vq).setIfInBounds 12 vt).setIfInBounds 13 vd = rcells r vp vq vt vd := fun r => by simp [rcells]
  have hfin : Gt w x26 w7.heap.size t2 g t4 t5 t9 (ps4 b) (rcells (parse b) vp vq vt vd) := by
    rw [← hcs (parse b)]
    exact a26
  have b1 := fun q hq => hr23.lt q hq
  have b2 := fun q hq => hr24.lt q hq
  have b3 := fun q hq => hr25.lt q hq
  have b4 := fun q hq => hr26.lt q hq
  have t1 := tl24.1
  have t2' := tl25.1
  have t3 := tl26.1
  have hO : RecO x26 w7.heap.size vp vq vt vd ps (parse b) := {
    p := tl26.row (tl25.row (tl24.row hr23 (Nat.le_refl _)) (Nat.le_refl _)) (Nat.le_refl _)
    q := ownsRow_mono hz23 (tl26.row (tl25.row hr24 hz23) hz23)
    t := ownsRow_mono hz24 (tl26.row hr25 hz24)
    d := ownsRow_mono hz25 hr26
    n := hpl25
    s := fun i x hx => by
      obtain ⟨u, h1, h2, h3⟩ := hps25 i x hx
      have b5 := fun q hq => h2.lt q hq
      exact ⟨u, h1, ownsRow_mono hz24 (tl26.row h2 hz24), fun q hq => ⟨h3 q hq, fun e => by have := b1 q e; have := b5 q hq; omega, fun e => by have := b2 q e; have := b5 q hq; omega, fun e => by have := b4 q e; have := b5 q hq; omega⟩⟩
    pq := fun q hq => ⟨fun e => by have := b1 q hq; have := b2 q e; omega, fun e => by have := b1 q hq; have := b3 q e; omega, fun e => by have := b1 q hq; have := b4 q e; omega⟩
    qt := fun q hq => ⟨fun e => by have := b2 q hq; have := b3 q e; omega, fun e => by have := b2 q hq; have := b4 q e; omega⟩
    td := fun q hq e => by have := b3 q hq; have := b4 q e; omega }
  exact Get_J38 (hT.later hfin.below) hfin hO (fun hg w' hb hO' => hk1 hg vp vq vt vd ps w' hb (hO'.mono (by omega))) fun hg w' hb => hk2 hg w' hb
end Go.Proofs.YtlicdhdpngahgaaDoor
