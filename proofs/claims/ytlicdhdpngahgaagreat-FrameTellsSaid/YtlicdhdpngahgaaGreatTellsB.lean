/- FrameTells: behind its guards. -/
import Derived.Test.YtlicdhdpngahgaaGreatTells13
set_option linter.unusedVariables false
set_option linter.unusedSimpArgs false
namespace Go.Proofs.YtlicdhdpngahgaaGreat
open Go.Eng Go.RowKit
theorem Tells_end {B g6 n : Nat} {s : Sec} {b : List UInt8} {e i : Int} {l sl : List (List UInt8)} {vl vs : Value} {w0 : World} {k : Value → World → Prop} {rec : List Value → World → Prop} (hB : B ≤ w0.heap.size)
    (hg6 : w0.heap[g6]? = some (.cells s.cells 23 (0, 0))) (hb : b.length ≤ 100) (hi : -9223372036854775808 ≤ i ∧ i ≤ 9223372036854775807) (hl : Lst w0 vl l.length (tx l)) (hs : Lst w0 vs sl.length (tx sl))
    (hsum : lens l ≤ 100000) (hsl : sl.length ≤ 40) (hsl2 : ∀ r ∈ sl, r.length ≤ 100) (hkeep : ∀ w', Below B w0 w' → Lst w' vl l.length (tx l) ∧ Lst w' vs sl.length (tx sl))
    (hk : ∀ w', Below B w0 w' → k (.bool true) w') : honeycomblaw13_FrameTells_L4 k rec [.string (bs b), .int .i64 e, .int .i64 i, vl, vs, .pointer (some ⟨g6, 0, none⟩), .int .i64 n, .int .i64 n] w0 := by
  have hll := lens_ge l
  simp only [honeycomblaw13_FrameTells_L4, iw_add, iw_sub, iw_mul, iw_lss, iw_leq, iw_gtr, iw_geq, iw_eql, iw_neq, iw_quo, iw_rem, un_not, len_s, len_l, nck_p, fld_p, cv_i, unc_c, ex_0, ex_1, ex_2, st_eq, st_ne, brV_true, brV_false, brV_b, brV_not, one_one, nil_p, nil_pn, nil_n, nil_nn, decide_eq_true_eq, true_and, nb_ite, bs_size, Nat.zero_add, Bool.not_true, Bool.not_false, Bool.false_eq_true, eq_self, if_true, if_false, jn]
  rw [if_neg (by omega)]
  refine ldN_heap hg6 rfl ?_
  refine Put_from (s := s) rfl fun w1 hL1 => ?_
  rw [out_eq]
  simp only [iw_add, iw_sub, iw_mul, iw_lss, iw_leq, iw_gtr, iw_geq, iw_eql, iw_neq, iw_quo, iw_rem, un_not, len_s, len_l, nck_p, fld_p, cv_i, unc_c, ex_0, ex_1, ex_2, st_eq, st_ne, brV_true, brV_false, brV_b, brV_not, one_one, nil_p, nil_pn, nil_n, nil_nn, decide_eq_true_eq, true_and, nb_ite, bs_size, Nat.zero_add, Bool.not_true, Bool.not_false, Bool.false_eq_true, eq_self, if_true, if_false, jn]
  refine ldC4 (hL1.heap hg6) ?_
  refine SPut_from (s := s) rfl fun w2 hL2 => ?_
  rw [out_eq]
  simp only [iw_add, iw_sub, iw_mul, iw_lss, iw_leq, iw_gtr, iw_geq, iw_eql, iw_neq, iw_quo, iw_rem, un_not, len_s, len_l, nck_p, fld_p, cv_i, unc_c, ex_0, ex_1, ex_2, st_eq, st_ne, brV_true, brV_false, brV_b, brV_not, one_one, nil_p, nil_pn, nil_n, nil_nn, decide_eq_true_eq, true_and, nb_ite, bs_size, Nat.zero_add, Bool.not_true, Bool.not_false, Bool.false_eq_true, eq_self, if_true, if_false, jn]
  refine Get_from (by omega) fun w3 hL3 => ?_
  rw [secOut_eq]
  simp only [iw_add, iw_sub, iw_mul, iw_lss, iw_leq, iw_gtr, iw_geq, iw_eql, iw_neq, iw_quo, iw_rem, un_not, len_s, len_l, nck_p, fld_p, cv_i, unc_c, ex_0, ex_1, ex_2, st_eq, st_ne, brV_true, brV_false, brV_b, brV_not, one_one, nil_p, nil_pn, nil_n, nil_nn, decide_eq_true_eq, true_and, nb_ite, bs_size, Nat.zero_add, Bool.not_true, Bool.not_false, Bool.false_eq_true, eq_self, if_true, if_false, jn]
  refine al_lit fun g18 w4 hL4 h18 h18s => ?_
  refine SGet_lit h18 rfl fun w5 h185 ho5 => ?_
  have hB4 : B ≤ w4.heap.size := Nat.le_trans hB (((hL1.tr hL2).tr hL3).tr hL4).size
  have hs3 := (((hL1.tr hL2).tr hL3)).size
  have hb5 : Below B w0 w5 := (((((hL1.tr hL2).tr hL3).tr hL4).mono hB)).trans (ho5.below B (by omega))
  refine SGet_from (by omega) fun w6 hL6 => ?_
  rw [secOut_eq]
  simp only [iw_add, iw_sub, iw_mul, iw_lss, iw_leq, iw_gtr, iw_geq, iw_eql, iw_neq, iw_quo, iw_rem, un_not, len_s, len_l, nck_p, fld_p, cv_i, unc_c, ex_0, ex_1, ex_2, st_eq, st_ne, brV_true, brV_false, brV_b, brV_not, one_one, nil_p, nil_pn, nil_n, nil_nn, decide_eq_true_eq, true_and, nb_ite, bs_size, Nat.zero_add, Bool.not_true, Bool.not_false, Bool.false_eq_true, eq_self, if_true, if_false, jn]
  refine al_lit fun g20 w7 hL7 h20 h20s => ?_
  refine SGet_lit h20 rfl fun w8 h208 ho8 => ?_
  have hs6 := hL6.size
  have hs5 := hb5.size
  have h18w : g18 < w5.heap.size := lt_of_heap h185
  have hb8 : Below B w0 w8 := (hb5.trans ((hL6.tr hL7).mono (by omega))).trans (ho8.below B (by omega))
  have h188 : w8.heap[g18]? = some (.cells ((secGet b).getD sec0).cells 23 (0, 0)) := by
    rw [ho8.other g18 (by omega)]; exact (hL6.tr hL7).heap h185
  simp only [iw_add, iw_sub, iw_mul, iw_lss, iw_leq, iw_gtr, iw_geq, iw_eql, iw_neq, iw_quo, iw_rem, un_not, len_s, len_l, nck_p, fld_p, cv_i, unc_c, ex_0, ex_1, ex_2, st_eq, st_ne, brV_true, brV_false, brV_b, brV_not, one_one, nil_p, nil_pn, nil_n, nil_nn, decide_eq_true_eq, true_and, nb_ite, bs_size, Nat.zero_add, Bool.not_true, Bool.not_false, Bool.false_eq_true, eq_self, if_true, if_false, jn, decide_true, nil6_ne, beq_self_eq_true]
  refine ldN_heap h188 rfl ?_
  refine ldC4 h208 ?_
  refine neq_sec ?_
  simp only [iw_add, iw_sub, iw_mul, iw_lss, iw_leq, iw_gtr, iw_geq, iw_eql, iw_neq, iw_quo, iw_rem, un_not, len_s, len_l, nck_p, fld_p, cv_i, unc_c, ex_0, ex_1, ex_2, st_eq, st_ne, brV_true, brV_false, brV_b, brV_not, one_one, nil_p, nil_pn, nil_n, nil_nn, decide_eq_true_eq, true_and, nb_ite, bs_size, Nat.zero_add, Bool.not_true, Bool.not_false, Bool.false_eq_true, eq_self, if_true, if_false, jn]
  have hs8 := hb8.size
  simp only [fillL, Instr.fill, Value.cells]
  refine al_lit fun gb w9 hL9 hgb hgbs => ?_
  have hb9 : Below B w0 w9 := hb8.trans (hL9.mono (by omega))
  refine LentTexts_from (hkeep w9 hb9).1 (by omega) fun vm w10 hL10 hm hmn => ?_
  have hb10 : Below B w0 w10 := hb9.trans (hL10.mono (Nat.le_trans hB hb9.size))
  refine LentTexts_from (hkeep w10 hb10).2 (by omega) fun vq w11 hL11 hq hqn => ?_
  have hb11 : Below B w0 w11 := hb10.trans (hL11.mono (Nat.le_trans hB hb10.size))
  refine Batch_u (l := l) (Later.lent hL11 hm).lst (by omega) fun vc w12 hL12 hc => ?_
  simp only [iw_add, iw_sub, iw_mul, iw_lss, iw_leq, iw_gtr, iw_geq, iw_eql, iw_neq, iw_quo, iw_rem, un_not, len_s, len_l, nck_p, fld_p, cv_i, unc_c, ex_0, ex_1, ex_2, st_eq, st_ne, brV_true, brV_false, brV_b, brV_not, one_one, nil_p, nil_pn, nil_n, nil_nn, decide_eq_true_eq, true_and, nb_ite, bs_size, Nat.zero_add, Bool.not_true, Bool.not_false, Bool.false_eq_true, eq_self, if_true, if_false, jn]
  have hb12 : Below B w0 w12 := hb11.trans (hL12.mono (Nat.le_trans hB hb11.size))
  refine SBatch_u hi (hkeep w12 hb12).1 (by omega) fun vd w13 hL13 hd => ?_
  simp only [iw_add, iw_sub, iw_mul, iw_lss, iw_leq, iw_gtr, iw_geq, iw_eql, iw_neq, iw_quo, iw_rem, un_not, len_s, len_l, nck_p, fld_p, cv_i, unc_c, ex_0, ex_1, ex_2, st_eq, st_ne, brV_true, brV_false, brV_b, brV_not, one_one, nil_p, nil_pn, nil_n, nil_nn, decide_eq_true_eq, true_and, nb_ite, bs_size, Nat.zero_add, Bool.not_true, Bool.not_false, Bool.false_eq_true, eq_self, if_true, if_false, jn]
  have hb13 : Below B w0 w13 := hb12.trans (hL13.mono (Nat.le_trans hB hb12.size))
  have hcl := batch_len e i l
  generalize hco : (batch e i l).getD [] = co at *
  have hgb13 : w13.heap[gb]? = some (.cells bookZero 46 (0, 0)) := hL13.heap (hL12.heap (hL11.heap (hL10.heap hgb)))
  have hs9 := hb9.size
  have hs10 := hL10.size
  have hs11 := hL11.size
  have hs12 := hL12.size
  have hs13 := hL13.size
  have hgb9 : gb < w9.heap.size := lt_of_heap hgb
  refine Texts_from (TB.empty (B := B) hgb13 (by omega)) (by simp) (by omega) (by omega) (ownsRow_mono (B := w11.heap.size) (by omega) (hL13.row hc)) (fun q hq e => by have := (hc.lt q hq).1; omega) (by simp) fun cs1 lv1 wv1 ws1 w14 hb14 hfar14 tb1 => ?_
  have hs14 := hb14.size
  have hB14 : Below B w0 w14 := hb13.trans hb14
  have hlt13 : ∀ (q : Nat) (o : Obj), q ≠ gb → w13.heap[q]? = some o → w14.heap[q]? = some o := fun q o hne h => by
    rw [hfar14 q (lt_of_heap h) hne]; exact h
  have hm13 := Later.lent hL13 (Later.lent hL12 (Later.lent hL11 hm))
  have hq13 := Later.lent hL13 (Later.lent hL12 hq)
  have hmb := lent_block hm
  have hqb := lent_block hq
  have hm14 : Lent w14 vm l := lent_kept hm13 fun q o hq' h => hlt13 q o (fun e => by have := hmn q hq'; omega) h
  have hq14 : Lent w14 vq sl := lent_kept hq13 fun q o hq' h => hlt13 q o (fun e => by have := hqn q hq'; omega) h
  have hd14 : w14.ownsRow w12.heap.size 9 1 vd co.length (tx co) := ownsRow_block hd fun q hq' => hfar14 q (hd.lt q hq').2 (by have := (hd.lt q hq').1; omega)
  refine frame_Scan_call (Scan_spec (l := sl) hq14.lst (fun r hr => by have := hsl2 r hr; omega) (by omega) fun va w15 hL15 ha => ?_)
  simp only [iw_add, iw_sub, iw_mul, iw_lss, iw_leq, iw_gtr, iw_geq, iw_eql, iw_neq, iw_quo, iw_rem, un_not, len_s, len_l, nck_p, fld_p, cv_i, unc_c, ex_0, ex_1, ex_2, st_eq, st_ne, brV_true, brV_false, brV_b, brV_not, one_one, nil_p, nil_pn, nil_n, nil_nn, decide_eq_true_eq, true_and, nb_ite, bs_size, Nat.zero_add, Bool.not_true, Bool.not_false, Bool.false_eq_true, eq_self, if_true, if_false, jn]
  have hb15 : Below B w0 w15 := hB14.trans (hL15.mono (by omega))
  refine honeycombref1_Scan_call (SScan_spec (l := sl) (hkeep w15 hb15).2 (fun r hr => by have := hsl2 r hr; omega) (by omega) fun vb w16 hL16 hbr => ?_)
  simp only [iw_add, iw_sub, iw_mul, iw_lss, iw_leq, iw_gtr, iw_geq, iw_eql, iw_neq, iw_quo, iw_rem, un_not, len_s, len_l, nck_p, fld_p, cv_i, unc_c, ex_0, ex_1, ex_2, st_eq, st_ne, brV_true, brV_false, brV_b, brV_not, one_one, nil_p, nil_pn, nil_n, nil_nn, decide_eq_true_eq, true_and, nb_ite, bs_size, Nat.zero_add, Bool.not_true, Bool.not_false, Bool.false_eq_true, eq_self, if_true, if_false, jn]
  have hb16 : Below B w0 w16 := hb15.trans (hL16.mono (Nat.le_trans hB hb15.size))
  have hsc := scn_len sl scn0
  have hsc0 : scn0.b.length + scn0.l.length = 0 := rfl
  have hs15 := hL15.size
  have hs16 := hL16.size
  refine Texts_from (tb1.far fun q o h => hL16.heap (hL15.heap h)) (by simp) (by omega) (by omega) (ownsRow_mono (B := w14.heap.size) (by omega) (hL16.row ha)) (fun q hq' hF => by have := (ha.lt q hq').1; omega) (fun r hr q hq' e => ?_) fun cs2 lv2 wv2 ws2 w17 hb17 hfar17 tb2 => ?_
  · simp at hr
    subst hr
    have h1 := (hc.lt q hq').2
    have h2 := (ha.lt q e).1
    omega
  have hs17 := hb17.size
  have hb17' : Below B w0 w17 := hb16.trans hb17
  have hlt16 : ∀ (q : Nat) (o : Obj), q ≠ gb → ¬ (w13.heap.size ≤ q ∧ q < w14.heap.size) → w16.heap[q]? = some o → w17.heap[q]? = some o := fun q o h1 h2 h => by
    rw [hfar17 q (lt_of_heap h) (fun hF => hF.elim h1 h2)]; exact h
  have hm17 : Lent w17 vm l := lent_kept (Later.lent hL16 (Later.lent hL15 hm14)) fun q o hq' h => hlt16 q o (fun e => by have := hmn q hq'; omega) (fun e => by have := hmb q hq'; omega) h
  have hq17 : Lent w17 vq sl := lent_kept (Later.lent hL16 (Later.lent hL15 hq14)) fun q o hq' h => hlt16 q o (fun e => by have := hqn q hq'; omega) (fun e => by have := hqb q hq'; omega) h
  have hd17 : w17.ownsRow w12.heap.size 9 1 vd co.length (tx co) := ownsRow_block (hL16.row (hL15.row hd14)) fun q hq' => hfar17 q (by have := (hd.lt q hq').2; omega) fun hF => by
    have h1 := hd.lt q hq'
    rcases hF with hF | hF <;> omega
  have hbr17 : w17.ownsRow w15.heap.size 9 1 vb (scnGo scn0 sl).l.length (tx (scnGo scn0 sl).l) := ownsRow_block hbr fun q hq' => hfar17 q (hbr.lt q hq').2 fun hF => by
    have h1 := hbr.lt q hq'
    rcases hF with hF | hF <;> omega
  have hc17 := (tb2.rows 0 (vc, co) rfl).1
  have ha17 := (tb2.rows 1 (va, (scnGo scn0 sl).l) rfl).1
  refine SameTexts_from (la := co) (lb := co) (lst_row hc17) (lst_row hd17) (by omega) fun w18 hL18 => ?_
  simp only [iw_add, iw_sub, iw_mul, iw_lss, iw_leq, iw_gtr, iw_geq, iw_eql, iw_neq, iw_quo, iw_rem, un_not, len_s, len_l, nck_p, fld_p, cv_i, unc_c, ex_0, ex_1, ex_2, st_eq, st_ne, brV_true, brV_false, brV_b, brV_not, one_one, nil_p, nil_pn, nil_n, nil_nn, decide_eq_true_eq, true_and, nb_ite, bs_size, Nat.zero_add, Bool.not_true, Bool.not_false, Bool.false_eq_true, eq_self, if_true, if_false, jn, decide_true, nil6_eq, beq_self_eq_true]
  have hb18 : Below B w0 w18 := hb17'.trans (hL18.mono (Nat.le_trans hB hb17'.size))
  refine frame_Count_call (Count_spec (l := l) (Later.lent hL18 hm17).lst (by omega) fun w19 hL19 => ?_)
  have hb19 : Below B w0 w19 := hb18.trans (hL19.mono (Nat.le_trans hB hb18.size))
  refine honeycombref1_Count_call (SCount_spec (l := l) (hkeep w19 hb19).1 (by omega) fun w20 hL20 => ?_)
  simp only [iw_add, iw_sub, iw_mul, iw_lss, iw_leq, iw_gtr, iw_geq, iw_eql, iw_neq, iw_quo, iw_rem, un_not, len_s, len_l, nck_p, fld_p, cv_i, unc_c, ex_0, ex_1, ex_2, st_eq, st_ne, brV_true, brV_false, brV_b, brV_not, one_one, nil_p, nil_pn, nil_n, nil_nn, decide_eq_true_eq, true_and, nb_ite, bs_size, Nat.zero_add, Bool.not_true, Bool.not_false, Bool.false_eq_true, eq_self, if_true, if_false, jn, decide_true]
  have hb20 : Below B w0 w20 := hb19.trans (hL20.mono (Nat.le_trans hB hb19.size))
  have hL1720 : Later w17 w20 := (hL18.tr hL19).tr hL20
  refine SameTexts_from (la := (scnGo scn0 sl).l) (lb := (scnGo scn0 sl).l) (hL1720.lst (lst_row ha17)) (hL1720.lst (lst_row hbr17)) (by omega) fun w21 hL21 => ?_
  simp only [iw_add, iw_sub, iw_mul, iw_lss, iw_leq, iw_gtr, iw_geq, iw_eql, iw_neq, iw_quo, iw_rem, un_not, len_s, len_l, nck_p, fld_p, cv_i, unc_c, ex_0, ex_1, ex_2, st_eq, st_ne, brV_true, brV_false, brV_b, brV_not, one_one, nil_p, nil_pn, nil_n, nil_nn, decide_eq_true_eq, true_and, nb_ite, bs_size, Nat.zero_add, Bool.not_true, Bool.not_false, Bool.false_eq_true, eq_self, if_true, if_false, jn, decide_true]
  have hb21 : Below B w0 w21 := hb20.trans (hL21.mono (Nat.le_trans hB hb20.size))
  refine StaysTexts_from (Later.lent (hL1720.tr hL21) hm17) (hkeep w21 hb21).1 (by omega) fun w22 hL22 => ?_
  simp only [iw_add, iw_sub, iw_mul, iw_lss, iw_leq, iw_gtr, iw_geq, iw_eql, iw_neq, iw_quo, iw_rem, un_not, len_s, len_l, nck_p, fld_p, cv_i, unc_c, ex_0, ex_1, ex_2, st_eq, st_ne, brV_true, brV_false, brV_b, brV_not, one_one, nil_p, nil_pn, nil_n, nil_nn, decide_eq_true_eq, true_and, nb_ite, bs_size, Nat.zero_add, Bool.not_true, Bool.not_false, Bool.false_eq_true, eq_self, if_true, if_false, jn]
  have hb22 : Below B w0 w22 := hb21.trans (hL22.mono (Nat.le_trans hB hb21.size))
  refine StaysTexts_from (Later.lent ((hL1720.tr hL21).tr hL22) hq17) (hkeep w22 hb22).2 (by omega) fun w23 hL23 => ?_
  simp only [iw_add, iw_sub, iw_mul, iw_lss, iw_leq, iw_gtr, iw_geq, iw_eql, iw_neq, iw_quo, iw_rem, un_not, len_s, len_l, nck_p, fld_p, cv_i, unc_c, ex_0, ex_1, ex_2, st_eq, st_ne, brV_true, brV_false, brV_b, brV_not, one_one, nil_p, nil_pn, nil_n, nil_nn, decide_eq_true_eq, true_and, nb_ite, bs_size, Nat.zero_add, Bool.not_true, Bool.not_false, Bool.false_eq_true, eq_self, if_true, if_false, jn]
  have hb23 : Below B w0 w23 := hb22.trans (hL23.mono (Nat.le_trans hB hb22.size))
  have hL1723 : Later w17 w23 := ((hL1720.tr hL21).tr hL22).tr hL23
  refine Apart_from (tb2.far fun q o h => hL1723.heap h) (Nat.le_trans hB hb23.size) (by simp) (fun r hr => ?_) fun w24 hb24 => hk w24 (hb23.trans hb24)
  simp at hr
  rcases hr with rfl | rfl
  · show co.length ≤ _; omega
  · show (scnGo scn0 sl).l.length ≤ _; omega
end Go.Proofs.YtlicdhdpngahgaaGreat
