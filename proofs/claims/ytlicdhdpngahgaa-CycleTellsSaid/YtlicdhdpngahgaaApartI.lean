/- The book's lists are apart. -/
import Derived.Test.YtlicdhdpngahgaaGrowI
import Derived.Test.YtlicdhdpngahgaaNoneI
set_option linter.unusedVariables false
set_option linter.unusedSimpArgs false
namespace Go.Proofs.Ytlicdhdpngahgaa
open Go.Eng Go.RowKit
theorem Apart_from {B gb : Nat} {F : Nat → Prop} {R : List Row} {cs : Array Value} {lv wv : Value} {ws : List Value} {w : World} {k : Value → World → Prop} (h : TB B gb F R cs lv wv ws w) (hB : B ≤ w.heap.size) (hn : R.length ≤ 250) (hx : ∀ r ∈ R, r.2.length ≤ 100000000)
    (hk : ∀ w', Below B w w' → k (.bool true) w') : callW Try.prog (.func (.func 13) #[] #[]) [.pointer (some ⟨gb, 0, none⟩)] w k := by
  apply honeycombbook_Book_Apart_call
  apply honeycombbook_Book_Apart_run
  simp only [honeycombbook_Book_Apart]
  refine stillInts_from h hn (fun r hr => by have := hx r hr; omega) fun w1 hL1 => ?_
  have at1 := hL1.heap h.at_
  have tm1 := h.tm.later hL1
  simp only [iw_add, iw_sub, iw_mul, iw_lss, iw_leq, iw_gtr, iw_geq, iw_eql, iw_neq, iw_quo, iw_rem, un_not, len_s, len_l, nck_p, fld_p, cv_i, unc_c, ex_0, ex_1, ex_2, st_eq, st_ne, brV_true, brV_false, brV_b, brV_not, one_one, nil_p, nil_pn, nil_n, nil_nn, decide_eq_true_eq, true_and, nb_ite, bs_size, Nat.zero_add, Bool.not_true, Bool.not_false, Bool.false_eq_true, eq_self, if_true, if_false, jn]
  refine honeycombbook_Book_stillTexts_nil at1 (h.rest 2 (by decide) (by decide) (by decide)) ?_
  simp only [iw_add, iw_sub, iw_mul, iw_lss, iw_leq, iw_gtr, iw_geq, iw_eql, iw_neq, iw_quo, iw_rem, un_not, len_s, len_l, nck_p, fld_p, cv_i, unc_c, ex_0, ex_1, ex_2, st_eq, st_ne, brV_true, brV_false, brV_b, brV_not, one_one, nil_p, nil_pn, nil_n, nil_nn, decide_eq_true_eq, true_and, nb_ite, bs_size, Nat.zero_add, Bool.not_true, Bool.not_false, Bool.false_eq_true, eq_self, if_true, if_false, jn]
  refine honeycombbook_Book_stillCells_nil at1 (h.rest 4 (by decide) (by decide) (by decide)) ?_
  simp only [iw_add, iw_sub, iw_mul, iw_lss, iw_leq, iw_gtr, iw_geq, iw_eql, iw_neq, iw_quo, iw_rem, un_not, len_s, len_l, nck_p, fld_p, cv_i, unc_c, ex_0, ex_1, ex_2, st_eq, st_ne, brV_true, brV_false, brV_b, brV_not, one_one, nil_p, nil_pn, nil_n, nil_nn, decide_eq_true_eq, true_and, nb_ite, bs_size, Nat.zero_add, Bool.not_true, Bool.not_false, Bool.false_eq_true, eq_self, if_true, if_false, jn]
  refine honeycombbook_Book_stillPages_nil at1 (h.rest 6 (by decide) (by decide) (by decide)) ?_
  simp only [iw_add, iw_sub, iw_mul, iw_lss, iw_leq, iw_gtr, iw_geq, iw_eql, iw_neq, iw_quo, iw_rem, un_not, len_s, len_l, nck_p, fld_p, cv_i, unc_c, ex_0, ex_1, ex_2, st_eq, st_ne, brV_true, brV_false, brV_b, brV_not, one_one, nil_p, nil_pn, nil_n, nil_nn, decide_eq_true_eq, true_and, nb_ite, bs_size, Nat.zero_add, Bool.not_true, Bool.not_false, Bool.false_eq_true, eq_self, if_true, if_false, jn]
  refine honeycombbook_Book_stillPatches_nil at1 (h.rest 8 (by decide) (by decide) (by decide)) ?_
  simp only [iw_add, iw_sub, iw_mul, iw_lss, iw_leq, iw_gtr, iw_geq, iw_eql, iw_neq, iw_quo, iw_rem, un_not, len_s, len_l, nck_p, fld_p, cv_i, unc_c, ex_0, ex_1, ex_2, st_eq, st_ne, brV_true, brV_false, brV_b, brV_not, one_one, nil_p, nil_pn, nil_n, nil_nn, decide_eq_true_eq, true_and, nb_ite, bs_size, Nat.zero_add, Bool.not_true, Bool.not_false, Bool.false_eq_true, eq_self, if_true, if_false, jn]
  refine honeycombbook_Book_stillDirty_nil at1 (h.rest 10 (by decide) (by decide) (by decide)) ?_
  simp only [iw_add, iw_sub, iw_mul, iw_lss, iw_leq, iw_gtr, iw_geq, iw_eql, iw_neq, iw_quo, iw_rem, un_not, len_s, len_l, nck_p, fld_p, cv_i, unc_c, ex_0, ex_1, ex_2, st_eq, st_ne, brV_true, brV_false, brV_b, brV_not, one_one, nil_p, nil_pn, nil_n, nil_nn, decide_eq_true_eq, true_and, nb_ite, bs_size, Nat.zero_add, Bool.not_true, Bool.not_false, Bool.false_eq_true, eq_self, if_true, if_false, jn]
  refine honeycombbook_Book_stillEntries_nil at1 (h.rest 12 (by decide) (by decide) (by decide)) ?_
  simp only [iw_add, iw_sub, iw_mul, iw_lss, iw_leq, iw_gtr, iw_geq, iw_eql, iw_neq, iw_quo, iw_rem, un_not, len_s, len_l, nck_p, fld_p, cv_i, unc_c, ex_0, ex_1, ex_2, st_eq, st_ne, brV_true, brV_false, brV_b, brV_not, one_one, nil_p, nil_pn, nil_n, nil_nn, decide_eq_true_eq, true_and, nb_ite, bs_size, Nat.zero_add, Bool.not_true, Bool.not_false, Bool.false_eq_true, eq_self, if_true, if_false, jn]
  refine honeycombbook_Book_stillPairs_nil at1 (h.rest 14 (by decide) (by decide) (by decide)) ?_
  simp only [iw_add, iw_sub, iw_mul, iw_lss, iw_leq, iw_gtr, iw_geq, iw_eql, iw_neq, iw_quo, iw_rem, un_not, len_s, len_l, nck_p, fld_p, cv_i, unc_c, ex_0, ex_1, ex_2, st_eq, st_ne, brV_true, brV_false, brV_b, brV_not, one_one, nil_p, nil_pn, nil_n, nil_nn, decide_eq_true_eq, true_and, nb_ite, bs_size, Nat.zero_add, Bool.not_true, Bool.not_false, Bool.false_eq_true, eq_self, if_true, if_false, jn]
  refine honeycombbook_Book_stillTxs_nil at1 (h.rest 16 (by decide) (by decide) (by decide)) ?_
  simp only [iw_add, iw_sub, iw_mul, iw_lss, iw_leq, iw_gtr, iw_geq, iw_eql, iw_neq, iw_quo, iw_rem, un_not, len_s, len_l, nck_p, fld_p, cv_i, unc_c, ex_0, ex_1, ex_2, st_eq, st_ne, brV_true, brV_false, brV_b, brV_not, one_one, nil_p, nil_pn, nil_n, nil_nn, decide_eq_true_eq, true_and, nb_ite, bs_size, Nat.zero_add, Bool.not_true, Bool.not_false, Bool.false_eq_true, eq_self, if_true, if_false, jn]
  refine honeycombbook_Book_putTxs_nil at1 (h.rest 16 (by decide) (by decide) (by decide)) ?_
  refine putInts_from tm1 (Nat.le_trans hB hL1.size) hn (fun r hr => by have := hx r hr; omega) fun R2 w2 hb2 tm2 hl2 hR2 => ?_
  have at2 := tm2.at_
  refine honeycombbook_Book_putTexts_nil at2 (h.rest 2 (by decide) (by decide) (by decide)) ?_
  refine honeycombbook_Book_putCells_nil at2 (h.rest 4 (by decide) (by decide) (by decide)) ?_
  refine honeycombbook_Book_putPages_nil at2 (h.rest 6 (by decide) (by decide) (by decide)) ?_
  refine honeycombbook_Book_putPatches_nil at2 (h.rest 8 (by decide) (by decide) (by decide)) ?_
  refine honeycombbook_Book_putDirty_nil at2 (h.rest 10 (by decide) (by decide) (by decide)) ?_
  refine honeycombbook_Book_putEntries_nil at2 (h.rest 12 (by decide) (by decide) (by decide)) ?_
  refine honeycombbook_Book_putPairs_nil at2 (h.rest 14 (by decide) (by decide) (by decide)) ?_
  have hlen2 : ∀ (j : Nat) (r : Row), R2[j]? = some r → r.2 = mkI j 0 r.2.length ∧ r.2.length ≤ 100000000 := fun j r hr => by
    have hj : j < R.length := by rw [← hl2]; exact (List.getElem?_eq_some_iff.1 hr).1
    have := hR2 j _ (List.getElem?_eq_getElem hj)
    rw [hr] at this
    injection this with this
    subst this
    simp only [mkI_length, true_and]
    exact hx _ (List.getElem_mem hj)
  have hx2 : ∀ r ∈ R2, r.2.length ≤ 1000000000 := fun r hr => by
    obtain ⟨j, hj⟩ := List.getElem?_of_mem hr
    have := (hlen2 j r hj).2
    omega
  have hs2 : B ≤ w2.heap.size := Nat.le_trans (Nat.le_trans hB hL1.size) hb2.size
  refine growInts_from tm2 hs2 (by omega) hx2 (fun j r hr => (hlen2 j r hr).1) fun og G w3 hb3 tm3 hG ho3 hGr => ?_
  have at3 := tm3.at_
  refine honeycombbook_Book_growTexts_nil at3 (h.rest 2 (by decide) (by decide) (by decide)) ?_
  refine honeycombbook_Book_growCells_nil at3 (h.rest 4 (by decide) (by decide) (by decide)) ?_
  refine honeycombbook_Book_growPages_nil at3 (h.rest 6 (by decide) (by decide) (by decide)) ?_
  refine honeycombbook_Book_growPatches_nil at3 (h.rest 8 (by decide) (by decide) (by decide)) ?_
  refine honeycombbook_Book_growDirty_nil at3 (h.rest 10 (by decide) (by decide) (by decide)) ?_
  refine honeycombbook_Book_growEntries_nil at3 (h.rest 12 (by decide) (by decide) (by decide)) ?_
  refine honeycombbook_Book_growPairs_nil at3 (h.rest 14 (by decide) (by decide) (by decide)) ?_
  refine honeycombbook_Book_growTxs_nil at3 (h.rest 16 (by decide) (by decide) (by decide)) ?_
  have hns : (R2.map fun r => r.2.length).length = R2.length := by simp
  refine markedInts_from (vals := G) (ns := R2.map fun r => r.2.length + 72) (lst_row ho3) (by omega) (by simp [hG]) (fun j v n hv hn' => ?_) fun w4 hL4 => ?_
  · have hj : j < R2.length := by rw [← hG]; exact (List.getElem?_eq_some_iff.1 hv).1
    rw [List.getElem?_map, List.getElem?_eq_getElem hj] at hn'
    injection hn' with hn'
    have hr := hGr j _ v (List.getElem?_eq_getElem hj) hv
    have h1 := (hlen2 j _ (List.getElem?_eq_getElem hj)).2
    subst hn'
    exact ⟨by show _ + 72 ≤ _; omega, lst_row hr⟩
  have at4 := hL4.heap at3
  have tm4 := tm3.later hL4
  simp only [iw_add, iw_sub, iw_mul, iw_lss, iw_leq, iw_gtr, iw_geq, iw_eql, iw_neq, iw_quo, iw_rem, un_not, len_s, len_l, nck_p, fld_p, cv_i, unc_c, ex_0, ex_1, ex_2, st_eq, st_ne, brV_true, brV_false, brV_b, brV_not, one_one, nil_p, nil_pn, nil_n, nil_nn, decide_eq_true_eq, true_and, nb_ite, bs_size, Nat.zero_add, Bool.not_true, Bool.not_false, Bool.false_eq_true, eq_self, if_true, if_false, jn]
  refine ldC_heap at4 h.c2 ?_
  refine markedInts_from (vals := R2.map Prod.fst) (ns := R2.map fun r => r.2.length) (by rw [List.length_map]; exact lst_row tm4.lrow) (by simp; omega) (by simp) (fun j v n hv hn' => ?_) fun w5 hL5 => ?_
  · rw [List.getElem?_map] at hv hn'
    cases hr : R2[j]? with
    | none => rw [hr] at hv; cases hv
    | some r =>
      rw [hr] at hv hn'
      injection hv with hv
      injection hn' with hn'
      subst hv
      subst hn'
      have h1 := hlen2 j r hr
      have h2 := (tm4.rows j r hr).1
      refine ⟨by show r.2.length ≤ _; omega, ?_⟩
      rw [h1.1, mkI_length] at h2
      exact lst_row h2
  have at5 := hL5.heap at4
  simp only [iw_add, iw_sub, iw_mul, iw_lss, iw_leq, iw_gtr, iw_geq, iw_eql, iw_neq, iw_quo, iw_rem, un_not, len_s, len_l, nck_p, fld_p, cv_i, unc_c, ex_0, ex_1, ex_2, st_eq, st_ne, brV_true, brV_false, brV_b, brV_not, one_one, nil_p, nil_pn, nil_n, nil_nn, decide_eq_true_eq, true_and, nb_ite, bs_size, Nat.zero_add, Bool.not_true, Bool.not_false, Bool.false_eq_true, eq_self, if_true, if_false, jn]
  refine honeycombbook_markedTexts_nil ?_
  simp only [iw_add, iw_sub, iw_mul, iw_lss, iw_leq, iw_gtr, iw_geq, iw_eql, iw_neq, iw_quo, iw_rem, un_not, len_s, len_l, nck_p, fld_p, cv_i, unc_c, ex_0, ex_1, ex_2, st_eq, st_ne, brV_true, brV_false, brV_b, brV_not, one_one, nil_p, nil_pn, nil_n, nil_nn, decide_eq_true_eq, true_and, nb_ite, bs_size, Nat.zero_add, Bool.not_true, Bool.not_false, Bool.false_eq_true, eq_self, if_true, if_false, jn]
  refine ldC_heap at5 (h.rest 2 (by decide) (by decide) (by decide)) ?_
  refine honeycombbook_markedTexts_nil ?_
  simp only [iw_add, iw_sub, iw_mul, iw_lss, iw_leq, iw_gtr, iw_geq, iw_eql, iw_neq, iw_quo, iw_rem, un_not, len_s, len_l, nck_p, fld_p, cv_i, unc_c, ex_0, ex_1, ex_2, st_eq, st_ne, brV_true, brV_false, brV_b, brV_not, one_one, nil_p, nil_pn, nil_n, nil_nn, decide_eq_true_eq, true_and, nb_ite, bs_size, Nat.zero_add, Bool.not_true, Bool.not_false, Bool.false_eq_true, eq_self, if_true, if_false, jn]
  refine honeycombbook_markedCells_nil ?_
  simp only [iw_add, iw_sub, iw_mul, iw_lss, iw_leq, iw_gtr, iw_geq, iw_eql, iw_neq, iw_quo, iw_rem, un_not, len_s, len_l, nck_p, fld_p, cv_i, unc_c, ex_0, ex_1, ex_2, st_eq, st_ne, brV_true, brV_false, brV_b, brV_not, one_one, nil_p, nil_pn, nil_n, nil_nn, decide_eq_true_eq, true_and, nb_ite, bs_size, Nat.zero_add, Bool.not_true, Bool.not_false, Bool.false_eq_true, eq_self, if_true, if_false, jn]
  refine ldC_heap at5 (h.rest 4 (by decide) (by decide) (by decide)) ?_
  refine honeycombbook_markedCells_nil ?_
  simp only [iw_add, iw_sub, iw_mul, iw_lss, iw_leq, iw_gtr, iw_geq, iw_eql, iw_neq, iw_quo, iw_rem, un_not, len_s, len_l, nck_p, fld_p, cv_i, unc_c, ex_0, ex_1, ex_2, st_eq, st_ne, brV_true, brV_false, brV_b, brV_not, one_one, nil_p, nil_pn, nil_n, nil_nn, decide_eq_true_eq, true_and, nb_ite, bs_size, Nat.zero_add, Bool.not_true, Bool.not_false, Bool.false_eq_true, eq_self, if_true, if_false, jn]
  refine honeycombbook_markedPages_nil ?_
  simp only [iw_add, iw_sub, iw_mul, iw_lss, iw_leq, iw_gtr, iw_geq, iw_eql, iw_neq, iw_quo, iw_rem, un_not, len_s, len_l, nck_p, fld_p, cv_i, unc_c, ex_0, ex_1, ex_2, st_eq, st_ne, brV_true, brV_false, brV_b, brV_not, one_one, nil_p, nil_pn, nil_n, nil_nn, decide_eq_true_eq, true_and, nb_ite, bs_size, Nat.zero_add, Bool.not_true, Bool.not_false, Bool.false_eq_true, eq_self, if_true, if_false, jn]
  refine ldC_heap at5 (h.rest 6 (by decide) (by decide) (by decide)) ?_
  refine honeycombbook_markedPages_nil ?_
  simp only [iw_add, iw_sub, iw_mul, iw_lss, iw_leq, iw_gtr, iw_geq, iw_eql, iw_neq, iw_quo, iw_rem, un_not, len_s, len_l, nck_p, fld_p, cv_i, unc_c, ex_0, ex_1, ex_2, st_eq, st_ne, brV_true, brV_false, brV_b, brV_not, one_one, nil_p, nil_pn, nil_n, nil_nn, decide_eq_true_eq, true_and, nb_ite, bs_size, Nat.zero_add, Bool.not_true, Bool.not_false, Bool.false_eq_true, eq_self, if_true, if_false, jn]
  refine honeycombbook_markedPatches_nil ?_
  simp only [iw_add, iw_sub, iw_mul, iw_lss, iw_leq, iw_gtr, iw_geq, iw_eql, iw_neq, iw_quo, iw_rem, un_not, len_s, len_l, nck_p, fld_p, cv_i, unc_c, ex_0, ex_1, ex_2, st_eq, st_ne, brV_true, brV_false, brV_b, brV_not, one_one, nil_p, nil_pn, nil_n, nil_nn, decide_eq_true_eq, true_and, nb_ite, bs_size, Nat.zero_add, Bool.not_true, Bool.not_false, Bool.false_eq_true, eq_self, if_true, if_false, jn]
  refine ldC_heap at5 (h.rest 8 (by decide) (by decide) (by decide)) ?_
  refine honeycombbook_markedPatches_nil ?_
  simp only [iw_add, iw_sub, iw_mul, iw_lss, iw_leq, iw_gtr, iw_geq, iw_eql, iw_neq, iw_quo, iw_rem, un_not, len_s, len_l, nck_p, fld_p, cv_i, unc_c, ex_0, ex_1, ex_2, st_eq, st_ne, brV_true, brV_false, brV_b, brV_not, one_one, nil_p, nil_pn, nil_n, nil_nn, decide_eq_true_eq, true_and, nb_ite, bs_size, Nat.zero_add, Bool.not_true, Bool.not_false, Bool.false_eq_true, eq_self, if_true, if_false, jn]
  refine honeycombbook_markedDirty_nil ?_
  simp only [iw_add, iw_sub, iw_mul, iw_lss, iw_leq, iw_gtr, iw_geq, iw_eql, iw_neq, iw_quo, iw_rem, un_not, len_s, len_l, nck_p, fld_p, cv_i, unc_c, ex_0, ex_1, ex_2, st_eq, st_ne, brV_true, brV_false, brV_b, brV_not, one_one, nil_p, nil_pn, nil_n, nil_nn, decide_eq_true_eq, true_and, nb_ite, bs_size, Nat.zero_add, Bool.not_true, Bool.not_false, Bool.false_eq_true, eq_self, if_true, if_false, jn]
  refine ldC_heap at5 (h.rest 10 (by decide) (by decide) (by decide)) ?_
  refine honeycombbook_markedDirty_nil ?_
  simp only [iw_add, iw_sub, iw_mul, iw_lss, iw_leq, iw_gtr, iw_geq, iw_eql, iw_neq, iw_quo, iw_rem, un_not, len_s, len_l, nck_p, fld_p, cv_i, unc_c, ex_0, ex_1, ex_2, st_eq, st_ne, brV_true, brV_false, brV_b, brV_not, one_one, nil_p, nil_pn, nil_n, nil_nn, decide_eq_true_eq, true_and, nb_ite, bs_size, Nat.zero_add, Bool.not_true, Bool.not_false, Bool.false_eq_true, eq_self, if_true, if_false, jn]
  refine honeycombbook_markedEntries_nil ?_
  simp only [iw_add, iw_sub, iw_mul, iw_lss, iw_leq, iw_gtr, iw_geq, iw_eql, iw_neq, iw_quo, iw_rem, un_not, len_s, len_l, nck_p, fld_p, cv_i, unc_c, ex_0, ex_1, ex_2, st_eq, st_ne, brV_true, brV_false, brV_b, brV_not, one_one, nil_p, nil_pn, nil_n, nil_nn, decide_eq_true_eq, true_and, nb_ite, bs_size, Nat.zero_add, Bool.not_true, Bool.not_false, Bool.false_eq_true, eq_self, if_true, if_false, jn]
  refine ldC_heap at5 (h.rest 12 (by decide) (by decide) (by decide)) ?_
  refine honeycombbook_markedEntries_nil ?_
  simp only [iw_add, iw_sub, iw_mul, iw_lss, iw_leq, iw_gtr, iw_geq, iw_eql, iw_neq, iw_quo, iw_rem, un_not, len_s, len_l, nck_p, fld_p, cv_i, unc_c, ex_0, ex_1, ex_2, st_eq, st_ne, brV_true, brV_false, brV_b, brV_not, one_one, nil_p, nil_pn, nil_n, nil_nn, decide_eq_true_eq, true_and, nb_ite, bs_size, Nat.zero_add, Bool.not_true, Bool.not_false, Bool.false_eq_true, eq_self, if_true, if_false, jn]
  refine honeycombbook_markedPairs_nil ?_
  simp only [iw_add, iw_sub, iw_mul, iw_lss, iw_leq, iw_gtr, iw_geq, iw_eql, iw_neq, iw_quo, iw_rem, un_not, len_s, len_l, nck_p, fld_p, cv_i, unc_c, ex_0, ex_1, ex_2, st_eq, st_ne, brV_true, brV_false, brV_b, brV_not, one_one, nil_p, nil_pn, nil_n, nil_nn, decide_eq_true_eq, true_and, nb_ite, bs_size, Nat.zero_add, Bool.not_true, Bool.not_false, Bool.false_eq_true, eq_self, if_true, if_false, jn]
  refine ldC_heap at5 (h.rest 14 (by decide) (by decide) (by decide)) ?_
  refine honeycombbook_markedPairs_nil ?_
  simp only [iw_add, iw_sub, iw_mul, iw_lss, iw_leq, iw_gtr, iw_geq, iw_eql, iw_neq, iw_quo, iw_rem, un_not, len_s, len_l, nck_p, fld_p, cv_i, unc_c, ex_0, ex_1, ex_2, st_eq, st_ne, brV_true, brV_false, brV_b, brV_not, one_one, nil_p, nil_pn, nil_n, nil_nn, decide_eq_true_eq, true_and, nb_ite, bs_size, Nat.zero_add, Bool.not_true, Bool.not_false, Bool.false_eq_true, eq_self, if_true, if_false, jn]
  refine honeycombbook_markedTxs_nil ?_
  simp only [iw_add, iw_sub, iw_mul, iw_lss, iw_leq, iw_gtr, iw_geq, iw_eql, iw_neq, iw_quo, iw_rem, un_not, len_s, len_l, nck_p, fld_p, cv_i, unc_c, ex_0, ex_1, ex_2, st_eq, st_ne, brV_true, brV_false, brV_b, brV_not, one_one, nil_p, nil_pn, nil_n, nil_nn, decide_eq_true_eq, true_and, nb_ite, bs_size, Nat.zero_add, Bool.not_true, Bool.not_false, Bool.false_eq_true, eq_self, if_true, if_false, jn]
  refine ldC_heap at5 (h.rest 16 (by decide) (by decide) (by decide)) ?_
  refine honeycombbook_markedTxs_nil ?_
  exact hk w5 ((((hL1.mono hB).trans hb2).trans hb3).trans ((hL4.mono (Nat.le_trans hs2 hb3.size)).trans (hL5.mono (Nat.le_trans (Nat.le_trans hs2 hb3.size) hL4.size))))
end Go.Proofs.Ytlicdhdpngahgaa
