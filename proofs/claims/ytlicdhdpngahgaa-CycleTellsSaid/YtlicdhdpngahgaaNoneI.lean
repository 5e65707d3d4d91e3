/- The book's kinds of which nothing is kept. -/
import Derived.Test.YtlicdhdpngahgaaLater
import Derived.Test.YtlicdhdpngahgaaXF
set_option linter.unusedVariables false
set_option linter.unusedSimpArgs false
namespace Go.Proofs.Ytlicdhdpngahgaa
open Go.Eng Go.RowKit
theorem nilL : lenSl (.slice none 0 0) = fun k => k (.int .i64 (0 : Nat)) := rfl
theorem lp_once {body : (List Value → World → Prop) → List Value → World → Prop} {l : List Value} {w : World} (h : ∀ rec, body rec l w) : lp body l w := ⟨1, h _⟩
theorem honeycombbook_Book_stillTexts_nil {gb : Nat} {w : World} {cs : Array Value} {T : TypeId} {k : Value → World → Prop} (hg : w.heap[gb]? = some (.cells cs T (0, 0))) (hc : cs[2]? = some (.slice none 0 0)) (hk : k (.bool true) w) :
    callW Try.prog (.func (.func 26) #[] #[]) [.pointer (some ⟨gb, 0, none⟩)] w k := by
  apply honeycombbook_Book_stillTexts_call
  apply honeycombbook_Book_stillTexts_run
  simp only [honeycombbook_Book_stillTexts]
  refine lp_once fun rec => ?_
  simp only [honeycombbook_Book_stillTexts_L2, iw_add, iw_sub, iw_mul, iw_lss, iw_leq, iw_gtr, iw_geq, iw_eql, iw_neq, iw_quo, iw_rem, un_not, len_s, len_l, nck_p, fld_p, cv_i, unc_c, ex_0, ex_1, ex_2, st_eq, st_ne, brV_true, brV_false, brV_b, brV_not, one_one, nil_p, nil_pn, nil_n, nil_nn, decide_eq_true_eq, true_and, nb_ite, bs_size, Nat.zero_add, Bool.not_true, Bool.not_false, Bool.false_eq_true, eq_self, if_true, if_false, jn]
  refine ldC_heap hg hc ?_
  simp only [iw_add, iw_sub, iw_mul, iw_lss, iw_leq, iw_gtr, iw_geq, iw_eql, iw_neq, iw_quo, iw_rem, un_not, len_s, len_l, nck_p, fld_p, cv_i, unc_c, ex_0, ex_1, ex_2, st_eq, st_ne, brV_true, brV_false, brV_b, brV_not, one_one, nil_p, nil_pn, nil_n, nil_nn, decide_eq_true_eq, true_and, nb_ite, bs_size, Nat.zero_add, Bool.not_true, Bool.not_false, Bool.false_eq_true, eq_self, if_true, if_false, jn]
  rw [if_neg (by decide)]
  exact hk
theorem honeycombbook_Book_putTexts_nil {gb : Nat} {w : World} {cs : Array Value} {T : TypeId} {k : Value → World → Prop} (hg : w.heap[gb]? = some (.cells cs T (0, 0))) (hc : cs[2]? = some (.slice none 0 0)) (hk : k (.tuple #[]) w) :
    callW Try.prog (.func (.func 36) #[] #[]) [.pointer (some ⟨gb, 0, none⟩)] w k := by
  apply honeycombbook_Book_putTexts_call
  apply honeycombbook_Book_putTexts_run
  simp only [honeycombbook_Book_putTexts]
  refine lp_once fun rec => ?_
  simp only [honeycombbook_Book_putTexts_L1, iw_add, iw_sub, iw_mul, iw_lss, iw_leq, iw_gtr, iw_geq, iw_eql, iw_neq, iw_quo, iw_rem, un_not, len_s, len_l, nck_p, fld_p, cv_i, unc_c, ex_0, ex_1, ex_2, st_eq, st_ne, brV_true, brV_false, brV_b, brV_not, one_one, nil_p, nil_pn, nil_n, nil_nn, decide_eq_true_eq, true_and, nb_ite, bs_size, Nat.zero_add, Bool.not_true, Bool.not_false, Bool.false_eq_true, eq_self, if_true, if_false, jn]
  refine ldC_heap hg hc ?_
  simp only [iw_add, iw_sub, iw_mul, iw_lss, iw_leq, iw_gtr, iw_geq, iw_eql, iw_neq, iw_quo, iw_rem, un_not, len_s, len_l, nck_p, fld_p, cv_i, unc_c, ex_0, ex_1, ex_2, st_eq, st_ne, brV_true, brV_false, brV_b, brV_not, one_one, nil_p, nil_pn, nil_n, nil_nn, decide_eq_true_eq, true_and, nb_ite, bs_size, Nat.zero_add, Bool.not_true, Bool.not_false, Bool.false_eq_true, eq_self, if_true, if_false, jn]
  rw [if_neg (by decide)]
  exact hk
theorem honeycombbook_Book_growTexts_nil {gb : Nat} {w : World} {cs : Array Value} {T : TypeId} {k : Value → World → Prop} (hg : w.heap[gb]? = some (.cells cs T (0, 0))) (hc : cs[2]? = some (.slice none 0 0)) (hk : k (.slice none 0 0) w) :
    callW Try.prog (.func (.func 44) #[] #[]) [.pointer (some ⟨gb, 0, none⟩)] w k := by
  apply honeycombbook_Book_growTexts_call
  apply honeycombbook_Book_growTexts_run
  simp only [honeycombbook_Book_growTexts]
  refine lp_once fun rec => ?_
  simp only [honeycombbook_Book_growTexts_L3, iw_add, iw_sub, iw_mul, iw_lss, iw_leq, iw_gtr, iw_geq, iw_eql, iw_neq, iw_quo, iw_rem, un_not, len_s, len_l, nck_p, fld_p, cv_i, unc_c, ex_0, ex_1, ex_2, st_eq, st_ne, brV_true, brV_false, brV_b, brV_not, one_one, nil_p, nil_pn, nil_n, nil_nn, decide_eq_true_eq, true_and, nb_ite, bs_size, Nat.zero_add, Bool.not_true, Bool.not_false, Bool.false_eq_true, eq_self, if_true, if_false, jn]
  refine ldC_heap hg hc ?_
  simp only [iw_add, iw_sub, iw_mul, iw_lss, iw_leq, iw_gtr, iw_geq, iw_eql, iw_neq, iw_quo, iw_rem, un_not, len_s, len_l, nck_p, fld_p, cv_i, unc_c, ex_0, ex_1, ex_2, st_eq, st_ne, brV_true, brV_false, brV_b, brV_not, one_one, nil_p, nil_pn, nil_n, nil_nn, decide_eq_true_eq, true_and, nb_ite, bs_size, Nat.zero_add, Bool.not_true, Bool.not_false, Bool.false_eq_true, eq_self, if_true, if_false, jn]
  rw [if_neg (by decide)]
  exact hk
theorem honeycombbook_markedTexts_nil {w : World} {k : Value → World → Prop} (hk : k (.bool true) w) :
    callW Try.prog (.func (.func 53) #[] #[]) [.slice none 0 0] w k := by
  apply honeycombbook_markedTexts_call
  apply honeycombbook_markedTexts_run
  simp only [honeycombbook_markedTexts]
  refine lp_once fun rec => ?_
  simp only [honeycombbook_markedTexts_L2, iw_add, iw_sub, iw_mul, iw_lss, iw_leq, iw_gtr, iw_geq, iw_eql, iw_neq, iw_quo, iw_rem, un_not, len_s, len_l, nck_p, fld_p, cv_i, unc_c, ex_0, ex_1, ex_2, st_eq, st_ne, brV_true, brV_false, brV_b, brV_not, one_one, nil_p, nil_pn, nil_n, nil_nn, decide_eq_true_eq, true_and, nb_ite, bs_size, Nat.zero_add, Bool.not_true, Bool.not_false, Bool.false_eq_true, eq_self, if_true, if_false, jn]
  rw [if_neg (by decide)]
  exact hk
theorem honeycombbook_Book_stillCells_nil {gb : Nat} {w : World} {cs : Array Value} {T : TypeId} {k : Value → World → Prop} (hg : w.heap[gb]? = some (.cells cs T (0, 0))) (hc : cs[4]? = some (.slice none 0 0)) (hk : k (.bool true) w) :
    callW Try.prog (.func (.func 27) #[] #[]) [.pointer (some ⟨gb, 0, none⟩)] w k := by
  apply honeycombbook_Book_stillCells_call
  apply honeycombbook_Book_stillCells_run
  simp only [honeycombbook_Book_stillCells]
  refine lp_once fun rec => ?_
  simp only [honeycombbook_Book_stillCells_L2, iw_add, iw_sub, iw_mul, iw_lss, iw_leq, iw_gtr, iw_geq, iw_eql, iw_neq, iw_quo, iw_rem, un_not, len_s, len_l, nck_p, fld_p, cv_i, unc_c, ex_0, ex_1, ex_2, st_eq, st_ne, brV_true, brV_false, brV_b, brV_not, one_one, nil_p, nil_pn, nil_n, nil_nn, decide_eq_true_eq, true_and, nb_ite, bs_size, Nat.zero_add, Bool.not_true, Bool.not_false, Bool.false_eq_true, eq_self, if_true, if_false, jn]
  refine ldC_heap hg hc ?_
  simp only [iw_add, iw_sub, iw_mul, iw_lss, iw_leq, iw_gtr, iw_geq, iw_eql, iw_neq, iw_quo, iw_rem, un_not, len_s, len_l, nck_p, fld_p, cv_i, unc_c, ex_0, ex_1, ex_2, st_eq, st_ne, brV_true, brV_false, brV_b, brV_not, one_one, nil_p, nil_pn, nil_n, nil_nn, decide_eq_true_eq, true_and, nb_ite, bs_size, Nat.zero_add, Bool.not_true, Bool.not_false, Bool.false_eq_true, eq_self, if_true, if_false, jn]
  rw [if_neg (by decide)]
  exact hk
theorem honeycombbook_Book_putCells_nil {gb : Nat} {w : World} {cs : Array Value} {T : TypeId} {k : Value → World → Prop} (hg : w.heap[gb]? = some (.cells cs T (0, 0))) (hc : cs[4]? = some (.slice none 0 0)) (hk : k (.tuple #[]) w) :
    callW Try.prog (.func (.func 37) #[] #[]) [.pointer (some ⟨gb, 0, none⟩)] w k := by
  apply honeycombbook_Book_putCells_call
  apply honeycombbook_Book_putCells_run
  simp only [honeycombbook_Book_putCells]
  refine lp_once fun rec => ?_
  simp only [honeycombbook_Book_putCells_L1, iw_add, iw_sub, iw_mul, iw_lss, iw_leq, iw_gtr, iw_geq, iw_eql, iw_neq, iw_quo, iw_rem, un_not, len_s, len_l, nck_p, fld_p, cv_i, unc_c, ex_0, ex_1, ex_2, st_eq, st_ne, brV_true, brV_false, brV_b, brV_not, one_one, nil_p, nil_pn, nil_n, nil_nn, decide_eq_true_eq, true_and, nb_ite, bs_size, Nat.zero_add, Bool.not_true, Bool.not_false, Bool.false_eq_true, eq_self, if_true, if_false, jn]
  refine ldC_heap hg hc ?_
  simp only [iw_add, iw_sub, iw_mul, iw_lss, iw_leq, iw_gtr, iw_geq, iw_eql, iw_neq, iw_quo, iw_rem, un_not, len_s, len_l, nck_p, fld_p, cv_i, unc_c, ex_0, ex_1, ex_2, st_eq, st_ne, brV_true, brV_false, brV_b, brV_not, one_one, nil_p, nil_pn, nil_n, nil_nn, decide_eq_true_eq, true_and, nb_ite, bs_size, Nat.zero_add, Bool.not_true, Bool.not_false, Bool.false_eq_true, eq_self, if_true, if_false, jn]
  rw [if_neg (by decide)]
  exact hk
theorem honeycombbook_Book_growCells_nil {gb : Nat} {w : World} {cs : Array Value} {T : TypeId} {k : Value → World → Prop} (hg : w.heap[gb]? = some (.cells cs T (0, 0))) (hc : cs[4]? = some (.slice none 0 0)) (hk : k (.slice none 0 0) w) :
    callW Try.prog (.func (.func 45) #[] #[]) [.pointer (some ⟨gb, 0, none⟩)] w k := by
  apply honeycombbook_Book_growCells_call
  apply honeycombbook_Book_growCells_run
  simp only [honeycombbook_Book_growCells]
  refine lp_once fun rec => ?_
  simp only [honeycombbook_Book_growCells_L3, iw_add, iw_sub, iw_mul, iw_lss, iw_leq, iw_gtr, iw_geq, iw_eql, iw_neq, iw_quo, iw_rem, un_not, len_s, len_l, nck_p, fld_p, cv_i, unc_c, ex_0, ex_1, ex_2, st_eq, st_ne, brV_true, brV_false, brV_b, brV_not, one_one, nil_p, nil_pn, nil_n, nil_nn, decide_eq_true_eq, true_and, nb_ite, bs_size, Nat.zero_add, Bool.not_true, Bool.not_false, Bool.false_eq_true, eq_self, if_true, if_false, jn]
  refine ldC_heap hg hc ?_
  simp only [iw_add, iw_sub, iw_mul, iw_lss, iw_leq, iw_gtr, iw_geq, iw_eql, iw_neq, iw_quo, iw_rem, un_not, len_s, len_l, nck_p, fld_p, cv_i, unc_c, ex_0, ex_1, ex_2, st_eq, st_ne, brV_true, brV_false, brV_b, brV_not, one_one, nil_p, nil_pn, nil_n, nil_nn, decide_eq_true_eq, true_and, nb_ite, bs_size, Nat.zero_add, Bool.not_true, Bool.not_false, Bool.false_eq_true, eq_self, if_true, if_false, jn]
  rw [if_neg (by decide)]
  exact hk
theorem honeycombbook_markedCells_nil {w : World} {k : Value → World → Prop} (hk : k (.bool true) w) :
    callW Try.prog (.func (.func 54) #[] #[]) [.slice none 0 0] w k := by
  apply honeycombbook_markedCells_call
  apply honeycombbook_markedCells_run
  simp only [honeycombbook_markedCells]
  refine lp_once fun rec => ?_
  simp only [honeycombbook_markedCells_L2, iw_add, iw_sub, iw_mul, iw_lss, iw_leq, iw_gtr, iw_geq, iw_eql, iw_neq, iw_quo, iw_rem, un_not, len_s, len_l, nck_p, fld_p, cv_i, unc_c, ex_0, ex_1, ex_2, st_eq, st_ne, brV_true, brV_false, brV_b, brV_not, one_one, nil_p, nil_pn, nil_n, nil_nn, decide_eq_true_eq, true_and, nb_ite, bs_size, Nat.zero_add, Bool.not_true, Bool.not_false, Bool.false_eq_true, eq_self, if_true, if_false, jn]
  rw [if_neg (by decide)]
  exact hk
theorem honeycombbook_Book_stillPages_nil {gb : Nat} {w : World} {cs : Array Value} {T : TypeId} {k : Value → World → Prop} (hg : w.heap[gb]? = some (.cells cs T (0, 0))) (hc : cs[6]? = some (.slice none 0 0)) (hk : k (.bool true) w) :
    callW Try.prog (.func (.func 28) #[] #[]) [.pointer (some ⟨gb, 0, none⟩)] w k := by
  apply honeycombbook_Book_stillPages_call
  apply honeycombbook_Book_stillPages_run
  simp only [honeycombbook_Book_stillPages]
  refine lp_once fun rec => ?_
  simp only [honeycombbook_Book_stillPages_L2, iw_add, iw_sub, iw_mul, iw_lss, iw_leq, iw_gtr, iw_geq, iw_eql, iw_neq, iw_quo, iw_rem, un_not, len_s, len_l, nck_p, fld_p, cv_i, unc_c, ex_0, ex_1, ex_2, st_eq, st_ne, brV_true, brV_false, brV_b, brV_not, one_one, nil_p, nil_pn, nil_n, nil_nn, decide_eq_true_eq, true_and, nb_ite, bs_size, Nat.zero_add, Bool.not_true, Bool.not_false, Bool.false_eq_true, eq_self, if_true, if_false, jn]
  refine ldC_heap hg hc ?_
  simp only [iw_add, iw_sub, iw_mul, iw_lss, iw_leq, iw_gtr, iw_geq, iw_eql, iw_neq, iw_quo, iw_rem, un_not, len_s, len_l, nck_p, fld_p, cv_i, unc_c, ex_0, ex_1, ex_2, st_eq, st_ne, brV_true, brV_false, brV_b, brV_not, one_one, nil_p, nil_pn, nil_n, nil_nn, decide_eq_true_eq, true_and, nb_ite, bs_size, Nat.zero_add, Bool.not_true, Bool.not_false, Bool.false_eq_true, eq_self, if_true, if_false, jn]
  rw [if_neg (by decide)]
  exact hk
theorem honeycombbook_Book_putPages_nil {gb : Nat} {w : World} {cs : Array Value} {T : TypeId} {k : Value → World → Prop} (hg : w.heap[gb]? = some (.cells cs T (0, 0))) (hc : cs[6]? = some (.slice none 0 0)) (hk : k (.tuple #[]) w) :
    callW Try.prog (.func (.func 38) #[] #[]) [.pointer (some ⟨gb, 0, none⟩)] w k := by
  apply honeycombbook_Book_putPages_call
  apply honeycombbook_Book_putPages_run
  simp only [honeycombbook_Book_putPages]
  refine lp_once fun rec => ?_
  simp only [honeycombbook_Book_putPages_L1, iw_add, iw_sub, iw_mul, iw_lss, iw_leq, iw_gtr, iw_geq, iw_eql, iw_neq, iw_quo, iw_rem, un_not, len_s, len_l, nck_p, fld_p, cv_i, unc_c, ex_0, ex_1, ex_2, st_eq, st_ne, brV_true, brV_false, brV_b, brV_not, one_one, nil_p, nil_pn, nil_n, nil_nn, decide_eq_true_eq, true_and, nb_ite, bs_size, Nat.zero_add, Bool.not_true, Bool.not_false, Bool.false_eq_true, eq_self, if_true, if_false, jn]
  refine ldC_heap hg hc ?_
  simp only [iw_add, iw_sub, iw_mul, iw_lss, iw_leq, iw_gtr, iw_geq, iw_eql, iw_neq, iw_quo, iw_rem, un_not, len_s, len_l, nck_p, fld_p, cv_i, unc_c, ex_0, ex_1, ex_2, st_eq, st_ne, brV_true, brV_false, brV_b, brV_not, one_one, nil_p, nil_pn, nil_n, nil_nn, decide_eq_true_eq, true_and, nb_ite, bs_size, Nat.zero_add, Bool.not_true, Bool.not_false, Bool.false_eq_true, eq_self, if_true, if_false, jn]
  rw [if_neg (by decide)]
  exact hk
theorem honeycombbook_Book_growPages_nil {gb : Nat} {w : World} {cs : Array Value} {T : TypeId} {k : Value → World → Prop} (hg : w.heap[gb]? = some (.cells cs T (0, 0))) (hc : cs[6]? = some (.slice none 0 0)) (hk : k (.slice none 0 0) w) :
    callW Try.prog (.func (.func 46) #[] #[]) [.pointer (some ⟨gb, 0, none⟩)] w k := by
  apply honeycombbook_Book_growPages_call
  apply honeycombbook_Book_growPages_run
  simp only [honeycombbook_Book_growPages]
  refine lp_once fun rec => ?_
  simp only [honeycombbook_Book_growPages_L3, iw_add, iw_sub, iw_mul, iw_lss, iw_leq, iw_gtr, iw_geq, iw_eql, iw_neq, iw_quo, iw_rem, un_not, len_s, len_l, nck_p, fld_p, cv_i, unc_c, ex_0, ex_1, ex_2, st_eq, st_ne, brV_true, brV_false, brV_b, brV_not, one_one, nil_p, nil_pn, nil_n, nil_nn, decide_eq_true_eq, true_and, nb_ite, bs_size, Nat.zero_add, Bool.not_true, Bool.not_false, Bool.false_eq_true, eq_self, if_true, if_false, jn]
  refine ldC_heap hg hc ?_
  simp only [iw_add, iw_sub, iw_mul, iw_lss, iw_leq, iw_gtr, iw_geq, iw_eql, iw_neq, iw_quo, iw_rem, un_not, len_s, len_l, nck_p, fld_p, cv_i, unc_c, ex_0, ex_1, ex_2, st_eq, st_ne, brV_true, brV_false, brV_b, brV_not, one_one, nil_p, nil_pn, nil_n, nil_nn, decide_eq_true_eq, true_and, nb_ite, bs_size, Nat.zero_add, Bool.not_true, Bool.not_false, Bool.false_eq_true, eq_self, if_true, if_false, jn]
  rw [if_neg (by decide)]
  exact hk
theorem honeycombbook_markedPages_nil {w : World} {k : Value → World → Prop} (hk : k (.bool true) w) :
    callW Try.prog (.func (.func 55) #[] #[]) [.slice none 0 0] w k := by
  apply honeycombbook_markedPages_call
  apply honeycombbook_markedPages_run
  simp only [honeycombbook_markedPages]
  refine lp_once fun rec => ?_
  simp only [honeycombbook_markedPages_L2, iw_add, iw_sub, iw_mul, iw_lss, iw_leq, iw_gtr, iw_geq, iw_eql, iw_neq, iw_quo, iw_rem, un_not, len_s, len_l, nck_p, fld_p, cv_i, unc_c, ex_0, ex_1, ex_2, st_eq, st_ne, brV_true, brV_false, brV_b, brV_not, one_one, nil_p, nil_pn, nil_n, nil_nn, decide_eq_true_eq, true_and, nb_ite, bs_size, Nat.zero_add, Bool.not_true, Bool.not_false, Bool.false_eq_true, eq_self, if_true, if_false, jn]
  rw [if_neg (by decide)]
  exact hk
theorem honeycombbook_Book_stillPatches_nil {gb : Nat} {w : World} {cs : Array Value} {T : TypeId} {k : Value → World → Prop} (hg : w.heap[gb]? = some (.cells cs T (0, 0))) (hc : cs[8]? = some (.slice none 0 0)) (hk : k (.bool true) w) :
    callW Try.prog (.func (.func 29) #[] #[]) [.pointer (some ⟨gb, 0, none⟩)] w k := by
  apply honeycombbook_Book_stillPatches_call
  apply honeycombbook_Book_stillPatches_run
  simp only [honeycombbook_Book_stillPatches]
  refine lp_once fun rec => ?_
  simp only [honeycombbook_Book_stillPatches_L2, iw_add, iw_sub, iw_mul, iw_lss, iw_leq, iw_gtr, iw_geq, iw_eql, iw_neq, iw_quo, iw_rem, un_not, len_s, len_l, nck_p, fld_p, cv_i, unc_c, ex_0, ex_1, ex_2, st_eq, st_ne, brV_true, brV_false, brV_b, brV_not, one_one, nil_p, nil_pn, nil_n, nil_nn, decide_eq_true_eq, true_and, nb_ite, bs_size, Nat.zero_add, Bool.not_true, Bool.not_false, Bool.false_eq_true, eq_self, if_true, if_false, jn]
  refine ldC_heap hg hc ?_
  simp only [iw_add, iw_sub, iw_mul, iw_lss, iw_leq, iw_gtr, iw_geq, iw_eql, iw_neq, iw_quo, iw_rem, un_not, len_s, len_l, nck_p, fld_p, cv_i, unc_c, ex_0, ex_1, ex_2, st_eq, st_ne, brV_true, brV_false, brV_b, brV_not, one_one, nil_p, nil_pn, nil_n, nil_nn, decide_eq_true_eq, true_and, nb_ite, bs_size, Nat.zero_add, Bool.not_true, Bool.not_false, Bool.false_eq_true, eq_self, if_true, if_false, jn]
  rw [if_neg (by decide)]
  exact hk
theorem honeycombbook_Book_putPatches_nil {gb : Nat} {w : World} {cs : Array Value} {T : TypeId} {k : Value → World → Prop} (hg : w.heap[gb]? = some (.cells cs T (0, 0))) (hc : cs[8]? = some (.slice none 0 0)) (hk : k (.tuple #[]) w) :
    callW Try.prog (.func (.func 39) #[] #[]) [.pointer (some ⟨gb, 0, none⟩)] w k := by
  apply honeycombbook_Book_putPatches_call
  apply honeycombbook_Book_putPatches_run
  simp only [honeycombbook_Book_putPatches]
  refine lp_once fun rec => ?_
  simp only [honeycombbook_Book_putPatches_L1, iw_add, iw_sub, iw_mul, iw_lss, iw_leq, iw_gtr, iw_geq, iw_eql, iw_neq, iw_quo, iw_rem, un_not, len_s, len_l, nck_p, fld_p, cv_i, unc_c, ex_0, ex_1, ex_2, st_eq, st_ne, brV_true, brV_false, brV_b, brV_not, one_one, nil_p, nil_pn, nil_n, nil_nn, decide_eq_true_eq, true_and, nb_ite, bs_size, Nat.zero_add, Bool.not_true, Bool.not_false, Bool.false_eq_true, eq_self, if_true, if_false, jn]
  refine ldC_heap hg hc ?_
  simp only [iw_add, iw_sub, iw_mul, iw_lss, iw_leq, iw_gtr, iw_geq, iw_eql, iw_neq, iw_quo, iw_rem, un_not, len_s, len_l, nck_p, fld_p, cv_i, unc_c, ex_0, ex_1, ex_2, st_eq, st_ne, brV_true, brV_false, brV_b, brV_not, one_one, nil_p, nil_pn, nil_n, nil_nn, decide_eq_true_eq, true_and, nb_ite, bs_size, Nat.zero_add, Bool.not_true, Bool.not_false, Bool.false_eq_true, eq_self, if_true, if_false, jn]
  rw [if_neg (by decide)]
  exact hk
theorem honeycombbook_Book_growPatches_nil {gb : Nat} {w : World} {cs : Array Value} {T : TypeId} {k : Value → World → Prop} (hg : w.heap[gb]? = some (.cells cs T (0, 0))) (hc : cs[8]? = some (.slice none 0 0)) (hk : k (.slice none 0 0) w) :
    callW Try.prog (.func (.func 47) #[] #[]) [.pointer (some ⟨gb, 0, none⟩)] w k := by
  apply honeycombbook_Book_growPatches_call
  apply honeycombbook_Book_growPatches_run
  simp only [honeycombbook_Book_growPatches]
  refine lp_once fun rec => ?_
  simp only [honeycombbook_Book_growPatches_L3, iw_add, iw_sub, iw_mul, iw_lss, iw_leq, iw_gtr, iw_geq, iw_eql, iw_neq, iw_quo, iw_rem, un_not, len_s, len_l, nck_p, fld_p, cv_i, unc_c, ex_0, ex_1, ex_2, st_eq, st_ne, brV_true, brV_false, brV_b, brV_not, one_one, nil_p, nil_pn, nil_n, nil_nn, decide_eq_true_eq, true_and, nb_ite, bs_size, Nat.zero_add, Bool.not_true, Bool.not_false, Bool.false_eq_true, eq_self, if_true, if_false, jn]
  refine ldC_heap hg hc ?_
  simp only [iw_add, iw_sub, iw_mul, iw_lss, iw_leq, iw_gtr, iw_geq, iw_eql, iw_neq, iw_quo, iw_rem, un_not, len_s, len_l, nck_p, fld_p, cv_i, unc_c, ex_0, ex_1, ex_2, st_eq, st_ne, brV_true, brV_false, brV_b, brV_not, one_one, nil_p, nil_pn, nil_n, nil_nn, decide_eq_true_eq, true_and, nb_ite, bs_size, Nat.zero_add, Bool.not_true, Bool.not_false, Bool.false_eq_true, eq_self, if_true, if_false, jn]
  rw [if_neg (by decide)]
  exact hk
theorem honeycombbook_markedPatches_nil {w : World} {k : Value → World → Prop} (hk : k (.bool true) w) :
    callW Try.prog (.func (.func 56) #[] #[]) [.slice none 0 0] w k := by
  apply honeycombbook_markedPatches_call
  apply honeycombbook_markedPatches_run
  simp only [honeycombbook_markedPatches]
  refine lp_once fun rec => ?_
  simp only [honeycombbook_markedPatches_L2, iw_add, iw_sub, iw_mul, iw_lss, iw_leq, iw_gtr, iw_geq, iw_eql, iw_neq, iw_quo, iw_rem, un_not, len_s, len_l, nck_p, fld_p, cv_i, unc_c, ex_0, ex_1, ex_2, st_eq, st_ne, brV_true, brV_false, brV_b, brV_not, one_one, nil_p, nil_pn, nil_n, nil_nn, decide_eq_true_eq, true_and, nb_ite, bs_size, Nat.zero_add, Bool.not_true, Bool.not_false, Bool.false_eq_true, eq_self, if_true, if_false, jn]
  rw [if_neg (by decide)]
  exact hk
theorem honeycombbook_Book_stillDirty_nil {gb : Nat} {w : World} {cs : Array Value} {T : TypeId} {k : Value → World → Prop} (hg : w.heap[gb]? = some (.cells cs T (0, 0))) (hc : cs[10]? = some (.slice none 0 0)) (hk : k (.bool true) w) :
    callW Try.prog (.func (.func 30) #[] #[]) [.pointer (some ⟨gb, 0, none⟩)] w k := by
  apply honeycombbook_Book_stillDirty_call
  apply honeycombbook_Book_stillDirty_run
  simp only [honeycombbook_Book_stillDirty]
  refine lp_once fun rec => ?_
  simp only [honeycombbook_Book_stillDirty_L2, iw_add, iw_sub, iw_mul, iw_lss, iw_leq, iw_gtr, iw_geq, iw_eql, iw_neq, iw_quo, iw_rem, un_not, len_s, len_l, nck_p, fld_p, cv_i, unc_c, ex_0, ex_1, ex_2, st_eq, st_ne, brV_true, brV_false, brV_b, brV_not, one_one, nil_p, nil_pn, nil_n, nil_nn, decide_eq_true_eq, true_and, nb_ite, bs_size, Nat.zero_add, Bool.not_true, Bool.not_false, Bool.false_eq_true, eq_self, if_true, if_false, jn]
  refine ldC_heap hg hc ?_
  simp only [iw_add, iw_sub, iw_mul, iw_lss, iw_leq, iw_gtr, iw_geq, iw_eql, iw_neq, iw_quo, iw_rem, un_not, len_s, len_l, nck_p, fld_p, cv_i, unc_c, ex_0, ex_1, ex_2, st_eq, st_ne, brV_true, brV_false, brV_b, brV_not, one_one, nil_p, nil_pn, nil_n, nil_nn, decide_eq_true_eq, true_and, nb_ite, bs_size, Nat.zero_add, Bool.not_true, Bool.not_false, Bool.false_eq_true, eq_self, if_true, if_false, jn]
  rw [if_neg (by decide)]
  exact hk
theorem honeycombbook_Book_putDirty_nil {gb : Nat} {w : World} {cs : Array Value} {T : TypeId} {k : Value → World → Prop} (hg : w.heap[gb]? = some (.cells cs T (0, 0))) (hc : cs[10]? = some (.slice none 0 0)) (hk : k (.tuple #[]) w) :
    callW Try.prog (.func (.func 40) #[] #[]) [.pointer (some ⟨gb, 0, none⟩)] w k := by
  apply honeycombbook_Book_putDirty_call
  apply honeycombbook_Book_putDirty_run
  simp only [honeycombbook_Book_putDirty]
  refine lp_once fun rec => ?_
  simp only [honeycombbook_Book_putDirty_L1, iw_add, iw_sub, iw_mul, iw_lss, iw_leq, iw_gtr, iw_geq, iw_eql, iw_neq, iw_quo, iw_rem, un_not, len_s, len_l, nck_p, fld_p, cv_i, unc_c, ex_0, ex_1, ex_2, st_eq, st_ne, brV_true, brV_false, brV_b, brV_not, one_one, nil_p, nil_pn, nil_n, nil_nn, decide_eq_true_eq, true_and, nb_ite, bs_size, Nat.zero_add, Bool.not_true, Bool.not_false, Bool.false_eq_true, eq_self, if_true, if_false, jn]
  refine ldC_heap hg hc ?_
  simp only [iw_add, iw_sub, iw_mul, iw_lss, iw_leq, iw_gtr, iw_geq, iw_eql, iw_neq, iw_quo, iw_rem, un_not, len_s, len_l, nck_p, fld_p, cv_i, unc_c, ex_0, ex_1, ex_2, st_eq, st_ne, brV_true, brV_false, brV_b, brV_not, one_one, nil_p, nil_pn, nil_n, nil_nn, decide_eq_true_eq, true_and, nb_ite, bs_size, Nat.zero_add, Bool.not_true, Bool.not_false, Bool.false_eq_true, eq_self, if_true, if_false, jn]
  rw [if_neg (by decide)]
  exact hk
theorem honeycombbook_Book_growDirty_nil {gb : Nat} {w : World} {cs : Array Value} {T : TypeId} {k : Value → World → Prop} (hg : w.heap[gb]? = some (.cells cs T (0, 0))) (hc : cs[10]? = some (.slice none 0 0)) (hk : k (.slice none 0 0) w) :
    callW Try.prog (.func (.func 48) #[] #[]) [.pointer (some ⟨gb, 0, none⟩)] w k := by
  apply honeycombbook_Book_growDirty_call
  apply honeycombbook_Book_growDirty_run
  simp only [honeycombbook_Book_growDirty]
  refine lp_once fun rec => ?_
  simp only [honeycombbook_Book_growDirty_L3, iw_add, iw_sub, iw_mul, iw_lss, iw_leq, iw_gtr, iw_geq, iw_eql, iw_neq, iw_quo, iw_rem, un_not, len_s, len_l, nck_p, fld_p, cv_i, unc_c, ex_0, ex_1, ex_2, st_eq, st_ne, brV_true, brV_false, brV_b, brV_not, one_one, nil_p, nil_pn, nil_n, nil_nn, decide_eq_true_eq, true_and, nb_ite, bs_size, Nat.zero_add, Bool.not_true, Bool.not_false, Bool.false_eq_true, eq_self, if_true, if_false, jn]
  refine ldC_heap hg hc ?_
  simp only [iw_add, iw_sub, iw_mul, iw_lss, iw_leq, iw_gtr, iw_geq, iw_eql, iw_neq, iw_quo, iw_rem, un_not, len_s, len_l, nck_p, fld_p, cv_i, unc_c, ex_0, ex_1, ex_2, st_eq, st_ne, brV_true, brV_false, brV_b, brV_not, one_one, nil_p, nil_pn, nil_n, nil_nn, decide_eq_true_eq, true_and, nb_ite, bs_size, Nat.zero_add, Bool.not_true, Bool.not_false, Bool.false_eq_true, eq_self, if_true, if_false, jn]
  rw [if_neg (by decide)]
  exact hk
theorem honeycombbook_markedDirty_nil {w : World} {k : Value → World → Prop} (hk : k (.bool true) w) :
    callW Try.prog (.func (.func 57) #[] #[]) [.slice none 0 0] w k := by
  apply honeycombbook_markedDirty_call
  apply honeycombbook_markedDirty_run
  simp only [honeycombbook_markedDirty]
  refine lp_once fun rec => ?_
  simp only [honeycombbook_markedDirty_L2, iw_add, iw_sub, iw_mul, iw_lss, iw_leq, iw_gtr, iw_geq, iw_eql, iw_neq, iw_quo, iw_rem, un_not, len_s, len_l, nck_p, fld_p, cv_i, unc_c, ex_0, ex_1, ex_2, st_eq, st_ne, brV_true, brV_false, brV_b, brV_not, one_one, nil_p, nil_pn, nil_n, nil_nn, decide_eq_true_eq, true_and, nb_ite, bs_size, Nat.zero_add, Bool.not_true, Bool.not_false, Bool.false_eq_true, eq_self, if_true, if_false, jn]
  rw [if_neg (by decide)]
  exact hk
theorem honeycombbook_Book_stillEntries_nil {gb : Nat} {w : World} {cs : Array Value} {T : TypeId} {k : Value → World → Prop} (hg : w.heap[gb]? = some (.cells cs T (0, 0))) (hc : cs[12]? = some (.slice none 0 0)) (hk : k (.bool true) w) :
    callW Try.prog (.func (.func 31) #[] #[]) [.pointer (some ⟨gb, 0, none⟩)] w k := by
  apply honeycombbook_Book_stillEntries_call
  apply honeycombbook_Book_stillEntries_run
  simp only [honeycombbook_Book_stillEntries]
  refine lp_once fun rec => ?_
  simp only [honeycombbook_Book_stillEntries_L2, iw_add, iw_sub, iw_mul, iw_lss, iw_leq, iw_gtr, iw_geq, iw_eql, iw_neq, iw_quo, iw_rem, un_not, len_s, len_l, nck_p, fld_p, cv_i, unc_c, ex_0, ex_1, ex_2, st_eq, st_ne, brV_true, brV_false, brV_b, brV_not, one_one, nil_p, nil_pn, nil_n, nil_nn, decide_eq_true_eq, true_and, nb_ite, bs_size, Nat.zero_add, Bool.not_true, Bool.not_false, Bool.false_eq_true, eq_self, if_true, if_false, jn]
  refine ldC_heap hg hc ?_
  simp only [iw_add, iw_sub, iw_mul, iw_lss, iw_leq, iw_gtr, iw_geq, iw_eql, iw_neq, iw_quo, iw_rem, un_not, len_s, len_l, nck_p, fld_p, cv_i, unc_c, ex_0, ex_1, ex_2, st_eq, st_ne, brV_true, brV_false, brV_b, brV_not, one_one, nil_p, nil_pn, nil_n, nil_nn, decide_eq_true_eq, true_and, nb_ite, bs_size, Nat.zero_add, Bool.not_true, Bool.not_false, Bool.false_eq_true, eq_self, if_true, if_false, jn]
  rw [if_neg (by decide)]
  exact hk
theorem honeycombbook_Book_putEntries_nil {gb : Nat} {w : World} {cs : Array Value} {T : TypeId} {k : Value → World → Prop} (hg : w.heap[gb]? = some (.cells cs T (0, 0))) (hc : cs[12]? = some (.slice none 0 0)) (hk : k (.tuple #[]) w) :
    callW Try.prog (.func (.func 41) #[] #[]) [.pointer (some ⟨gb, 0, none⟩)] w k := by
  apply honeycombbook_Book_putEntries_call
  apply honeycombbook_Book_putEntries_run
  simp only [honeycombbook_Book_putEntries]
  refine lp_once fun rec => ?_
  simp only [honeycombbook_Book_putEntries_L1, iw_add, iw_sub, iw_mul, iw_lss, iw_leq, iw_gtr, iw_geq, iw_eql, iw_neq, iw_quo, iw_rem, un_not, len_s, len_l, nck_p, fld_p, cv_i, unc_c, ex_0, ex_1, ex_2, st_eq, st_ne, brV_true, brV_false, brV_b, brV_not, one_one, nil_p, nil_pn, nil_n, nil_nn, decide_eq_true_eq, true_and, nb_ite, bs_size, Nat.zero_add, Bool.not_true, Bool.not_false, Bool.false_eq_true, eq_self, if_true, if_false, jn]
  refine ldC_heap hg hc ?_
  simp only [iw_add, iw_sub, iw_mul, iw_lss, iw_leq, iw_gtr, iw_geq, iw_eql, iw_neq, iw_quo, iw_rem, un_not, len_s, len_l, nck_p, fld_p, cv_i, unc_c, ex_0, ex_1, ex_2, st_eq, st_ne, brV_true, brV_false, brV_b, brV_not, one_one, nil_p, nil_pn, nil_n, nil_nn, decide_eq_true_eq, true_and, nb_ite, bs_size, Nat.zero_add, Bool.not_true, Bool.not_false, Bool.false_eq_true, eq_self, if_true, if_false, jn]
  rw [if_neg (by decide)]
  exact hk
theorem honeycombbook_Book_growEntries_nil {gb : Nat} {w : World} {cs : Array Value} {T : TypeId} {k : Value → World → Prop} (hg : w.heap[gb]? = some (.cells cs T (0, 0))) (hc : cs[12]? = some (.slice none 0 0)) (hk : k (.slice none 0 0) w) :
    callW Try.prog (.func (.func 49) #[] #[]) [.pointer (some ⟨gb, 0, none⟩)] w k := by
  apply honeycombbook_Book_growEntries_call
  apply honeycombbook_Book_growEntries_run
  simp only [honeycombbook_Book_growEntries]
  refine lp_once fun rec => ?_
  simp only [honeycombbook_Book_growEntries_L3, iw_add, iw_sub, iw_mul, iw_lss, iw_leq, iw_gtr, iw_geq, iw_eql, iw_neq, iw_quo, iw_rem, un_not, len_s, len_l, nck_p, fld_p, cv_i, unc_c, ex_0, ex_1, ex_2, st_eq, st_ne, brV_true, brV_false, brV_b, brV_not, one_one, nil_p, nil_pn, nil_n, nil_nn, decide_eq_true_eq, true_and, nb_ite, bs_size, Nat.zero_add, Bool.not_true, Bool.not_false, Bool.false_eq_true, eq_self, if_true, if_false, jn]
  refine ldC_heap hg hc ?_
  simp only [iw_add, iw_sub, iw_mul, iw_lss, iw_leq, iw_gtr, iw_geq, iw_eql, iw_neq, iw_quo, iw_rem, un_not, len_s, len_l, nck_p, fld_p, cv_i, unc_c, ex_0, ex_1, ex_2, st_eq, st_ne, brV_true, brV_false, brV_b, brV_not, one_one, nil_p, nil_pn, nil_n, nil_nn, decide_eq_true_eq, true_and, nb_ite, bs_size, Nat.zero_add, Bool.not_true, Bool.not_false, Bool.false_eq_true, eq_self, if_true, if_false, jn]
  rw [if_neg (by decide)]
  exact hk
theorem honeycombbook_markedEntries_nil {w : World} {k : Value → World → Prop} (hk : k (.bool true) w) :
    callW Try.prog (.func (.func 58) #[] #[]) [.slice none 0 0] w k := by
  apply honeycombbook_markedEntries_call
  apply honeycombbook_markedEntries_run
  simp only [honeycombbook_markedEntries]
  refine lp_once fun rec => ?_
  simp only [honeycombbook_markedEntries_L2, iw_add, iw_sub, iw_mul, iw_lss, iw_leq, iw_gtr, iw_geq, iw_eql, iw_neq, iw_quo, iw_rem, un_not, len_s, len_l, nck_p, fld_p, cv_i, unc_c, ex_0, ex_1, ex_2, st_eq, st_ne, brV_true, brV_false, brV_b, brV_not, one_one, nil_p, nil_pn, nil_n, nil_nn, decide_eq_true_eq, true_and, nb_ite, bs_size, Nat.zero_add, Bool.not_true, Bool.not_false, Bool.false_eq_true, eq_self, if_true, if_false, jn]
  rw [if_neg (by decide)]
  exact hk
theorem honeycombbook_Book_stillPairs_nil {gb : Nat} {w : World} {cs : Array Value} {T : TypeId} {k : Value → World → Prop} (hg : w.heap[gb]? = some (.cells cs T (0, 0))) (hc : cs[14]? = some (.slice none 0 0)) (hk : k (.bool true) w) :
    callW Try.prog (.func (.func 32) #[] #[]) [.pointer (some ⟨gb, 0, none⟩)] w k := by
  apply honeycombbook_Book_stillPairs_call
  apply honeycombbook_Book_stillPairs_run
  simp only [honeycombbook_Book_stillPairs]
  refine lp_once fun rec => ?_
  simp only [honeycombbook_Book_stillPairs_L2, iw_add, iw_sub, iw_mul, iw_lss, iw_leq, iw_gtr, iw_geq, iw_eql, iw_neq, iw_quo, iw_rem, un_not, len_s, len_l, nck_p, fld_p, cv_i, unc_c, ex_0, ex_1, ex_2, st_eq, st_ne, brV_true, brV_false, brV_b, brV_not, one_one, nil_p, nil_pn, nil_n, nil_nn, decide_eq_true_eq, true_and, nb_ite, bs_size, Nat.zero_add, Bool.not_true, Bool.not_false, Bool.false_eq_true, eq_self, if_true, if_false, jn]
  refine ldC_heap hg hc ?_
  simp only [iw_add, iw_sub, iw_mul, iw_lss, iw_leq, iw_gtr, iw_geq, iw_eql, iw_neq, iw_quo, iw_rem, un_not, len_s, len_l, nck_p, fld_p, cv_i, unc_c, ex_0, ex_1, ex_2, st_eq, st_ne, brV_true, brV_false, brV_b, brV_not, one_one, nil_p, nil_pn, nil_n, nil_nn, decide_eq_true_eq, true_and, nb_ite, bs_size, Nat.zero_add, Bool.not_true, Bool.not_false, Bool.false_eq_true, eq_self, if_true, if_false, jn]
  rw [if_neg (by decide)]
  exact hk
theorem honeycombbook_Book_putPairs_nil {gb : Nat} {w : World} {cs : Array Value} {T : TypeId} {k : Value → World → Prop} (hg : w.heap[gb]? = some (.cells cs T (0, 0))) (hc : cs[14]? = some (.slice none 0 0)) (hk : k (.tuple #[]) w) :
    callW Try.prog (.func (.func 42) #[] #[]) [.pointer (some ⟨gb, 0, none⟩)] w k := by
  apply honeycombbook_Book_putPairs_call
  apply honeycombbook_Book_putPairs_run
  simp only [honeycombbook_Book_putPairs]
  refine lp_once fun rec => ?_
  simp only [honeycombbook_Book_putPairs_L1, iw_add, iw_sub, iw_mul, iw_lss, iw_leq, iw_gtr, iw_geq, iw_eql, iw_neq, iw_quo, iw_rem, un_not, len_s, len_l, nck_p, fld_p, cv_i, unc_c, ex_0, ex_1, ex_2, st_eq, st_ne, brV_true, brV_false, brV_b, brV_not, one_one, nil_p, nil_pn, nil_n, nil_nn, decide_eq_true_eq, true_and, nb_ite, bs_size, Nat.zero_add, Bool.not_true, Bool.not_false, Bool.false_eq_true, eq_self, if_true, if_false, jn]
  refine ldC_heap hg hc ?_
  simp only [iw_add, iw_sub, iw_mul, iw_lss, iw_leq, iw_gtr, iw_geq, iw_eql, iw_neq, iw_quo, iw_rem, un_not, len_s, len_l, nck_p, fld_p, cv_i, unc_c, ex_0, ex_1, ex_2, st_eq, st_ne, brV_true, brV_false, brV_b, brV_not, one_one, nil_p, nil_pn, nil_n, nil_nn, decide_eq_true_eq, true_and, nb_ite, bs_size, Nat.zero_add, Bool.not_true, Bool.not_false, Bool.false_eq_true, eq_self, if_true, if_false, jn]
  rw [if_neg (by decide)]
  exact hk
theorem honeycombbook_Book_growPairs_nil {gb : Nat} {w : World} {cs : Array Value} {T : TypeId} {k : Value → World → Prop} (hg : w.heap[gb]? = some (.cells cs T (0, 0))) (hc : cs[14]? = some (.slice none 0 0)) (hk : k (.slice none 0 0) w) :
    callW Try.prog (.func (.func 50) #[] #[]) [.pointer (some ⟨gb, 0, none⟩)] w k := by
  apply honeycombbook_Book_growPairs_call
  apply honeycombbook_Book_growPairs_run
  simp only [honeycombbook_Book_growPairs]
  refine lp_once fun rec => ?_
  simp only [honeycombbook_Book_growPairs_L3, iw_add, iw_sub, iw_mul, iw_lss, iw_leq, iw_gtr, iw_geq, iw_eql, iw_neq, iw_quo, iw_rem, un_not, len_s, len_l, nck_p, fld_p, cv_i, unc_c, ex_0, ex_1, ex_2, st_eq, st_ne, brV_true, brV_false, brV_b, brV_not, one_one, nil_p, nil_pn, nil_n, nil_nn, decide_eq_true_eq, true_and, nb_ite, bs_size, Nat.zero_add, Bool.not_true, Bool.not_false, Bool.false_eq_true, eq_self, if_true, if_false, jn]
  refine ldC_heap hg hc ?_
  simp only [iw_add, iw_sub, iw_mul, iw_lss, iw_leq, iw_gtr, iw_geq, iw_eql, iw_neq, iw_quo, iw_rem, un_not, len_s, len_l, nck_p, fld_p, cv_i, unc_c, ex_0, ex_1, ex_2, st_eq, st_ne, brV_true, brV_false, brV_b, brV_not, one_one, nil_p, nil_pn, nil_n, nil_nn, decide_eq_true_eq, true_and, nb_ite, bs_size, Nat.zero_add, Bool.not_true, Bool.not_false, Bool.false_eq_true, eq_self, if_true, if_false, jn]
  rw [if_neg (by decide)]
  exact hk
theorem honeycombbook_markedPairs_nil {w : World} {k : Value → World → Prop} (hk : k (.bool true) w) :
    callW Try.prog (.func (.func 59) #[] #[]) [.slice none 0 0] w k := by
  apply honeycombbook_markedPairs_call
  apply honeycombbook_markedPairs_run
  simp only [honeycombbook_markedPairs]
  refine lp_once fun rec => ?_
  simp only [honeycombbook_markedPairs_L2, iw_add, iw_sub, iw_mul, iw_lss, iw_leq, iw_gtr, iw_geq, iw_eql, iw_neq, iw_quo, iw_rem, un_not, len_s, len_l, nck_p, fld_p, cv_i, unc_c, ex_0, ex_1, ex_2, st_eq, st_ne, brV_true, brV_false, brV_b, brV_not, one_one, nil_p, nil_pn, nil_n, nil_nn, decide_eq_true_eq, true_and, nb_ite, bs_size, Nat.zero_add, Bool.not_true, Bool.not_false, Bool.false_eq_true, eq_self, if_true, if_false, jn]
  rw [if_neg (by decide)]
  exact hk
theorem honeycombbook_Book_stillTxs_nil {gb : Nat} {w : World} {cs : Array Value} {T : TypeId} {k : Value → World → Prop} (hg : w.heap[gb]? = some (.cells cs T (0, 0))) (hc : cs[16]? = some (.slice none 0 0)) (hk : k (.bool true) w) :
    callW Try.prog (.func (.func 33) #[] #[]) [.pointer (some ⟨gb, 0, none⟩)] w k := by
  apply honeycombbook_Book_stillTxs_call
  apply honeycombbook_Book_stillTxs_run
  simp only [honeycombbook_Book_stillTxs]
  refine lp_once fun rec => ?_
  simp only [honeycombbook_Book_stillTxs_L2, iw_add, iw_sub, iw_mul, iw_lss, iw_leq, iw_gtr, iw_geq, iw_eql, iw_neq, iw_quo, iw_rem, un_not, len_s, len_l, nck_p, fld_p, cv_i, unc_c, ex_0, ex_1, ex_2, st_eq, st_ne, brV_true, brV_false, brV_b, brV_not, one_one, nil_p, nil_pn, nil_n, nil_nn, decide_eq_true_eq, true_and, nb_ite, bs_size, Nat.zero_add, Bool.not_true, Bool.not_false, Bool.false_eq_true, eq_self, if_true, if_false, jn]
  refine ldC_heap hg hc ?_
  simp only [iw_add, iw_sub, iw_mul, iw_lss, iw_leq, iw_gtr, iw_geq, iw_eql, iw_neq, iw_quo, iw_rem, un_not, len_s, len_l, nck_p, fld_p, cv_i, unc_c, ex_0, ex_1, ex_2, st_eq, st_ne, brV_true, brV_false, brV_b, brV_not, one_one, nil_p, nil_pn, nil_n, nil_nn, decide_eq_true_eq, true_and, nb_ite, bs_size, Nat.zero_add, Bool.not_true, Bool.not_false, Bool.false_eq_true, eq_self, if_true, if_false, jn]
  rw [if_neg (by decide)]
  exact hk
theorem honeycombbook_Book_putTxs_nil {gb : Nat} {w : World} {cs : Array Value} {T : TypeId} {k : Value → World → Prop} (hg : w.heap[gb]? = some (.cells cs T (0, 0))) (hc : cs[16]? = some (.slice none 0 0)) (hk : k (.tuple #[]) w) :
    callW Try.prog (.func (.func 34) #[] #[]) [.pointer (some ⟨gb, 0, none⟩)] w k := by
  apply honeycombbook_Book_putTxs_call
  apply honeycombbook_Book_putTxs_run
  simp only [honeycombbook_Book_putTxs]
  refine lp_once fun rec => ?_
  simp only [honeycombbook_Book_putTxs_L1, iw_add, iw_sub, iw_mul, iw_lss, iw_leq, iw_gtr, iw_geq, iw_eql, iw_neq, iw_quo, iw_rem, un_not, len_s, len_l, nck_p, fld_p, cv_i, unc_c, ex_0, ex_1, ex_2, st_eq, st_ne, brV_true, brV_false, brV_b, brV_not, one_one, nil_p, nil_pn, nil_n, nil_nn, decide_eq_true_eq, true_and, nb_ite, bs_size, Nat.zero_add, Bool.not_true, Bool.not_false, Bool.false_eq_true, eq_self, if_true, if_false, jn]
  refine ldC_heap hg hc ?_
  simp only [iw_add, iw_sub, iw_mul, iw_lss, iw_leq, iw_gtr, iw_geq, iw_eql, iw_neq, iw_quo, iw_rem, un_not, len_s, len_l, nck_p, fld_p, cv_i, unc_c, ex_0, ex_1, ex_2, st_eq, st_ne, brV_true, brV_false, brV_b, brV_not, one_one, nil_p, nil_pn, nil_n, nil_nn, decide_eq_true_eq, true_and, nb_ite, bs_size, Nat.zero_add, Bool.not_true, Bool.not_false, Bool.false_eq_true, eq_self, if_true, if_false, jn]
  rw [if_neg (by decide)]
  exact hk
theorem honeycombbook_Book_growTxs_nil {gb : Nat} {w : World} {cs : Array Value} {T : TypeId} {k : Value → World → Prop} (hg : w.heap[gb]? = some (.cells cs T (0, 0))) (hc : cs[16]? = some (.slice none 0 0)) (hk : k (.slice none 0 0) w) :
    callW Try.prog (.func (.func 51) #[] #[]) [.pointer (some ⟨gb, 0, none⟩)] w k := by
  apply honeycombbook_Book_growTxs_call
  apply honeycombbook_Book_growTxs_run
  simp only [honeycombbook_Book_growTxs]
  refine lp_once fun rec => ?_
  simp only [honeycombbook_Book_growTxs_L3, iw_add, iw_sub, iw_mul, iw_lss, iw_leq, iw_gtr, iw_geq, iw_eql, iw_neq, iw_quo, iw_rem, un_not, len_s, len_l, nck_p, fld_p, cv_i, unc_c, ex_0, ex_1, ex_2, st_eq, st_ne, brV_true, brV_false, brV_b, brV_not, one_one, nil_p, nil_pn, nil_n, nil_nn, decide_eq_true_eq, true_and, nb_ite, bs_size, Nat.zero_add, Bool.not_true, Bool.not_false, Bool.false_eq_true, eq_self, if_true, if_false, jn]
  refine ldC_heap hg hc ?_
  simp only [iw_add, iw_sub, iw_mul, iw_lss, iw_leq, iw_gtr, iw_geq, iw_eql, iw_neq, iw_quo, iw_rem, un_not, len_s, len_l, nck_p, fld_p, cv_i, unc_c, ex_0, ex_1, ex_2, st_eq, st_ne, brV_true, brV_false, brV_b, brV_not, one_one, nil_p, nil_pn, nil_n, nil_nn, decide_eq_true_eq, true_and, nb_ite, bs_size, Nat.zero_add, Bool.not_true, Bool.not_false, Bool.false_eq_true, eq_self, if_true, if_false, jn]
  rw [if_neg (by decide)]
  exact hk
theorem honeycombbook_markedTxs_nil {w : World} {k : Value → World → Prop} (hk : k (.bool true) w) :
    callW Try.prog (.func (.func 60) #[] #[]) [.slice none 0 0] w k := by
  apply honeycombbook_markedTxs_call
  apply honeycombbook_markedTxs_run
  simp only [honeycombbook_markedTxs]
  refine lp_once fun rec => ?_
  simp only [honeycombbook_markedTxs_L2, iw_add, iw_sub, iw_mul, iw_lss, iw_leq, iw_gtr, iw_geq, iw_eql, iw_neq, iw_quo, iw_rem, un_not, len_s, len_l, nck_p, fld_p, cv_i, unc_c, ex_0, ex_1, ex_2, st_eq, st_ne, brV_true, brV_false, brV_b, brV_not, one_one, nil_p, nil_pn, nil_n, nil_nn, decide_eq_true_eq, true_and, nb_ite, bs_size, Nat.zero_add, Bool.not_true, Bool.not_false, Bool.false_eq_true, eq_self, if_true, if_false, jn]
  rw [if_neg (by decide)]
  exact hk
end Go.Proofs.Ytlicdhdpngahgaa
