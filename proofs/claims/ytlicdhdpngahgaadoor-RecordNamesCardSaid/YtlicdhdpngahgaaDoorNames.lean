/- Chapter 12: each kind has a name of its own. -/
import Derived.Test.YtlicdhdpngahgaaDoorAlive
set_option linter.unusedVariables false
set_option linter.unusedSimpArgs false
namespace Go.Proofs.YtlicdhdpngahgaaDoor
open Go.Eng Go.RowKit
theorem RecordNames_spec {a b : Int} {w : World} {k : Value → World → Prop} (hT : Tab w) (hk : ∀ w', Later w w' → k (.bool true) w') :
    Calls Tryd.prog 5 #[.int .i64 a, .int .i64 b] w (rt k) := by
  apply honeycomblaw12_RecordNames_run
  unfold honeycomblaw12_RecordNames
  refine alive12_from hT fun w1 hL1 => ?_
  have hT1 := hT.later hL1
  have key : ∀ c : Bool, c = decide (1 ≤ a ∧ a ≤ 7) → honeycomblaw12_RecordNames_J4 k [.int .i64 a, .int .i64 b, .bool c] w1 := fun c hc => by
    simp only [honeycomblaw12_RecordNames_J4, iw_add, iw_sub, iw_mul, iw_lss, iw_leq, iw_gtr, iw_geq, iw_eql, iw_neq, iw_quo, iw_rem, un_not, len_s, len_l, nck_p, fld_p, cv_i, unc_c, ex_0, ex_1, ex_2, st_eq, st_ne, brV_true, brV_false, brV_b, brV_not, one_one, nil_p, nil_pn, nil_n, nil_nn, decide_eq_true_eq, true_and, nb_ite, bs_size, Nat.zero_add, Bool.not_true, Bool.not_false, Bool.false_eq_true, eq_self, if_true, if_false, jn]
    refine Name_from hT1 fun w2 hL2 => ?_
    have hT2 := hT1.later hL2
    simp only [show (⟨#[]⟩ : ByteArray) = bs [] from rfl, iw_add, iw_sub, iw_mul, iw_lss, iw_leq, iw_gtr, iw_geq, iw_eql, iw_neq, iw_quo, iw_rem, un_not, len_s, len_l, nck_p, fld_p, cv_i, unc_c, ex_0, ex_1, ex_2, st_eq, st_ne, brV_true, brV_false, brV_b, brV_not, one_one, nil_p, nil_pn, nil_n, nil_nn, decide_eq_true_eq, true_and, nb_ite, bs_size, Nat.zero_add, Bool.not_true, Bool.not_false, Bool.false_eq_true, eq_self, if_true, if_false, jn, nil6_eq]
    have e : (decide (nameOf a ≠ []) == c) = true := by
      rw [hc, beq_iff_eq]
      by_cases h : 1 ≤ a ∧ a ≤ 7
      · rw [decide_eq_true h]; exact decide_eq_true fun h0 => (name_nil a).1 h0 h
      · rw [decide_eq_false h]; exact decide_eq_false fun h0 => h0 ((name_nil a).2 h)
    by_cases h : 1 ≤ a ∧ a ≤ 7
    · rw [decide_eq_true h] at hc
      subst hc
      rw [show (!decide (nameOf a = [])) = decide (nameOf a ≠ []) from by simp] at *
      simp only [e, iw_add, iw_sub, iw_mul, iw_lss, iw_leq, iw_gtr, iw_geq, iw_eql, iw_neq, iw_quo, iw_rem, un_not, len_s, len_l, nck_p, fld_p, cv_i, unc_c, ex_0, ex_1, ex_2, st_eq, st_ne, brV_true, brV_false, brV_b, brV_not, one_one, nil_p, nil_pn, nil_n, nil_nn, decide_eq_true_eq, true_and, nb_ite, bs_size, Nat.zero_add, Bool.not_true, Bool.not_false, Bool.false_eq_true, eq_self, if_true, if_false, jn]
      by_cases hab : a = b
      · rw [if_pos hab]
        exact hk w2 (hL1.tr hL2)
      · rw [if_neg hab]
        refine Name_from hT2 fun w3 hL3 => ?_
        refine Name_from (hT2.later hL3) fun w4 hL4 => ?_
        have hne : nameOf a ≠ nameOf b := fun h' => hab (name_inj h h')
        simp only [iw_add, iw_sub, iw_mul, iw_lss, iw_leq, iw_gtr, iw_geq, iw_eql, iw_neq, iw_quo, iw_rem, un_not, len_s, len_l, nck_p, fld_p, cv_i, unc_c, ex_0, ex_1, ex_2, st_eq, st_ne, brV_true, brV_false, brV_b, brV_not, one_one, nil_p, nil_pn, nil_n, nil_nn, decide_eq_true_eq, true_and, nb_ite, bs_size, Nat.zero_add, Bool.not_true, Bool.not_false, Bool.false_eq_true, eq_self, if_true, if_false, jn]
        have := hk w4 (((hL1.tr hL2).tr hL3).tr hL4)
        simpa [hne] using this
    · rw [decide_eq_false h] at hc
      subst hc
      have e0 := (name_nil a).2 h
      simpa [e0] using hk w2 (hL1.tr hL2)
  simp only [iw_add, iw_sub, iw_mul, iw_lss, iw_leq, iw_gtr, iw_geq, iw_eql, iw_neq, iw_quo, iw_rem, un_not, len_s, len_l, nck_p, fld_p, cv_i, unc_c, ex_0, ex_1, ex_2, st_eq, st_ne, brV_true, brV_false, brV_b, brV_not, one_one, nil_p, nil_pn, nil_n, nil_nn, decide_eq_true_eq, true_and, nb_ite, bs_size, Nat.zero_add, Bool.not_true, Bool.not_false, Bool.false_eq_true, eq_self, if_true, if_false, jn]
  by_cases h1 : a ≥ 1
  · rw [if_pos h1]
    have h0 : (decide (a ≤ 7)) = decide (1 ≤ a ∧ a ≤ 7) := by
      by_cases h7 : a ≤ 7
      · rw [decide_eq_true h7, decide_eq_true ⟨h1, h7⟩]
      · rw [decide_eq_false h7, decide_eq_false fun h => h7 h.2]
    exact key _ h0
  · rw [if_neg h1]
    exact key false (decide_eq_false fun h => h1 h.1).symm
end Go.Proofs.YtlicdhdpngahgaaDoor
