/- Chapter 12: Light: whatever it says. -/
import Derived.Test.YtlicdhdpngahgaaDoorRec
set_option linter.unusedVariables false
set_option linter.unusedSimpArgs false
namespace Go.Proofs.YtlicdhdpngahgaaDoor
open Go.Eng Go.RowKit
/-- A record's lists are no longer than slices may be. -/
def Rec.lens (r : Rec) : Prop := r.pages.length ≤ maxLen ∧ r.patches.length ≤ maxLen ∧ r.txs.length ≤ maxLen ∧ r.dirty.length ≤ maxLen
/-- What Light says where it says yes, as far as we ask. -/
def Rec.lt (r : Rec) : Prop := r.pages.length ≤ 80 ∧ r.patches.length ≤ 60 ∧ r.txs.length ≤ 20 ∧ r.dirty.length ≤ 80
theorem Light_from {r : Rec} {vp vq vt vd : Value} {ps : List Value} {w : World} {k : Value → World → Prop} (hv : RecV w vp vq vt vd ps r) (hn : r.lens)
    (hk : ∀ c w', Later w w' → (c = true → r.lt) → k (.bool c) w') : callW Tryd.prog (.func (.func 15) #[] #[]) [.agg (rcells r vp vq vt vd)] w k := by
  obtain ⟨hn1, hn2, hn3, hn4⟩ := hn
  simp only [maxLen] at hn1 hn2 hn3 hn4
  apply honeycomblaw12_Light_call
  apply honeycomblaw12_Light_run
  simp only [honeycomblaw12_Light, Value.cells]
  refine al_lit fun g w1 hL1 hg hgs => ?_
  have hv1 := hv.later hL1
  have no : ∀ W', W' = w1 → k (.bool false) W' := fun W' e => by subst e; exact hk _ _ hL1 (fun h => by cases h)
  simp only [iw_add, iw_sub, iw_mul, iw_lss, iw_leq, iw_gtr, iw_geq, iw_eql, iw_neq, iw_quo, iw_rem, un_not, len_s, len_l, nck_p, fld_p, cv_i, unc_c, ex_0, ex_1, ex_2, st_eq, st_ne, brV_true, brV_false, brV_b, brV_not, one_one, nil_p, nil_pn, nil_n, nil_nn, decide_eq_true_eq, true_and, nb_ite, bs_size, Nat.zero_add, Bool.not_true, Bool.not_false, Bool.false_eq_true, eq_self, if_true, if_false, jn]
  refine ldC_heap hg (v := .string (bs r.key)) rfl ?_
  simp only [iw_add, iw_sub, iw_mul, iw_lss, iw_leq, iw_gtr, iw_geq, iw_eql, iw_neq, iw_quo, iw_rem, un_not, len_s, len_l, nck_p, fld_p, cv_i, unc_c, ex_0, ex_1, ex_2, st_eq, st_ne, brV_true, brV_false, brV_b, brV_not, one_one, nil_p, nil_pn, nil_n, nil_nn, decide_eq_true_eq, true_and, nb_ite, bs_size, Nat.zero_add, Bool.not_true, Bool.not_false, Bool.false_eq_true, eq_self, if_true, if_false, jn]
  refine ldC_heap hg (v := .string (bs r.okey)) rfl ?_
  simp only [iw_add, iw_sub, iw_mul, iw_lss, iw_leq, iw_gtr, iw_geq, iw_eql, iw_neq, iw_quo, iw_rem, un_not, len_s, len_l, nck_p, fld_p, cv_i, unc_c, ex_0, ex_1, ex_2, st_eq, st_ne, brV_true, brV_false, brV_b, brV_not, one_one, nil_p, nil_pn, nil_n, nil_nn, decide_eq_true_eq, true_and, nb_ite, bs_size, Nat.zero_add, Bool.not_true, Bool.not_false, Bool.false_eq_true, eq_self, if_true, if_false, jn]
  refine ldC_heap hg (v := .string (bs r.oval)) rfl ?_
  simp only [iw_add, iw_sub, iw_mul, iw_lss, iw_leq, iw_gtr, iw_geq, iw_eql, iw_neq, iw_quo, iw_rem, un_not, len_s, len_l, nck_p, fld_p, cv_i, unc_c, ex_0, ex_1, ex_2, st_eq, st_ne, brV_true, brV_false, brV_b, brV_not, one_one, nil_p, nil_pn, nil_n, nil_nn, decide_eq_true_eq, true_and, nb_ite, bs_size, Nat.zero_add, Bool.not_true, Bool.not_false, Bool.false_eq_true, eq_self, if_true, if_false, jn]
  refine ldC_heap hg (v := vq) rfl (hv1.q.len ?_)
  refine lp_ind _ (fun (m : Nat) l w2 => ∃ n : Int, l = [.pointer (some ⟨g, 0, none⟩), .int .i64 n, .int .i64 r.patches.length, .int .i64 ((r.patches.length - m : Nat) : Int)] ∧ m ≤ r.patches.length ∧ w2 = w1) id ?_ (i := r.patches.length) ⟨_, by rw [Nat.sub_self]; rfl, Nat.le_refl _, rfl⟩
  rintro m l w2 rec ⟨n, rfl, hm, rfl⟩ ih
  simp only [honeycomblaw12_Light_L3, iw_add, iw_sub, iw_mul, iw_lss, iw_leq, iw_gtr, iw_geq, iw_eql, iw_neq, iw_quo, iw_rem, un_not, len_s, len_l, nck_p, fld_p, cv_i, unc_c, ex_0, ex_1, ex_2, st_eq, st_ne, brV_true, brV_false, brV_b, brV_not, one_one, nil_p, nil_pn, nil_n, nil_nn, decide_eq_true_eq, true_and, nb_ite, bs_size, Nat.zero_add, Bool.not_true, Bool.not_false, Bool.false_eq_true, eq_self, if_true, if_false, jn]
  by_cases h0 : m = 0
  · subst h0
    rw [if_neg (by omega)]
    refine ldC_heap hg (v := vt) rfl (hv1.t.len ?_)
    refine lp_ind _ (fun (m : Nat) l w3 => ∃ n : Int, l = [.pointer (some ⟨g, 0, none⟩), .int .i64 n, .int .i64 r.txs.length, .int .i64 ((r.txs.length - m : Nat) : Int)] ∧ m ≤ r.txs.length ∧ w3 = w2) id ?_ (i := r.txs.length) ⟨n, by rw [Nat.sub_self]; rfl, Nat.le_refl _, rfl⟩
    clear ih
    rintro m l w3 rec2 ⟨n, rfl, hm, rfl⟩ ih
    simp only [honeycomblaw12_Light_L10, iw_add, iw_sub, iw_mul, iw_lss, iw_leq, iw_gtr, iw_geq, iw_eql, iw_neq, iw_quo, iw_rem, un_not, len_s, len_l, nck_p, fld_p, cv_i, unc_c, ex_0, ex_1, ex_2, st_eq, st_ne, brV_true, brV_false, brV_b, brV_not, one_one, nil_p, nil_pn, nil_n, nil_nn, decide_eq_true_eq, true_and, nb_ite, bs_size, Nat.zero_add, Bool.not_true, Bool.not_false, Bool.false_eq_true, eq_self, if_true, if_false, jn]
    by_cases h0 : m = 0
    · subst h0
      rw [if_neg (by omega)]
      by_cases c0 : n < 20000
      · rw [if_pos c0]
        refine ldC_heap hg (v := vp) rfl (hv1.p.len ?_)
        simp only [iw_add, iw_sub, iw_mul, iw_lss, iw_leq, iw_gtr, iw_geq, iw_eql, iw_neq, iw_quo, iw_rem, un_not, len_s, len_l, nck_p, fld_p, cv_i, unc_c, ex_0, ex_1, ex_2, st_eq, st_ne, brV_true, brV_false, brV_b, brV_not, one_one, nil_p, nil_pn, nil_n, nil_nn, decide_eq_true_eq, true_and, nb_ite, bs_size, Nat.zero_add, Bool.not_true, Bool.not_false, Bool.false_eq_true, eq_self, if_true, if_false, jn]
        by_cases c1 : (r.pages.length : Int) ≤ 80
        · rw [if_pos c1]
          refine ldC_heap hg (v := vq) rfl (hv1.q.len ?_)
          simp only [iw_add, iw_sub, iw_mul, iw_lss, iw_leq, iw_gtr, iw_geq, iw_eql, iw_neq, iw_quo, iw_rem, un_not, len_s, len_l, nck_p, fld_p, cv_i, unc_c, ex_0, ex_1, ex_2, st_eq, st_ne, brV_true, brV_false, brV_b, brV_not, one_one, nil_p, nil_pn, nil_n, nil_nn, decide_eq_true_eq, true_and, nb_ite, bs_size, Nat.zero_add, Bool.not_true, Bool.not_false, Bool.false_eq_true, eq_self, if_true, if_false, jn]
          by_cases c2 : (r.patches.length : Int) ≤ 60
          · rw [if_pos c2]
            refine ldC_heap hg (v := vt) rfl (hv1.t.len ?_)
            simp only [iw_add, iw_sub, iw_mul, iw_lss, iw_leq, iw_gtr, iw_geq, iw_eql, iw_neq, iw_quo, iw_rem, un_not, len_s, len_l, nck_p, fld_p, cv_i, unc_c, ex_0, ex_1, ex_2, st_eq, st_ne, brV_true, brV_false, brV_b, brV_not, one_one, nil_p, nil_pn, nil_n, nil_nn, decide_eq_true_eq, true_and, nb_ite, bs_size, Nat.zero_add, Bool.not_true, Bool.not_false, Bool.false_eq_true, eq_self, if_true, if_false, jn]
            by_cases c3 : (r.txs.length : Int) ≤ 20
            · rw [if_pos c3]
              refine ldC_heap hg (v := vd) rfl (hv1.d.len ?_)
              simp only [iw_add, iw_sub, iw_mul, iw_lss, iw_leq, iw_gtr, iw_geq, iw_eql, iw_neq, iw_quo, iw_rem, un_not, len_s, len_l, nck_p, fld_p, cv_i, unc_c, ex_0, ex_1, ex_2, st_eq, st_ne, brV_true, brV_false, brV_b, brV_not, one_one, nil_p, nil_pn, nil_n, nil_nn, decide_eq_true_eq, true_and, nb_ite, bs_size, Nat.zero_add, Bool.not_true, Bool.not_false, Bool.false_eq_true, eq_self, if_true, if_false, jn]
              refine hk _ _ hL1 fun h => ?_
              have h := of_decide_eq_true h
              exact ⟨by omega, by omega, by omega, by omega⟩
            · rw [if_neg c3]; exact no _ rfl
          · rw [if_neg c2]; exact no _ rfl
        · rw [if_neg c1]; exact no _ rfl
      · rw [if_neg c0]; exact no _ rfl
    obtain ⟨m, rfl⟩ : ∃ q, m = q + 1 := ⟨m - 1, by omega⟩
    rw [if_pos (by omega)]
    have hlt : r.txs.length - (m + 1) < r.txs.length := by omega
    have hmi : r.txs.length - m = r.txs.length - (m + 1) + 1 := by omega
    generalize hi : r.txs.length - (m + 1) = i at *
    refine ldC_heap hg (v := vt) rfl ?_
    refine tx_at hv1.t hv1.n hlt fun b o c0 c1 c2 c3 => ?_
    obtain ⟨u, hu, hl⟩ := hv1.s i _ (List.getElem?_eq_getElem hlt)
    simp only [iw_add, iw_sub, iw_mul, iw_lss, iw_leq, iw_gtr, iw_geq, iw_eql, iw_neq, iw_quo, iw_rem, un_not, len_s, len_l, nck_p, fld_p, cv_i, unc_c, ex_0, ex_1, ex_2, st_eq, st_ne, brV_true, brV_false, brV_b, brV_not, one_one, nil_p, nil_pn, nil_n, nil_nn, decide_eq_true_eq, true_and, nb_ite, bs_size, Nat.zero_add, Bool.not_true, Bool.not_false, Bool.false_eq_true, eq_self, if_true, if_false, jn]
    refine ⟨_, c3 u hu, hl.len ?_⟩
    simp only [iw_add, iw_sub, iw_mul, iw_lss, iw_leq, iw_gtr, iw_geq, iw_eql, iw_neq, iw_quo, iw_rem, un_not, len_s, len_l, nck_p, fld_p, cv_i, unc_c, ex_0, ex_1, ex_2, st_eq, st_ne, brV_true, brV_false, brV_b, brV_not, one_one, nil_p, nil_pn, nil_n, nil_nn, decide_eq_true_eq, true_and, nb_ite, bs_size, Nat.zero_add, Bool.not_true, Bool.not_false, Bool.false_eq_true, eq_self, if_true, if_false, jn]
    rw [show IntKind.i64.wrap ((i : Int) + 1) = (i : Int) + 1 from Eng.wrap64 (by omega) (by omega)]
    exact ih m _ _ (by simp) ⟨_, by rw [hmi]; rfl, by omega, rfl⟩
  obtain ⟨m, rfl⟩ : ∃ q, m = q + 1 := ⟨m - 1, by omega⟩
  rw [if_pos (by omega)]
  have hlt : r.patches.length - (m + 1) < r.patches.length := by omega
  have hmi : r.patches.length - m = r.patches.length - (m + 1) + 1 := by omega
  generalize hi : r.patches.length - (m + 1) = i at *
  refine ldC_heap hg (v := vq) rfl ?_
  refine pat_at hv1.q hlt fun b o c0 c1 c2 => ?_
  simp only [iw_add, iw_sub, iw_mul, iw_lss, iw_leq, iw_gtr, iw_geq, iw_eql, iw_neq, iw_quo, iw_rem, un_not, len_s, len_l, nck_p, fld_p, cv_i, unc_c, ex_0, ex_1, ex_2, st_eq, st_ne, brV_true, brV_false, brV_b, brV_not, one_one, nil_p, nil_pn, nil_n, nil_nn, decide_eq_true_eq, true_and, nb_ite, bs_size, Nat.zero_add, Bool.not_true, Bool.not_false, Bool.false_eq_true, eq_self, if_true, if_false, jn]
  refine ⟨_, c2, ?_⟩
  simp only [iw_add, iw_sub, iw_mul, iw_lss, iw_leq, iw_gtr, iw_geq, iw_eql, iw_neq, iw_quo, iw_rem, un_not, len_s, len_l, nck_p, fld_p, cv_i, unc_c, ex_0, ex_1, ex_2, st_eq, st_ne, brV_true, brV_false, brV_b, brV_not, one_one, nil_p, nil_pn, nil_n, nil_nn, decide_eq_true_eq, true_and, nb_ite, bs_size, Nat.zero_add, Bool.not_true, Bool.not_false, Bool.false_eq_true, eq_self, if_true, if_false, jn]
  refine ldC_heap hg (v := vq) rfl ?_
  refine pat_at hv1.q hlt fun b o c0 c1 c2 => ?_
  simp only [iw_add, iw_sub, iw_mul, iw_lss, iw_leq, iw_gtr, iw_geq, iw_eql, iw_neq, iw_quo, iw_rem, un_not, len_s, len_l, nck_p, fld_p, cv_i, unc_c, ex_0, ex_1, ex_2, st_eq, st_ne, brV_true, brV_false, brV_b, brV_not, one_one, nil_p, nil_pn, nil_n, nil_nn, decide_eq_true_eq, true_and, nb_ite, bs_size, Nat.zero_add, Bool.not_true, Bool.not_false, Bool.false_eq_true, eq_self, if_true, if_false, jn]
  refine ⟨_, c2, ?_⟩
  simp only [iw_add, iw_sub, iw_mul, iw_lss, iw_leq, iw_gtr, iw_geq, iw_eql, iw_neq, iw_quo, iw_rem, un_not, len_s, len_l, nck_p, fld_p, cv_i, unc_c, ex_0, ex_1, ex_2, st_eq, st_ne, brV_true, brV_false, brV_b, brV_not, one_one, nil_p, nil_pn, nil_n, nil_nn, decide_eq_true_eq, true_and, nb_ite, bs_size, Nat.zero_add, Bool.not_true, Bool.not_false, Bool.false_eq_true, eq_self, if_true, if_false, jn]
  by_cases c3 : (r.patches[i].byt.length : Int) > 300
  · rw [if_pos c3]; exact no _ rfl
  rw [if_neg c3, show IntKind.i64.wrap ((i : Int) + 1) = (i : Int) + 1 from Eng.wrap64 (by omega) (by omega)]
  exact ih m _ _ (by simp) ⟨_, by rw [hmi]; rfl, by omega, rfl⟩
end Go.Proofs.YtlicdhdpngahgaaDoor
