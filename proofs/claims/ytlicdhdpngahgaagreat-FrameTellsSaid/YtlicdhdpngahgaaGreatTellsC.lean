/- FrameTells: the walk, whole. -/
import Derived.Test.YtlicdhdpngahgaaGreatTellsB
set_option linter.unusedVariables false
set_option linter.unusedSimpArgs false
namespace Go.Proofs.YtlicdhdpngahgaaGreat
open Go.Eng Go.RowKit
theorem FrameTells_spec {s : Sec} {b : List UInt8} {e i : Int} {l sl : List (List UInt8)} {vl vs : Value} {w : World} {k : Value → World → Prop} (hi : -9223372036854775808 ≤ i ∧ i ≤ 9223372036854775807)
    (hl : Lst w vl l.length (tx l)) (hs : Lst w vs sl.length (tx sl)) (hln : l.length ≤ 140737488355328) (hlx : ∀ r ∈ l, r.length ≤ 140737488355328) (hk : ∀ w', Later w w' → k (.bool true) w') :
    Calls Tryz.prog 3 #[.agg s.cells, .string (bs b), .int .i64 e, .int .i64 i, vl, vs] w (rt k) := by
  apply honeycomblaw13_FrameTells_run
  simp only [honeycomblaw13_FrameTells, Value.cells]
  refine al_lit fun g6 W hL hg hgs => ?_
  have hJ2 : ∀ w', Later w w' → honeycomblaw13_FrameTells_J2 k [] w' := fun w' hw' => by
    simp only [honeycomblaw13_FrameTells_J2]
    exact alive13_from fun w'' hw'' => hk w'' (hw'.tr hw'')
  simp only [iw_add, iw_sub, iw_mul, iw_lss, iw_leq, iw_gtr, iw_geq, iw_eql, iw_neq, iw_quo, iw_rem, un_not, len_s, len_l, nck_p, fld_p, cv_i, unc_c, ex_0, ex_1, ex_2, st_eq, st_ne, brV_true, brV_false, brV_b, brV_not, one_one, nil_p, nil_pn, nil_n, nil_nn, decide_eq_true_eq, true_and, nb_ite, bs_size, Nat.zero_add, Bool.not_true, Bool.not_false, Bool.false_eq_true, eq_self, if_true, if_false, jn]
  refine ldC_heap hg (v := .string (bs s.pay)) rfl ?_
  simp only [iw_add, iw_sub, iw_mul, iw_lss, iw_leq, iw_gtr, iw_geq, iw_eql, iw_neq, iw_quo, iw_rem, un_not, len_s, len_l, nck_p, fld_p, cv_i, unc_c, ex_0, ex_1, ex_2, st_eq, st_ne, brV_true, brV_false, brV_b, brV_not, one_one, nil_p, nil_pn, nil_n, nil_nn, decide_eq_true_eq, true_and, nb_ite, bs_size, Nat.zero_add, Bool.not_true, Bool.not_false, Bool.false_eq_true, eq_self, if_true, if_false, jn]
  by_cases h1 : (s.pay.length : Int) > 100
  · rw [if_pos h1]; exact hJ2 W hL
  rw [if_neg h1]
  by_cases h2 : (b.length : Int) > 100
  · rw [if_pos h2]; exact hJ2 W hL
  rw [if_neg h2]
  refine Few_from (hL.lst hl) hln hlx ?_
  simp only [iw_add, iw_sub, iw_mul, iw_lss, iw_leq, iw_gtr, iw_geq, iw_eql, iw_neq, iw_quo, iw_rem, un_not, len_s, len_l, nck_p, fld_p, cv_i, unc_c, ex_0, ex_1, ex_2, st_eq, st_ne, brV_true, brV_false, brV_b, brV_not, one_one, nil_p, nil_pn, nil_n, nil_nn, decide_eq_true_eq, true_and, nb_ite, bs_size, Nat.zero_add, Bool.not_true, Bool.not_false, Bool.false_eq_true, eq_self, if_true, if_false, jn]
  by_cases h3 : Few l
  rotate_left
  · rw [if_neg h3]; exact hJ2 W hL
  rw [if_pos h3]
  refine (hL.lst hs).len ?_
  simp only [iw_add, iw_sub, iw_mul, iw_lss, iw_leq, iw_gtr, iw_geq, iw_eql, iw_neq, iw_quo, iw_rem, un_not, len_s, len_l, nck_p, fld_p, cv_i, unc_c, ex_0, ex_1, ex_2, st_eq, st_ne, brV_true, brV_false, brV_b, brV_not, one_one, nil_p, nil_pn, nil_n, nil_nn, decide_eq_true_eq, true_and, nb_ite, bs_size, Nat.zero_add, Bool.not_true, Bool.not_false, Bool.false_eq_true, eq_self, if_true, if_false, jn]
  by_cases h4 : (sl.length : Int) > 40
  · rw [if_pos h4]; exact hJ2 W hL
  rw [if_neg h4]
  refine alive13_from fun w2 hL2 => ?_
  simp only [iw_add, iw_sub, iw_mul, iw_lss, iw_leq, iw_gtr, iw_geq, iw_eql, iw_neq, iw_quo, iw_rem, un_not, len_s, len_l, nck_p, fld_p, cv_i, unc_c, ex_0, ex_1, ex_2, st_eq, st_ne, brV_true, brV_false, brV_b, brV_not, one_one, nil_p, nil_pn, nil_n, nil_nn, decide_eq_true_eq, true_and, nb_ite, bs_size, Nat.zero_add, Bool.not_true, Bool.not_false, Bool.false_eq_true, eq_self, if_true, if_false, jn]
  have hLw2 : Later w w2 := hL.tr hL2
  refine (hLw2.lst hs).len ?_
  have hlens : lens l ≤ 100000 := by
    have h5 : ∀ l : List (List UInt8), lens l = 2 * l.length + (l.map List.length).sum := by
      intro l
      induction l with
      | nil => rfl
      | cons r l ih => simp only [lens, List.map_cons, List.sum_cons, List.length_cons] at ih ⊢; omega
    rw [h5]
    have := h3.1
    have := h3.2
    omega
  refine lp_ind _ (fun (m : Nat) r w1 => r = [.string (bs b), .int .i64 e, .int .i64 i, vl, vs, .pointer (some ⟨g6, 0, none⟩), .int .i64 sl.length, .int .i64 ((sl.length - m : Nat) : Int)] ∧ m ≤ sl.length ∧ (∀ r ∈ sl.take (sl.length - m), r.length ≤ 100) ∧ w1 = w2) id ?_ (i := sl.length) ⟨by simp, Nat.le_refl _, by simp, rfl⟩
  rintro m r w1 rec ⟨rfl, hm, hx, rfl⟩ ih
  by_cases h0 : m = 0
  · subst h0
    refine Tells_end (B := w.heap.size) (n := sl.length) hLw2.size (hL2.heap hg) (by omega) hi (hLw2.lst hl) (hLw2.lst hs) hlens (by omega) (by simpa using hx) (fun w' hw' => ⟨Later.lst (hLw2.trans hw') hl, Later.lst (hLw2.trans hw') hs⟩) fun w' hw' => hk w' (hLw2.trans hw')
  obtain ⟨m, rfl⟩ : ∃ q, m = q + 1 := ⟨m - 1, by omega⟩
  simp only [honeycomblaw13_FrameTells_L4, iw_add, iw_sub, iw_mul, iw_lss, iw_leq, iw_gtr, iw_geq, iw_eql, iw_neq, iw_quo, iw_rem, un_not, len_s, len_l, nck_p, fld_p, cv_i, unc_c, ex_0, ex_1, ex_2, st_eq, st_ne, brV_true, brV_false, brV_b, brV_not, one_one, nil_p, nil_pn, nil_n, nil_nn, decide_eq_true_eq, true_and, nb_ite, bs_size, Nat.zero_add, Bool.not_true, Bool.not_false, Bool.false_eq_true, eq_self, if_true, if_false, jn]
  rw [if_pos (by omega)]
  have hlt : sl.length - (m + 1) < sl.length := by omega
  have hmi : sl.length - m = sl.length - (m + 1) + 1 := by omega
  generalize hj : sl.length - (m + 1) = j at *
  refine (hLw2.lst hs).at1 (tx_get hlt) hlt fun a ha _ => ⟨_, ha, ?_⟩
  simp only [iw_add, iw_sub, iw_mul, iw_lss, iw_leq, iw_gtr, iw_geq, iw_eql, iw_neq, iw_quo, iw_rem, un_not, len_s, len_l, nck_p, fld_p, cv_i, unc_c, ex_0, ex_1, ex_2, st_eq, st_ne, brV_true, brV_false, brV_b, brV_not, one_one, nil_p, nil_pn, nil_n, nil_nn, decide_eq_true_eq, true_and, nb_ite, bs_size, Nat.zero_add, Bool.not_true, Bool.not_false, Bool.false_eq_true, eq_self, if_true, if_false, jn]
  by_cases h6 : (sl[j].length : Int) > 100
  · rw [if_pos h6]; exact hk _ hLw2
  rw [if_neg h6, wrap64 (by omega) (by omega)]
  refine ih m _ _ (by simp) ⟨by rw [hmi]; rfl, by omega, ?_, rfl⟩
  rw [hmi, List.take_add_one, List.getElem?_eq_getElem hlt]
  intro r hr
  rcases List.mem_append.1 hr with hr | hr
  · exact hx r hr
  · simp at hr; subst hr; omega
end Go.Proofs.YtlicdhdpngahgaaGreat
