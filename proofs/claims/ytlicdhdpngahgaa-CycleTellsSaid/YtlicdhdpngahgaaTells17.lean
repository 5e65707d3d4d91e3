/- CycleTells: the walk of the law. -/
import Derived.Test.YtlicdhdpngahgaaApartI
import Derived.Test.YtlicdhdpngahgaaRefOn
set_option linter.unusedVariables false
set_option linter.unusedSimpArgs false
namespace Go.Proofs.Ytlicdhdpngahgaa
open Go.Eng Go.RowKit
theorem nil6_eq (a b : Bool) (k : Value → Prop) : nilW 6 .eql (.bool a) (.bool b) k = k (.bool (a == b)) := rfl
theorem nil6_ne (a b : Bool) (k : Value → Prop) : nilW 6 .neq (.bool a) (.bool b) k = k (.bool !(a == b)) := rfl
def bookZero : Array Value := #[.slice none 0 0, .slice none 0 0, .slice none 0 0, .slice none 0 0, .slice none 0 0, .slice none 0 0, .slice none 0 0, .slice none 0 0, .slice none 0 0, .slice none 0 0, .slice none 0 0, .slice none 0 0, .slice none 0 0, .slice none 0 0, .slice none 0 0, .slice none 0 0, .slice none 0 0, .slice none 0 0]
theorem bookZero_get (i : Nat) (h : i < 18) : bookZero[i]? = some (.slice none 0 0) := by
  have e : bookZero = Array.replicate 18 (.slice none 0 0) := rfl
  rw [e, Array.getElem?_replicate, if_pos h]
theorem TB.empty {B gb : Nat} {w : World} (hg : w.heap[gb]? = some (.cells bookZero 38 (0, 0))) (hB : B ≤ gb) : TB B gb (fun q => q = gb) [] bookZero (.slice none 0 0) (.slice none 0 0) [] w where
  at_ := hg
  size := rfl
  c2 := rfl
  c3 := rfl
  rest := fun i h _ _ => bookZero_get i h
  base := hB
  fgb := rfl
  lrow := World.ownsRow_nil _ _ _ _
  lne := by simp [Value.ownBlock]
  lf := by simp [Value.ownBlock]
  wrow := World.ownsRow_nil _ _ _ _
  wne := by simp [Value.ownBlock]
  wf := by simp [Value.ownBlock]
  lw := by simp [Value.ownBlock]
  was := by simp
  rows := by simp
  apart := by simp
theorem CycleTells_spec {src : Int} {E : List Pr} {ve : Value} {w : World} {k : Value → World → Prop} (hsrc : InR src) (hE : ∀ e ∈ E, InR e.1 ∧ InR e.2) (hve : Lst w ve E.length (px E)) (hk : ∀ w', Later w w' → k (.bool true) w') :
    Calls Try.prog 3 #[.int .i64 src, ve] w (rt k) := by
  apply honeycomblaw17_CycleTells_run
  simp only [honeycomblaw17_CycleTells]
  have hJ2 : ∀ w', Later w w' → honeycomblaw17_CycleTells_J2 k [] w' := fun w' hw' => by
    simp only [honeycomblaw17_CycleTells_J2]
    exact alive17_from fun w'' hw'' => hk w'' (hw'.tr hw'')
  refine hve.len ?_
  simp only [iw_add, iw_sub, iw_mul, iw_lss, iw_leq, iw_gtr, iw_geq, iw_eql, iw_neq, iw_quo, iw_rem, un_not, len_s, len_l, nck_p, fld_p, cv_i, unc_c, ex_0, ex_1, ex_2, st_eq, st_ne, brV_true, brV_false, brV_b, brV_not, one_one, nil_p, nil_pn, nil_n, nil_nn, decide_eq_true_eq, true_and, nb_ite, bs_size, Nat.zero_add, Bool.not_true, Bool.not_false, Bool.false_eq_true, eq_self, if_true, if_false, jn]
  by_cases h1 : (E.length : Int) > 40
  · rw [if_pos h1]; exact hJ2 w (Later.refl w)
  rw [if_neg h1]
  have hn : E.length ≤ 1000 := by omega
  refine alive17_from fun w1 hL1 => ?_
  simp only [iw_add, iw_sub, iw_mul, iw_lss, iw_leq, iw_gtr, iw_geq, iw_eql, iw_neq, iw_quo, iw_rem, un_not, len_s, len_l, nck_p, fld_p, cv_i, unc_c, ex_0, ex_1, ex_2, st_eq, st_ne, brV_true, brV_false, brV_b, brV_not, one_one, nil_p, nil_pn, nil_n, nil_nn, decide_eq_true_eq, true_and, nb_ite, bs_size, Nat.zero_add, Bool.not_true, Bool.not_false, Bool.false_eq_true, eq_self, if_true, if_false, jn]
  have hs1 := hL1.size
  refine LentPairs_from (hL1.lst hve) (by omega) fun vm w2 hL2 hm hmn => ?_
  have hs2 := hL2.size
  have hmb := lentP_block hm
  refine On_from hsrc hE hn hm.lst fun va l w3 hL3 hon hll hra => ?_
  have hs3 := hL3.size
  refine On_from hsrc hE hn (Later.lentP hL3 hm).lst fun vb l' w4 hL4 hon' _ hrb => ?_
  have hs4 := hL4.size
  obtain rfl := hon.unique hon'
  simp only [fillL, Instr.fill, Value.cells]
  refine al_lit fun gb w5 hL5 hgb hgbs => ?_
  have hs5 := hL5.size
  have hgb5 := lt_of_heap hgb
  have hb5 : Below w.heap.size w w5 := (((hL1.tr hL2).tr hL3).tr hL4).tr hL5
  refine Ints_from (TB.empty (B := w.heap.size) hgb (by omega)) (by simp) (by omega) (by omega) (ownsRow_mono (by omega) (hL5.row (hL4.row hra))) (fun q hq e => by have := (hra.lt q hq).2; omega) (by simp) fun cs1 lv1 wv1 ws1 w6 hb6 hfar6 tb1 => ?_
  have hs6 := hb6.size
  have far6 : ∀ (q : Nat) (o : Obj), q ≠ gb → w5.heap[q]? = some o → w6.heap[q]? = some o := fun q o hne h => by
    rw [hfar6 q (lt_of_heap h) hne]; exact h
  have hm5 : LentP w5 vm E := Later.lentP hL5 (Later.lentP hL4 (Later.lentP hL3 hm))
  have hm6 : LentP w6 vm E := lent_of_block hm5 fun q o hq h => far6 q o (fun e => by have := hmb q hq; omega) h
  have hrb6 : w6.ownsRow w3.heap.size 3 1 vb l.length (ix l) := ownsRow_block (hL5.row hrb) fun q hq => hfar6 q (by have := (hrb.lt q hq).2; omega) (fun e => by have := (hrb.lt q hq).2; have : q = gb := e; omega)
  refine Ints_from tb1 (by simp) (by omega) (by omega) (ownsRow_mono (by omega) hrb6) (fun q hq hF => ?_) (fun r hr q hq e => ?_) fun cs2 lv2 wv2 ws2 w7 hb7 hfar7 tb2 => ?_
  · have h3 := hrb.lt q hq
    rcases hF with hF | hF
    · have : q = gb := hF; omega
    · omega
  · simp at hr
    subst hr
    have h3 := hrb.lt q e
    have h4 := (hra.lt q hq).2
    omega
  have hs7 := hb7.size
  have hm7 : LentP w7 vm E := lent_of_block hm6 fun q o hq h => by
    have h2 := hmb q hq
    rw [hfar7 q (by omega) (fun hF => by
      rcases hF with hF | hF
      · have : q = gb := hF; omega
      · omega)]
    exact h
  have hbw7 : Below w.heap.size w w7 := (hb5.trans hb6).trans hb7
  have hve' : ∀ w', Below w.heap.size w w' → Lst w' ve E.length (px E) := fun w' h => Later.lst h hve
  have hra7 := (tb2.rows 0 (va, l) rfl).1
  refine SOn_from hn (hve' w7 hbw7) fun vw lw w8 hL8 honw hlw hrw => ?_
  obtain rfl := hon.unique honw
  have hs8 := hL8.size
  have hbw8 : Below w.heap.size w w8 := hbw7.trans (hL8.mono (by omega))
  refine Victim_from hsrc hE hn (Later.lentP hL8 hm7).lst fun lv w9 hL9 honv => ?_
  obtain rfl := hon.unique honv
  have hs9 := hL9.size
  have hbw9 : Below w.heap.size w w9 := hbw8.trans (hL9.mono (by omega))
  simp only [iw_add, iw_sub, iw_mul, iw_lss, iw_leq, iw_gtr, iw_geq, iw_eql, iw_neq, iw_quo, iw_rem, un_not, len_s, len_l, nck_p, fld_p, cv_i, unc_c, ex_0, ex_1, ex_2, st_eq, st_ne, brV_true, brV_false, brV_b, brV_not, one_one, nil_p, nil_pn, nil_n, nil_nn, decide_eq_true_eq, true_and, nb_ite, bs_size, Nat.zero_add, Bool.not_true, Bool.not_false, Bool.false_eq_true, eq_self, if_true, if_false, jn]
  refine (hve' w9 hbw9).len ?_
  have hL79 : Later w7 w9 := hL8.tr hL9
  refine lp_ind _ (fun (m : Nat) r w10 => ∃ any : Bool, r = [ve, vm, va, .pointer (some ⟨gb, 0, none⟩), vw, .int .i64 (l.getLastD 0), .bool (!l.isEmpty), .bool any, ve, .int .i64 E.length, .int .i64 ((E.length - m : Nat) : Int)] ∧ m ≤ E.length ∧ (any = true ↔ ∃ e ∈ E.take (E.length - m), cyc E e.1) ∧ Later w7 w10 ∧ Below w.heap.size w w10 ∧ w10.ownsRow w7.heap.size 3 1 vw l.length (ix l)) id ?_ (i := E.length)
    ⟨false, by simp, Nat.le_refl _, by simp, hL79, hbw9, hL9.row hrw⟩
  rintro m r w10 rec ⟨any, rfl, hmE, hany, hL10, hbw10, hrw10⟩ ih
  simp only [honeycomblaw17_CycleTells_L12, iw_add, iw_sub, iw_mul, iw_lss, iw_leq, iw_gtr, iw_geq, iw_eql, iw_neq, iw_quo, iw_rem, un_not, len_s, len_l, nck_p, fld_p, cv_i, unc_c, ex_0, ex_1, ex_2, st_eq, st_ne, brV_true, brV_false, brV_b, brV_not, one_one, nil_p, nil_pn, nil_n, nil_nn, decide_eq_true_eq, true_and, nb_ite, bs_size, Nat.zero_add, Bool.not_true, Bool.not_false, Bool.false_eq_true, eq_self, if_true, if_false, jn]
  have hs10 := hL10.size
  by_cases h0 : m = 0
  · subst h0
    rw [if_neg (by omega)]
    rw [Nat.sub_zero, List.take_length] at hany
    refine SameInts_from (la := l) (lb := l) (hL10.lst (lst_row hra7)) (lst_row hrw10) (by omega) fun w11 hL11 => ?_
    have hs11 := hL11.size
    have hL711 : Later w7 w11 := hL10.tr hL11
    have hbw11 : Below w.heap.size w w11 := hbw10.trans (hL11.mono (by omega))
    simp only [iw_add, iw_sub, iw_mul, iw_lss, iw_leq, iw_gtr, iw_geq, iw_eql, iw_neq, iw_quo, iw_rem, un_not, len_s, len_l, nck_p, fld_p, cv_i, unc_c, ex_0, ex_1, ex_2, st_eq, st_ne, brV_true, brV_false, brV_b, brV_not, one_one, nil_p, nil_pn, nil_n, nil_nn, decide_eq_true_eq, true_and, nb_ite, bs_size, Nat.zero_add, Bool.not_true, Bool.not_false, Bool.false_eq_true, eq_self, if_true, if_false, jn, decide_true]
    refine (lst_row (hL11.row hrw10)).len ?_
    simp only [iw_add, iw_sub, iw_mul, iw_lss, iw_leq, iw_gtr, iw_geq, iw_eql, iw_neq, iw_quo, iw_rem, un_not, len_s, len_l, nck_p, fld_p, cv_i, unc_c, ex_0, ex_1, ex_2, st_eq, st_ne, brV_true, brV_false, brV_b, brV_not, one_one, nil_p, nil_pn, nil_n, nil_nn, decide_eq_true_eq, true_and, nb_ite, bs_size, Nat.zero_add, Bool.not_true, Bool.not_false, Bool.false_eq_true, eq_self, if_true, if_false, jn]
    have hdl : decide ((l.length : Int) > 0) = !l.isEmpty := by
      cases l with
      | nil => rfl
      | cons x l => simp
    rw [hdl]
    simp only [nil6_ne, beq_self_eq_true, iw_add, iw_sub, iw_mul, iw_lss, iw_leq, iw_gtr, iw_geq, iw_eql, iw_neq, iw_quo, iw_rem, un_not, len_s, len_l, nck_p, fld_p, cv_i, unc_c, ex_0, ex_1, ex_2, st_eq, st_ne, brV_true, brV_false, brV_b, brV_not, one_one, nil_p, nil_pn, nil_n, nil_nn, decide_eq_true_eq, true_and, nb_ite, bs_size, Nat.zero_add, Bool.not_true, Bool.not_false, Bool.false_eq_true, eq_self, if_true, if_false, jn]
    -- the end
    have fin : ∀ w12, Later w7 w12 → Below w.heap.size w w12 → callW Try.prog (.func (.func 11) #[] #[]) [vm] w12 fun t98 w => nilW 6 .neq t98 (.bool any) fun t100 =>
        brV t100 (jn (honeycomblaw17_CycleTells_J17 k) [] w) (jn (honeycomblaw17_CycleTells_J18 k) [ve, vm, .pointer (some ⟨gb, 0, none⟩)] w) := fun w12 hL12 hbw12 => by
      have hs12 := hL12.size
      refine Any_from hE hn (Later.lentP hL12 hm7).lst fun b w13 hL13 hb => ?_
      have hs13 := hL13.size
      have hbany : b = any := Bool.eq_iff_iff.2 (hb.trans hany.symm)
      subst hbany
      simp only [nil6_ne, beq_self_eq_true, iw_add, iw_sub, iw_mul, iw_lss, iw_leq, iw_gtr, iw_geq, iw_eql, iw_neq, iw_quo, iw_rem, un_not, len_s, len_l, nck_p, fld_p, cv_i, unc_c, ex_0, ex_1, ex_2, st_eq, st_ne, brV_true, brV_false, brV_b, brV_not, one_one, nil_p, nil_pn, nil_n, nil_nn, decide_eq_true_eq, true_and, nb_ite, bs_size, Nat.zero_add, Bool.not_true, Bool.not_false, Bool.false_eq_true, eq_self, if_true, if_false, jn, honeycomblaw17_CycleTells_J18]
      have hL713 : Later w7 w13 := hL12.tr hL13
      have hbw13 : Below w.heap.size w w13 := hbw12.trans (hL13.mono (by omega))
      refine StaysPairs_from (Later.lentP hL713 hm7) (hve' w13 hbw13) (by omega) fun w14 hL14 => ?_
      simp only [iw_add, iw_sub, iw_mul, iw_lss, iw_leq, iw_gtr, iw_geq, iw_eql, iw_neq, iw_quo, iw_rem, un_not, len_s, len_l, nck_p, fld_p, cv_i, unc_c, ex_0, ex_1, ex_2, st_eq, st_ne, brV_true, brV_false, brV_b, brV_not, one_one, nil_p, nil_pn, nil_n, nil_nn, decide_eq_true_eq, true_and, nb_ite, bs_size, Nat.zero_add, Bool.not_true, Bool.not_false, Bool.false_eq_true, eq_self, if_true, if_false, jn]
      have hs14 := hL14.size
      have hL714 : Later w7 w14 := hL713.tr hL14
      have hbw14 : Below w.heap.size w w14 := hbw13.trans (hL14.mono (by omega))
      refine Apart_from (tb2.far fun q o h => hL714.heap h) (by omega) (by simp) (fun r hr => ?_) fun w15 hb15 => hk w15 (hbw14.trans hb15)
      simp at hr
      rcases hr with rfl | rfl <;> (show l.length ≤ 100000000; omega)
    by_cases hl0 : l = []
    · subst hl0
      simp only [List.isEmpty_nil, iw_add, iw_sub, iw_mul, iw_lss, iw_leq, iw_gtr, iw_geq, iw_eql, iw_neq, iw_quo, iw_rem, un_not, len_s, len_l, nck_p, fld_p, cv_i, unc_c, ex_0, ex_1, ex_2, st_eq, st_ne, brV_true, brV_false, brV_b, brV_not, one_one, nil_p, nil_pn, nil_n, nil_nn, decide_eq_true_eq, true_and, nb_ite, bs_size, Nat.zero_add, Bool.not_true, Bool.not_false, Bool.false_eq_true, eq_self, if_true, if_false, jn]
      exact fin w11 hL711 hbw11
    · obtain ⟨t, n, rfl⟩ := eq_concat hl0
      have he : (t ++ [n]).isEmpty = false := by cases t <;> rfl
      simp only [he, iw_add, iw_sub, iw_mul, iw_lss, iw_leq, iw_gtr, iw_geq, iw_eql, iw_neq, iw_quo, iw_rem, un_not, len_s, len_l, nck_p, fld_p, cv_i, unc_c, ex_0, ex_1, ex_2, st_eq, st_ne, brV_true, brV_false, brV_b, brV_not, one_one, nil_p, nil_pn, nil_n, nil_nn, decide_eq_true_eq, true_and, nb_ite, bs_size, Nat.zero_add, Bool.not_true, Bool.not_false, Bool.false_eq_true, eq_self, if_true, if_false, jn]
      refine (lst_row (hL11.row hrw10)).len ?_
      simp only [iw_add, iw_sub, iw_mul, iw_lss, iw_leq, iw_gtr, iw_geq, iw_eql, iw_neq, iw_quo, iw_rem, un_not, len_s, len_l, nck_p, fld_p, cv_i, unc_c, ex_0, ex_1, ex_2, st_eq, st_ne, brV_true, brV_false, brV_b, brV_not, one_one, nil_p, nil_pn, nil_n, nil_nn, decide_eq_true_eq, true_and, nb_ite, bs_size, Nat.zero_add, Bool.not_true, Bool.not_false, Bool.false_eq_true, eq_self, if_true, if_false, jn]
      have e1 : IntKind.i64.wrap ((((t ++ [n]).length : Nat) : Int) - 1) = ((t.length : Nat) : Int) := by
        simp only [List.length_append, List.length_cons, List.length_nil] at hll ⊢
        rw [wrap64 (by omega) (by omega)]; omega
      rw [e1]
      refine (lst_row (hL11.row hrw10)).at1 ix_last (by simp) fun a ha _ => ⟨_, ha, ?_⟩
      have e2 : decide ((t ++ [n]).getLastD 0 = n) = true := by rw [List.getLastD_concat]; exact decide_eq_true rfl
      simp only [iw_add, iw_sub, iw_mul, iw_lss, iw_leq, iw_gtr, iw_geq, iw_eql, iw_neq, iw_quo, iw_rem, un_not, len_s, len_l, nck_p, fld_p, cv_i, unc_c, ex_0, ex_1, ex_2, st_eq, st_ne, brV_true, brV_false, brV_b, brV_not, one_one, nil_p, nil_pn, nil_n, nil_nn, decide_eq_true_eq, true_and, nb_ite, bs_size, Nat.zero_add, Bool.not_true, Bool.not_false, Bool.false_eq_true, eq_self, if_true, if_false, jn, e2]
      exact fin w11 hL711 hbw11
  obtain ⟨m, rfl⟩ : ∃ q, m = q + 1 := ⟨m - 1, by omega⟩
  rw [if_pos (by omega)]
  have hlt : E.length - (m + 1) < E.length := by omega
  have hmi : E.length - m = E.length - (m + 1) + 1 := by omega
  generalize hi : E.length - (m + 1) = i at *
  refine pair_at (hve' w10 hbw10) hlt fun b1 o1 h1 h1' => ldN2 h1 h1' ?_
  refine al_lit fun g2 w11 hL11 hg2 hg2s => ?_
  refine stN_heap hg2 rfl rfl (by simp [isCell]) fun w12 hg3 hs12 hb12 ho12 => ?_
  have hs11 := hL11.size
  have hL12 : Later w10 w12 := hL11.trans (hb12 _ (by omega))
  have hL712 : Later w7 w12 := hL10.tr hL12
  have hbw12 : Below w.heap.size w w12 := hbw10.trans (hL12.mono (by omega))
  have htk : (∃ e ∈ E.take (i + 1), cyc E e.1) ↔ (∃ e ∈ E.take i, cyc E e.1) ∨ cyc E E[i].1 := by
    rw [List.take_add_one, List.getElem?_eq_getElem hlt]
    constructor
    · rintro ⟨e, he, hc⟩
      rcases List.mem_append.1 he with he | he
      · exact .inl ⟨e, he, hc⟩
      · simp at he; subst he; exact .inr hc
    · rintro (⟨e, he, hc⟩ | hc)
      · exact ⟨e, List.mem_append_left _ he, hc⟩
      · exact ⟨E[i], List.mem_append_right _ (List.mem_singleton.2 rfl), hc⟩
  cases any with
  | true =>
    simp only [iw_add, iw_sub, iw_mul, iw_lss, iw_leq, iw_gtr, iw_geq, iw_eql, iw_neq, iw_quo, iw_rem, un_not, len_s, len_l, nck_p, fld_p, cv_i, unc_c, ex_0, ex_1, ex_2, st_eq, st_ne, brV_true, brV_false, brV_b, brV_not, one_one, nil_p, nil_pn, nil_n, nil_nn, decide_eq_true_eq, true_and, nb_ite, bs_size, Nat.zero_add, Bool.not_true, Bool.not_false, Bool.false_eq_true, eq_self, if_true, if_false, jn, honeycomblaw17_CycleTells_J15]
    rw [wrap64 (by omega) (by omega)]
    exact ih m _ _ (by simp) ⟨true, by rw [hmi]; rfl, by omega, by rw [hmi, htk]; simp [hany.1 rfl], hL712, hbw12, hL12.row hrw10⟩
  | false =>
    simp only [iw_add, iw_sub, iw_mul, iw_lss, iw_leq, iw_gtr, iw_geq, iw_eql, iw_neq, iw_quo, iw_rem, un_not, len_s, len_l, nck_p, fld_p, cv_i, unc_c, ex_0, ex_1, ex_2, st_eq, st_ne, brV_true, brV_false, brV_b, brV_not, one_one, nil_p, nil_pn, nil_n, nil_nn, decide_eq_true_eq, true_and, nb_ite, bs_size, Nat.zero_add, Bool.not_true, Bool.not_false, Bool.false_eq_true, eq_self, if_true, if_false, jn]
    refine ixArr (by decide) (by decide) ?_
    refine ldC_heap hg3 (v := .int .i64 E[i].1) rfl ?_
    refine SOn_from hn (hve' w12 hbw12) fun v13 l13 w13 hL13 hon13 hl13 hr13 => ?_
    refine (lst_row hr13).len ?_
    have hs13 := hL13.size
    simp only [iw_add, iw_sub, iw_mul, iw_lss, iw_leq, iw_gtr, iw_geq, iw_eql, iw_neq, iw_quo, iw_rem, un_not, len_s, len_l, nck_p, fld_p, cv_i, unc_c, ex_0, ex_1, ex_2, st_eq, st_ne, brV_true, brV_false, brV_b, brV_not, one_one, nil_p, nil_pn, nil_n, nil_nn, decide_eq_true_eq, true_and, nb_ite, bs_size, Nat.zero_add, Bool.not_true, Bool.not_false, Bool.false_eq_true, eq_self, if_true, if_false, jn, honeycomblaw17_CycleTells_J15]
    rw [wrap64 (by omega) (by omega)]
    refine ih m _ _ (by simp) ⟨decide ((l13.length : Int) > 0), by rw [hmi]; rfl, by omega, ?_, hL712.tr hL13, hbw12.trans (hL13.mono (by have := hL12.size; omega)), hL13.row (hL12.row hrw10)⟩
    rw [hmi, htk]
    have hno : ¬ ∃ e ∈ E.take i, cyc E e.1 := fun h => by have := hany.2 h; cases this
    constructor
    · intro h
      refine .inr (Classical.not_not.1 fun hc => ?_)
      have := hon13.nil_iff.2 hc
      subst this
      simp at h
    · rintro (h | h)
      · exact absurd h hno
      · have : l13 ≠ [] := fun e => hon13.nil_iff.1 e h
        have := List.length_pos_iff.2 this
        exact decide_eq_true (by omega)
end Go.Proofs.Ytlicdhdpngahgaa
