/- Lists of patches, of pages that were changed, of transactions, and records held against each other. -/
import Derived.Test.YtlicdhdpngahgaaDoorRGetC
set_option linter.unusedVariables false
set_option linter.unusedSimpArgs false
namespace Go.Proofs.YtlicdhdpngahgaaDoor
open Go.Eng Go.RowKit
theorem SamePatches_from {la lb : List Pat} {va vb : Value} {w : World} {k : Value → World → Prop} (ha : Lst w va la.length (qx la)) (hb : Lst w vb lb.length (qx lb)) (hn : la.length ≤ 140737488355328)
    (hk : ∀ w', Later w w' → k (.bool (decide (la = lb))) w') : callW Tryd.prog (.func (.func 51) #[] #[]) [va, vb] w k := by
  apply honeycombbook_SamePatches_call
  apply honeycombbook_SamePatches_run
  simp only [honeycombbook_SamePatches]
  refine ha.len (hb.len ?_)
  simp only [iw_add, iw_sub, iw_mul, iw_lss, iw_leq, iw_gtr, iw_geq, iw_eql, iw_neq, iw_quo, iw_rem, un_not, len_s, len_l, nck_p, fld_p, cv_i, unc_c, ex_0, ex_1, ex_2, st_eq, st_ne, brV_true, brV_false, brV_b, brV_not, one_one, nil_p, nil_pn, nil_n, nil_nn, decide_eq_true_eq, true_and, nb_ite, bs_size, Nat.zero_add, Bool.not_true, Bool.not_false, Bool.false_eq_true, eq_self, if_true, if_false, jn]
  by_cases hl : (la.length : Int) = (lb.length : Int)
  rotate_left
  · rw [if_neg hl]
    have : decide (la = lb) = false := decide_eq_false fun h => hl (by rw [h])
    have h2 := hk w (Later.refl w)
    rwa [this] at h2
  rw [if_pos hl]
  refine lp_ind _ (fun (m : Nat) r w1 => r = [va, vb, .int .i64 ((la.length - m : Nat) : Int)] ∧ m ≤ la.length ∧ la.take (la.length - m) = lb.take (la.length - m) ∧ Later w w1) id ?_ (i := la.length) ⟨by simp, Nat.le_refl _, by simp, Later.refl w⟩
  rintro m r w1 rec ⟨rfl, hm, he, hL⟩ ih
  simp only [honeycombbook_SamePatches_L4, iw_add, iw_sub, iw_mul, iw_lss, iw_leq, iw_gtr, iw_geq, iw_eql, iw_neq, iw_quo, iw_rem, un_not, len_s, len_l, nck_p, fld_p, cv_i, unc_c, ex_0, ex_1, ex_2, st_eq, st_ne, brV_true, brV_false, brV_b, brV_not, one_one, nil_p, nil_pn, nil_n, nil_nn, decide_eq_true_eq, true_and, nb_ite, bs_size, Nat.zero_add, Bool.not_true, Bool.not_false, Bool.false_eq_true, eq_self, if_true, if_false, jn]
  refine (hL.lst ha).len ?_
  simp only [iw_add, iw_sub, iw_mul, iw_lss, iw_leq, iw_gtr, iw_geq, iw_eql, iw_neq, iw_quo, iw_rem, un_not, len_s, len_l, nck_p, fld_p, cv_i, unc_c, ex_0, ex_1, ex_2, st_eq, st_ne, brV_true, brV_false, brV_b, brV_not, one_one, nil_p, nil_pn, nil_n, nil_nn, decide_eq_true_eq, true_and, nb_ite, bs_size, Nat.zero_add, Bool.not_true, Bool.not_false, Bool.false_eq_true, eq_self, if_true, if_false, jn]
  by_cases h0 : m = 0
  · subst h0
    rw [if_neg (by omega)]
    have h1 : la = lb := by
      have h2 := he
      rw [Nat.sub_zero, List.take_length, List.take_of_length_le (by omega)] at h2
      exact h2
    have h2 := hk w1 hL
    rwa [decide_eq_true h1] at h2
  obtain ⟨m, rfl⟩ : ∃ q, m = q + 1 := ⟨m - 1, by omega⟩
  rw [if_pos (by omega)]
  have hlt : la.length - (m + 1) < la.length := by omega
  have hmi : la.length - m = la.length - (m + 1) + 1 := by omega
  generalize hi : la.length - (m + 1) = i at *
  have hlt2 : i < lb.length := by omega
  have hLd : Later w w1.drew := hL.tr (Later.dr w1)
  refine pat_at (hLd.lst ha) hlt fun b1 o1 h1 h1' h1'' => pat_at (hLd.lst hb) hlt2 fun b2 o2 h2 h2' h2'' => ?_
  refine ldN3 h1 h1' h1'' (ldN3 h2 h2' h2'' (pat_eq ?_))
  simp only [iw_add, iw_sub, iw_mul, iw_lss, iw_leq, iw_gtr, iw_geq, iw_eql, iw_neq, iw_quo, iw_rem, un_not, len_s, len_l, nck_p, fld_p, cv_i, unc_c, ex_0, ex_1, ex_2, st_eq, st_ne, brV_true, brV_false, brV_b, brV_not, one_one, nil_p, nil_pn, nil_n, nil_nn, decide_eq_true_eq, true_and, nb_ite, bs_size, Nat.zero_add, Bool.not_true, Bool.not_false, Bool.false_eq_true, eq_self, if_true, if_false, jn]
  by_cases hx : la[i] = lb[i]
  · rw [if_pos hx, wrap64 (by omega) (by omega)]
    refine ih m _ _ (by simp) ⟨by rw [hmi]; rfl, by omega, ?_, hLd⟩
    rw [hmi, List.take_add_one, List.take_add_one, he, List.getElem?_eq_getElem hlt, List.getElem?_eq_getElem hlt2, hx]
  · rw [if_neg hx]
    have : decide (la = lb) = false := decide_eq_false fun h => hx (by subst h; rfl)
    have h2 := hk _ hLd
    rwa [this] at h2
theorem SameDirty_from {la lb : List (Int × Int)} {va vb : Value} {w : World} {k : Value → World → Prop} (ha : Lst w va la.length (dx la)) (hb : Lst w vb lb.length (dx lb)) (hn : la.length ≤ 140737488355328)
    (hk : ∀ w', Later w w' → k (.bool (decide (la = lb))) w') : callW Tryd.prog (.func (.func 53) #[] #[]) [va, vb] w k := by
  apply honeycombbook_SameDirty_call
  apply honeycombbook_SameDirty_run
  simp only [honeycombbook_SameDirty]
  refine ha.len (hb.len ?_)
  simp only [iw_add, iw_sub, iw_mul, iw_lss, iw_leq, iw_gtr, iw_geq, iw_eql, iw_neq, iw_quo, iw_rem, un_not, len_s, len_l, nck_p, fld_p, cv_i, unc_c, ex_0, ex_1, ex_2, st_eq, st_ne, brV_true, brV_false, brV_b, brV_not, one_one, nil_p, nil_pn, nil_n, nil_nn, decide_eq_true_eq, true_and, nb_ite, bs_size, Nat.zero_add, Bool.not_true, Bool.not_false, Bool.false_eq_true, eq_self, if_true, if_false, jn]
  by_cases hl : (la.length : Int) = (lb.length : Int)
  rotate_left
  · rw [if_neg hl]
    have : decide (la = lb) = false := decide_eq_false fun h => hl (by rw [h])
    have h2 := hk w (Later.refl w)
    rwa [this] at h2
  rw [if_pos hl]
  refine lp_ind _ (fun (m : Nat) r w1 => r = [va, vb, .int .i64 ((la.length - m : Nat) : Int)] ∧ m ≤ la.length ∧ la.take (la.length - m) = lb.take (la.length - m) ∧ Later w w1) id ?_ (i := la.length) ⟨by simp, Nat.le_refl _, by simp, Later.refl w⟩
  rintro m r w1 rec ⟨rfl, hm, he, hL⟩ ih
  simp only [honeycombbook_SameDirty_L4, iw_add, iw_sub, iw_mul, iw_lss, iw_leq, iw_gtr, iw_geq, iw_eql, iw_neq, iw_quo, iw_rem, un_not, len_s, len_l, nck_p, fld_p, cv_i, unc_c, ex_0, ex_1, ex_2, st_eq, st_ne, brV_true, brV_false, brV_b, brV_not, one_one, nil_p, nil_pn, nil_n, nil_nn, decide_eq_true_eq, true_and, nb_ite, bs_size, Nat.zero_add, Bool.not_true, Bool.not_false, Bool.false_eq_true, eq_self, if_true, if_false, jn]
  refine (hL.lst ha).len ?_
  simp only [iw_add, iw_sub, iw_mul, iw_lss, iw_leq, iw_gtr, iw_geq, iw_eql, iw_neq, iw_quo, iw_rem, un_not, len_s, len_l, nck_p, fld_p, cv_i, unc_c, ex_0, ex_1, ex_2, st_eq, st_ne, brV_true, brV_false, brV_b, brV_not, one_one, nil_p, nil_pn, nil_n, nil_nn, decide_eq_true_eq, true_and, nb_ite, bs_size, Nat.zero_add, Bool.not_true, Bool.not_false, Bool.false_eq_true, eq_self, if_true, if_false, jn]
  by_cases h0 : m = 0
  · subst h0
    rw [if_neg (by omega)]
    have h1 : la = lb := by
      have h2 := he
      rw [Nat.sub_zero, List.take_length, List.take_of_length_le (by omega)] at h2
      exact h2
    have h2 := hk w1 hL
    rwa [decide_eq_true h1] at h2
  obtain ⟨m, rfl⟩ : ∃ q, m = q + 1 := ⟨m - 1, by omega⟩
  rw [if_pos (by omega)]
  have hlt : la.length - (m + 1) < la.length := by omega
  have hmi : la.length - m = la.length - (m + 1) + 1 := by omega
  generalize hi : la.length - (m + 1) = i at *
  have hlt2 : i < lb.length := by omega
  have hLd : Later w w1.drew := hL.tr (Later.dr w1)
  refine dirt_at (hLd.lst ha) hlt fun b1 o1 h1 h1' => dirt_at (hLd.lst hb) hlt2 fun b2 o2 h2 h2' => ?_
  refine ldNp h1 h1' (ldNp h2 h2' (dirt_eq ?_))
  simp only [iw_add, iw_sub, iw_mul, iw_lss, iw_leq, iw_gtr, iw_geq, iw_eql, iw_neq, iw_quo, iw_rem, un_not, len_s, len_l, nck_p, fld_p, cv_i, unc_c, ex_0, ex_1, ex_2, st_eq, st_ne, brV_true, brV_false, brV_b, brV_not, one_one, nil_p, nil_pn, nil_n, nil_nn, decide_eq_true_eq, true_and, nb_ite, bs_size, Nat.zero_add, Bool.not_true, Bool.not_false, Bool.false_eq_true, eq_self, if_true, if_false, jn]
  by_cases hx : la[i] = lb[i]
  · rw [if_pos hx, wrap64 (by omega) (by omega)]
    refine ih m _ _ (by simp) ⟨by rw [hmi]; rfl, by omega, ?_, hLd⟩
    rw [hmi, List.take_add_one, List.take_add_one, he, List.getElem?_eq_getElem hlt, List.getElem?_eq_getElem hlt2, hx]
  · rw [if_neg hx]
    have : decide (la = lb) = false := decide_eq_false fun h => hx (by subst h; rfl)
    have h2 := hk _ hLd
    rwa [this] at h2
theorem nil6_eq (a b : Bool) (k : Value → Prop) : nilW 6 .eql (.bool a) (.bool b) k = k (.bool (a == b)) := rfl
theorem nil6_ne (a b : Bool) (k : Value → Prop) : nilW 6 .neq (.bool a) (.bool b) k = k (.bool !(a == b)) := rfl
theorem SameTx_from {a b : Txi} {va vb : Value} {w : World} {k : Value → World → Prop} (ha : Lst w va a.pages.length (ix a.pages)) (hb : Lst w vb b.pages.length (ix b.pages)) (hn : a.pages.length ≤ 140737488355328)
    (hk : ∀ w', Later w w' → k (.bool (decide (a = b))) w') : callW Tryd.prog (.func (.func 82) #[] #[]) [.agg #[.int .i64 a.tx, .int .i64 a.last, .bool a.com, va], .agg #[.int .i64 b.tx, .int .i64 b.last, .bool b.com, vb]] w k := by
  apply honeycombbook_SameTx_call
  apply honeycombbook_SameTx_run
  simp only [honeycombbook_SameTx, Value.cells]
  refine al_lit fun g1 w1 hL1 hg1 hs1 => ?_
  refine al_lit fun g2 w2 hL2 hg2 hs2 => ?_
  have hg1' := hL2.heap hg1
  have hL := hL1.tr hL2
  have hno : a ≠ b → k (.bool false) w2 := fun h => by
    have := hk w2 hL
    rwa [decide_eq_false h] at this
  simp only [iw_add, iw_sub, iw_mul, iw_lss, iw_leq, iw_gtr, iw_geq, iw_eql, iw_neq, iw_quo, iw_rem, un_not, len_s, len_l, nck_p, fld_p, cv_i, unc_c, ex_0, ex_1, ex_2, st_eq, st_ne, brV_true, brV_false, brV_b, brV_not, one_one, nil_p, nil_pn, nil_n, nil_nn, decide_eq_true_eq, true_and, nb_ite, bs_size, Nat.zero_add, Bool.not_true, Bool.not_false, Bool.false_eq_true, eq_self, if_true, if_false, jn]
  refine ldC_heap hg1' (v := .int .i64 a.tx) rfl (ldC_heap hg2 (v := .int .i64 b.tx) rfl ?_)
  simp only [iw_add, iw_sub, iw_mul, iw_lss, iw_leq, iw_gtr, iw_geq, iw_eql, iw_neq, iw_quo, iw_rem, un_not, len_s, len_l, nck_p, fld_p, cv_i, unc_c, ex_0, ex_1, ex_2, st_eq, st_ne, brV_true, brV_false, brV_b, brV_not, one_one, nil_p, nil_pn, nil_n, nil_nn, decide_eq_true_eq, true_and, nb_ite, bs_size, Nat.zero_add, Bool.not_true, Bool.not_false, Bool.false_eq_true, eq_self, if_true, if_false, jn]
  by_cases h1 : a.tx = b.tx
  rotate_left
  · rw [if_neg (by simpa using h1)]; exact hno fun e => h1 (by rw [e])
  rw [if_pos (by simpa using h1)]
  refine ldC_heap hg1' (v := .int .i64 a.last) rfl (ldC_heap hg2 (v := .int .i64 b.last) rfl ?_)
  simp only [iw_add, iw_sub, iw_mul, iw_lss, iw_leq, iw_gtr, iw_geq, iw_eql, iw_neq, iw_quo, iw_rem, un_not, len_s, len_l, nck_p, fld_p, cv_i, unc_c, ex_0, ex_1, ex_2, st_eq, st_ne, brV_true, brV_false, brV_b, brV_not, one_one, nil_p, nil_pn, nil_n, nil_nn, decide_eq_true_eq, true_and, nb_ite, bs_size, Nat.zero_add, Bool.not_true, Bool.not_false, Bool.false_eq_true, eq_self, if_true, if_false, jn]
  by_cases h2 : a.last = b.last
  rotate_left
  · rw [if_neg (by simpa using h2)]; exact hno fun e => h2 (by rw [e])
  rw [if_pos (by simpa using h2)]
  refine ldC_heap hg1' (v := .bool a.com) rfl (ldC_heap hg2 (v := .bool b.com) rfl ?_)
  simp only [nil6_eq, iw_add, iw_sub, iw_mul, iw_lss, iw_leq, iw_gtr, iw_geq, iw_eql, iw_neq, iw_quo, iw_rem, un_not, len_s, len_l, nck_p, fld_p, cv_i, unc_c, ex_0, ex_1, ex_2, st_eq, st_ne, brV_true, brV_false, brV_b, brV_not, one_one, nil_p, nil_pn, nil_n, nil_nn, decide_eq_true_eq, true_and, nb_ite, bs_size, Nat.zero_add, Bool.not_true, Bool.not_false, Bool.false_eq_true, eq_self, if_true, if_false, jn]
  by_cases h3 : a.com = b.com
  rotate_left
  · rw [if_neg (by simpa using h3)]; exact hno fun e => h3 (by rw [e])
  rw [if_pos (by simpa using h3)]
  refine ldC_heap hg1' (v := va) rfl (ldC_heap hg2 (v := vb) rfl ?_)
  refine SameInts_from (hL.lst ha) (hL.lst hb) hn fun w3 hL3 => ?_
  have : decide (a.pages = b.pages) = decide (a = b) := by
    congr 1
    refine propext ⟨fun h => ?_, fun h => by rw [h]⟩
    cases a; cases b
    simp_all
  rw [this]
  exact hk w3 (hL.tr hL3)
theorem SameTxs_from {la lb : List Txi} {pa pb : List Value} {va vb : Value} {w : World} {k : Value → World → Prop} (ha : Lst w va la.length (vx pa la)) (hb : Lst w vb lb.length (vx pb lb)) (hn : la.length ≤ 140737488355328) (hpa : pa.length = la.length) (hpb : pb.length = lb.length)
    (hsa : ∀ (i : Nat) (x : Txi), la[i]? = some x → x.pages.length ≤ 140737488355328 ∧ ∃ v, pa[i]? = some v ∧ Lst w v x.pages.length (ix x.pages)) (hsb : ∀ (i : Nat) (x : Txi), lb[i]? = some x → ∃ v, pb[i]? = some v ∧ Lst w v x.pages.length (ix x.pages))
    (hk : ∀ w', Later w w' → k (.bool (decide (la = lb))) w') : callW Tryd.prog (.func (.func 52) #[] #[]) [va, vb] w k := by
  apply honeycombbook_SameTxs_call
  apply honeycombbook_SameTxs_run
  simp only [honeycombbook_SameTxs]
  refine ha.len (hb.len ?_)
  simp only [iw_add, iw_sub, iw_mul, iw_lss, iw_leq, iw_gtr, iw_geq, iw_eql, iw_neq, iw_quo, iw_rem, un_not, len_s, len_l, nck_p, fld_p, cv_i, unc_c, ex_0, ex_1, ex_2, st_eq, st_ne, brV_true, brV_false, brV_b, brV_not, one_one, nil_p, nil_pn, nil_n, nil_nn, decide_eq_true_eq, true_and, nb_ite, bs_size, Nat.zero_add, Bool.not_true, Bool.not_false, Bool.false_eq_true, eq_self, if_true, if_false, jn]
  by_cases hl : (la.length : Int) = (lb.length : Int)
  rotate_left
  · rw [if_neg hl]
    have : decide (la = lb) = false := decide_eq_false fun h => hl (by rw [h])
    have h2 := hk w (Later.refl w)
    rwa [this] at h2
  rw [if_pos hl]
  refine lp_ind _ (fun (m : Nat) r w1 => r = [va, vb, .int .i64 ((la.length - m : Nat) : Int)] ∧ m ≤ la.length ∧ la.take (la.length - m) = lb.take (la.length - m) ∧ Later w w1) id ?_ (i := la.length) ⟨by simp, Nat.le_refl _, by simp, Later.refl w⟩
  rintro m r w1 rec ⟨rfl, hm, he, hL⟩ ih
  simp only [honeycombbook_SameTxs_L4, iw_add, iw_sub, iw_mul, iw_lss, iw_leq, iw_gtr, iw_geq, iw_eql, iw_neq, iw_quo, iw_rem, un_not, len_s, len_l, nck_p, fld_p, cv_i, unc_c, ex_0, ex_1, ex_2, st_eq, st_ne, brV_true, brV_false, brV_b, brV_not, one_one, nil_p, nil_pn, nil_n, nil_nn, decide_eq_true_eq, true_and, nb_ite, bs_size, Nat.zero_add, Bool.not_true, Bool.not_false, Bool.false_eq_true, eq_self, if_true, if_false, jn]
  refine (hL.lst ha).len ?_
  simp only [iw_add, iw_sub, iw_mul, iw_lss, iw_leq, iw_gtr, iw_geq, iw_eql, iw_neq, iw_quo, iw_rem, un_not, len_s, len_l, nck_p, fld_p, cv_i, unc_c, ex_0, ex_1, ex_2, st_eq, st_ne, brV_true, brV_false, brV_b, brV_not, one_one, nil_p, nil_pn, nil_n, nil_nn, decide_eq_true_eq, true_and, nb_ite, bs_size, Nat.zero_add, Bool.not_true, Bool.not_false, Bool.false_eq_true, eq_self, if_true, if_false, jn]
  by_cases h0 : m = 0
  · subst h0
    rw [if_neg (by omega)]
    have h1 : la = lb := by
      have h2 := he
      rw [Nat.sub_zero, List.take_length, List.take_of_length_le (by omega)] at h2
      exact h2
    have h2 := hk w1 hL
    rwa [decide_eq_true h1] at h2
  obtain ⟨m, rfl⟩ : ∃ q, m = q + 1 := ⟨m - 1, by omega⟩
  rw [if_pos (by omega)]
  have hlt : la.length - (m + 1) < la.length := by omega
  have hmi : la.length - m = la.length - (m + 1) + 1 := by omega
  generalize hi : la.length - (m + 1) = i at *
  have hlt2 : i < lb.length := by omega
  have hLd : Later w w1.drew := hL.tr (Later.dr w1)
  obtain ⟨hpn, ua, hua, hla⟩ := hsa i _ (List.getElem?_eq_getElem hlt)
  obtain ⟨ub, hub, hlb⟩ := hsb i _ (List.getElem?_eq_getElem hlt2)
  refine tx_at (hLd.lst ha) hpa hlt fun b1 o1 h1 h2 h3 h4 => tx_at (hLd.lst hb) hpb hlt2 fun b2 o2 g1 g2 g3 g4 => ?_
  refine ldN4 h1 h2 h3 (h4 ua hua) (ldN4 g1 g2 g3 (g4 ub hub) ?_)
  refine SameTx_from (hLd.lst hla) (hLd.lst hlb) hpn fun w2 hL2 => ?_
  simp only [iw_add, iw_sub, iw_mul, iw_lss, iw_leq, iw_gtr, iw_geq, iw_eql, iw_neq, iw_quo, iw_rem, un_not, len_s, len_l, nck_p, fld_p, cv_i, unc_c, ex_0, ex_1, ex_2, st_eq, st_ne, brV_true, brV_false, brV_b, brV_not, one_one, nil_p, nil_pn, nil_n, nil_nn, decide_eq_true_eq, true_and, nb_ite, bs_size, Nat.zero_add, Bool.not_true, Bool.not_false, Bool.false_eq_true, eq_self, if_true, if_false, jn]
  by_cases hx : la[i] = lb[i]
  · rw [if_pos (by simpa using hx), wrap64 (by omega) (by omega)]
    refine ih m _ _ (by simp) ⟨by rw [hmi]; rfl, by omega, ?_, hLd.tr hL2⟩
    rw [hmi, List.take_add_one, List.take_add_one, he, List.getElem?_eq_getElem hlt, List.getElem?_eq_getElem hlt2, hx]
  · rw [if_neg (by simpa using hx)]
    have : decide (la = lb) = false := decide_eq_false fun h => hx (by subst h; rfl)
    have h2 := hk _ (hLd.tr hL2)
    rwa [this] at h2
/-- Lists that are not too long to be looked at. -/
def Rec.fit (r : Rec) : Prop := r.pages.length ≤ 140737488355328 ∧ r.patches.length ≤ 140737488355328 ∧ r.txs.length ≤ 140737488355328 ∧ r.dirty.length ≤ 140737488355328 ∧ ∀ t ∈ r.txs, t.pages.length ≤ 140737488355328
theorem SameRecord_from {a b : Rec} {vp vq vt vd up uq ut ud : Value} {pa pb : List Value} {w : World} {k : Value → World → Prop} (ha : RecV w vp vq vt vd pa a) (hb : RecV w up uq ut ud pb b) (hf : a.fit)
    (hk : ∀ w', Later w w' → k (.bool (decide (a = b))) w') : callW Tryd.prog (.func (.func 19) #[] #[]) [.agg (rcells a vp vq vt vd), .agg (rcells b up uq ut ud)] w k := by
  apply honeycombbook_SameRecord_call
  apply honeycombbook_SameRecord_run
  simp only [honeycombbook_SameRecord, Value.cells]
  refine al_lit fun g1 w1 hL1 hg1 hs1 => ?_
  refine al_lit fun g2 w2 hL2 hg2 hs2 => ?_
  have hg1' := hL2.heap hg1
  have hL := hL1.tr hL2
  have hno : a ≠ b → ∀ w', Later w w' → k (.bool false) w' := fun h w' hL' => by
    have := hk w' hL'
    rwa [decide_eq_false h] at this
  simp only [iw_add, iw_sub, iw_mul, iw_lss, iw_leq, iw_gtr, iw_geq, iw_eql, iw_neq, iw_quo, iw_rem, un_not, len_s, len_l, nck_p, fld_p, cv_i, unc_c, ex_0, ex_1, ex_2, st_eq, st_ne, brV_true, brV_false, brV_b, brV_not, one_one, nil_p, nil_pn, nil_n, nil_nn, decide_eq_true_eq, true_and, nb_ite, bs_size, Nat.zero_add, Bool.not_true, Bool.not_false, Bool.false_eq_true, eq_self, if_true, if_false, jn]
  refine ldC_heap hg1' (v := .int .i64 a.kind) rfl (ldC_heap hg2 (v := .int .i64 b.kind) rfl ?_)
  simp only [iw_add, iw_sub, iw_mul, iw_lss, iw_leq, iw_gtr, iw_geq, iw_eql, iw_neq, iw_quo, iw_rem, un_not, len_s, len_l, nck_p, fld_p, cv_i, unc_c, ex_0, ex_1, ex_2, st_eq, st_ne, brV_true, brV_false, brV_b, brV_not, one_one, nil_p, nil_pn, nil_n, nil_nn, decide_eq_true_eq, true_and, nb_ite, bs_size, Nat.zero_add, Bool.not_true, Bool.not_false, Bool.false_eq_true, eq_self, if_true, if_false, jn]
  by_cases h1 : a.kind = b.kind
  rotate_left
  · rw [if_neg (by simpa using h1)]; exact hno (fun e => h1 (by rw [e])) w2 hL
  rw [if_pos (by simpa using h1)]
  refine ldC_heap hg1' (v := .int .i64 a.tx) rfl (ldC_heap hg2 (v := .int .i64 b.tx) rfl ?_)
  simp only [iw_add, iw_sub, iw_mul, iw_lss, iw_leq, iw_gtr, iw_geq, iw_eql, iw_neq, iw_quo, iw_rem, un_not, len_s, len_l, nck_p, fld_p, cv_i, unc_c, ex_0, ex_1, ex_2, st_eq, st_ne, brV_true, brV_false, brV_b, brV_not, one_one, nil_p, nil_pn, nil_n, nil_nn, decide_eq_true_eq, true_and, nb_ite, bs_size, Nat.zero_add, Bool.not_true, Bool.not_false, Bool.false_eq_true, eq_self, if_true, if_false, jn]
  by_cases h2 : a.tx = b.tx
  rotate_left
  · rw [if_neg (by simpa using h2)]; exact hno (fun e => h2 (by rw [e])) w2 hL
  rw [if_pos (by simpa using h2)]
  refine ldC_heap hg1' (v := .int .i64 a.prev) rfl (ldC_heap hg2 (v := .int .i64 b.prev) rfl ?_)
  simp only [iw_add, iw_sub, iw_mul, iw_lss, iw_leq, iw_gtr, iw_geq, iw_eql, iw_neq, iw_quo, iw_rem, un_not, len_s, len_l, nck_p, fld_p, cv_i, unc_c, ex_0, ex_1, ex_2, st_eq, st_ne, brV_true, brV_false, brV_b, brV_not, one_one, nil_p, nil_pn, nil_n, nil_nn, decide_eq_true_eq, true_and, nb_ite, bs_size, Nat.zero_add, Bool.not_true, Bool.not_false, Bool.false_eq_true, eq_self, if_true, if_false, jn]
  by_cases h3 : a.prev = b.prev
  rotate_left
  · rw [if_neg (by simpa using h3)]; exact hno (fun e => h3 (by rw [e])) w2 hL
  rw [if_pos (by simpa using h3)]
  refine ldC_heap hg1' (v := .int .i64 a.next) rfl (ldC_heap hg2 (v := .int .i64 b.next) rfl ?_)
  simp only [iw_add, iw_sub, iw_mul, iw_lss, iw_leq, iw_gtr, iw_geq, iw_eql, iw_neq, iw_quo, iw_rem, un_not, len_s, len_l, nck_p, fld_p, cv_i, unc_c, ex_0, ex_1, ex_2, st_eq, st_ne, brV_true, brV_false, brV_b, brV_not, one_one, nil_p, nil_pn, nil_n, nil_nn, decide_eq_true_eq, true_and, nb_ite, bs_size, Nat.zero_add, Bool.not_true, Bool.not_false, Bool.false_eq_true, eq_self, if_true, if_false, jn]
  by_cases h4 : a.next = b.next
  rotate_left
  · rw [if_neg (by simpa using h4)]; exact hno (fun e => h4 (by rw [e])) w2 hL
  rw [if_pos (by simpa using h4)]
  refine ldC_heap hg1' (v := .string (bs a.key)) rfl (ldC_heap hg2 (v := .string (bs b.key)) rfl ?_)
  simp only [iw_add, iw_sub, iw_mul, iw_lss, iw_leq, iw_gtr, iw_geq, iw_eql, iw_neq, iw_quo, iw_rem, un_not, len_s, len_l, nck_p, fld_p, cv_i, unc_c, ex_0, ex_1, ex_2, st_eq, st_ne, brV_true, brV_false, brV_b, brV_not, one_one, nil_p, nil_pn, nil_n, nil_nn, decide_eq_true_eq, true_and, nb_ite, bs_size, Nat.zero_add, Bool.not_true, Bool.not_false, Bool.false_eq_true, eq_self, if_true, if_false, jn]
  by_cases h5 : a.key = b.key
  rotate_left
  · rw [if_neg (by simpa using h5)]; exact hno (fun e => h5 (by rw [e])) w2 hL
  rw [if_pos (by simpa using h5)]
  refine ldC_heap hg1' (v := .bool a.had) rfl (ldC_heap hg2 (v := .bool b.had) rfl ?_)
  simp only [nil6_eq, iw_add, iw_sub, iw_mul, iw_lss, iw_leq, iw_gtr, iw_geq, iw_eql, iw_neq, iw_quo, iw_rem, un_not, len_s, len_l, nck_p, fld_p, cv_i, unc_c, ex_0, ex_1, ex_2, st_eq, st_ne, brV_true, brV_false, brV_b, brV_not, one_one, nil_p, nil_pn, nil_n, nil_nn, decide_eq_true_eq, true_and, nb_ite, bs_size, Nat.zero_add, Bool.not_true, Bool.not_false, Bool.false_eq_true, eq_self, if_true, if_false, jn]
  by_cases h6 : a.had = b.had
  rotate_left
  · rw [if_neg (by simpa using h6)]; exact hno (fun e => h6 (by rw [e])) w2 hL
  rw [if_pos (by simpa using h6)]
  have hcell : ∀ {g : Nat} {r : Rec} {vp vq vt vd : Value} (w2 : World), w2.heap[g]? = some (.cells (rcells r vp vq vt vd) 29 (0, 0)) → ∀ (k' : Value → Cells → Prop), (∀ c, k' (.agg (ccells r.okey r.oval r.blob r.size)) c) → ldN 4 (.pointer (some ⟨g, 6, none⟩)) w2 k' := fun w2 h2 k' hk' =>
    ldN4 (by rw [heap_cell h2]; rfl) (by rw [heap_cell h2]; rfl) (by rw [heap_cell h2]; rfl) (by rw [heap_cell h2]; rfl) (hk' _)
  refine hcell w2 hg1' _ fun _ => hcell w2 hg2 _ fun _ => cell_eq ?_
  simp only [iw_add, iw_sub, iw_mul, iw_lss, iw_leq, iw_gtr, iw_geq, iw_eql, iw_neq, iw_quo, iw_rem, un_not, len_s, len_l, nck_p, fld_p, cv_i, unc_c, ex_0, ex_1, ex_2, st_eq, st_ne, brV_true, brV_false, brV_b, brV_not, one_one, nil_p, nil_pn, nil_n, nil_nn, decide_eq_true_eq, true_and, nb_ite, bs_size, Nat.zero_add, Bool.not_true, Bool.not_false, Bool.false_eq_true, eq_self, if_true, if_false, jn]
  by_cases h7 : a.okey = b.okey ∧ a.oval = b.oval ∧ a.blob = b.blob ∧ a.size = b.size
  rotate_left
  · rw [if_neg (by simpa using h7)]; exact hno (fun e => h7 (by rw [e]; exact ⟨rfl, rfl, rfl, rfl⟩)) w2 hL
  rw [if_pos (by simpa using h7)]
  refine ldC_heap hg1' (v := vp) rfl (ldC_heap hg2 (v := up) rfl ?_)
  refine SameInts_from (hL.lst ha.p) (hL.lst hb.p) hf.1 fun w3 hL3 => ?_
  simp only [iw_add, iw_sub, iw_mul, iw_lss, iw_leq, iw_gtr, iw_geq, iw_eql, iw_neq, iw_quo, iw_rem, un_not, len_s, len_l, nck_p, fld_p, cv_i, unc_c, ex_0, ex_1, ex_2, st_eq, st_ne, brV_true, brV_false, brV_b, brV_not, one_one, nil_p, nil_pn, nil_n, nil_nn, decide_eq_true_eq, true_and, nb_ite, bs_size, Nat.zero_add, Bool.not_true, Bool.not_false, Bool.false_eq_true, eq_self, if_true, if_false, jn]
  by_cases h8 : a.pages = b.pages
  rotate_left
  · rw [if_neg (by simpa using h8)]; exact hno (fun e => h8 (by rw [e])) w3 (hL.tr hL3)
  rw [if_pos (by simpa using h8)]
  have hL3' := hL.tr hL3
  refine ldC_heap (hL3.heap hg1') (v := vq) rfl (ldC_heap (hL3.heap hg2) (v := uq) rfl ?_)
  refine SamePatches_from (hL3'.lst ha.q) (hL3'.lst hb.q) hf.2.1 fun w4 hL4 => ?_
  simp only [iw_add, iw_sub, iw_mul, iw_lss, iw_leq, iw_gtr, iw_geq, iw_eql, iw_neq, iw_quo, iw_rem, un_not, len_s, len_l, nck_p, fld_p, cv_i, unc_c, ex_0, ex_1, ex_2, st_eq, st_ne, brV_true, brV_false, brV_b, brV_not, one_one, nil_p, nil_pn, nil_n, nil_nn, decide_eq_true_eq, true_and, nb_ite, bs_size, Nat.zero_add, Bool.not_true, Bool.not_false, Bool.false_eq_true, eq_self, if_true, if_false, jn]
  have hL4' := hL3'.tr hL4
  by_cases h9 : a.patches = b.patches
  rotate_left
  · rw [if_neg (by simpa using h9)]; exact hno (fun e => h9 (by rw [e])) w4 hL4'
  rw [if_pos (by simpa using h9)]
  refine ldC_heap (hL4.heap (hL3.heap hg1')) (v := vt) rfl (ldC_heap (hL4.heap (hL3.heap hg2)) (v := ut) rfl ?_)
  refine SameTxs_from (hL4'.lst ha.t) (hL4'.lst hb.t) hf.2.2.1 ha.n hb.n (fun i x hx => ?_) (fun i x hx => ?_) fun w5 hL5 => ?_
  · obtain ⟨v, h1, h2⟩ := ha.s i x hx
    exact ⟨hf.2.2.2.2 x (List.mem_of_getElem? hx), v, h1, hL4'.lst h2⟩
  · obtain ⟨v, h1, h2⟩ := hb.s i x hx
    exact ⟨v, h1, hL4'.lst h2⟩
  simp only [iw_add, iw_sub, iw_mul, iw_lss, iw_leq, iw_gtr, iw_geq, iw_eql, iw_neq, iw_quo, iw_rem, un_not, len_s, len_l, nck_p, fld_p, cv_i, unc_c, ex_0, ex_1, ex_2, st_eq, st_ne, brV_true, brV_false, brV_b, brV_not, one_one, nil_p, nil_pn, nil_n, nil_nn, decide_eq_true_eq, true_and, nb_ite, bs_size, Nat.zero_add, Bool.not_true, Bool.not_false, Bool.false_eq_true, eq_self, if_true, if_false, jn]
  have hL5' := hL4'.tr hL5
  by_cases h10 : a.txs = b.txs
  rotate_left
  · rw [if_neg (by simpa using h10)]; exact hno (fun e => h10 (by rw [e])) w5 hL5'
  rw [if_pos (by simpa using h10)]
  refine ldC_heap (hL5.heap (hL4.heap (hL3.heap hg1'))) (v := vd) rfl (ldC_heap (hL5.heap (hL4.heap (hL3.heap hg2))) (v := ud) rfl ?_)
  refine SameDirty_from (hL5'.lst ha.d) (hL5'.lst hb.d) hf.2.2.2.1 fun w6 hL6 => ?_
  have : decide (a.dirty = b.dirty) = decide (a = b) := by
    congr 1
    refine propext ⟨fun h => ?_, fun h => by rw [h]⟩
    cases a; cases b
    simp_all
  rw [this]
  exact hk w6 (hL5'.tr hL6)
end Go.Proofs.YtlicdhdpngahgaaDoor
