/- Chapter 12: a record's bytes are as many as its texts, and what its numbers take. -/
import Derived.Test.YtlicdhdpngahgaaDoorBytes
set_option linter.unusedVariables false
set_option linter.unusedSimpArgs false
namespace Go.Proofs.YtlicdhdpngahgaaDoor
open Go.Eng Go.RowKit
/-- What the patches take, and the transactions. -/
def patSum (l : List Pat) : Nat := (l.map fun p => 6 + p.byt.length).sum
def txSum (l : List Txi) : Nat := (l.map fun t => 10 + 2 * t.pages.length).sum
theorem patSum_flat (l : List Pat) : (l.flatMap patB).length = patSum l := by
  induction l with
  | nil => rfl
  | cons p l ih =>
    rw [List.flatMap_cons, List.length_append, ih, patB, List.length_append, List.length_append, n2_len, n2_len, txt_len, patSum, patSum, List.map_cons, List.sum_cons]
    omega
theorem txSum_flat (l : List Txi) : (l.flatMap txB).length = txSum l := by
  induction l with
  | nil => rfl
  | cons p l ih =>
    rw [List.flatMap_cons, List.length_append, ih, txB, List.length_append, List.length_append, List.length_append, n2_len, n4_len, n2_len, nums_len, txSum, txSum, List.map_cons, List.sum_cons]
    omega
theorem dirt_flat (l : List (Int × Int)) : (l.flatMap dirtB).length = 6 * l.length := by
  induction l with
  | nil => rfl
  | cons p l ih =>
    rw [List.flatMap_cons, List.length_append, ih, dirtB, List.length_append, n2_len, n4_len, List.length_cons]
    omega
theorem put_len (r : Rec) : (putB r).length = 12 + 2 + r.key.length + 2 + 2 + r.okey.length + 2 + r.oval.length + 4 + 2 + 2 * r.pages.length + 2 + 2 + 2 + 6 * r.dirty.length + patSum r.patches + txSum r.txs := by
  have h : (putB r).length = (headB r).length + (numsB r.pages).length + (2 + (r.patches.flatMap patB).length) + (2 + (r.txs.flatMap txB).length) + (2 + (r.dirty.flatMap dirtB).length) := by
    simp only [putB, List.length_append, n2_len]
  have hh : (headB r).length = 12 + 2 + r.key.length + 2 + 2 + r.okey.length + 2 + r.oval.length + 4 := by
    simp only [headB, List.length_append, n2_len, n4_len, txt_len]
    omega
  rw [h, hh, nums_len, patSum_flat, txSum_flat, dirt_flat]
  omega
theorem patSum_take {l : List Pat} {i : Nat} (h : i < l.length) : patSum (l.take (i + 1)) = patSum (l.take i) + (6 + l[i].byt.length) := by
  rw [patSum, patSum, List.take_add_one, List.getElem?_eq_getElem h, List.map_append, List.sum_append]
  simp
theorem txSum_take {l : List Txi} {i : Nat} (h : i < l.length) : txSum (l.take (i + 1)) = txSum (l.take i) + (10 + 2 * l[i].pages.length) := by
  rw [txSum, txSum, List.take_add_one, List.getElem?_eq_getElem h, List.map_append, List.sum_append]
  simp
theorem patSum_le {l : List Pat} (i : Nat) : patSum (l.take i) ≤ patSum l := by
  have h : patSum l = patSum (l.take i) + patSum (l.drop i) := by
    rw [patSum, patSum, patSum, ← List.sum_append, ← List.map_append, List.take_append_drop]
  omega
theorem txSum_le {l : List Txi} (i : Nat) : txSum (l.take i) ≤ txSum l := by
  have h : txSum l = txSum (l.take i) + txSum (l.drop i) := by
    rw [txSum, txSum, txSum, ← List.sum_append, ← List.map_append, List.take_append_drop]
  omega
theorem RecordSizes_spec {r : Rec} {vp vq vt vd : Value} {ps : List Value} {w : World} {k : Value → World → Prop} (hT : Tab w) (hv : RecV w vp vq vt vd ps r) (hn : r.lens) (hk : ∀ w', Later w w' → k (.bool true) w') :
    Calls Tryd.prog 4 #[.agg (rcells r vp vq vt vd)] w (rt k) := by
  apply honeycomblaw12_RecordSizes_run
  unfold honeycomblaw12_RecordSizes
  simp only [Value.cells]
  refine al_lit fun g w1 hL1 hg hgs => ?_
  have hv1 := hv.later hL1
  have two : ∀ w2, Later w w2 → honeycomblaw12_RecordSizes_J2 k [] w2 := fun w2 h2 => by
    simp only [honeycomblaw12_RecordSizes_J2]
    exact alive12_from (hT.later h2) fun w3 h3 => hk w3 (h2.tr h3)
  refine ldN_heap hg rfl ?_
  refine Light_from hv1 hn fun c w2 hL2 _ => ?_
  have hL02 := hL1.tr hL2
  cases c
  · simp only [iw_add, iw_sub, iw_mul, iw_lss, iw_leq, iw_gtr, iw_geq, iw_eql, iw_neq, iw_quo, iw_rem, un_not, len_s, len_l, nck_p, fld_p, cv_i, unc_c, ex_0, ex_1, ex_2, st_eq, st_ne, brV_true, brV_false, brV_b, brV_not, one_one, nil_p, nil_pn, nil_n, nil_nn, decide_eq_true_eq, true_and, nb_ite, bs_size, Nat.zero_add, Bool.not_true, Bool.not_false, Bool.false_eq_true, eq_self, if_true, if_false, jn]; exact two _ hL02
  simp only [iw_add, iw_sub, iw_mul, iw_lss, iw_leq, iw_gtr, iw_geq, iw_eql, iw_neq, iw_quo, iw_rem, un_not, len_s, len_l, nck_p, fld_p, cv_i, unc_c, ex_0, ex_1, ex_2, st_eq, st_ne, brV_true, brV_false, brV_b, brV_not, one_one, nil_p, nil_pn, nil_n, nil_nn, decide_eq_true_eq, true_and, nb_ite, bs_size, Nat.zero_add, Bool.not_true, Bool.not_false, Bool.false_eq_true, eq_self, if_true, if_false, jn]
  refine alive12_from (hT.later hL02) fun w3 hL3 => ?_
  have hL03 := hL02.tr hL3
  have hL13 := hL2.tr hL3
  simp only [iw_add, iw_sub, iw_mul, iw_lss, iw_leq, iw_gtr, iw_geq, iw_eql, iw_neq, iw_quo, iw_rem, un_not, len_s, len_l, nck_p, fld_p, cv_i, unc_c, ex_0, ex_1, ex_2, st_eq, st_ne, brV_true, brV_false, brV_b, brV_not, one_one, nil_p, nil_pn, nil_n, nil_nn, decide_eq_true_eq, true_and, nb_ite, bs_size, Nat.zero_add, Bool.not_true, Bool.not_false, Bool.false_eq_true, eq_self, if_true, if_false, jn]
  refine ldN_heap (hL13.heap hg) rfl ?_
  refine Put_from (hT.later hL03) (hv.later hL03) fun w4 hL4 => ?_
  have hL04 := hL03.tr hL4
  have hL14 := hL13.tr hL4
  have hv4 := hv.later hL04
  have hg4 := hL14.heap hg
  have hT4 := hT.later hL04
  simp only [iw_add, iw_sub, iw_mul, iw_lss, iw_leq, iw_gtr, iw_geq, iw_eql, iw_neq, iw_quo, iw_rem, un_not, len_s, len_l, nck_p, fld_p, cv_i, unc_c, ex_0, ex_1, ex_2, st_eq, st_ne, brV_true, brV_false, brV_b, brV_not, one_one, nil_p, nil_pn, nil_n, nil_nn, decide_eq_true_eq, true_and, nb_ite, bs_size, Nat.zero_add, Bool.not_true, Bool.not_false, Bool.false_eq_true, eq_self, if_true, if_false, jn]
  by_cases hok : r.ok
  · have hle := put_le hok
    have hlen := put_len r
    simp only [hok, iw_add, iw_sub, iw_mul, iw_lss, iw_leq, iw_gtr, iw_geq, iw_eql, iw_neq, iw_quo, iw_rem, un_not, len_s, len_l, nck_p, fld_p, cv_i, unc_c, ex_0, ex_1, ex_2, st_eq, st_ne, brV_true, brV_false, brV_b, brV_not, one_one, nil_p, nil_pn, nil_n, nil_nn, decide_eq_true_eq, true_and, nb_ite, bs_size, Nat.zero_add, Bool.not_true, Bool.not_false, Bool.false_eq_true, eq_self, if_true, if_false, jn, decide_true]
    generalize putB r = s at *
    refine ldC_heap hg4 (v := .string (bs r.key)) rfl ?_
    simp only [iw_add, iw_sub, iw_mul, iw_lss, iw_leq, iw_gtr, iw_geq, iw_eql, iw_neq, iw_quo, iw_rem, un_not, len_s, len_l, nck_p, fld_p, cv_i, unc_c, ex_0, ex_1, ex_2, st_eq, st_ne, brV_true, brV_false, brV_b, brV_not, one_one, nil_p, nil_pn, nil_n, nil_nn, decide_eq_true_eq, true_and, nb_ite, bs_size, Nat.zero_add, Bool.not_true, Bool.not_false, Bool.false_eq_true, eq_self, if_true, if_false, jn]
    refine ldC_heap hg4 (v := .string (bs r.okey)) rfl ?_
    simp only [iw_add, iw_sub, iw_mul, iw_lss, iw_leq, iw_gtr, iw_geq, iw_eql, iw_neq, iw_quo, iw_rem, un_not, len_s, len_l, nck_p, fld_p, cv_i, unc_c, ex_0, ex_1, ex_2, st_eq, st_ne, brV_true, brV_false, brV_b, brV_not, one_one, nil_p, nil_pn, nil_n, nil_nn, decide_eq_true_eq, true_and, nb_ite, bs_size, Nat.zero_add, Bool.not_true, Bool.not_false, Bool.false_eq_true, eq_self, if_true, if_false, jn]
    refine ldC_heap hg4 (v := .string (bs r.oval)) rfl ?_
    simp only [iw_add, iw_sub, iw_mul, iw_lss, iw_leq, iw_gtr, iw_geq, iw_eql, iw_neq, iw_quo, iw_rem, un_not, len_s, len_l, nck_p, fld_p, cv_i, unc_c, ex_0, ex_1, ex_2, st_eq, st_ne, brV_true, brV_false, brV_b, brV_not, one_one, nil_p, nil_pn, nil_n, nil_nn, decide_eq_true_eq, true_and, nb_ite, bs_size, Nat.zero_add, Bool.not_true, Bool.not_false, Bool.false_eq_true, eq_self, if_true, if_false, jn]
    refine ldC_heap hg4 (v := vp) rfl (hv4.p.len ?_)
    simp only [iw_add, iw_sub, iw_mul, iw_lss, iw_leq, iw_gtr, iw_geq, iw_eql, iw_neq, iw_quo, iw_rem, un_not, len_s, len_l, nck_p, fld_p, cv_i, unc_c, ex_0, ex_1, ex_2, st_eq, st_ne, brV_true, brV_false, brV_b, brV_not, one_one, nil_p, nil_pn, nil_n, nil_nn, decide_eq_true_eq, true_and, nb_ite, bs_size, Nat.zero_add, Bool.not_true, Bool.not_false, Bool.false_eq_true, eq_self, if_true, if_false, jn]
    refine ldC_heap hg4 (v := vd) rfl (hv4.d.len ?_)
    simp only [iw_add, iw_sub, iw_mul, iw_lss, iw_leq, iw_gtr, iw_geq, iw_eql, iw_neq, iw_quo, iw_rem, un_not, len_s, len_l, nck_p, fld_p, cv_i, unc_c, ex_0, ex_1, ex_2, st_eq, st_ne, brV_true, brV_false, brV_b, brV_not, one_one, nil_p, nil_pn, nil_n, nil_nn, decide_eq_true_eq, true_and, nb_ite, bs_size, Nat.zero_add, Bool.not_true, Bool.not_false, Bool.false_eq_true, eq_self, if_true, if_false, jn]
    refine ldC_heap hg4 (v := vq) rfl (hv4.q.len ?_)
    have hz : ∀ z : Int, 0 ≤ z → z ≤ 1000000 → IntKind.i64.wrap z = z := fun z h1 h2 => Eng.wrap64 (by omega) (by omega)
    rw [hz (14 + (r.key.length : Int)) (by omega) (by omega), hz (14 + (r.key.length : Int) + 2) (by omega) (by omega), hz (14 + (r.key.length : Int) + 2 + 2) (by omega) (by omega), hz (14 + (r.key.length : Int) + 2 + 2 + r.okey.length) (by omega) (by omega), hz (14 + (r.key.length : Int) + 2 + 2 + r.okey.length + 2) (by omega) (by omega),
      hz (14 + (r.key.length : Int) + 2 + 2 + r.okey.length + 2 + r.oval.length) (by omega) (by omega), hz (14 + (r.key.length : Int) + 2 + 2 + r.okey.length + 2 + r.oval.length + 4) (by omega) (by omega), hz (14 + (r.key.length : Int) + 2 + 2 + r.okey.length + 2 + r.oval.length + 4 + 2) (by omega) (by omega), hz (2 * (r.pages.length : Int)) (by omega) (by omega),
      hz (14 + (r.key.length : Int) + 2 + 2 + r.okey.length + 2 + r.oval.length + 4 + 2 + 2 * r.pages.length) (by omega) (by omega), hz (14 + (r.key.length : Int) + 2 + 2 + r.okey.length + 2 + r.oval.length + 4 + 2 + 2 * r.pages.length + 2) (by omega) (by omega), hz (14 + (r.key.length : Int) + 2 + 2 + r.okey.length + 2 + r.oval.length + 4 + 2 + 2 * r.pages.length + 2 + 2) (by omega) (by omega),
      hz (14 + (r.key.length : Int) + 2 + 2 + r.okey.length + 2 + r.oval.length + 4 + 2 + 2 * r.pages.length + 2 + 2 + 2) (by omega) (by omega), hz (6 * (r.dirty.length : Int)) (by omega) (by omega), hz (14 + (r.key.length : Int) + 2 + 2 + r.okey.length + 2 + r.oval.length + 4 + 2 + 2 * r.pages.length + 2 + 2 + 2 + 6 * r.dirty.length) (by omega) (by omega)]
    generalize hN : 14 + (r.key.length : Int) + 2 + 2 + r.okey.length + 2 + r.oval.length + 4 + 2 + 2 * r.pages.length + 2 + 2 + 2 + 6 * r.dirty.length = N
    have hN0 : 0 ≤ N := by omega
    have hNs : (s.length : Int) = N + patSum r.patches + txSum r.txs := by omega
    have hpn := hv4.q
    refine lp_ind _ (fun (m : Nat) l w5 => l = [.pointer (some ⟨g, 0, none⟩), .string (bs s), .int .i64 (N + patSum (r.patches.take (r.patches.length - m))), vq, .int .i64 r.patches.length, .int .i64 ((r.patches.length - m : Nat) : Int)] ∧ m ≤ r.patches.length ∧ Later w4 w5) id ?_ (i := r.patches.length) ⟨by rw [Nat.sub_self]; simp [patSum], Nat.le_refl _, Later.refl _⟩
    rintro m l w5 rec ⟨rfl, hm, hL5⟩ ih
    simp only [honeycomblaw12_RecordSizes_L8, iw_add, iw_sub, iw_mul, iw_lss, iw_leq, iw_gtr, iw_geq, iw_eql, iw_neq, iw_quo, iw_rem, un_not, len_s, len_l, nck_p, fld_p, cv_i, unc_c, ex_0, ex_1, ex_2, st_eq, st_ne, brV_true, brV_false, brV_b, brV_not, one_one, nil_p, nil_pn, nil_n, nil_nn, decide_eq_true_eq, true_and, nb_ite, bs_size, Nat.zero_add, Bool.not_true, Bool.not_false, Bool.false_eq_true, eq_self, if_true, if_false, jn]
    by_cases h0 : m = 0
    · subst h0
      rw [if_neg (by omega), Nat.sub_zero, List.take_length]
      refine ldC_heap (hL5.heap hg4) (v := vt) rfl ((hL5.lst hv4.t).len ?_)
      refine lp_ind _ (fun (m : Nat) l w6 => l = [.pointer (some ⟨g, 0, none⟩), .string (bs s), .int .i64 (N + patSum r.patches + txSum (r.txs.take (r.txs.length - m))), vt, .int .i64 r.txs.length, .int .i64 ((r.txs.length - m : Nat) : Int)] ∧ m ≤ r.txs.length ∧ Later w4 w6) id ?_ (i := r.txs.length) ⟨by rw [Nat.sub_self]; simp [txSum], Nat.le_refl _, hL5⟩
      clear ih
      rintro m l w6 rec2 ⟨rfl, hm, hL6⟩ ih
      simp only [honeycomblaw12_RecordSizes_L13, iw_add, iw_sub, iw_mul, iw_lss, iw_leq, iw_gtr, iw_geq, iw_eql, iw_neq, iw_quo, iw_rem, un_not, len_s, len_l, nck_p, fld_p, cv_i, unc_c, ex_0, ex_1, ex_2, st_eq, st_ne, brV_true, brV_false, brV_b, brV_not, one_one, nil_p, nil_pn, nil_n, nil_nn, decide_eq_true_eq, true_and, nb_ite, bs_size, Nat.zero_add, Bool.not_true, Bool.not_false, Bool.false_eq_true, eq_self, if_true, if_false, jn]
      by_cases h0 : m = 0
      · subst h0
        rw [if_neg (by omega), Nat.sub_zero, List.take_length]
        rw [if_pos hNs]
        refine ldN_heap (hL6.heap hg4) rfl ?_
        refine Right_from (hT4.later hL6) (hv4.later hL6) fun w7 hL7 => ?_
        rw [decide_eq_true hok]
        exact hk w7 ((hL04.tr hL6).tr hL7)
      obtain ⟨m, rfl⟩ : ∃ q, m = q + 1 := ⟨m - 1, by omega⟩
      rw [if_pos (by omega)]
      have hlt : r.txs.length - (m + 1) < r.txs.length := by omega
      have hmi : r.txs.length - m = r.txs.length - (m + 1) + 1 := by omega
      generalize hi : r.txs.length - (m + 1) = i at *
      have hv6 := hv4.later hL6
      have hst := txSum_take hlt
      have hsl := txSum_le (l := r.txs) (i + 1)
      have htl : r.txs.length ≤ 8 := hok.2.2.2.2.2.2.2.2.1
      refine tx_at hv6.t hv6.n hlt fun b o c0 c1 c2 c3 => ?_
      obtain ⟨u, hu, hl⟩ := hv6.s i _ (List.getElem?_eq_getElem hlt)
      refine ldN4 c0 c1 c2 (c3 u hu) ?_
      refine al_lit fun g7 w7 hL7 hg7 hg7s => ?_
      refine stN_heap hg7 rfl rfl (by intro z hz; simp at hz; rcases hz with rfl | rfl | rfl | rfl <;> first | rfl | exact (Lst.cell hl).1) fun w8 h8 hs8 hb8 ho8 => ?_
      have hL8 : Later w6 w8 := Below.trans hL7 (hb8 _ (Nat.le_of_eq hg7s.symm))
      simp only [iw_add, iw_sub, iw_mul, iw_lss, iw_leq, iw_gtr, iw_geq, iw_eql, iw_neq, iw_quo, iw_rem, un_not, len_s, len_l, nck_p, fld_p, cv_i, unc_c, ex_0, ex_1, ex_2, st_eq, st_ne, brV_true, brV_false, brV_b, brV_not, one_one, nil_p, nil_pn, nil_n, nil_nn, decide_eq_true_eq, true_and, nb_ite, bs_size, Nat.zero_add, Bool.not_true, Bool.not_false, Bool.false_eq_true, eq_self, if_true, if_false, jn]
      refine ldC_heap h8 (v := u) rfl ((hL8.lst hl).len ?_)
      simp only [iw_add, iw_sub, iw_mul, iw_lss, iw_leq, iw_gtr, iw_geq, iw_eql, iw_neq, iw_quo, iw_rem, un_not, len_s, len_l, nck_p, fld_p, cv_i, unc_c, ex_0, ex_1, ex_2, st_eq, st_ne, brV_true, brV_false, brV_b, brV_not, one_one, nil_p, nil_pn, nil_n, nil_nn, decide_eq_true_eq, true_and, nb_ite, bs_size, Nat.zero_add, Bool.not_true, Bool.not_false, Bool.false_eq_true, eq_self, if_true, if_false, jn]
      rw [hz (2 * (r.txs[i].pages.length : Int)) (by omega) (by omega), hz (10 + 2 * (r.txs[i].pages.length : Int)) (by omega) (by omega), hz (N + patSum r.patches + txSum (r.txs.take i) + (10 + 2 * (r.txs[i].pages.length : Int))) (by omega) (by omega), hz ((i : Int) + 1) (by omega) (by omega)]
      refine ih m _ _ (by simp) ⟨?_, by omega, hL6.tr hL8⟩
      rw [hmi, hst]
      congr 4
      omega
    obtain ⟨m, rfl⟩ : ∃ q, m = q + 1 := ⟨m - 1, by omega⟩
    rw [if_pos (by omega)]
    have hlt : r.patches.length - (m + 1) < r.patches.length := by omega
    have hmi : r.patches.length - m = r.patches.length - (m + 1) + 1 := by omega
    generalize hi : r.patches.length - (m + 1) = i at *
    have hv5 := hv4.later hL5
    have hst := patSum_take hlt
    have hsl := patSum_le (l := r.patches) (i + 1)
    have hpl : r.patches.length ≤ 40 := hok.2.2.2.2.2.2.2.1
    refine pat_at hv5.q hlt fun b o c0 c1 c2 => ?_
    refine ldN3 c0 c1 c2 ?_
    refine al_lit fun g7 w7 hL7 hg7 hg7s => ?_
    refine stN_heap hg7 rfl rfl (by intro z hz; simp at hz; rcases hz with rfl | rfl | rfl <;> rfl) fun w8 h8 hs8 hb8 ho8 => ?_
    have hL8 : Later w5 w8 := Below.trans hL7 (hb8 _ (Nat.le_of_eq hg7s.symm))
    simp only [iw_add, iw_sub, iw_mul, iw_lss, iw_leq, iw_gtr, iw_geq, iw_eql, iw_neq, iw_quo, iw_rem, un_not, len_s, len_l, nck_p, fld_p, cv_i, unc_c, ex_0, ex_1, ex_2, st_eq, st_ne, brV_true, brV_false, brV_b, brV_not, one_one, nil_p, nil_pn, nil_n, nil_nn, decide_eq_true_eq, true_and, nb_ite, bs_size, Nat.zero_add, Bool.not_true, Bool.not_false, Bool.false_eq_true, eq_self, if_true, if_false, jn]
    refine ldC_heap h8 (v := .string (bs r.patches[i].byt)) rfl ?_
    simp only [iw_add, iw_sub, iw_mul, iw_lss, iw_leq, iw_gtr, iw_geq, iw_eql, iw_neq, iw_quo, iw_rem, un_not, len_s, len_l, nck_p, fld_p, cv_i, unc_c, ex_0, ex_1, ex_2, st_eq, st_ne, brV_true, brV_false, brV_b, brV_not, one_one, nil_p, nil_pn, nil_n, nil_nn, decide_eq_true_eq, true_and, nb_ite, bs_size, Nat.zero_add, Bool.not_true, Bool.not_false, Bool.false_eq_true, eq_self, if_true, if_false, jn]
    rw [hz (6 + (r.patches[i].byt.length : Int)) (by omega) (by omega), hz (N + patSum (r.patches.take i) + (6 + (r.patches[i].byt.length : Int))) (by omega) (by omega), hz ((i : Int) + 1) (by omega) (by omega)]
    refine ih m _ _ (by simp) ⟨?_, by omega, hL5.tr hL8⟩
    rw [hmi, hst]
    congr 4
    omega
  · simp only [hok, iw_add, iw_sub, iw_mul, iw_lss, iw_leq, iw_gtr, iw_geq, iw_eql, iw_neq, iw_quo, iw_rem, un_not, len_s, len_l, nck_p, fld_p, cv_i, unc_c, ex_0, ex_1, ex_2, st_eq, st_ne, brV_true, brV_false, brV_b, brV_not, one_one, nil_p, nil_pn, nil_n, nil_nn, decide_eq_true_eq, true_and, nb_ite, bs_size, Nat.zero_add, Bool.not_true, Bool.not_false, Bool.false_eq_true, eq_self, if_true, if_false, jn, decide_false]
    refine ldN_heap hg4 rfl ?_
    refine Right_from hT4 hv4 fun w5 hL5 => ?_
    rw [decide_eq_false hok]
    exact hk w5 (hL04.tr hL5)
end Go.Proofs.YtlicdhdpngahgaaDoor
