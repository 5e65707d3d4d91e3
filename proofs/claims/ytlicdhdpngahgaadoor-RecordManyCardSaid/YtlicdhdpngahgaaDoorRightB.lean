/- Whether a record may be: record.Right, whole. -/
import Derived.Test.YtlicdhdpngahgaaDoorRight
set_option linter.unusedVariables false
set_option linter.unusedSimpArgs false
namespace Go.Proofs.YtlicdhdpngahgaaDoor
open Go.Eng Go.RowKit
/-- The part of the test ahead of the loops. -/
def okA (r : Rec) : Prop := (1 ≤ r.kind ∧ r.kind ≤ 7) ∧ in2 r.tx ∧ in4 r.prev ∧ in4 r.next ∧ r.key.length ≤ 255 ∧ ((r.okey = [] ∧ r.oval = [] ∧ r.blob = 0 ∧ r.size = 0) ∨ cellOk r.okey r.oval r.blob r.size) ∧ pagesOk r.pages ∧
  r.patches.length ≤ 40 ∧ r.txs.length ≤ 8 ∧ r.dirty.length ≤ 64
theorem ok_iff (r : Rec) : r.ok ↔ okA r ∧ (∀ p ∈ r.patches, patOk p) ∧ (∀ t ∈ r.txs, txOk t) ∧ ∀ d ∈ r.dirty, dirtOk d := by
  unfold Rec.ok okA
  constructor
  · rintro ⟨a, b, c, d, e, f, g, h, i, j, k⟩; exact ⟨⟨a, b, c, d, e, f, g, h, i, j⟩, k⟩
  · rintro ⟨⟨a, b, c, d, e, f, g, h, i, j⟩, k⟩; exact ⟨a, b, c, d, e, f, g, h, i, j, k⟩
theorem Right_L12 {r : Rec} {vp vq vt vd : Value} {ps : List Value} {g : Nat} {w W : World} {k : Value → World → Prop} (hA : okA r) (hP : ∀ p ∈ r.patches, patOk p) (hL : Later w W) (hT : Tab W) (hv : RecV W vp vq vt vd ps r) (hg : W.heap[g]? = some (.cells (rcells r vp vq vt vd) 29 (0, 0)))
    (hk : ∀ w', Later w w' → k (.bool (decide r.ok)) w') : lp (record_Right_L12 k) [.pointer (some ⟨g, 0, none⟩), vt, .int .i64 r.txs.length, .int .i64 0] W := by
  have htl := hA.2.2.2.2.2.2.2.2.1
  refine lp_ind _ (fun (m : Nat) l w1 => l = [.pointer (some ⟨g, 0, none⟩), vt, .int .i64 r.txs.length, .int .i64 ((r.txs.length - m : Nat) : Int)] ∧ m ≤ r.txs.length ∧ (∀ t ∈ r.txs.take (r.txs.length - m), txOk t) ∧ Later W w1) id ?_ (i := r.txs.length) ⟨by simp, Nat.le_refl _, by simp, Later.refl W⟩
  rintro m l w1 rec ⟨rfl, hm, hok, hL1⟩ ih
  have hno : ¬ r.ok → ∀ w', Later w w' → k (.bool false) w' := fun h w' hL' => by
    have := hk w' hL'
    rwa [decide_eq_false h] at this
  simp only [record_Right_L12, iw_add, iw_sub, iw_mul, iw_lss, iw_leq, iw_gtr, iw_geq, iw_eql, iw_neq, iw_quo, iw_rem, un_not, len_s, len_l, nck_p, fld_p, cv_i, unc_c, ex_0, ex_1, ex_2, st_eq, st_ne, brV_true, brV_false, brV_b, brV_not, one_one, nil_p, nil_pn, nil_n, nil_nn, decide_eq_true_eq, true_and, nb_ite, bs_size, Nat.zero_add, Bool.not_true, Bool.not_false, Bool.false_eq_true, eq_self, if_true, if_false, jn]
  by_cases h0 : m = 0
  · subst h0
    rw [if_neg (by omega)]
    rw [Nat.sub_zero, List.take_length] at hok
    refine ldC_heap (hL1.heap hg) (v := vd) rfl ?_
    refine anyDirt_from (p := fun d => !decide (dirtOk d)) (hL1.lst hv.d) (by have := hA.2.2.2.2.2.2.2.2.2; omega) (fun x w2 k' hL2 hk' => ?_) fun w2 hL2 => ?_
    · apply record_Right_1_call
      apply record_Right_1_run
      simp only [record_Right_1, Value.cells]
      refine al_lit fun g2 w3 hL3 hg2 hgs => ?_
      simp only [iw_add, iw_sub, iw_mul, iw_lss, iw_leq, iw_gtr, iw_geq, iw_eql, iw_neq, iw_quo, iw_rem, un_not, len_s, len_l, nck_p, fld_p, cv_i, unc_c, ex_0, ex_1, ex_2, st_eq, st_ne, brV_true, brV_false, brV_b, brV_not, one_one, nil_p, nil_pn, nil_n, nil_nn, decide_eq_true_eq, true_and, nb_ite, bs_size, Nat.zero_add, Bool.not_true, Bool.not_false, Bool.false_eq_true, eq_self, if_true, if_false, jn]
      refine ldC_heap hg2 (v := .int .i64 x.1) rfl (in_from ?_)
      simp only [iw_add, iw_sub, iw_mul, iw_lss, iw_leq, iw_gtr, iw_geq, iw_eql, iw_neq, iw_quo, iw_rem, un_not, len_s, len_l, nck_p, fld_p, cv_i, unc_c, ex_0, ex_1, ex_2, st_eq, st_ne, brV_true, brV_false, brV_b, brV_not, one_one, nil_p, nil_pn, nil_n, nil_nn, decide_eq_true_eq, true_and, nb_ite, bs_size, Nat.zero_add, Bool.not_true, Bool.not_false, Bool.false_eq_true, eq_self, if_true, if_false, jn]
      have hk' := hk' w3 hL3
      by_cases h1 : 0 ≤ x.1 ∧ x.1 ≤ 65535
      rotate_left
      · rw [if_neg (by simpa using h1)]
        have : (!decide (dirtOk x)) = true := by
          rw [decide_eq_false (show ¬ dirtOk x from fun h => h1 h.1)]; rfl
        rwa [this] at hk'
      rw [if_pos (by simpa using h1)]
      refine ldC_heap hg2 (v := .int .i64 x.2) rfl (in_from ?_)
      simp only [iw_add, iw_sub, iw_mul, iw_lss, iw_leq, iw_gtr, iw_geq, iw_eql, iw_neq, iw_quo, iw_rem, un_not, len_s, len_l, nck_p, fld_p, cv_i, unc_c, ex_0, ex_1, ex_2, st_eq, st_ne, brV_true, brV_false, brV_b, brV_not, one_one, nil_p, nil_pn, nil_n, nil_nn, decide_eq_true_eq, true_and, nb_ite, bs_size, Nat.zero_add, Bool.not_true, Bool.not_false, Bool.false_eq_true, eq_self, if_true, if_false, jn]
      have : decide (0 ≤ x.2 ∧ x.2 ≤ 4294967295) = decide (dirtOk x) := by
        congr 1
        exact propext ⟨fun h => ⟨h1, h⟩, fun h => h.2⟩
      rw [this]
      exact hk'
    · simp only [iw_add, iw_sub, iw_mul, iw_lss, iw_leq, iw_gtr, iw_geq, iw_eql, iw_neq, iw_quo, iw_rem, un_not, len_s, len_l, nck_p, fld_p, cv_i, unc_c, ex_0, ex_1, ex_2, st_eq, st_ne, brV_true, brV_false, brV_b, brV_not, one_one, nil_p, nil_pn, nil_n, nil_nn, decide_eq_true_eq, true_and, nb_ite, bs_size, Nat.zero_add, Bool.not_true, Bool.not_false, Bool.false_eq_true, eq_self, if_true, if_false, jn]
      have : (!(r.dirty.any fun d => !decide (dirtOk d))) = decide r.ok := by
        rw [Bool.eq_iff_iff, decide_eq_true_eq, ok_iff]
        simp only [Bool.not_eq_true', List.any_eq_false, decide_eq_true_eq, Bool.not_eq_eq_eq_not, Bool.not_true, decide_eq_false_iff_not, Classical.not_not]
        exact ⟨fun h => ⟨hA, hP, hok, h⟩, fun h => h.2.2.2⟩
      rw [this]
      exact hk w2 ((hL.tr hL1).tr hL2)
  obtain ⟨m, rfl⟩ : ∃ q, m = q + 1 := ⟨m - 1, by omega⟩
  rw [if_pos (by omega)]
  have hlt : r.txs.length - (m + 1) < r.txs.length := by omega
  have hmi : r.txs.length - m = r.txs.length - (m + 1) + 1 := by omega
  generalize hi : r.txs.length - (m + 1) = i at *
  obtain ⟨pv, hpv, hpl⟩ := hv.s i _ (List.getElem?_eq_getElem hlt)
  have hmem := List.getElem_mem hlt
  refine tx_at (hL1.lst hv.t) hv.n hlt fun b o h1 h2 h3 h4 => ldN4 h1 h2 h3 (h4 pv hpv) ?_
  refine al_lit fun g2 w2 hL2 hg2 hgs => ?_
  refine stN_heap hg2 rfl rfl (by simp [isCell]; exact (Lst.cell hpl).1) fun w3 hg3 hs3 hb3 ho3 => ?_
  have hL3 : Later w1 w3 := hL2.trans (hb3 _ (by omega))
  have hLw3 : Later w w3 := (hL.tr hL1).tr hL3
  simp only [iw_add, iw_sub, iw_mul, iw_lss, iw_leq, iw_gtr, iw_geq, iw_eql, iw_neq, iw_quo, iw_rem, un_not, len_s, len_l, nck_p, fld_p, cv_i, unc_c, ex_0, ex_1, ex_2, st_eq, st_ne, brV_true, brV_false, brV_b, brV_not, one_one, nil_p, nil_pn, nil_n, nil_nn, decide_eq_true_eq, true_and, nb_ite, bs_size, Nat.zero_add, Bool.not_true, Bool.not_false, Bool.false_eq_true, eq_self, if_true, if_false, jn, jn, record_Right_J15]
  refine ldC_heap hg3 (v := .int .i64 r.txs[i].tx) rfl (in_from ?_)
  simp only [iw_add, iw_sub, iw_mul, iw_lss, iw_leq, iw_gtr, iw_geq, iw_eql, iw_neq, iw_quo, iw_rem, un_not, len_s, len_l, nck_p, fld_p, cv_i, unc_c, ex_0, ex_1, ex_2, st_eq, st_ne, brV_true, brV_false, brV_b, brV_not, one_one, nil_p, nil_pn, nil_n, nil_nn, decide_eq_true_eq, true_and, nb_ite, bs_size, Nat.zero_add, Bool.not_true, Bool.not_false, Bool.false_eq_true, eq_self, if_true, if_false, jn]
  by_cases h5 : 0 ≤ r.txs[i].tx ∧ r.txs[i].tx ≤ 65535
  rotate_left
  · rw [if_neg (by simpa using h5)]
    exact hno (fun h => h5 (((ok_iff r).1 h).2.2.1 _ hmem).1) w3 hLw3
  rw [if_pos (by simpa using h5)]
  refine ldC_heap hg3 (v := .int .i64 r.txs[i].last) rfl (in_from ?_)
  simp only [iw_add, iw_sub, iw_mul, iw_lss, iw_leq, iw_gtr, iw_geq, iw_eql, iw_neq, iw_quo, iw_rem, un_not, len_s, len_l, nck_p, fld_p, cv_i, unc_c, ex_0, ex_1, ex_2, st_eq, st_ne, brV_true, brV_false, brV_b, brV_not, one_one, nil_p, nil_pn, nil_n, nil_nn, decide_eq_true_eq, true_and, nb_ite, bs_size, Nat.zero_add, Bool.not_true, Bool.not_false, Bool.false_eq_true, eq_self, if_true, if_false, jn]
  by_cases h6 : 0 ≤ r.txs[i].last ∧ r.txs[i].last ≤ 4294967295
  rotate_left
  · rw [if_neg (by simpa using h6)]
    exact hno (fun h => h6 (((ok_iff r).1 h).2.2.1 _ hmem).2.1) w3 hLw3
  rw [if_pos (by simpa using h6)]
  refine ldC_heap hg3 (v := pv) rfl (pages_from ((hL1.tr hL3).lst hpl) ?_)
  simp only [iw_add, iw_sub, iw_mul, iw_lss, iw_leq, iw_gtr, iw_geq, iw_eql, iw_neq, iw_quo, iw_rem, un_not, len_s, len_l, nck_p, fld_p, cv_i, unc_c, ex_0, ex_1, ex_2, st_eq, st_ne, brV_true, brV_false, brV_b, brV_not, one_one, nil_p, nil_pn, nil_n, nil_nn, decide_eq_true_eq, true_and, nb_ite, bs_size, Nat.zero_add, Bool.not_true, Bool.not_false, Bool.false_eq_true, eq_self, if_true, if_false, jn]
  by_cases h7 : pagesOk r.txs[i].pages
  rotate_left
  · rw [if_neg (by simpa using h7)]
    exact hno (fun h => h7 (((ok_iff r).1 h).2.2.1 _ hmem).2.2) w3 hLw3
  rw [if_pos (by simpa using h7), wrap64 (by omega) (by omega)]
  refine ih m _ _ (by simp) ⟨by rw [hmi]; rfl, by omega, ?_, hL1.tr hL3⟩
  rw [hmi, List.take_add_one, List.getElem?_eq_getElem hlt]
  intro t ht
  rcases List.mem_append.1 ht with ht | ht
  · exact hok t ht
  · simp at ht; subst ht; exact ⟨h5, h6, h7⟩
theorem Right_J5 {r : Rec} {vp vq vt vd : Value} {ps : List Value} {g : Nat} {w W : World} {k : Value → World → Prop} (hA : okA r) (hL : Later w W) (hT : Tab W) (hv : RecV W vp vq vt vd ps r) (hg : W.heap[g]? = some (.cells (rcells r vp vq vt vd) 29 (0, 0)))
    (hk : ∀ w', Later w w' → k (.bool (decide r.ok)) w') : record_Right_J5 k [.pointer (some ⟨g, 0, none⟩)] W := by
  have hno : ¬ r.ok → ∀ w', Later w w' → k (.bool false) w' := fun h w' hL' => by
    have := hk w' hL'
    rwa [decide_eq_false h] at this
  simp only [record_Right_J5, iw_add, iw_sub, iw_mul, iw_lss, iw_leq, iw_gtr, iw_geq, iw_eql, iw_neq, iw_quo, iw_rem, un_not, len_s, len_l, nck_p, fld_p, cv_i, unc_c, ex_0, ex_1, ex_2, st_eq, st_ne, brV_true, brV_false, brV_b, brV_not, one_one, nil_p, nil_pn, nil_n, nil_nn, decide_eq_true_eq, true_and, nb_ite, bs_size, Nat.zero_add, Bool.not_true, Bool.not_false, Bool.false_eq_true, eq_self, if_true, if_false, jn]
  refine ldC_heap hg (v := vq) rfl ?_
  refine hv.q.len ?_
  have hql := hA.2.2.2.2.2.2.2.1
  refine lp_ind _ (fun (m : Nat) l w1 => l = [.pointer (some ⟨g, 0, none⟩), vq, .int .i64 r.patches.length, .int .i64 ((r.patches.length - m : Nat) : Int)] ∧ m ≤ r.patches.length ∧ (∀ p ∈ r.patches.take (r.patches.length - m), patOk p) ∧ Later W w1) id ?_ (i := r.patches.length) ⟨by simp, Nat.le_refl _, by simp, Later.refl W⟩
  rintro m l w1 rec ⟨rfl, hm, hok, hL1⟩ ih
  simp only [record_Right_L6, iw_add, iw_sub, iw_mul, iw_lss, iw_leq, iw_gtr, iw_geq, iw_eql, iw_neq, iw_quo, iw_rem, un_not, len_s, len_l, nck_p, fld_p, cv_i, unc_c, ex_0, ex_1, ex_2, st_eq, st_ne, brV_true, brV_false, brV_b, brV_not, one_one, nil_p, nil_pn, nil_n, nil_nn, decide_eq_true_eq, true_and, nb_ite, bs_size, Nat.zero_add, Bool.not_true, Bool.not_false, Bool.false_eq_true, eq_self, if_true, if_false, jn]
  by_cases h0 : m = 0
  · subst h0
    rw [if_neg (by omega)]
    rw [Nat.sub_zero, List.take_length] at hok
    refine ldC_heap (hL1.heap hg) (v := vt) rfl ?_
    refine (hL1.lst hv.t).len ?_
    exact Right_L12 hA hok (hL.tr hL1) (hT.later hL1) (hv.later hL1) (hL1.heap hg) hk
  obtain ⟨m, rfl⟩ : ∃ q, m = q + 1 := ⟨m - 1, by omega⟩
  rw [if_pos (by omega)]
  have hlt : r.patches.length - (m + 1) < r.patches.length := by omega
  have hmi : r.patches.length - m = r.patches.length - (m + 1) + 1 := by omega
  generalize hi : r.patches.length - (m + 1) = i at *
  have hmem := List.getElem_mem hlt
  refine pat_at (hL1.lst hv.q) hlt fun b o h1 h2 h3 => ldN3 h1 h2 h3 ?_
  refine al_lit fun g2 w2 hL2 hg2 hgs => ?_
  refine stN_heap hg2 rfl rfl (by simp [isCell]) fun w3 hg3 hs3 hb3 ho3 => ?_
  have hL3 : Later w1 w3 := hL2.trans (hb3 _ (by omega))
  refine ldN_heap hg3 rfl (patR_from fun w4 hL4 => ?_)
  have hL14 := hL3.tr hL4
  simp only [iw_add, iw_sub, iw_mul, iw_lss, iw_leq, iw_gtr, iw_geq, iw_eql, iw_neq, iw_quo, iw_rem, un_not, len_s, len_l, nck_p, fld_p, cv_i, unc_c, ex_0, ex_1, ex_2, st_eq, st_ne, brV_true, brV_false, brV_b, brV_not, one_one, nil_p, nil_pn, nil_n, nil_nn, decide_eq_true_eq, true_and, nb_ite, bs_size, Nat.zero_add, Bool.not_true, Bool.not_false, Bool.false_eq_true, eq_self, if_true, if_false, jn]
  by_cases hp : patOk r.patches[i]
  rotate_left
  · rw [if_neg (by simpa using hp)]
    exact hno (fun h => hp (((ok_iff r).1 h).2.1 _ hmem)) w4 ((hL.tr hL1).tr hL14)
  rw [if_pos (by simpa using hp), wrap64 (by omega) (by omega)]
  refine ih m _ _ (by simp) ⟨by rw [hmi]; rfl, by omega, ?_, hL1.tr hL14⟩
  rw [hmi, List.take_add_one, List.getElem?_eq_getElem hlt]
  intro t ht
  rcases List.mem_append.1 ht with ht | ht
  · exact hok t ht
  · simp at ht; subst ht; exact hp
theorem rcells_cell {r : Rec} {vp vq vt vd : Value} {ps : List Value} {w : World} (hv : RecV w vp vq vt vd ps r) : ∀ u ∈ (rcells r vp vq vt vd).toList, isCell u = true := by
  intro u hu
  simp only [rcells, List.mem_cons, List.not_mem_nil, or_false] at hu
  rcases hu with rfl | rfl | rfl | rfl | rfl | rfl | rfl | rfl | rfl | rfl | rfl | rfl | rfl | rfl
  all_goals first | rfl | exact (Lst.cell hv.p).1 | exact (Lst.cell hv.q).1 | exact (Lst.cell hv.t).1 | exact (Lst.cell hv.d).1
theorem Right_from {r : Rec} {vp vq vt vd : Value} {ps : List Value} {w : World} {k : Value → World → Prop} (hT : Tab w) (hv : RecV w vp vq vt vd ps r)
    (hk : ∀ w', Later w w' → k (.bool (decide r.ok)) w') : callW Tryd.prog (.func (.func 20) #[] #[]) [.agg (rcells r vp vq vt vd)] w k := by
  apply record_Right_call
  apply record_Right_run
  simp only [record_Right, Value.cells]
  refine al_lit fun g W hL hg hgs => ?_
  have hno : ¬ r.ok → ∀ w', Later w w' → k (.bool false) w' := fun h w' hL' => by
    have := hk w' hL'
    rwa [decide_eq_false h] at this
  simp only [iw_add, iw_sub, iw_mul, iw_lss, iw_leq, iw_gtr, iw_geq, iw_eql, iw_neq, iw_quo, iw_rem, un_not, len_s, len_l, nck_p, fld_p, cv_i, unc_c, ex_0, ex_1, ex_2, st_eq, st_ne, brV_true, brV_false, brV_b, brV_not, one_one, nil_p, nil_pn, nil_n, nil_nn, decide_eq_true_eq, true_and, nb_ite, bs_size, Nat.zero_add, Bool.not_true, Bool.not_false, Bool.false_eq_true, eq_self, if_true, if_false, jn, jn, record_Right_J2, record_Right_J4]
  refine ldC_heap hg (v := .int .i64 r.kind) rfl ?_
  refine Name_from (hT.later hL) fun w1 hL1 => ?_
  have hL1' := hL.tr hL1
  have hg1 := hL1.heap hg
  simp only [show (⟨#[]⟩ : ByteArray) = bs [] from rfl, iw_add, iw_sub, iw_mul, iw_lss, iw_leq, iw_gtr, iw_geq, iw_eql, iw_neq, iw_quo, iw_rem, un_not, len_s, len_l, nck_p, fld_p, cv_i, unc_c, ex_0, ex_1, ex_2, st_eq, st_ne, brV_true, brV_false, brV_b, brV_not, one_one, nil_p, nil_pn, nil_n, nil_nn, decide_eq_true_eq, true_and, nb_ite, bs_size, Nat.zero_add, Bool.not_true, Bool.not_false, Bool.false_eq_true, eq_self, if_true, if_false, jn]
  by_cases h1 : nameOf r.kind = []
  · rw [if_pos h1]
    exact hno (fun h => (name_nil r.kind).1 h1 ((ok_iff r).1 h).1.1) w1 hL1'
  rw [if_neg h1]
  have hkd : 1 ≤ r.kind ∧ r.kind ≤ 7 := Classical.not_not.1 fun h => h1 ((name_nil r.kind).2 h)
  refine ldC_heap hg1 (v := .int .i64 r.tx) rfl (in_from ?_)
  simp only [iw_add, iw_sub, iw_mul, iw_lss, iw_leq, iw_gtr, iw_geq, iw_eql, iw_neq, iw_quo, iw_rem, un_not, len_s, len_l, nck_p, fld_p, cv_i, unc_c, ex_0, ex_1, ex_2, st_eq, st_ne, brV_true, brV_false, brV_b, brV_not, one_one, nil_p, nil_pn, nil_n, nil_nn, decide_eq_true_eq, true_and, nb_ite, bs_size, Nat.zero_add, Bool.not_true, Bool.not_false, Bool.false_eq_true, eq_self, if_true, if_false, jn]
  by_cases h2 : 0 ≤ r.tx ∧ r.tx ≤ 65535
  rotate_left
  · rw [if_neg (by simpa using h2)]
    exact hno (fun h => h2 ((ok_iff r).1 h).1.2.1) w1 hL1'
  rw [if_pos (by simpa using h2)]
  refine ldC_heap hg1 (v := .int .i64 r.prev) rfl (in_from ?_)
  simp only [iw_add, iw_sub, iw_mul, iw_lss, iw_leq, iw_gtr, iw_geq, iw_eql, iw_neq, iw_quo, iw_rem, un_not, len_s, len_l, nck_p, fld_p, cv_i, unc_c, ex_0, ex_1, ex_2, st_eq, st_ne, brV_true, brV_false, brV_b, brV_not, one_one, nil_p, nil_pn, nil_n, nil_nn, decide_eq_true_eq, true_and, nb_ite, bs_size, Nat.zero_add, Bool.not_true, Bool.not_false, Bool.false_eq_true, eq_self, if_true, if_false, jn]
  by_cases h3 : 0 ≤ r.prev ∧ r.prev ≤ 4294967295
  rotate_left
  · rw [if_neg (by simpa using h3)]
    exact hno (fun h => h3 ((ok_iff r).1 h).1.2.2.1) w1 hL1'
  rw [if_pos (by simpa using h3)]
  refine ldC_heap hg1 (v := .int .i64 r.next) rfl (in_from ?_)
  simp only [iw_add, iw_sub, iw_mul, iw_lss, iw_leq, iw_gtr, iw_geq, iw_eql, iw_neq, iw_quo, iw_rem, un_not, len_s, len_l, nck_p, fld_p, cv_i, unc_c, ex_0, ex_1, ex_2, st_eq, st_ne, brV_true, brV_false, brV_b, brV_not, one_one, nil_p, nil_pn, nil_n, nil_nn, decide_eq_true_eq, true_and, nb_ite, bs_size, Nat.zero_add, Bool.not_true, Bool.not_false, Bool.false_eq_true, eq_self, if_true, if_false, jn]
  by_cases h4 : 0 ≤ r.next ∧ r.next ≤ 4294967295
  rotate_left
  · rw [if_neg (by simpa using h4)]
    exact hno (fun h => h4 ((ok_iff r).1 h).1.2.2.2.1) w1 hL1'
  rw [if_pos (by simpa using h4)]
  refine ldC_heap hg1 (v := .string (bs r.key)) rfl ?_
  simp only [iw_add, iw_sub, iw_mul, iw_lss, iw_leq, iw_gtr, iw_geq, iw_eql, iw_neq, iw_quo, iw_rem, un_not, len_s, len_l, nck_p, fld_p, cv_i, unc_c, ex_0, ex_1, ex_2, st_eq, st_ne, brV_true, brV_false, brV_b, brV_not, one_one, nil_p, nil_pn, nil_n, nil_nn, decide_eq_true_eq, true_and, nb_ite, bs_size, Nat.zero_add, Bool.not_true, Bool.not_false, Bool.false_eq_true, eq_self, if_true, if_false, jn]
  by_cases h5 : (r.key.length : Int) > 255
  · rw [if_pos h5]
    exact hno (fun h => by have := ((ok_iff r).1 h).1.2.2.2.2.1; omega) w1 hL1'
  rw [if_neg h5]
  have hcell : ∀ (w2 : World), w2.heap[g]? = some (.cells (rcells r vp vq vt vd) 29 (0, 0)) → ∀ (k' : Value → Cells → Prop), (∀ c, k' (.agg (ccells r.okey r.oval r.blob r.size)) c) → ldN 4 (.pointer (some ⟨g, 6, none⟩)) w2 k' := fun w2 h2 k' hk' =>
    ldN4 (by rw [heap_cell h2]; rfl) (by rw [heap_cell h2]; rfl) (by rw [heap_cell h2]; rfl) (by rw [heap_cell h2]; rfl) (hk' _)
  refine hcell w1 hg1 _ fun _ => ?_
  -- behind the cell
  have tail : ∀ w2, Later w w2 → w2.heap[g]? = some (.cells (rcells r vp vq vt vd) 29 (0, 0)) → ((r.okey = [] ∧ r.oval = [] ∧ r.blob = 0 ∧ r.size = 0) ∨ cellOk r.okey r.oval r.blob r.size) →
      ldC (.pointer (some ⟨g, 0 + 10, none⟩)) w2 fun t47 _ => callW Tryd.prog (.func (.func 56) #[] #[]) [t47] w2 fun t48 w => unW .not t48 fun t49 => brV t49 (k (.bool false) w)
        (fld 11 (.pointer (some ⟨g, 0, none⟩)) fun t52 => ldC t52 w fun t53 _ => lenSl t53 fun t54 => intW .gtr t54 (.int .i64 40) fun t55 => brV t55 (k (.bool false) w)
          (fld 12 (.pointer (some ⟨g, 0, none⟩)) fun t58 => ldC t58 w fun t59 _ => lenSl t59 fun t60 => intW .gtr t60 (.int .i64 8) fun t61 => brV t61 (k (.bool false) w)
            (fld 13 (.pointer (some ⟨g, 0, none⟩)) fun t64 => ldC t64 w fun t65 _ => lenSl t65 fun t66 => intW .gtr t66 (.int .i64 64) fun t67 => brV t67 (k (.bool false) w) (record_Right_J5 k [.pointer (some ⟨g, 0, none⟩)] w)))) := fun w2 hLw2 hg2 hce => by
    have hv2 := hv.later hLw2
    refine ldC_heap hg2 (v := vp) rfl (pages_from hv2.p ?_)
    simp only [iw_add, iw_sub, iw_mul, iw_lss, iw_leq, iw_gtr, iw_geq, iw_eql, iw_neq, iw_quo, iw_rem, un_not, len_s, len_l, nck_p, fld_p, cv_i, unc_c, ex_0, ex_1, ex_2, st_eq, st_ne, brV_true, brV_false, brV_b, brV_not, one_one, nil_p, nil_pn, nil_n, nil_nn, decide_eq_true_eq, true_and, nb_ite, bs_size, Nat.zero_add, Bool.not_true, Bool.not_false, Bool.false_eq_true, eq_self, if_true, if_false, jn]
    by_cases h6 : pagesOk r.pages
    rotate_left
    · rw [if_neg (by simpa using h6)]
      exact hno (fun h => h6 ((ok_iff r).1 h).1.2.2.2.2.2.2.1) w2 hLw2
    rw [if_pos (by simpa using h6)]
    refine ldC_heap hg2 (v := vq) rfl (hv2.q.len ?_)
    simp only [iw_add, iw_sub, iw_mul, iw_lss, iw_leq, iw_gtr, iw_geq, iw_eql, iw_neq, iw_quo, iw_rem, un_not, len_s, len_l, nck_p, fld_p, cv_i, unc_c, ex_0, ex_1, ex_2, st_eq, st_ne, brV_true, brV_false, brV_b, brV_not, one_one, nil_p, nil_pn, nil_n, nil_nn, decide_eq_true_eq, true_and, nb_ite, bs_size, Nat.zero_add, Bool.not_true, Bool.not_false, Bool.false_eq_true, eq_self, if_true, if_false, jn]
    by_cases h7 : (r.patches.length : Int) > 40
    · rw [if_pos h7]
      exact hno (fun h => by have := ((ok_iff r).1 h).1.2.2.2.2.2.2.2.1; omega) w2 hLw2
    rw [if_neg h7]
    refine ldC_heap hg2 (v := vt) rfl (hv2.t.len ?_)
    simp only [iw_add, iw_sub, iw_mul, iw_lss, iw_leq, iw_gtr, iw_geq, iw_eql, iw_neq, iw_quo, iw_rem, un_not, len_s, len_l, nck_p, fld_p, cv_i, unc_c, ex_0, ex_1, ex_2, st_eq, st_ne, brV_true, brV_false, brV_b, brV_not, one_one, nil_p, nil_pn, nil_n, nil_nn, decide_eq_true_eq, true_and, nb_ite, bs_size, Nat.zero_add, Bool.not_true, Bool.not_false, Bool.false_eq_true, eq_self, if_true, if_false, jn]
    by_cases h8 : (r.txs.length : Int) > 8
    · rw [if_pos h8]
      exact hno (fun h => by have := ((ok_iff r).1 h).1.2.2.2.2.2.2.2.2.1; omega) w2 hLw2
    rw [if_neg h8]
    refine ldC_heap hg2 (v := vd) rfl (hv2.d.len ?_)
    simp only [iw_add, iw_sub, iw_mul, iw_lss, iw_leq, iw_gtr, iw_geq, iw_eql, iw_neq, iw_quo, iw_rem, un_not, len_s, len_l, nck_p, fld_p, cv_i, unc_c, ex_0, ex_1, ex_2, st_eq, st_ne, brV_true, brV_false, brV_b, brV_not, one_one, nil_p, nil_pn, nil_n, nil_nn, decide_eq_true_eq, true_and, nb_ite, bs_size, Nat.zero_add, Bool.not_true, Bool.not_false, Bool.false_eq_true, eq_self, if_true, if_false, jn]
    by_cases h9 : (r.dirty.length : Int) > 64
    · rw [if_pos h9]
      exact hno (fun h => by have := ((ok_iff r).1 h).1.2.2.2.2.2.2.2.2.2; omega) w2 hLw2
    rw [if_neg h9]
    exact Right_J5 ⟨hkd, h2, h3, h4, by omega, hce, h6, by omega, by omega, by omega⟩ hLw2 (hT.later hLw2) hv2 hg2 hk
  simp only [fillL, Instr.fill]
  refine cell_ne (k2 := []) (v2 := []) (b2 := 0) (s2 := 0) ?_
  simp only [iw_add, iw_sub, iw_mul, iw_lss, iw_leq, iw_gtr, iw_geq, iw_eql, iw_neq, iw_quo, iw_rem, un_not, len_s, len_l, nck_p, fld_p, cv_i, unc_c, ex_0, ex_1, ex_2, st_eq, st_ne, brV_true, brV_false, brV_b, brV_not, one_one, nil_p, nil_pn, nil_n, nil_nn, decide_eq_true_eq, true_and, nb_ite, bs_size, Nat.zero_add, Bool.not_true, Bool.not_false, Bool.false_eq_true, eq_self, if_true, if_false, jn]
  by_cases hz : r.okey = [] ∧ r.oval = [] ∧ r.blob = 0 ∧ r.size = 0
  · rw [if_pos (by simpa using hz)]
    exact tail w1 hL1' hg1 (.inl hz)
  rw [if_neg (by simpa using hz)]
  refine hcell w1 hg1 _ fun _ => ?_
  refine cellR_from fun w2 hL2 => ?_
  simp only [iw_add, iw_sub, iw_mul, iw_lss, iw_leq, iw_gtr, iw_geq, iw_eql, iw_neq, iw_quo, iw_rem, un_not, len_s, len_l, nck_p, fld_p, cv_i, unc_c, ex_0, ex_1, ex_2, st_eq, st_ne, brV_true, brV_false, brV_b, brV_not, one_one, nil_p, nil_pn, nil_n, nil_nn, decide_eq_true_eq, true_and, nb_ite, bs_size, Nat.zero_add, Bool.not_true, Bool.not_false, Bool.false_eq_true, eq_self, if_true, if_false, jn]
  by_cases hc : cellOk r.okey r.oval r.blob r.size
  rotate_left
  · rw [if_neg (by simpa using hc)]
    refine hno (fun h => ?_) w2 (hL1'.tr hL2)
    rcases ((ok_iff r).1 h).1.2.2.2.2.2.1 with h | h
    · exact hz h
    · exact hc h
  rw [if_pos (by simpa using hc)]
  exact tail w2 (hL1'.tr hL2) (hL2.heap hg1) (.inr hc)
end Go.Proofs.YtlicdhdpngahgaaDoor
