/- Chapter 12: bytes that are read are those of what they are read as; bytes that lack some, or have more, are none. -/
import Derived.Test.YtlicdhdpngahgaaDoorAlive
import Derived.Test.YtlicdhdpngahgaaDoorLight
import Derived.Test.YtlicdhdpngahgaaDoorRound
set_option linter.unusedVariables false
set_option linter.unusedSimpArgs false
namespace Go.Proofs.YtlicdhdpngahgaaDoor
open Go.Eng Go.RowKit
theorem put_le {r : Rec} (h : r.ok) : (putB r).length ≤ 20000 ∧ 0 < (putB r).length := by
  have hh := head_len h
  obtain ⟨hk, ht, hp, hn, hkey, hold, hpg, hpl, htl, hdl, hpat, htx, hd⟩ := h
  have h1 := nums_len r.pages
  have h2 := flat_len (f := patB) (l := r.patches) (n := 262) fun p hp => pat_len (hpat p hp)
  have h3 := flat_len (f := txB) (l := r.txs) (n := 138) fun p hp => tx_len (htx p hp)
  have h4 := flat_len (f := dirtB) (l := r.dirty) (n := 6) fun p hp => dirt_len p
  have h5 := hpg.1
  have h6 : (putB r).length = (headB r).length + (numsB r.pages).length + (2 + (r.patches.flatMap patB).length) + (2 + (r.txs.flatMap txB).length) + (2 + (r.dirty.flatMap dirtB).length) := by
    simp only [putB, List.length_append, n2_len]
  omega
theorem index_in (a : Int) {n : Nat} (h0 : 0 < n) (hn : n ≤ 1000000000) : ∃ m : Nat, m < n ∧ Int.tmod (IntKind.i64.wrap (Int.tmod a n + n)) n = (m : Int) := by
  have h1 : -(n : Int) < Int.tmod a n ∧ Int.tmod a n < n := by
    have ha : (Int.tmod a n).natAbs < n := by
      have := Int.natAbs_tmod a n
      rw [this, Int.natAbs_natCast]
      exact Nat.mod_lt _ h0
    omega
  rw [Eng.wrap64 (by omega) (by omega)]
  have h2 : 0 ≤ Int.tmod a n + n := by omega
  rw [Int.tmod_eq_emod_of_nonneg h2]
  have h3 := Int.emod_nonneg (Int.tmod a n + n) (b := (n : Int)) (by omega)
  have h4 := Int.emod_lt_of_pos (Int.tmod a n + n) (b := (n : Int)) (by omega)
  exact ⟨((Int.tmod a n + n) % n).toNat, by omega, by omega⟩
theorem Bytes_J10 {W w : World} {g : Nat} {r : Rec} {vp vq vt vd : Value} {ps : List Value} {T : TypeId} {a : Int} {more : List UInt8} {k : Value → World → Prop} (hT : Tab w) (hv : RecV w vp vq vt vd ps r) (hg : w.heap[g]? = some (.cells (rcells r vp vq vt vd) T (0, 0)))
    (hm : more.length ≤ 40) (hL : Later W w) (hk : ∀ w', Later W w' → k (.bool true) w') : honeycomblaw12_RecordBytes_J10 k [.int .i64 a, .string (bs more), .pointer (some ⟨g, 0, none⟩)] w := by
  simp only [honeycomblaw12_RecordBytes_J10, iw_add, iw_sub, iw_mul, iw_lss, iw_leq, iw_gtr, iw_geq, iw_eql, iw_neq, iw_quo, iw_rem, un_not, len_s, len_l, nck_p, fld_p, cv_i, unc_c, ex_0, ex_1, ex_2, st_eq, st_ne, brV_true, brV_false, brV_b, brV_not, one_one, nil_p, nil_pn, nil_n, nil_nn, decide_eq_true_eq, true_and, nb_ite, bs_size, Nat.zero_add, Bool.not_true, Bool.not_false, Bool.false_eq_true, eq_self, if_true, if_false, jn]
  refine ldN_heap hg rfl ?_
  refine Put_from hT hv fun w1 hL1 => ?_
  have hT1 := hT.later hL1
  simp only [iw_add, iw_sub, iw_mul, iw_lss, iw_leq, iw_gtr, iw_geq, iw_eql, iw_neq, iw_quo, iw_rem, un_not, len_s, len_l, nck_p, fld_p, cv_i, unc_c, ex_0, ex_1, ex_2, st_eq, st_ne, brV_true, brV_false, brV_b, brV_not, one_one, nil_p, nil_pn, nil_n, nil_nn, decide_eq_true_eq, true_and, nb_ite, bs_size, Nat.zero_add, Bool.not_true, Bool.not_false, Bool.false_eq_true, eq_self, if_true, if_false, jn]
  by_cases hok : r.ok
  · have hle := put_le hok
    have hcut := @round_cut r hok
    have hmore := round_more hok more
    simp only [hok, iw_add, iw_sub, iw_mul, iw_lss, iw_leq, iw_gtr, iw_geq, iw_eql, iw_neq, iw_quo, iw_rem, un_not, len_s, len_l, nck_p, fld_p, cv_i, unc_c, ex_0, ex_1, ex_2, st_eq, st_ne, brV_true, brV_false, brV_b, brV_not, one_one, nil_p, nil_pn, nil_n, nil_nn, decide_eq_true_eq, true_and, nb_ite, bs_size, Nat.zero_add, Bool.not_true, Bool.not_false, Bool.false_eq_true, eq_self, if_true, if_false, jn, decide_true]
    generalize putB r = s at *
    rw [if_neg (by omega)]
    obtain ⟨m, hm1, hm2⟩ := index_in a hle.2 (by omega)
    rw [hm2]
    refine ⟨by omega, by omega, ?_⟩
    simp only [slStr, natO, Int.toNat_natCast, bs_size, bs_extract, List.drop_zero]
    refine ⟨by omega, by omega, by omega, ?_⟩
    refine Get_from hT1 (by rw [List.length_take]; omega) (fun h => absurd h (hcut hm1)) fun _ w2 hL2 => ?_
    simp only [iw_add, iw_sub, iw_mul, iw_lss, iw_leq, iw_gtr, iw_geq, iw_eql, iw_neq, iw_quo, iw_rem, un_not, len_s, len_l, nck_p, fld_p, cv_i, unc_c, ex_0, ex_1, ex_2, st_eq, st_ne, brV_true, brV_false, brV_b, brV_not, one_one, nil_p, nil_pn, nil_n, nil_nn, decide_eq_true_eq, true_and, nb_ite, bs_size, Nat.zero_add, Bool.not_true, Bool.not_false, Bool.false_eq_true, eq_self, if_true, if_false, jn]
    refine lay_rec (rec0_v _) rfl fun g2 w3 hL3 hg3 _ => ?_
    refine str_add (by omega) ?_
    have hL' := ((hL.tr hL1).tr hL2).tr hL3
    refine Get_from ((hT1.later hL2).later hL3) (by rw [List.length_append]; omega) (fun h up uq ut ud pb w5 hL5 ho5 => ?_) (fun h w5 hL5 => ?_)
    · have e := hmore.1 h
      simp only [iw_add, iw_sub, iw_mul, iw_lss, iw_leq, iw_gtr, iw_geq, iw_eql, iw_neq, iw_quo, iw_rem, un_not, len_s, len_l, nck_p, fld_p, cv_i, unc_c, ex_0, ex_1, ex_2, st_eq, st_ne, brV_true, brV_false, brV_b, brV_not, one_one, nil_p, nil_pn, nil_n, nil_nn, decide_eq_true_eq, true_and, nb_ite, bs_size, Nat.zero_add, Bool.not_true, Bool.not_false, Bool.false_eq_true, eq_self, if_true, if_false, jn]
      refine lay_rec ho5.v rfl fun g6 w6 hL6 hg6 _ => ?_
      have := hk w6 ((hL'.tr hL5).tr hL6)
      simp only [show (⟨#[]⟩ : ByteArray) = bs [] from rfl, iw_add, iw_sub, iw_mul, iw_lss, iw_leq, iw_gtr, iw_geq, iw_eql, iw_neq, iw_quo, iw_rem, un_not, len_s, len_l, nck_p, fld_p, cv_i, unc_c, ex_0, ex_1, ex_2, st_eq, st_ne, brV_true, brV_false, brV_b, brV_not, one_one, nil_p, nil_pn, nil_n, nil_nn, decide_eq_true_eq, true_and, nb_ite, bs_size, Nat.zero_add, Bool.not_true, Bool.not_false, Bool.false_eq_true, eq_self, if_true, if_false, jn, nil6_eq]
      simpa [e] using this
    · have e : more ≠ [] := fun e => h (hmore.2 e)
      simp only [iw_add, iw_sub, iw_mul, iw_lss, iw_leq, iw_gtr, iw_geq, iw_eql, iw_neq, iw_quo, iw_rem, un_not, len_s, len_l, nck_p, fld_p, cv_i, unc_c, ex_0, ex_1, ex_2, st_eq, st_ne, brV_true, brV_false, brV_b, brV_not, one_one, nil_p, nil_pn, nil_n, nil_nn, decide_eq_true_eq, true_and, nb_ite, bs_size, Nat.zero_add, Bool.not_true, Bool.not_false, Bool.false_eq_true, eq_self, if_true, if_false, jn]
      refine lay_rec (rec0_v _) rfl fun g6 w6 hL6 hg6 _ => ?_
      have := hk w6 ((hL'.tr hL5).tr hL6)
      simp only [show (⟨#[]⟩ : ByteArray) = bs [] from rfl, iw_add, iw_sub, iw_mul, iw_lss, iw_leq, iw_gtr, iw_geq, iw_eql, iw_neq, iw_quo, iw_rem, un_not, len_s, len_l, nck_p, fld_p, cv_i, unc_c, ex_0, ex_1, ex_2, st_eq, st_ne, brV_true, brV_false, brV_b, brV_not, one_one, nil_p, nil_pn, nil_n, nil_nn, decide_eq_true_eq, true_and, nb_ite, bs_size, Nat.zero_add, Bool.not_true, Bool.not_false, Bool.false_eq_true, eq_self, if_true, if_false, jn, nil6_eq]
      simpa [e] using this
  · have := hk w1 (hL.tr hL1)
    simp only [hok, show (⟨#[]⟩ : ByteArray) = bs [] from rfl, iw_add, iw_sub, iw_mul, iw_lss, iw_leq, iw_gtr, iw_geq, iw_eql, iw_neq, iw_quo, iw_rem, un_not, len_s, len_l, nck_p, fld_p, cv_i, unc_c, ex_0, ex_1, ex_2, st_eq, st_ne, brV_true, brV_false, brV_b, brV_not, one_one, nil_p, nil_pn, nil_n, nil_nn, decide_eq_true_eq, true_and, nb_ite, bs_size, Nat.zero_add, Bool.not_true, Bool.not_false, Bool.false_eq_true, eq_self, if_true, if_false, jn, decide_false]
    simpa using this
theorem RecordBytes_spec {b more : List UInt8} {a : Int} {r : Rec} {vp vq vt vd : Value} {ps : List Value} {w : World} {k : Value → World → Prop} (hT : Tab w) (hv : RecV w vp vq vt vd ps r) (hn : r.lens) (hk : ∀ w', Later w w' → k (.bool true) w') :
    Calls Tryd.prog 3 #[.string (bs b), .agg (rcells r vp vq vt vd), .int .i64 a, .string (bs more)] w (rt k) := by
  apply honeycomblaw12_RecordBytes_run
  unfold honeycomblaw12_RecordBytes
  simp only [Value.cells]
  refine al_lit fun g w1 hL1 hg hgs => ?_
  have hT1 := hT.later hL1
  have hv1 := hv.later hL1
  have two : ∀ w2, Later w w2 → honeycomblaw12_RecordBytes_J2 k [] w2 := fun w2 h2 => by
    simp only [honeycomblaw12_RecordBytes_J2]
    exact alive12_from (hT.later h2) fun w3 h3 => hk w3 (h2.tr h3)
  simp only [iw_add, iw_sub, iw_mul, iw_lss, iw_leq, iw_gtr, iw_geq, iw_eql, iw_neq, iw_quo, iw_rem, un_not, len_s, len_l, nck_p, fld_p, cv_i, unc_c, ex_0, ex_1, ex_2, st_eq, st_ne, brV_true, brV_false, brV_b, brV_not, one_one, nil_p, nil_pn, nil_n, nil_nn, decide_eq_true_eq, true_and, nb_ite, bs_size, Nat.zero_add, Bool.not_true, Bool.not_false, Bool.false_eq_true, eq_self, if_true, if_false, jn]
  by_cases hb : (b.length : Int) > 600
  · rw [if_pos hb]; exact two _ hL1
  rw [if_neg hb]
  refine ldN_heap hg rfl ?_
  refine Light_from hv1 hn fun c w2 hL2 _ => ?_
  have hL02 := hL1.tr hL2
  cases c
  · simp only [iw_add, iw_sub, iw_mul, iw_lss, iw_leq, iw_gtr, iw_geq, iw_eql, iw_neq, iw_quo, iw_rem, un_not, len_s, len_l, nck_p, fld_p, cv_i, unc_c, ex_0, ex_1, ex_2, st_eq, st_ne, brV_true, brV_false, brV_b, brV_not, one_one, nil_p, nil_pn, nil_n, nil_nn, decide_eq_true_eq, true_and, nb_ite, bs_size, Nat.zero_add, Bool.not_true, Bool.not_false, Bool.false_eq_true, eq_self, if_true, if_false, jn]; exact two _ hL02
  simp only [iw_add, iw_sub, iw_mul, iw_lss, iw_leq, iw_gtr, iw_geq, iw_eql, iw_neq, iw_quo, iw_rem, un_not, len_s, len_l, nck_p, fld_p, cv_i, unc_c, ex_0, ex_1, ex_2, st_eq, st_ne, brV_true, brV_false, brV_b, brV_not, one_one, nil_p, nil_pn, nil_n, nil_nn, decide_eq_true_eq, true_and, nb_ite, bs_size, Nat.zero_add, Bool.not_true, Bool.not_false, Bool.false_eq_true, eq_self, if_true, if_false, jn]
  by_cases hm : (more.length : Int) > 40
  · rw [if_pos hm]; exact two _ hL02
  rw [if_neg hm]
  refine alive12_from (hT1.later hL2) fun w3 hL3 => ?_
  have hL03 := hL02.tr hL3
  have hL13 := hL2.tr hL3
  have hT3 := hT.later hL03
  simp only [iw_add, iw_sub, iw_mul, iw_lss, iw_leq, iw_gtr, iw_geq, iw_eql, iw_neq, iw_quo, iw_rem, un_not, len_s, len_l, nck_p, fld_p, cv_i, unc_c, ex_0, ex_1, ex_2, st_eq, st_ne, brV_true, brV_false, brV_b, brV_not, one_one, nil_p, nil_pn, nil_n, nil_nn, decide_eq_true_eq, true_and, nb_ite, bs_size, Nat.zero_add, Bool.not_true, Bool.not_false, Bool.false_eq_true, eq_self, if_true, if_false, jn]
  refine Get_from hT3 (by omega) (fun h up uq ut ud pb w5 hL5 ho5 => ?_) (fun h w5 hL5 => ?_)
  · have h5 := ho5.v
    have hpo := h.2.1
    have hpp := h.2.2
    clear ho5 h
    generalize parse b = x at *
    simp only [iw_add, iw_sub, iw_mul, iw_lss, iw_leq, iw_gtr, iw_geq, iw_eql, iw_neq, iw_quo, iw_rem, un_not, len_s, len_l, nck_p, fld_p, cv_i, unc_c, ex_0, ex_1, ex_2, st_eq, st_ne, brV_true, brV_false, brV_b, brV_not, one_one, nil_p, nil_pn, nil_n, nil_nn, decide_eq_true_eq, true_and, nb_ite, bs_size, Nat.zero_add, Bool.not_true, Bool.not_false, Bool.false_eq_true, eq_self, if_true, if_false, jn]
    refine lay_rec h5 rfl fun g6 w6 hL6 hg6 _ => ?_
    refine ldN_heap hg6 rfl ?_
    have hL06 := (hL03.tr hL5).tr hL6
    refine Put_from (hT.later hL06) (h5.later hL6) fun w7 hL7 => ?_
    rw [if_pos hpo, decide_eq_true hpo, hpp]
    simp only [iw_add, iw_sub, iw_mul, iw_lss, iw_leq, iw_gtr, iw_geq, iw_eql, iw_neq, iw_quo, iw_rem, un_not, len_s, len_l, nck_p, fld_p, cv_i, unc_c, ex_0, ex_1, ex_2, st_eq, st_ne, brV_true, brV_false, brV_b, brV_not, one_one, nil_p, nil_pn, nil_n, nil_nn, decide_eq_true_eq, true_and, nb_ite, bs_size, Nat.zero_add, Bool.not_true, Bool.not_false, Bool.false_eq_true, eq_self, if_true, if_false, jn]
    refine Bytes_J10 (hT.later (hL06.tr hL7)) (hv.later (hL06.tr hL7)) ((((hL13.tr hL5).tr hL6).tr hL7).heap hg) (by omega) (hL06.tr hL7) hk
  · simp only [iw_add, iw_sub, iw_mul, iw_lss, iw_leq, iw_gtr, iw_geq, iw_eql, iw_neq, iw_quo, iw_rem, un_not, len_s, len_l, nck_p, fld_p, cv_i, unc_c, ex_0, ex_1, ex_2, st_eq, st_ne, brV_true, brV_false, brV_b, brV_not, one_one, nil_p, nil_pn, nil_n, nil_nn, decide_eq_true_eq, true_and, nb_ite, bs_size, Nat.zero_add, Bool.not_true, Bool.not_false, Bool.false_eq_true, eq_self, if_true, if_false, jn]
    refine lay_rec (rec0_v _) rfl fun g6 w6 hL6 hg6 _ => ?_
    refine ldN_heap hg6 rfl ?_
    refine zero_rec ?_
    have hL06 := (hL03.tr hL5).tr hL6
    refine SameRecord_from (rec0_v _) (rec0_v _) (by refine ⟨?_, ?_, ?_, ?_, ?_⟩ <;> simp [rec0]) fun w7 hL7 => ?_
    simp only [iw_add, iw_sub, iw_mul, iw_lss, iw_leq, iw_gtr, iw_geq, iw_eql, iw_neq, iw_quo, iw_rem, un_not, len_s, len_l, nck_p, fld_p, cv_i, unc_c, ex_0, ex_1, ex_2, st_eq, st_ne, brV_true, brV_false, brV_b, brV_not, one_one, nil_p, nil_pn, nil_n, nil_nn, decide_eq_true_eq, true_and, nb_ite, bs_size, Nat.zero_add, Bool.not_true, Bool.not_false, Bool.false_eq_true, eq_self, if_true, if_false, jn, decide_true]
    refine Bytes_J10 (hT.later (hL06.tr hL7)) (hv.later (hL06.tr hL7)) ((((hL13.tr hL5).tr hL6).tr hL7).heap hg) (by omega) (hL06.tr hL7) hk
end Go.Proofs.YtlicdhdpngahgaaDoor
