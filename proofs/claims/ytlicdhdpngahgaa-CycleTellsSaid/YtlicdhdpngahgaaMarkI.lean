/- The book marks its lists of whole numbers, and makes them grow. -/
import Derived.Test.YtlicdhdpngahgaaStillI
set_option linter.unusedVariables false
set_option linter.unusedSimpArgs false
namespace Go.Proofs.Ytlicdhdpngahgaa
open Go.Eng Go.RowKit
theorem put_inner {B gb i S : Nat} {R : List Row} {r : Row} {cs : Array Value} {lv mv : Value} {w : World} {k : Value → World → Prop} {r1 : List Value → World → Prop} (h : TM B gb R cs lv w) (hr : R[i]? = some r) (hi : i ≤ 1000) (hn : r.2.length ≤ 1000000000)
    (hmv : w.ownsRow S 3 1 mv r.2.length (ix (mkI i 0 r.2.length))) (hS : ∀ q, r.1.ownBlock = some q → q < S)
    (hk : ∀ w', Below B w w' → TM B gb (R.set i (r.1, mkI i 0 r.2.length)) cs lv w' → r1 [.pointer (some ⟨gb, 0, none⟩), .int .i64 ((i : Int) + 1)] w') :
    lp (honeycombbook_Book_putInts_L5 k r1) [.pointer (some ⟨gb, 0, none⟩), .int .i64 (i : Int), mv, .int .i64 0] w := by
  obtain ⟨v, xs⟩ := r
  simp only [] at hmv hS hk hn
  have hlt : i < R.length := (List.getElem?_eq_some_iff.1 hr).1
  refine lp_ind _ (fun (m : Nat) r w1 => r = [.pointer (some ⟨gb, 0, none⟩), .int .i64 (i : Int), mv, .int .i64 ((xs.length - m : Nat) : Int)] ∧ m ≤ xs.length ∧ w1.ownsRow S 3 1 mv xs.length (ix (mkI i 0 xs.length)) ∧ Below B w w1 ∧
      TM B gb (R.set i (v, (mkI i 0 xs.length).take (xs.length - m) ++ xs.drop (xs.length - m))) cs lv w1) id ?_ (i := xs.length) ⟨by simp, Nat.le_refl _, hmv, Below.refl _ _, ?_⟩
  rotate_left
  · have : R.set i (v, (mkI i 0 xs.length).take (xs.length - xs.length) ++ xs.drop (xs.length - xs.length)) = R := by
      rw [Nat.sub_self, List.take_zero, List.nil_append, List.drop_zero]
      apply List.ext_getElem?
      intro j
      by_cases hj : i = j
      · subst hj; rw [List.getElem?_set_self hlt, hr]
      · rw [List.getElem?_set_ne hj]
    rw [this]; exact h
  rintro m r w1 rec ⟨rfl, hm, hmv1, hb, h1⟩ ih
  simp only [honeycombbook_Book_putInts_L5, iw_add, iw_sub, iw_mul, iw_lss, iw_leq, iw_gtr, iw_geq, iw_eql, iw_neq, iw_quo, iw_rem, un_not, len_s, len_l, nck_p, fld_p, cv_i, unc_c, ex_0, ex_1, ex_2, st_eq, st_ne, brV_true, brV_false, brV_b, brV_not, one_one, nil_p, nil_pn, nil_n, nil_nn, decide_eq_true_eq, true_and, nb_ite, bs_size, Nat.zero_add, Bool.not_true, Bool.not_false, Bool.false_eq_true, eq_self, if_true, if_false, jn]
  refine (lst_row hmv1).len ?_
  simp only [iw_add, iw_sub, iw_mul, iw_lss, iw_leq, iw_gtr, iw_geq, iw_eql, iw_neq, iw_quo, iw_rem, un_not, len_s, len_l, nck_p, fld_p, cv_i, unc_c, ex_0, ex_1, ex_2, st_eq, st_ne, brV_true, brV_false, brV_b, brV_not, one_one, nil_p, nil_pn, nil_n, nil_nn, decide_eq_true_eq, true_and, nb_ite, bs_size, Nat.zero_add, Bool.not_true, Bool.not_false, Bool.false_eq_true, eq_self, if_true, if_false, jn]
  by_cases h0 : m = 0
  · subst h0
    rw [if_neg (by omega), wrap64 (by omega) (by omega)]
    have e : (mkI i 0 xs.length).take (xs.length - 0) ++ xs.drop (xs.length - 0) = mkI i 0 xs.length := by
      rw [Nat.sub_zero, List.drop_length, List.append_nil, List.take_of_length_le (by rw [mkI_length]; exact Nat.le_refl _)]
    rw [e] at h1
    exact hk w1 hb h1
  obtain ⟨m, rfl⟩ : ∃ q, m = q + 1 := ⟨m - 1, by omega⟩
  rw [if_pos (by omega)]
  have hklt : xs.length - (m + 1) < xs.length := by omega
  have hmi : xs.length - m = xs.length - (m + 1) + 1 := by omega
  generalize hj : xs.length - (m + 1) = j at *
  have hml : (mkI i 0 xs.length).length = xs.length := mkI_length _ _ _
  refine (lst_row ((Later.dr w1).row hmv1)).at1 (u := .int .i64 (mi i j)) (by simp [ix, mkI, hklt]) hklt fun a1 ha1 _ => ?_
  refine ldC_heap (w := w1.drew) h1.at_ h1.c2 ?_
  have h1d := h1.later (Later.dr w1)
  have hset : (R.set i (v, (mkI i 0 xs.length).take j ++ xs.drop j))[i]? = some (v, (mkI i 0 xs.length).take j ++ xs.drop j) := List.getElem?_set_self hlt
  refine (lst_row h1d.lrow).at1 (u := v) (by rw [List.getElem?_map, hset]; rfl) (by simpa using hlt) fun a2 ha2 _ => ⟨_, ha2, ?_⟩
  refine ⟨_, ha1, ?_⟩
  obtain ⟨hrow, hg1, hg2⟩ := h1d.rows i _ hset
  simp only [] at hrow hg1 hg2
  have hlen : ((mkI i 0 xs.length).take j ++ xs.drop j).length = xs.length := by rw [List.length_append, List.length_take, List.length_drop, hml]; omega
  refine row_st hrow (by rw [hlen]; exact hklt) rfl fun w2 hrow2 ho => ?_
  obtain ⟨q, hq, hBq, ho⟩ := ho
  rw [wrap64 (by omega) (by omega)]
  have hset2 : ((mkI i 0 xs.length).take j ++ xs.drop j).set j (mi i j) = (mkI i 0 xs.length).take (j + 1) ++ xs.drop (j + 1) := by
    have ht : ((mkI i 0 xs.length).take j).length = j := by rw [List.length_take, hml]; omega
    rw [List.set_append_right _ _ (by omega), ht, Nat.sub_self, List.drop_eq_getElem_cons hklt, List.set_cons_zero, List.take_add_one, mkI_get hklt]
    simp
  rw [ix_set, hset2] at hrow2
  have hlen2 : ((mkI i 0 xs.length).take (j + 1) ++ xs.drop (j + 1)).length = xs.length := by rw [List.length_append, List.length_take, List.length_drop, hml]; omega
  have ht := h1d.turn (xs := (mkI i 0 xs.length).take (j + 1) ++ xs.drop (j + 1)) hset (by rw [hlen, hlen2]) (by rw [hlen] at hrow2; rw [hlen2]; exact hrow2) (fun q' _ hne => ho.other q' fun e => hne (by rw [e]; exact hq))
  rw [List.set_set] at ht
  refine ih m _ _ (by simp) ⟨by rw [hmi]; rfl, by omega, ?_, (hb.trans (Below.drew (Below.refl B w1))).trans (ho.below B hBq), by rw [hmi]; exact ht⟩
  refine ownsRow_block ((Later.dr w1).row hmv1) fun q' hq' => ho.other q' fun e => ?_
  have := (hmv1.lt q' hq').1
  have := hS q hq
  omega
theorem putInts_from {B gb : Nat} {R : List Row} {cs : Array Value} {lv : Value} {w : World} {k : Value → World → Prop} (h : TM B gb R cs lv w) (hB : B ≤ w.heap.size) (hn : R.length ≤ 250) (hx : ∀ r ∈ R, r.2.length ≤ 1000000000)
    (hk : ∀ R' w', Below B w w' → TM B gb R' cs lv w' → R'.length = R.length → (∀ (j : Nat) (r : Row), R[j]? = some r → R'[j]? = some (r.1, mkI j 0 r.2.length)) → k (.tuple #[]) w') :
    callW Try.prog (.func (.func 35) #[] #[]) [.pointer (some ⟨gb, 0, none⟩)] w k := by
  apply honeycombbook_Book_putInts_call
  apply honeycombbook_Book_putInts_run
  simp only [honeycombbook_Book_putInts]
  refine lp_ind _ (fun (m : Nat) r w1 => ∃ R' : List Row, r = [.pointer (some ⟨gb, 0, none⟩), .int .i64 ((R.length - m : Nat) : Int)] ∧ m ≤ R.length ∧ Below B w w1 ∧ TM B gb R' cs lv w1 ∧ R'.length = R.length ∧
      (∀ (j : Nat) (r : Row), R[j]? = some r → R'[j]? = some (if j < R.length - m then (r.1, mkI j 0 r.2.length) else r))) id ?_ (i := R.length) ⟨R, by simp, Nat.le_refl _, Below.refl _ _, h, rfl, fun j r hr => by simpa using hr⟩
  rintro m r w1 rec ⟨R', rfl, hm, hb, h1, hl1, hr1⟩ ih
  simp only [honeycombbook_Book_putInts_L1, iw_add, iw_sub, iw_mul, iw_lss, iw_leq, iw_gtr, iw_geq, iw_eql, iw_neq, iw_quo, iw_rem, un_not, len_s, len_l, nck_p, fld_p, cv_i, unc_c, ex_0, ex_1, ex_2, st_eq, st_ne, brV_true, brV_false, brV_b, brV_not, one_one, nil_p, nil_pn, nil_n, nil_nn, decide_eq_true_eq, true_and, nb_ite, bs_size, Nat.zero_add, Bool.not_true, Bool.not_false, Bool.false_eq_true, eq_self, if_true, if_false, jn]
  refine ldC_heap h1.at_ h1.c2 ?_
  refine (lst_row h1.lrow).len ?_
  simp only [iw_add, iw_sub, iw_mul, iw_lss, iw_leq, iw_gtr, iw_geq, iw_eql, iw_neq, iw_quo, iw_rem, un_not, len_s, len_l, nck_p, fld_p, cv_i, unc_c, ex_0, ex_1, ex_2, st_eq, st_ne, brV_true, brV_false, brV_b, brV_not, one_one, nil_p, nil_pn, nil_n, nil_nn, decide_eq_true_eq, true_and, nb_ite, bs_size, Nat.zero_add, Bool.not_true, Bool.not_false, Bool.false_eq_true, eq_self, if_true, if_false, jn]
  by_cases h0 : m = 0
  · subst h0
    rw [if_neg (by omega)]
    refine hk R' w1 hb h1 hl1 fun j r hr => ?_
    have := hr1 j r hr
    rwa [if_pos (by simpa using (List.getElem?_eq_some_iff.1 hr).1)] at this
  obtain ⟨m, rfl⟩ : ∃ q, m = q + 1 := ⟨m - 1, by omega⟩
  rw [if_pos (by omega)]
  have hlt : R.length - (m + 1) < R.length := by omega
  have hmi : R.length - m = R.length - (m + 1) + 1 := by omega
  generalize hi : R.length - (m + 1) = i at *
  have hr : R[i]? = some R[i] := List.getElem?_eq_getElem hlt
  have hmem := hx _ (List.getElem_mem hlt)
  have hr' := hr1 i _ hr
  rw [if_neg (by omega)] at hr'
  generalize R[i] = r at *
  refine ldC_heap h1.at_ h1.c2 ?_
  refine (lst_row h1.lrow).at1 (u := r.1) (by rw [List.getElem?_map, hr']; rfl) (by omega) fun a1 ha1 _ => ⟨_, ha1, ?_⟩
  obtain ⟨hrow, hg1, hg2⟩ := h1.rows i r hr'
  refine (lst_row hrow).len ?_
  refine markInts_from (f := 0) (by omega) (by omega) fun mv w2 hL2 hmv => ?_
  have hs1 := hb.size
  refine put_inner (S := w1.heap.size) (h1.later hL2) hr' (by omega) hmem hmv (fun q hq => (hrow.lt q hq).2) fun w3 hb3 h3 => ?_
  refine ih m _ _ (by simp) ⟨R'.set i (r.1, mkI i 0 r.2.length), by rw [hmi]; rfl, by omega, (hb.trans (hL2.mono (by omega))).trans hb3, h3, by simpa using hl1, fun j s hs => ?_⟩
  by_cases hj : i = j
  · subst hj
    rw [hr] at hs
    injection hs with hs
    subst hs
    rw [List.getElem?_set_self (by omega), if_pos (by omega)]
  · rw [List.getElem?_set_ne hj, hr1 j s hs]
    by_cases h2 : j < i
    · rw [if_pos h2, if_pos (by omega)]
    · rw [if_neg h2, if_neg (by omega)]
end Go.Proofs.Ytlicdhdpngahgaa
