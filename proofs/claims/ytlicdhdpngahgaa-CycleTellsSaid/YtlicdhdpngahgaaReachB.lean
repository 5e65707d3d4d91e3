/- cycle's reach: the walk. -/
import Derived.Test.YtlicdhdpngahgaaReach
set_option linter.unusedVariables false
set_option linter.unusedSimpArgs false
namespace Go.Proofs.Ytlicdhdpngahgaa
open Go.Eng Go.RowKit
def StepOk (f : Value) (at_ : Bool) (E : List Pr) (B : Nat) (w : World) : Prop :=
  ∀ (n : Int) (w1 : World) (k : Value → World → Prop), Below B w w1 → B ≤ w1.heap.size → (∀ v w', Later w1 w' → w'.ownsRow w1.heap.size 3 1 v (sd at_ E n).length (ix (sd at_ E n)) → k v w') → callW Try.prog f [.int .i64 n] w1 k
theorem step_ahead {E : List Pr} {ve : Value} {B : Nat} {w : World} (hn : E.length ≤ 1000) (hve : ∀ w1, Below B w w1 → Lst w1 ve E.length (px E)) :
    StepOk (.func (.func 16) #[.agg #[ve]] #[]) false E B w := by
  intro n w1 k hb hB hk
  refine ⟨by kernel_rfl, ?_⟩
  show Calls Try.prog 16 #[.agg #[ve], .int .i64 n] w1 (rt k)
  apply cycle_graph_ahead_run
  simp only [cycle_graph_ahead, Value.cells]
  refine al_lit fun g W hL hg hgs => ?_
  refine ldN_heap hg rfl ?_
  refine side_from (at_ := false) ((hL.lst (hve w1 hb))) hn fun v w' hL' hr => ?_
  exact hk v w' (hL.tr hL') (ownsRow_mono hL.size hr)
theorem step_behind {E : List Pr} {ve : Value} {B : Nat} {w : World} (hn : E.length ≤ 1000) (hve : ∀ w1, Below B w w1 → Lst w1 ve E.length (px E)) :
    StepOk (.func (.func 17) #[.agg #[ve]] #[]) true E B w := by
  intro n w1 k hb hB hk
  refine ⟨by kernel_rfl, ?_⟩
  show Calls Try.prog 17 #[.agg #[ve], .int .i64 n] w1 (rt k)
  apply cycle_graph_behind_run
  simp only [cycle_graph_behind, Value.cells]
  refine al_lit fun g W hL hg hgs => ?_
  refine ldN_heap hg rfl ?_
  refine side_from (at_ := true) ((hL.lst (hve w1 hb))) hn fun v w' hL' hr => ?_
  exact hk v w' (hL.tr hL') (ownsRow_mono hL.size hr)
theorem eq_concat {l : List Int} (h : l ≠ []) : ∃ t n, l = t ++ [n] := ⟨l.dropLast, l.getLast h, (List.dropLast_concat_getLast h).symm⟩
theorem ix_last {T : List Int} {n : Int} : (ix (T ++ [n]))[T.length]? = some (.int .i64 n) := by
  rw [ix_append, List.getElem?_append_right (by simp)]
  simp [ix]
theorem reach_from {f : Value} {at_ : Bool} {E : List Pr} {src : Int} {w : World} {k : Value → World → Prop} (hsrc : InR src) (hE : ∀ e ∈ E, InR e.1 ∧ InR e.2) (hn : E.length ≤ 1000) (hstep : StepOk f at_ E w.heap.size w)
    (hk : ∀ b S w', Later w w' → w.heap.size ≤ b → SetM w' b S → (∀ x, x ∈ S ↔ TG (sd at_ E) src x) → S.Nodup → S.length ≤ 1000 → k (.map (some b)) w') :
    callW Try.prog (.func (.func 15) #[] #[]) [.int .i64 src, f] w k := by
  apply cycle_reach_call
  apply cycle_reach_run
  simp only [cycle_reach]
  refine mkM_set fun w1 hL1 hset1 hs1 => ?_
  refine blS_lit (ix [src]).toArray (by simp [Instr.fill, Value.cells, ix]; apply Array.ext'; simp [List.range, List.range.loop]) rfl (by decide) fun v2 w2 hL2 hr2 hb2 => ?_
  have hLw2 : Later w w2 := hL1.tr hL2
  have hs2 := hL2.size
  refine lp_ind _ (fun (i : List Int × List Int) r w3 => ∃ v, r = [f, .map (some w.heap.size), v] ∧ DI (sd at_ E) src i.1 i.2 ∧ i.2.length ≤ i.1.length + 1 ∧ i.1.length ≤ E.length ∧ (∀ x ∈ i.1, InR x) ∧ SetM w3 w.heap.size i.1 ∧ AtRow w3 w.heap.size 3 v i.2.length (ix i.2) ∧ v.ownBlock ≠ some w.heap.size ∧ Later w w3)
    (fun i => 2 * (E.length - i.1.length) + i.2.length) ?_ (i := ([], [src])) ⟨v2, rfl, DI.start _ _, Nat.le_refl _, Nat.zero_le _, by simp, hset1.later hL2, AtRow.ofRow (ownsRow_mono hL1.size hr2) (by rw [hb2]; simp), by rw [hb2, hs1]; simp, hLw2⟩
  rintro ⟨S, T⟩ r w3 rec ⟨v, rfl, hD, hTS, hSl, hSR, hset, hrow, hvb, hL3⟩ ih
  simp only [] at hD hTS hSl hset hrow hSR ih
  simp only [cycle_reach_L3, iw_add, iw_sub, iw_mul, iw_lss, iw_leq, iw_gtr, iw_geq, iw_eql, iw_neq, iw_quo, iw_rem, un_not, len_s, len_l, nck_p, fld_p, cv_i, unc_c, ex_0, ex_1, ex_2, st_eq, st_ne, brV_true, brV_false, brV_b, brV_not, one_one, nil_p, nil_pn, nil_n, nil_nn, decide_eq_true_eq, true_and, nb_ite, bs_size, Nat.zero_add, Bool.not_true, Bool.not_false, Bool.false_eq_true, eq_self, if_true, if_false, jn]
  refine hrow.lst.len ?_
  simp only [iw_add, iw_sub, iw_mul, iw_lss, iw_leq, iw_gtr, iw_geq, iw_eql, iw_neq, iw_quo, iw_rem, un_not, len_s, len_l, nck_p, fld_p, cv_i, unc_c, ex_0, ex_1, ex_2, st_eq, st_ne, brV_true, brV_false, brV_b, brV_not, one_one, nil_p, nil_pn, nil_n, nil_nn, decide_eq_true_eq, true_and, nb_ite, bs_size, Nat.zero_add, Bool.not_true, Bool.not_false, Bool.false_eq_true, eq_self, if_true, if_false, jn]
  by_cases hT : T = []
  · subst hT
    rw [if_neg (by simp)]
    exact hk _ S w3 hL3 (Nat.le_refl _) hset hD.done hD.nd (by omega)
  obtain ⟨T, n, rfl⟩ := eq_concat hT
  have hpos : (((T ++ [n]).length : Nat) : Int) > 0 := by simp
  rw [if_pos hpos]
  have hj := hD.pop
  have hlen : (T ++ [n]).length = T.length + 1 := by simp
  rw [hlen] at hTS hrow
  refine hrow.lst.len ?_
  simp only [iw_add, iw_sub, iw_mul, iw_lss, iw_leq, iw_gtr, iw_geq, iw_eql, iw_neq, iw_quo, iw_rem, un_not, len_s, len_l, nck_p, fld_p, cv_i, unc_c, ex_0, ex_1, ex_2, st_eq, st_ne, brV_true, brV_false, brV_b, brV_not, one_one, nil_p, nil_pn, nil_n, nil_nn, decide_eq_true_eq, true_and, nb_ite, bs_size, Nat.zero_add, Bool.not_true, Bool.not_false, Bool.false_eq_true, eq_self, if_true, if_false, jn]
  have e1 : IntKind.i64.wrap (((T.length + 1 : Nat) : Int) - 1) = ((T.length : Nat) : Int) := by rw [wrap64 (by omega) (by omega)]; omega
  rw [e1]
  refine hrow.lst.at1 ix_last (by omega) fun a ha _ => ⟨_, ha, ?_⟩
  refine hrow.lst.len ?_
  simp only [iw_add, iw_sub, iw_mul, iw_lss, iw_leq, iw_gtr, iw_geq, iw_eql, iw_neq, iw_quo, iw_rem, un_not, len_s, len_l, nck_p, fld_p, cv_i, unc_c, ex_0, ex_1, ex_2, st_eq, st_ne, brV_true, brV_false, brV_b, brV_not, one_one, nil_p, nil_pn, nil_n, nil_nn, decide_eq_true_eq, true_and, nb_ite, bs_size, Nat.zero_add, Bool.not_true, Bool.not_false, Bool.false_eq_true, eq_self, if_true, if_false, jn]
  rw [e1]
  refine AtRow.init (x := .int .i64 n) (xs := ix T) (by rw [ix_append] at hrow; exact hrow) fun v3 hrow3 hv3 => ?_
  have hs3 := hL3.size
  refine hstep n w3 _ hL3 hs3 fun vn w4 hL4 hn4 => ?_
  have hs4 := hL4.size
  have hvq : ∀ q, v3.ownBlock = some q → q < w3.heap.size := fun q hq => (hrow3.lt q hq).2
  refine (lst_row hn4).len ?_
  have hnl := sd_len at_ E n
  have hv3b : v3.ownBlock ≠ some w.heap.size := by rw [hv3]; exact hvb
  -- the inner loop
  refine lp_ind _ (fun (m : Nat) r w5 => ∃ (v : Value) (S1 T1 : List Int), r = [f, .map (some w.heap.size), v, vn, .int .i64 (sd at_ E n).length, .int .i64 (((sd at_ E n).length - m : Nat) : Int)] ∧ m ≤ (sd at_ E n).length ∧ DJ (sd at_ E) src n ((sd at_ E n).length - m) S1 T1 ∧ (∀ x ∈ S1, InR x) ∧
      T1.length + S.length = T.length + S1.length ∧ S.length ≤ S1.length ∧ SetM w5 w.heap.size S1 ∧ AtRow w5 w.heap.size 3 v T1.length (ix T1) ∧ v.ownBlock ≠ some w.heap.size ∧ (∀ q, v.ownBlock = some q → q < w3.heap.size ∨ w4.heap.size ≤ q) ∧ Below w.heap.size w w5 ∧ w4.heap.size ≤ w5.heap.size ∧ w5.ownsRow w3.heap.size 3 1 vn (sd at_ E n).length (ix (sd at_ E n))) id ?_
    (i := (sd at_ E n).length) ⟨v3, S, T, by simp, Nat.le_refl _, by rw [Nat.sub_self]; exact hj, hSR, rfl, Nat.le_refl _, hset.later hL4, hrow3.block (fun q hq => hL4.block q (hvq q hq)), hv3b, fun q hq => .inl (hvq q hq), hL3.tr hL4, Nat.le_refl _, hn4⟩
  rintro m r w5 rec5 ⟨v5, S1, T1, rfl, hm, hD1, hS1R, hcnt, hSS, hset5, hrow5, hv5, hv5q, hL5, hs5, hn5⟩ ih5
  have hfew := hD1.few
  simp only [cycle_reach_L7, iw_add, iw_sub, iw_mul, iw_lss, iw_leq, iw_gtr, iw_geq, iw_eql, iw_neq, iw_quo, iw_rem, un_not, len_s, len_l, nck_p, fld_p, cv_i, unc_c, ex_0, ex_1, ex_2, st_eq, st_ne, brV_true, brV_false, brV_b, brV_not, one_one, nil_p, nil_pn, nil_n, nil_nn, decide_eq_true_eq, true_and, nb_ite, bs_size, Nat.zero_add, Bool.not_true, Bool.not_false, Bool.false_eq_true, eq_self, if_true, if_false, jn]
  by_cases h0 : m = 0
  · subst h0
    rw [if_neg (by omega)]
    rw [Nat.sub_zero] at hD1
    refine ih (S1, T1) _ _ ?_ ⟨v5, rfl, hD1.close, by show T1.length ≤ S1.length + 1; omega, hfew, hS1R, hset5, hrow5, hv5, hL5⟩
    simp only [List.length_append, List.length_cons, List.length_nil]
    omega
  obtain ⟨m, rfl⟩ : ∃ q, m = q + 1 := ⟨m - 1, by omega⟩
  rw [if_pos (by omega)]
  have hlt : (sd at_ E n).length - (m + 1) < (sd at_ E n).length := by omega
  have hmi : (sd at_ E n).length - m = (sd at_ E n).length - (m + 1) + 1 := by omega
  generalize hi : (sd at_ E n).length - (m + 1) = i at *
  have hxi : (sd at_ E n)[i]? = some (sd at_ E n)[i] := List.getElem?_eq_getElem hlt
  have hxR : InR (sd at_ E n)[i] := sd_inR hE (List.getElem_mem hlt)
  refine (lst_row hn5).at1 (ix_get hlt) hlt fun a ha _ => ⟨_, ha, ?_⟩
  generalize (sd at_ E n)[i] = x at *
  refine hset5.look hxR ?_
  simp only [iw_add, iw_sub, iw_mul, iw_lss, iw_leq, iw_gtr, iw_geq, iw_eql, iw_neq, iw_quo, iw_rem, un_not, len_s, len_l, nck_p, fld_p, cv_i, unc_c, ex_0, ex_1, ex_2, st_eq, st_ne, brV_true, brV_false, brV_b, brV_not, one_one, nil_p, nil_pn, nil_n, nil_nn, decide_eq_true_eq, true_and, nb_ite, bs_size, Nat.zero_add, Bool.not_true, Bool.not_false, Bool.false_eq_true, eq_self, if_true, if_false, jn]
  by_cases hmem : x ∈ S1
  · rw [if_pos hmem]
    simp only [cycle_reach_J12, iw_add, iw_sub, iw_mul, iw_lss, iw_leq, iw_gtr, iw_geq, iw_eql, iw_neq, iw_quo, iw_rem, un_not, len_s, len_l, nck_p, fld_p, cv_i, unc_c, ex_0, ex_1, ex_2, st_eq, st_ne, brV_true, brV_false, brV_b, brV_not, one_one, nil_p, nil_pn, nil_n, nil_nn, decide_eq_true_eq, true_and, nb_ite, bs_size, Nat.zero_add, Bool.not_true, Bool.not_false, Bool.false_eq_true, eq_self, if_true, if_false, jn]
    rw [wrap64 (by omega) (by omega)]
    exact ih5 m _ _ (by simp) ⟨v5, S1, T1, by rw [hmi]; rfl, by omega, by rw [hmi]; exact hD1.old hxi hmem, hS1R, hcnt, hSS, hset5, hrow5, hv5, hv5q, hL5, hs5, hn5⟩
  rw [if_neg hmem]
  refine hset5.add hxR (by simp only [maxLen]; omega) fun w6 hset6 hg6 => ?_
  have hs6 := hg6.size
  have hrow6 : AtRow w6 w.heap.size 3 v5 T1.length (ix T1) := hrow5.block fun q hq => hg6.block q (hrow5.lt q hq).2 (fun e => hv5 (by rw [hq, e]))
  have hn6 : w6.ownsRow w3.heap.size 3 1 vn (sd at_ E n).length (ix (sd at_ E n)) := ownsRow_block hn5 fun q hq => hg6.block q (hn5.lt q hq).2 (fun e => by injection e with e; have := (hn5.lt q hq).1; have := hset.lt; omega)
  have hb6 : Below w.heap.size w w6 := Below.grown hL5 hg6 (by omega) (fun q hq => by injection hq with hq; omega)
  refine blS_one rfl ?_
  refine AtRow.app T_ints (hrow6.block (w' := w6.alloc _) fun q hq => (Below.heap_alloc w6 _ q (hrow6.lt q hq).2)) (one_int _ _) (by simp only [maxLen]; omega) (by omega) (by simp; omega) fun v7 w7 hrow7 hg7 hat7 => ?_
  have hs7 : w6.heap.size + 1 ≤ w7.heap.size := by have := hg7.size; simpa using this
  simp only [cycle_reach_J12, iw_add, iw_sub, iw_mul, iw_lss, iw_leq, iw_gtr, iw_geq, iw_eql, iw_neq, iw_quo, iw_rem, un_not, len_s, len_l, nck_p, fld_p, cv_i, unc_c, ex_0, ex_1, ex_2, st_eq, st_ne, brV_true, brV_false, brV_b, brV_not, one_one, nil_p, nil_pn, nil_n, nil_nn, decide_eq_true_eq, true_and, nb_ite, bs_size, Nat.zero_add, Bool.not_true, Bool.not_false, Bool.false_eq_true, eq_self, if_true, if_false, jn]
  rw [wrap64 (by omega) (by omega)]
  have hwv : w.heap.size < w3.heap.size := hset.lt
  refine ih5 m _ _ (by simp) ⟨v7, S1 ++ [x], T1 ++ [x], by rw [hmi]; rfl, by omega, by rw [hmi]; exact hD1.new hxi hmem, ?_, by simp; omega, by simp; omega, ?_, ?_, ?_, ?_, ?_, by omega, ?_⟩
  · intro y hy
    rcases List.mem_append.1 hy with hy | hy
    · exact hS1R y hy
    · simp at hy; subst hy; exact hxR
  · refine hset6.block ?_
    rw [hg7.block _ (by simp; have := hset6.lt; omega) (fun e => hv5 e.symm)]
    exact Below.heap_alloc w6 _ _ hset6.lt
  · rw [List.length_append, ix_append]; exact hrow7
  · rcases hat7 with e | e
    · rw [e]; exact hv5
    · rw [e]; simp; have := hset6.lt; omega
  · intro q hq
    rcases hat7 with e | e
    · exact hv5q q (by rw [← e]; exact hq)
    · rw [hq] at e; injection e with e; simp at e; omega
  · exact (hb6.alloc (by omega) _).grown hg7 (by simp; omega) (fun q hq => (hrow5.lt q hq).1)
  · refine ownsRow_block hn6 fun q hq => ?_
    have hq1 := hn6.lt q hq
    have hq5 := hn5.lt q hq
    rw [hg7.block q (by simp; omega) (fun e => ?_)]
    · exact Below.heap_alloc w6 _ q hq1.2
    · rcases hv5q q e.symm with h | h
      · omega
      · have := (hn4.lt q hq).2; omega
end Go.Proofs.Ytlicdhdpngahgaa
