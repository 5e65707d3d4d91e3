/- The reference's reach and On. -/
import Derived.Test.YtlicdhdpngahgaaAny
import Derived.Test.YtlicdhdpngahgaaRise
set_option linter.unusedVariables false
set_option linter.unusedSimpArgs false
namespace Go.Proofs.Ytlicdhdpngahgaa
open Go.Eng Go.RowKit
theorem DI.pop0 {nx : Int → List Int} {src n : Int} {S T : List Int} (h : DI nx src S (n :: T)) : DJ nx src n 0 S T where
  a := h.a
  b := fun x hx => h.b x (List.mem_cons_of_mem _ hx)
  c := fun x hx => by
    rcases h.c x hx with h1 | h1
    · rcases List.mem_cons.1 h1 with h1 | h1
      · exact .inr (.inr h1)
      · exact .inl h1
    · exact .inr (.inl h1)
  p := by simp
  nn := h.b n (by simp)
  nd := h.nd
theorem sd_at {at_ : Bool} {E : List Pr} {n : Int} {i : Nat} (h : i < E.length) (hk : kyE at_ E[i] = n) : (sd at_ E n)[(sd at_ (E.take i) n).length]? = some (otE at_ E[i]) := by
  have h1 := sd_succ at_ E n h
  rw [if_pos hk] at h1
  have h2 : sd at_ E n = sd at_ (E.take (i + 1)) n ++ sd at_ (E.drop (i + 1)) n := by
    simp only [sd, ← List.map_append, ← List.filter_append, List.take_append_drop]
  rw [h2, h1, List.append_assoc, List.getElem?_append_right (Nat.le_refl _)]
  simp
theorem reachR_from {at_ : Bool} {E : List Pr} {src : Int} {ve : Value} {w : World} {k : Value → World → Prop} (hn : E.length ≤ 1000) (hve : Lst w ve E.length (px E))
    (hk : ∀ v S w', Later w w' → (∀ x, x ∈ S ↔ TG (sd at_ E) src x) → S.Nodup → S.length ≤ 1000 → w'.ownsRow w.heap.size 3 1 v S.length (ix S) → k v w') :
    callW Try.prog (.func (.func 20) #[] #[]) [.int .i64 src, ve, .bool at_] w k := by
  apply honeycombref1_reach_call
  apply honeycombref1_reach_run
  simp only [honeycombref1_reach]
  refine blS_lit (ix [src]).toArray (by simp [Instr.fill, Value.cells, ix]; apply Array.ext'; simp [List.range, List.range.loop]) rfl (by decide) fun v2 w2 hL2 hr2 hb2 => ?_
  have hs2 := hL2.size
  refine lp_ind _ (fun (i : List Int × List Int) r w3 => ∃ vl v, r = [ve, .bool at_, vl, v] ∧ DI (sd at_ E) src i.1 i.2 ∧ i.2.length ≤ i.1.length + 1 ∧ i.1.length ≤ E.length ∧ w3.ownsRow w.heap.size 3 1 vl i.1.length (ix i.1) ∧ AtRow w3 w.heap.size 3 v i.2.length (ix i.2) ∧ (∀ q, vl.ownBlock = some q → v.ownBlock ≠ some q) ∧ Later w w3)
    (fun i => 2 * (E.length - i.1.length) + i.2.length) ?_ (i := ([], [src])) ⟨.slice none 0 0, v2, rfl, DI.start _ _, Nat.le_refl _, Nat.zero_le _, by simpa [ix] using World.ownsRow_nil w2 w.heap.size 3 1, AtRow.ofRow hr2 (by rw [hb2]; simp), by simp [Value.ownBlock], hL2⟩
  rintro ⟨S, T⟩ r w3 rec ⟨vl, v, rfl, hD, hTS, hSl, hrl, hrow, hap, hL3⟩ ih
  simp only [] at hD hTS hSl hrl hrow ih
  simp only [honeycombref1_reach_L3, iw_add, iw_sub, iw_mul, iw_lss, iw_leq, iw_gtr, iw_geq, iw_eql, iw_neq, iw_quo, iw_rem, un_not, len_s, len_l, nck_p, fld_p, cv_i, unc_c, ex_0, ex_1, ex_2, st_eq, st_ne, brV_true, brV_false, brV_b, brV_not, one_one, nil_p, nil_pn, nil_n, nil_nn, decide_eq_true_eq, true_and, nb_ite, bs_size, Nat.zero_add, Bool.not_true, Bool.not_false, Bool.false_eq_true, eq_self, if_true, if_false, jn]
  refine hrow.lst.len ?_
  simp only [iw_add, iw_sub, iw_mul, iw_lss, iw_leq, iw_gtr, iw_geq, iw_eql, iw_neq, iw_quo, iw_rem, un_not, len_s, len_l, nck_p, fld_p, cv_i, unc_c, ex_0, ex_1, ex_2, st_eq, st_ne, brV_true, brV_false, brV_b, brV_not, one_one, nil_p, nil_pn, nil_n, nil_nn, decide_eq_true_eq, true_and, nb_ite, bs_size, Nat.zero_add, Bool.not_true, Bool.not_false, Bool.false_eq_true, eq_self, if_true, if_false, jn]
  cases T with
  | nil =>
    rw [if_neg (by simp)]
    exact hk vl S w3 hL3 hD.done hD.nd (by omega) hrl
  | cons n T =>
  rw [if_pos (by simp)]
  have hj := hD.pop0
  refine hrow.lst.at1 (i := 0) (u := .int .i64 n) rfl (by simp) fun a ha _ => ⟨_, ha, ?_⟩
  refine AtRow.tail (x := .int .i64 n) (xs := ix T) (by simpa [ix] using hrow) fun v3 hrow3 hv3 => ?_
  have hs3 := hL3.size
  simp only [List.length_cons] at hTS
  refine lp_ind _ (fun (m : Nat) r w5 => ∃ (vl v : Value) (S1 T1 : List Int), r = [ve, .bool at_, vl, v, .int .i64 n, .int .i64 ((E.length - m : Nat) : Int)] ∧ m ≤ E.length ∧ DJ (sd at_ E) src n (sd at_ (E.take (E.length - m)) n).length S1 T1 ∧ S.length ≤ S1.length ∧
      T1.length + S.length = T.length + S1.length ∧ w5.ownsRow w.heap.size 3 1 vl S1.length (ix S1) ∧ AtRow w5 w.heap.size 3 v T1.length (ix T1) ∧ (∀ q, vl.ownBlock = some q → v.ownBlock ≠ some q) ∧ Below w.heap.size w w5) id ?_
    (i := E.length) ⟨vl, v3, S, T, by simp, Nat.le_refl _, by simpa [sd] using hj, Nat.le_refl _, by omega, hrl, hrow3, by rw [hv3]; exact hap, hL3⟩
  rintro m r w5 rec5 ⟨vl5, v5, S1, T1, rfl, hm, hD1, hSS, hcnt, hrl5, hrow5, hap5, hL5⟩ ih5
  have hfew := hD1.few
  have hve5 : Lst w5 ve E.length (px E) := Later.lst hL5 hve
  have hs5 := hL5.size
  simp only [honeycombref1_reach_L7, iw_add, iw_sub, iw_mul, iw_lss, iw_leq, iw_gtr, iw_geq, iw_eql, iw_neq, iw_quo, iw_rem, un_not, len_s, len_l, nck_p, fld_p, cv_i, unc_c, ex_0, ex_1, ex_2, st_eq, st_ne, brV_true, brV_false, brV_b, brV_not, one_one, nil_p, nil_pn, nil_n, nil_nn, decide_eq_true_eq, true_and, nb_ite, bs_size, Nat.zero_add, Bool.not_true, Bool.not_false, Bool.false_eq_true, eq_self, if_true, if_false, jn]
  refine hve5.len ?_
  simp only [iw_add, iw_sub, iw_mul, iw_lss, iw_leq, iw_gtr, iw_geq, iw_eql, iw_neq, iw_quo, iw_rem, un_not, len_s, len_l, nck_p, fld_p, cv_i, unc_c, ex_0, ex_1, ex_2, st_eq, st_ne, brV_true, brV_false, brV_b, brV_not, one_one, nil_p, nil_pn, nil_n, nil_nn, decide_eq_true_eq, true_and, nb_ite, bs_size, Nat.zero_add, Bool.not_true, Bool.not_false, Bool.false_eq_true, eq_self, if_true, if_false, jn]
  by_cases h0 : m = 0
  · subst h0
    rw [if_neg (by omega)]
    rw [Nat.sub_zero, List.take_length] at hD1
    refine ih (S1, T1) _ _ ?_ ⟨vl5, v5, rfl, hD1.close, by show T1.length ≤ S1.length + 1; omega, hfew, hrl5, hrow5, hap5, hL5⟩
    simp only [List.length_cons]
    omega
  obtain ⟨m, rfl⟩ : ∃ q, m = q + 1 := ⟨m - 1, by omega⟩
  rw [if_pos (by omega)]
  have hlt : E.length - (m + 1) < E.length := by omega
  have hmi : E.length - m = E.length - (m + 1) + 1 := by omega
  generalize hi : E.length - (m + 1) = i at *
  have hved : Lst w5.drew ve E.length (px E) := (Later.dr w5).lst hve5
  refine pair_at hved hlt fun b1 o1 h1 h1' => ?_
  refine ixArr (by decide) (by decide) ?_
  refine pair_at hved hlt fun b2 o2 h2 h2' => ?_
  refine ixArr (by decide) (by decide) ?_
  refine ⟨_, h1, _, h2', ?_⟩
  have hLd : Below w.heap.size w w5.drew := hL5.trans (Below.drew (Below.refl _ w5))
  have hrld := (Later.dr w5).row hrl5
  have hrowd : AtRow w5.drew w.heap.size 3 v5 T1.length (ix T1) := hrow5
  -- behind the look at the edge
  have step : ∀ (vl' v' : Value) (S' T' : List Int) (W : World), DJ (sd at_ E) src n (sd at_ (E.take (i + 1)) n).length S' T' → S.length ≤ S'.length → T'.length + S.length = T.length + S'.length → W.ownsRow w.heap.size 3 1 vl' S'.length (ix S') → AtRow W w.heap.size 3 v' T'.length (ix T') → (∀ q, vl'.ownBlock = some q → v'.ownBlock ≠ some q) → Below w.heap.size w W →
      honeycombref1_reach_J8 k rec rec5 [ve, .bool at_, vl', v', .int .i64 n, .int .i64 (i : Int)] W := fun vl' v' S' T' W g1 g2 g3 g4 g5 g6 g7 => by
    simp only [honeycombref1_reach_J8, iw_add, iw_sub, iw_mul, iw_lss, iw_leq, iw_gtr, iw_geq, iw_eql, iw_neq, iw_quo, iw_rem, un_not, len_s, len_l, nck_p, fld_p, cv_i, unc_c, ex_0, ex_1, ex_2, st_eq, st_ne, brV_true, brV_false, brV_b, brV_not, one_one, nil_p, nil_pn, nil_n, nil_nn, decide_eq_true_eq, true_and, nb_ite, bs_size, Nat.zero_add, Bool.not_true, Bool.not_false, Bool.false_eq_true, eq_self, if_true, if_false, jn]
    rw [wrap64 (by omega) (by omega)]
    exact ih5 m _ _ (by simp) ⟨vl', v', S', T', by rw [hmi]; rfl, by omega, by rw [hmi]; exact g1, g2, g3, g4, g5, g6, g7⟩
  have body : honeycombref1_reach_J12 k rec rec5 [ve, .bool at_, vl5, v5, .int .i64 n, .int .i64 (i : Int), .int .i64 (kyE at_ E[i]), .int .i64 (otE at_ E[i])] w5.drew := by
    simp only [honeycombref1_reach_J12, iw_add, iw_sub, iw_mul, iw_lss, iw_leq, iw_gtr, iw_geq, iw_eql, iw_neq, iw_quo, iw_rem, un_not, len_s, len_l, nck_p, fld_p, cv_i, unc_c, ex_0, ex_1, ex_2, st_eq, st_ne, brV_true, brV_false, brV_b, brV_not, one_one, nil_p, nil_pn, nil_n, nil_nn, decide_eq_true_eq, true_and, nb_ite, bs_size, Nat.zero_add, Bool.not_true, Bool.not_false, Bool.false_eq_true, eq_self, if_true, if_false, jn]
    by_cases hky : kyE at_ E[i] = n
    rotate_left
    · rw [if_neg hky]
      refine step vl5 v5 S1 T1 _ ?_ hSS hcnt hrld hrowd hap5 hLd
      rw [sd_succ _ _ _ hlt, if_neg hky, List.append_nil]
      exact hD1
    rw [if_pos hky]
    have hxi := sd_at (at_ := at_) hlt hky
    generalize otE at_ E[i] = x at *
    have hnext : (sd at_ (E.take (i + 1)) n).length = (sd at_ (E.take i) n).length + 1 := by
      rw [sd_succ _ _ _ hlt, if_pos hky]; simp
    rw [hnext] at step
    generalize hW : w5.drew = W at *
    refine lp_ind _ (fun (m2 : Nat) r w6 => ∃ inn : Bool, r = [ve, .bool at_, vl5, v5, .int .i64 n, .int .i64 (i : Int), .int .i64 x, .bool inn, .int .i64 ((S1.length - m2 : Nat) : Int)] ∧ m2 ≤ S1.length ∧ (inn = true ↔ x ∈ S1.take (S1.length - m2)) ∧ w6 = W) id ?_ (i := S1.length) ⟨false, by simp, Nat.le_refl _, by simp, rfl⟩
    rintro m2 r w6 rec6 ⟨inn, rfl, hm2, hin, rfl⟩ ih6
    simp only [honeycombref1_reach_L15, iw_add, iw_sub, iw_mul, iw_lss, iw_leq, iw_gtr, iw_geq, iw_eql, iw_neq, iw_quo, iw_rem, un_not, len_s, len_l, nck_p, fld_p, cv_i, unc_c, ex_0, ex_1, ex_2, st_eq, st_ne, brV_true, brV_false, brV_b, brV_not, one_one, nil_p, nil_pn, nil_n, nil_nn, decide_eq_true_eq, true_and, nb_ite, bs_size, Nat.zero_add, Bool.not_true, Bool.not_false, Bool.false_eq_true, eq_self, if_true, if_false, jn]
    refine (lst_row hrld).len ?_
    simp only [iw_add, iw_sub, iw_mul, iw_lss, iw_leq, iw_gtr, iw_geq, iw_eql, iw_neq, iw_quo, iw_rem, un_not, len_s, len_l, nck_p, fld_p, cv_i, unc_c, ex_0, ex_1, ex_2, st_eq, st_ne, brV_true, brV_false, brV_b, brV_not, one_one, nil_p, nil_pn, nil_n, nil_nn, decide_eq_true_eq, true_and, nb_ite, bs_size, Nat.zero_add, Bool.not_true, Bool.not_false, Bool.false_eq_true, eq_self, if_true, if_false, jn]
    by_cases h02 : m2 = 0
    · subst h02
      rw [if_neg (by omega)]
      rw [Nat.sub_zero, List.take_length] at hin
      cases inn with
      | true =>
        simp only [iw_add, iw_sub, iw_mul, iw_lss, iw_leq, iw_gtr, iw_geq, iw_eql, iw_neq, iw_quo, iw_rem, un_not, len_s, len_l, nck_p, fld_p, cv_i, unc_c, ex_0, ex_1, ex_2, st_eq, st_ne, brV_true, brV_false, brV_b, brV_not, one_one, nil_p, nil_pn, nil_n, nil_nn, decide_eq_true_eq, true_and, nb_ite, bs_size, Nat.zero_add, Bool.not_true, Bool.not_false, Bool.false_eq_true, eq_self, if_true, if_false, jn]
        exact step vl5 v5 S1 T1 _ (hD1.old hxi (hin.1 rfl)) hSS hcnt hrld hrowd hap5 hLd
      | false =>
        have hno : x ∉ S1 := fun h => by have := hin.2 h; cases this
        simp only [iw_add, iw_sub, iw_mul, iw_lss, iw_leq, iw_gtr, iw_geq, iw_eql, iw_neq, iw_quo, iw_rem, un_not, len_s, len_l, nck_p, fld_p, cv_i, unc_c, ex_0, ex_1, ex_2, st_eq, st_ne, brV_true, brV_false, brV_b, brV_not, one_one, nil_p, nil_pn, nil_n, nil_nn, decide_eq_true_eq, true_and, nb_ite, bs_size, Nat.zero_add, Bool.not_true, Bool.not_false, Bool.false_eq_true, eq_self, if_true, if_false, jn]
        have hW5 : w5.heap.size = w6.heap.size := by rw [← hW]; rfl
        refine blS_one rfl ?_
        refine app T_ints (hrld.alloc _) (one_int _ _) (by simp only [maxLen]; omega) (by omega) (by simp; omega) fun vl7 w7 hrl7 hg7 hat7 hne7 => ?_
        have hs7 : w6.heap.size + 1 ≤ w7.heap.size := by have := hg7.size; simpa using this
        have far7 : ∀ q : Nat, q < w6.heap.size → vl5.ownBlock ≠ some q → w7.heap[q]? = w6.heap[q]? := fun q hq hne => by
          rw [hg7.block q (by simp; omega) (fun e => hne e.symm)]
          exact Below.heap_alloc w6 _ q hq
        have hrow7 : AtRow w7 w.heap.size 3 v5 T1.length (ix T1) := hrowd.block fun q hq => far7 q (hrowd.lt q hq).2 (fun e => hap5 q e hq)
        have hb7 : Below w.heap.size w w7 := (hLd.alloc (by omega) _).grown hg7 (by simp; omega) (fun q hq => (hrld.lt q hq).1)
        refine blS_one rfl ?_
        refine AtRow.app T_ints (hrow7.block (w' := w7.alloc _) fun q hq => Below.heap_alloc w7 _ q (hrow7.lt q hq).2) (one_int _ _) (by simp only [maxLen]; omega) (by omega) (by simp; omega) fun v8 w8 hrow8 hg8 hat8 => ?_
        have hs8 : w7.heap.size + 1 ≤ w8.heap.size := by have := hg8.size; simpa using this
        have hvl7 : ∀ q, vl7.ownBlock = some q → v5.ownBlock ≠ some q := fun q hq e => by
          have h5 := (hrowd.lt q e).2
          rcases hat7 with e2 | e2
          · exact hap5 q (by rw [← e2]; exact hq) e
          · rw [hq] at e2; injection e2 with e2; simp at e2; omega
        refine step vl7 v8 (S1 ++ [x]) (T1 ++ [x]) w8 (hD1.new hxi hno) (by simp; omega) (by simp; omega) ?_ (by rw [List.length_append, ix_append]; exact hrow8) ?_ ?_
        · rw [List.length_append, ix_append]
          refine ownsRow_block hrl7 fun q hq => ?_
          rw [hg8.block q (by simp; have := (hrl7.lt q hq).2; omega) (fun e => hvl7 q hq e.symm)]
          exact Below.heap_alloc w7 _ q (hrl7.lt q hq).2
        · intro q hq e
          rcases hat8 with e2 | e2
          · exact hvl7 q hq (by rw [← e2]; exact e)
          · rw [e] at e2; injection e2 with e2; simp at e2; have := (hrl7.lt q hq).2; omega
        · exact (hb7.alloc (by omega) _).grown hg8 (by simp; omega) (fun q hq => (hrow7.lt q hq).1)
    obtain ⟨m2, rfl⟩ : ∃ q, m2 = q + 1 := ⟨m2 - 1, by omega⟩
    rw [if_pos (by omega)]
    have hlt2 : S1.length - (m2 + 1) < S1.length := by omega
    have hmi2 : S1.length - m2 = S1.length - (m2 + 1) + 1 := by omega
    generalize hi2 : S1.length - (m2 + 1) = i2 at *
    have tk : x ∈ S1.take (i2 + 1) ↔ (x ∈ S1.take i2 ∨ x = S1[i2]) := by
      rw [List.take_add_one, List.getElem?_eq_getElem hlt2, List.mem_append]
      simp
    cases inn with
    | true =>
      simp only [iw_add, iw_sub, iw_mul, iw_lss, iw_leq, iw_gtr, iw_geq, iw_eql, iw_neq, iw_quo, iw_rem, un_not, len_s, len_l, nck_p, fld_p, cv_i, unc_c, ex_0, ex_1, ex_2, st_eq, st_ne, brV_true, brV_false, brV_b, brV_not, one_one, nil_p, nil_pn, nil_n, nil_nn, decide_eq_true_eq, true_and, nb_ite, bs_size, Nat.zero_add, Bool.not_true, Bool.not_false, Bool.false_eq_true, eq_self, if_true, if_false, jn, honeycombref1_reach_J16]
      rw [wrap64 (by omega) (by omega)]
      refine ih6 m2 _ _ (by simp) ⟨true, by rw [hmi2]; rfl, by omega, ?_, rfl⟩
      rw [hmi2, tk]
      simp [hin.1 rfl]
    | false =>
      simp only [iw_add, iw_sub, iw_mul, iw_lss, iw_leq, iw_gtr, iw_geq, iw_eql, iw_neq, iw_quo, iw_rem, un_not, len_s, len_l, nck_p, fld_p, cv_i, unc_c, ex_0, ex_1, ex_2, st_eq, st_ne, brV_true, brV_false, brV_b, brV_not, one_one, nil_p, nil_pn, nil_n, nil_nn, decide_eq_true_eq, true_and, nb_ite, bs_size, Nat.zero_add, Bool.not_true, Bool.not_false, Bool.false_eq_true, eq_self, if_true, if_false, jn]
      refine (lst_row hrld).at1 (ix_get hlt2) hlt2 fun a ha _ => ⟨_, ha, ?_⟩
      simp only [iw_add, iw_sub, iw_mul, iw_lss, iw_leq, iw_gtr, iw_geq, iw_eql, iw_neq, iw_quo, iw_rem, un_not, len_s, len_l, nck_p, fld_p, cv_i, unc_c, ex_0, ex_1, ex_2, st_eq, st_ne, brV_true, brV_false, brV_b, brV_not, one_one, nil_p, nil_pn, nil_n, nil_nn, decide_eq_true_eq, true_and, nb_ite, bs_size, Nat.zero_add, Bool.not_true, Bool.not_false, Bool.false_eq_true, eq_self, if_true, if_false, jn, honeycombref1_reach_J16]
      rw [wrap64 (by omega) (by omega)]
      refine ih6 m2 _ _ (by simp) ⟨decide (S1[i2] = x), by rw [hmi2]; rfl, by omega, ?_, rfl⟩
      rw [hmi2, tk]
      constructor
      · intro h; exact .inr (of_decide_eq_true h).symm
      · rintro (h | h)
        · have := hin.2 h; cases this
        · exact decide_eq_true h.symm
  cases at_ with
  | true => simp only [iw_add, iw_sub, iw_mul, iw_lss, iw_leq, iw_gtr, iw_geq, iw_eql, iw_neq, iw_quo, iw_rem, un_not, len_s, len_l, nck_p, fld_p, cv_i, unc_c, ex_0, ex_1, ex_2, st_eq, st_ne, brV_true, brV_false, brV_b, brV_not, one_one, nil_p, nil_pn, nil_n, nil_nn, decide_eq_true_eq, true_and, nb_ite, bs_size, Nat.zero_add, Bool.not_true, Bool.not_false, Bool.false_eq_true, eq_self, if_true, if_false, jn]; exact body
  | false => simp only [iw_add, iw_sub, iw_mul, iw_lss, iw_leq, iw_gtr, iw_geq, iw_eql, iw_neq, iw_quo, iw_rem, un_not, len_s, len_l, nck_p, fld_p, cv_i, unc_c, ex_0, ex_1, ex_2, st_eq, st_ne, brV_true, brV_false, brV_b, brV_not, one_one, nil_p, nil_pn, nil_n, nil_nn, decide_eq_true_eq, true_and, nb_ite, bs_size, Nat.zero_add, Bool.not_true, Bool.not_false, Bool.false_eq_true, eq_self, if_true, if_false, jn]; exact body
theorem SOn_from {E : List Pr} {src : Int} {ve : Value} {w : World} {k : Value → World → Prop} (hn : E.length ≤ 1000) (hve : Lst w ve E.length (px E))
    (hk : ∀ v l w', Later w w' → IsOn E src l → l.length ≤ 1000000 → w'.ownsRow w.heap.size 3 1 v l.length (ix l) → k v w') :
    callW Try.prog (.func (.func 8) #[] #[]) [.int .i64 src, ve] w k := by
  apply honeycombref1_On_call
  apply honeycombref1_On_run
  simp only [honeycombref1_On]
  refine reachR_from (at_ := false) hn hve fun va A w1 hL1 hA hnA hlA hra => ?_
  refine reachR_from (at_ := true) hn (hL1.lst hve) fun vb Bl w2 hL2 hB hnB hlB hrb => ?_
  have hra2 := hL2.row hra
  have hs1 := hL1.size
  have hs2 := hL2.size
  have hcut : ∀ (x : Int) (i : Nat) (h : i < A.length), x ∈ A.take (i + 1) ↔ x ∈ A.take i ∨ x = A[i] := fun x i h => by
    rw [List.take_add_one, List.getElem?_eq_getElem h, List.mem_append]; simp
  have hcutB : ∀ (x : Int) (i : Nat) (h : i < Bl.length), x ∈ Bl.take (i + 1) ↔ x ∈ Bl.take i ∨ x = Bl[i] := fun x i h => by
    rw [List.take_add_one, List.getElem?_eq_getElem h, List.mem_append]; simp
  refine lp_ind _ (fun (m : Nat) r w3 => ∃ (o : Value) (out : List Int), r = [va, vb, o, .int .i64 ((A.length - m : Nat) : Int)] ∧ m ≤ A.length ∧ (∀ x, x ∈ out ↔ x ∈ A.take (A.length - m) ∧ x ∈ Bl) ∧ out.length ≤ (A.length - m) * 1000 ∧ w3.ownsRow w2.heap.size 3 1 o out.length (ix out) ∧ Later w2 w3) id ?_ (i := A.length)
    ⟨.slice none 0 0, [], by simp, Nat.le_refl _, by simp, by simp, by simpa [ix] using World.ownsRow_nil w2 w2.heap.size 3 1, Later.refl _⟩
  rintro m r w3 rec ⟨o, out, rfl, hm, hmem, hol, hro, hL3⟩ ih
  simp only [honeycombref1_On_L4, iw_add, iw_sub, iw_mul, iw_lss, iw_leq, iw_gtr, iw_geq, iw_eql, iw_neq, iw_quo, iw_rem, un_not, len_s, len_l, nck_p, fld_p, cv_i, unc_c, ex_0, ex_1, ex_2, st_eq, st_ne, brV_true, brV_false, brV_b, brV_not, one_one, nil_p, nil_pn, nil_n, nil_nn, decide_eq_true_eq, true_and, nb_ite, bs_size, Nat.zero_add, Bool.not_true, Bool.not_false, Bool.false_eq_true, eq_self, if_true, if_false, jn]
  refine (lst_row hra2).len ?_
  simp only [iw_add, iw_sub, iw_mul, iw_lss, iw_leq, iw_gtr, iw_geq, iw_eql, iw_neq, iw_quo, iw_rem, un_not, len_s, len_l, nck_p, fld_p, cv_i, unc_c, ex_0, ex_1, ex_2, st_eq, st_ne, brV_true, brV_false, brV_b, brV_not, one_one, nil_p, nil_pn, nil_n, nil_nn, decide_eq_true_eq, true_and, nb_ite, bs_size, Nat.zero_add, Bool.not_true, Bool.not_false, Bool.false_eq_true, eq_self, if_true, if_false, jn]
  have hs3 := hL3.size
  by_cases h0 : m = 0
  · subst h0
    rw [if_neg (by omega)]
    rw [Nat.sub_zero] at hol
    rw [Nat.sub_zero, List.take_length] at hmem
    have hol' : out.length ≤ 1000000 := Nat.le_trans hol (by omega)
    refine Rising_from (lst_row hro) hol' fun v r w4 hL4 hri hr4 => ?_
    refine hk v r w4 (((hL1.tr hL2).tr hL3).tr hL4) ⟨hri.rise, fun x => ?_⟩ (Nat.le_trans hri.len hol') (ownsRow_mono (by omega) hr4)
    rw [hri.mem, hmem, hA, hB, tg_flip]
  obtain ⟨m, rfl⟩ : ∃ q, m = q + 1 := ⟨m - 1, by omega⟩
  rw [if_pos (by omega)]
  have hlt : A.length - (m + 1) < A.length := by omega
  have hmi : A.length - m = A.length - (m + 1) + 1 := by omega
  generalize hi : A.length - (m + 1) = i at *
  refine lp_ind _ (fun (m2 : Nat) r w4 => ∃ (o : Value) (out : List Int), r = [va, vb, o, .int .i64 (i : Int), .int .i64 ((Bl.length - m2 : Nat) : Int)] ∧ m2 ≤ Bl.length ∧ (∀ x, x ∈ out ↔ (x ∈ A.take i ∧ x ∈ Bl) ∨ (x = A[i] ∧ x ∈ Bl.take (Bl.length - m2))) ∧ out.length ≤ i * 1000 + (Bl.length - m2) ∧ w4.ownsRow w2.heap.size 3 1 o out.length (ix out) ∧ Later w2 w4) id ?_ (i := Bl.length)
    ⟨o, out, by simp, Nat.le_refl _, by simpa using hmem, by rw [Nat.sub_self, Nat.add_zero]; exact hol, hro, hL3⟩
  rintro m2 r w4 rec4 ⟨o4, out4, rfl, hm2, hmem4, hol4, hro4, hL4⟩ ih4
  simp only [honeycombref1_On_L7, iw_add, iw_sub, iw_mul, iw_lss, iw_leq, iw_gtr, iw_geq, iw_eql, iw_neq, iw_quo, iw_rem, un_not, len_s, len_l, nck_p, fld_p, cv_i, unc_c, ex_0, ex_1, ex_2, st_eq, st_ne, brV_true, brV_false, brV_b, brV_not, one_one, nil_p, nil_pn, nil_n, nil_nn, decide_eq_true_eq, true_and, nb_ite, bs_size, Nat.zero_add, Bool.not_true, Bool.not_false, Bool.false_eq_true, eq_self, if_true, if_false, jn]
  refine (lst_row hrb).len ?_
  simp only [iw_add, iw_sub, iw_mul, iw_lss, iw_leq, iw_gtr, iw_geq, iw_eql, iw_neq, iw_quo, iw_rem, un_not, len_s, len_l, nck_p, fld_p, cv_i, unc_c, ex_0, ex_1, ex_2, st_eq, st_ne, brV_true, brV_false, brV_b, brV_not, one_one, nil_p, nil_pn, nil_n, nil_nn, decide_eq_true_eq, true_and, nb_ite, bs_size, Nat.zero_add, Bool.not_true, Bool.not_false, Bool.false_eq_true, eq_self, if_true, if_false, jn]
  have hs4 := hL4.size
  by_cases h02 : m2 = 0
  · subst h02
    rw [if_neg (by omega), wrap64 (by omega) (by omega)]
    rw [Nat.sub_zero, List.take_length] at hmem4
    refine ih m _ _ (by simp) ⟨o4, out4, by rw [hmi]; rfl, by omega, fun x => ?_, by rw [hmi, Nat.add_mul]; exact Nat.le_trans hol4 (by omega), hro4, hL4⟩
    rw [hmi, hcut x i hlt, hmem4]
    constructor
    · rintro (⟨h1, h2⟩ | ⟨h1, h2⟩)
      · exact ⟨.inl h1, h2⟩
      · exact ⟨.inr h1, h2⟩
    · rintro ⟨h1 | h1, h2⟩
      · exact .inl ⟨h1, h2⟩
      · exact .inr ⟨h1, h2⟩
  obtain ⟨m2, rfl⟩ : ∃ q, m2 = q + 1 := ⟨m2 - 1, by omega⟩
  rw [if_pos (by omega)]
  have hlt2 : Bl.length - (m2 + 1) < Bl.length := by omega
  have hmi2 : Bl.length - m2 = Bl.length - (m2 + 1) + 1 := by omega
  generalize hi2 : Bl.length - (m2 + 1) = i2 at *
  have hLd : Later w2 w4.drew := hL4.tr (Later.dr w4)
  have hrad := hLd.row hra2
  have hrbd := hLd.row hrb
  have hro4d := (Later.dr w4).row hro4
  refine (lst_row hrad).at1 (ix_get hlt) hlt fun a1 ha1 _ => ?_
  refine (lst_row hrbd).at1 (ix_get hlt2) hlt2 fun a2 ha2 _ => ⟨_, ha1, _, ha2, ?_⟩
  simp only [iw_add, iw_sub, iw_mul, iw_lss, iw_leq, iw_gtr, iw_geq, iw_eql, iw_neq, iw_quo, iw_rem, un_not, len_s, len_l, nck_p, fld_p, cv_i, unc_c, ex_0, ex_1, ex_2, st_eq, st_ne, brV_true, brV_false, brV_b, brV_not, one_one, nil_p, nil_pn, nil_n, nil_nn, decide_eq_true_eq, true_and, nb_ite, bs_size, Nat.zero_add, Bool.not_true, Bool.not_false, Bool.false_eq_true, eq_self, if_true, if_false, jn]
  by_cases he : A[i] = Bl[i2]
  · rw [if_pos he]
    refine (lst_row hrad).at1 (ix_get hlt) hlt fun a1 ha1 _ => ⟨_, ha1, ?_⟩
    refine blS_one rfl ?_
    refine app T_ints (hro4d.alloc _) (one_int _ _) (by simp only [maxLen]; omega) (by omega) (by simp; omega) fun o5 w5 hr5 hg5 _ _ => ?_
    simp only [jn, honeycombref1_On_J8, iw_add, iw_sub, iw_mul, iw_lss, iw_leq, iw_gtr, iw_geq, iw_eql, iw_neq, iw_quo, iw_rem, un_not, len_s, len_l, nck_p, fld_p, cv_i, unc_c, ex_0, ex_1, ex_2, st_eq, st_ne, brV_true, brV_false, brV_b, brV_not, one_one, nil_p, nil_pn, nil_n, nil_nn, decide_eq_true_eq, true_and, nb_ite, bs_size, Nat.zero_add, Bool.not_true, Bool.not_false, Bool.false_eq_true, eq_self, if_true, if_false, jn]
    rw [wrap64 (by omega) (by omega)]
    refine ih4 m2 _ _ (by simp) ⟨o5, out4 ++ [A[i]], by rw [hmi2]; rfl, by omega, fun x => ?_, by simp; omega, by rw [List.length_append, ix_append]; exact hr5, (hLd.alloc hLd.size _).grown hg5 (by simp; omega) (fun q hq => (hro4.lt q hq).1)⟩
    rw [List.mem_append, hmem4, hmi2, hcutB x i2 hlt2, List.mem_singleton]
    constructor
    · rintro ((h | ⟨h1, h2⟩) | h)
      · exact .inl h
      · exact .inr ⟨h1, .inl h2⟩
      · exact .inr ⟨h, .inr (h.trans he)⟩
    · rintro (h | ⟨h1, h2 | h2⟩)
      · exact .inl (.inl h)
      · exact .inl (.inr ⟨h1, h2⟩)
      · exact .inr h1
  · rw [if_neg he]
    simp only [jn, honeycombref1_On_J8, iw_add, iw_sub, iw_mul, iw_lss, iw_leq, iw_gtr, iw_geq, iw_eql, iw_neq, iw_quo, iw_rem, un_not, len_s, len_l, nck_p, fld_p, cv_i, unc_c, ex_0, ex_1, ex_2, st_eq, st_ne, brV_true, brV_false, brV_b, brV_not, one_one, nil_p, nil_pn, nil_n, nil_nn, decide_eq_true_eq, true_and, nb_ite, bs_size, Nat.zero_add, Bool.not_true, Bool.not_false, Bool.false_eq_true, eq_self, if_true, if_false, jn]
    rw [wrap64 (by omega) (by omega)]
    refine ih4 m2 _ _ (by simp) ⟨o4, out4, by rw [hmi2]; rfl, by omega, fun x => ?_, by omega, hro4d, hLd⟩
    rw [hmem4, hmi2, hcutB x i2 hlt2]
    constructor
    · rintro (h | ⟨h1, h2⟩)
      · exact .inl h
      · exact .inr ⟨h1, .inl h2⟩
    · rintro (h | ⟨h1, h2 | h2⟩)
      · exact .inl h
      · exact .inr ⟨h1, h2⟩
      · exact absurd (h1.symm.trans h2) he
end Go.Proofs.Ytlicdhdpngahgaa
