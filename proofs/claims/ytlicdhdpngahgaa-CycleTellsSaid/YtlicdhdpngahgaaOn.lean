/- Who is on a cycle with one: cycle's On, Victim, Any. -/
import Derived.Test.YtlicdhdpngahgaaReachB
import Derived.Test.YtlicdhdpngahgaaSort
set_option linter.unusedVariables false
set_option linter.unusedSimpArgs false
namespace Go.Proofs.Ytlicdhdpngahgaa
open Go.Eng Go.RowKit
/-- Those that are on a cycle with one, rising. -/
structure IsOn (E : List Pr) (src : Int) (l : List Int) : Prop where
  rise : l.Pairwise (· < ·)
  mem : ∀ x, x ∈ l ↔ TG (sd false E) src x ∧ TG (sd false E) x src
theorem IsOn.unique {E : List Pr} {src : Int} {a b : List Int} (ha : IsOn E src a) (hb : IsOn E src b) : a = b :=
  rising_eq ha.rise hb.rise fun x => (ha.mem x).trans (hb.mem x).symm
theorem sd_flip {E : List Pr} {x y : Int} : y ∈ sd true E x ↔ x ∈ sd false E y := by
  simp only [sd, List.mem_map, List.mem_filter, kyE, otE, decide_eq_true_eq]
  constructor
  · rintro ⟨e, ⟨he, h1⟩, h2⟩; exact ⟨e, ⟨he, by simpa using h2⟩, by simpa using h1⟩
  · rintro ⟨e, ⟨he, h1⟩, h2⟩; exact ⟨e, ⟨he, by simpa using h2⟩, by simpa using h1⟩
theorem tg_trans {nx : Int → List Int} {a b c : Int} (h : TG nx a b) (k : TG nx b c) : TG nx a c := by
  induction k with
  | single h1 => exact .tail h h1
  | tail _ h1 ih => exact .tail ih h1
theorem tg_flip {E : List Pr} {a b : Int} : TG (sd true E) a b ↔ TG (sd false E) b a := by
  constructor
  · intro h
    induction h with
    | single h1 => exact .single (sd_flip.1 h1)
    | tail _ h1 ih => exact tg_trans (.single (sd_flip.1 h1)) ih
  · intro h
    induction h with
    | single h1 => exact .single (sd_flip.2 h1)
    | tail _ h1 ih => exact tg_trans (.single (sd_flip.2 h1)) ih
theorem On_from {E : List Pr} {src : Int} {ve : Value} {w : World} {k : Value → World → Prop} (hsrc : InR src) (hE : ∀ e ∈ E, InR e.1 ∧ InR e.2) (hn : E.length ≤ 1000) (hve : Lst w ve E.length (px E))
    (hk : ∀ v l w', Later w w' → IsOn E src l → l.length ≤ 1000 → w'.ownsRow w.heap.size 3 1 v l.length (ix l) → k v w') :
    callW Try.prog (.func (.func 6) #[] #[]) [.int .i64 src, ve] w k := by
  apply cycle_On_call
  apply cycle_On_run
  have hvc : isCell ve = true ∧ ve.cells = #[ve] := by
    obtain ⟨p, cap, rfl, _⟩ := hve
    exact ⟨rfl, rfl⟩
  simp only [cycle_On, fillL, Instr.fill, hvc.2]
  refine al_lit fun g W hL hg hgs => ?_
  refine stN_heap hg rfl rfl (by simpa using hvc.1) fun W1 hg1 hs1 hb1 ho1 => ?_
  have hL1 : Later w W1 := hL.trans (hb1 _ (by omega))
  have hLd : Later w W1.drew := hL1.tr (Later.dr W1)
  have hgd : W1.drew.heap[g]? = some (.cells #[ve] 49 (0, 0)) := hg1
  refine ldN_heap hgd rfl (ldN_heap hgd rfl ?_)
  have hveW : ∀ w1, Below W1.drew.heap.size W1.drew w1 → Lst w1 ve E.length (px E) := fun w1 h => Later.lst (hLd.tr h) hve
  have hheld : ∀ w2, Later W1.drew w2 → holds (cellsOf ⟨g, 0, none⟩ 0 [ve]) w2 := fun w2 h c hc => by
    simp only [cellsOf, List.mem_cons, List.not_mem_nil, or_false, addA] at hc
    subst hc
    exact h.cell (by rw [heap_cell hgd]; rfl)
  refine reach_from hsrc hE hn (step_ahead hn hveW) fun ba SA w2 hL2 hba hsa hSA hna hla => ?_
  refine ⟨hheld w2 hL2, hheld w2 hL2, ?_⟩
  refine reach_from hsrc hE hn (step_behind hn fun w1 h => hveW w1 (hL2.tr h)) fun bb SB w3 hL3 hbb hsb hSB hnb hlb => ?_
  refine ⟨hheld w3 (hL2.tr hL3), hheld w3 (hL2.tr hL3), ?_⟩
  refine (hsa.later hL3).range fun w4 cnt hrg hL4 hs4 => ?_
  have hLw4 : Later w w4 := ((hLd.tr hL2).tr hL3).tr hL4
  have hsb4 := hsb.later hL4
  have hbal := hsa.lt
  have hbbl := hsb.lt
  have hLs2 := hL2.size
  have hLs3 := hL3.size
  have hs1' := hLd.size
  have hrb : bb ≠ w3.heap.size := by omega
  refine lp_ind _ (fun (m : Nat) r w5 => ∃ (o : Value) (l : List Int) (left : Int → Bool), r = [.int .i64 src, .map (some ba), .map (some bb), o, .pointer (some ⟨w3.heap.size, 0, none⟩)] ∧ RangeM w5 ba w3.heap.size SA left m ∧ SetM w5 bb SB ∧ w5.ownsRow w4.heap.size 3 1 o l.length (ix l) ∧ Below w.heap.size w w5 ∧ w4.heap.size ≤ w5.heap.size ∧
      l.Nodup ∧ (∀ x, left x = true → x ∈ SA) ∧ ∀ x, x ∈ l ↔ (x ∈ SA ∧ left x = false ∧ src ∈ SA ∧ x ∈ SB)) id ?_ (i := cnt)
    ⟨.slice none 0 0, [], _, rfl, hrg, hsb4, by simpa [ix] using World.ownsRow_nil w4 w4.heap.size 3 1, hLw4, Nat.le_refl _, by simp, fun x h => of_decide_eq_true h, fun x => by
      constructor
      · intro h; cases h
      · rintro ⟨h1, h2, _⟩; exact absurd h1 (of_decide_eq_false h2)⟩
  rintro m r w5 rec ⟨o, l, left, rfl, hrg, hsb5, hrow, hL5, hs5, hnd, hsub, hmem⟩ ih
  simp only [cycle_On_L5, iw_add, iw_sub, iw_mul, iw_lss, iw_leq, iw_gtr, iw_geq, iw_eql, iw_neq, iw_quo, iw_rem, un_not, len_s, len_l, nck_p, fld_p, cv_i, unc_c, ex_0, ex_1, ex_2, st_eq, st_ne, brV_true, brV_false, brV_b, brV_not, one_one, nil_p, nil_pn, nil_n, nil_nn, decide_eq_true_eq, true_and, nb_ite, bs_size, Nat.zero_add, Bool.not_true, Bool.not_false, Bool.false_eq_true, eq_self, if_true, if_false, jn]
  have hll : l.length ≤ SA.length := nodup_le hnd fun x hx => ((hmem x).1 hx).1
  have hsw4 := hLw4.size
  refine hrg.next (fun hno => ?_) fun x v w6 m' hx hlx hxS hrg6 hlt hg6 hs6 hen => ?_
  · simp only [iw_add, iw_sub, iw_mul, iw_lss, iw_leq, iw_gtr, iw_geq, iw_eql, iw_neq, iw_quo, iw_rem, un_not, len_s, len_l, nck_p, fld_p, cv_i, unc_c, ex_0, ex_1, ex_2, st_eq, st_ne, brV_true, brV_false, brV_b, brV_not, one_one, nil_p, nil_pn, nil_n, nil_nn, decide_eq_true_eq, true_and, nb_ite, bs_size, Nat.zero_add, Bool.not_true, Bool.not_false, Bool.false_eq_true, eq_self, if_true, if_false, jn]
    refine sort_from hrow hs5 (by omega) fun w6 hb6 hrow6 _ => ?_
    refine hk o (srt l) w6 (hL5.trans (hb6.mono (by omega))) ⟨srt_rising hnd, fun x => ?_⟩ (by simp; omega) (ownsRow_mono hsw4 (by rw [srt_length]; exact hrow6))
    rw [srt_mem, hmem, hSA, hSB, hSA, tg_flip]
    constructor
    · rintro ⟨h1, _, _, h2⟩; exact ⟨h1, h2⟩
    · rintro ⟨h1, h2⟩; exact ⟨h1, hno x, tg_trans h1 h2, h2⟩
  · simp only [iw_add, iw_sub, iw_mul, iw_lss, iw_leq, iw_gtr, iw_geq, iw_eql, iw_neq, iw_quo, iw_rem, un_not, len_s, len_l, nck_p, fld_p, cv_i, unc_c, ex_0, ex_1, ex_2, st_eq, st_ne, brV_true, brV_false, brV_b, brV_not, one_one, nil_p, nil_pn, nil_n, nil_nn, decide_eq_true_eq, true_and, nb_ite, bs_size, Nat.zero_add, Bool.not_true, Bool.not_false, Bool.false_eq_true, eq_self, if_true, if_false, jn]
    refine ⟨_, _, hen, ?_⟩
    simp only [iw_add, iw_sub, iw_mul, iw_lss, iw_leq, iw_gtr, iw_geq, iw_eql, iw_neq, iw_quo, iw_rem, un_not, len_s, len_l, nck_p, fld_p, cv_i, unc_c, ex_0, ex_1, ex_2, st_eq, st_ne, brV_true, brV_false, brV_b, brV_not, one_one, nil_p, nil_pn, nil_n, nil_nn, decide_eq_true_eq, true_and, nb_ite, bs_size, Nat.zero_add, Bool.not_true, Bool.not_false, Bool.false_eq_true, eq_self, if_true, if_false, jn]
    have hb6 : Below w.heap.size w w6 := Below.grown hL5 hg6 (by have := hL5.size; omega) (fun q hq => by injection hq with hq; omega)
    have hsb6 : SetM w6 bb SB := hsb5.block (hg6.block _ hsb5.lt (fun e => by injection e with e; exact hrb e))
    have hrow6 : w6.ownsRow w4.heap.size 3 1 o l.length (ix l) := ownsRow_block hrow fun q hq => hg6.block q (hrow.lt q hq).2 (fun e => by injection e with e; have := (hrow.lt q hq).1; omega)
    have skip : ¬ (src ∈ SA ∧ x ∈ SB) → rec [.int .i64 src, .map (some ba), .map (some bb), o, .pointer (some ⟨w3.heap.size, 0, none⟩)] w6 := fun hno =>
      ih m' _ _ hlt ⟨o, l, _, rfl, hrg6, hsb6, hrow6, hb6, by omega, hnd, fun y hy => hsub y (by simp at hy; exact hy.1), fun y => by
        rw [hmem]
        constructor
        · rintro ⟨h1, h2, h3⟩; exact ⟨h1, by simp [h2], h3⟩
        · rintro ⟨h1, h2, h3⟩
          refine ⟨h1, ?_, h3⟩
          by_cases e : y = x
          · subst e; exact absurd h3 hno
          · simpa [e] using h2⟩
    refine hrg6.set.look hsrc ?_
    simp only [iw_add, iw_sub, iw_mul, iw_lss, iw_leq, iw_gtr, iw_geq, iw_eql, iw_neq, iw_quo, iw_rem, un_not, len_s, len_l, nck_p, fld_p, cv_i, unc_c, ex_0, ex_1, ex_2, st_eq, st_ne, brV_true, brV_false, brV_b, brV_not, one_one, nil_p, nil_pn, nil_n, nil_nn, decide_eq_true_eq, true_and, nb_ite, bs_size, Nat.zero_add, Bool.not_true, Bool.not_false, Bool.false_eq_true, eq_self, if_true, if_false, jn]
    by_cases h1 : src ∈ SA
    rotate_left
    · rw [if_neg h1]; exact skip fun h => h1 h.1
    rw [if_pos h1]
    refine hsb6.look hx ?_
    simp only [iw_add, iw_sub, iw_mul, iw_lss, iw_leq, iw_gtr, iw_geq, iw_eql, iw_neq, iw_quo, iw_rem, un_not, len_s, len_l, nck_p, fld_p, cv_i, unc_c, ex_0, ex_1, ex_2, st_eq, st_ne, brV_true, brV_false, brV_b, brV_not, one_one, nil_p, nil_pn, nil_n, nil_nn, decide_eq_true_eq, true_and, nb_ite, bs_size, Nat.zero_add, Bool.not_true, Bool.not_false, Bool.false_eq_true, eq_self, if_true, if_false, jn]
    by_cases h2 : x ∈ SB
    rotate_left
    · rw [if_neg h2]; exact skip fun h => h2 h.2
    rw [if_pos h2]
    refine blS_one rfl ?_
    refine app T_ints (hrow6.alloc _) (one_int _ _) (by simp only [maxLen]; omega) (by omega) (by simp; omega) fun o7 w7 hrow7 hg7 hat7 _ => ?_
    have hs7 : w6.heap.size + 1 ≤ w7.heap.size := by have := hg7.size; simpa using this
    have far7 : ∀ q : Nat, q < w6.heap.size → o.ownBlock ≠ some q → w7.heap[q]? = w6.heap[q]? := fun q hq hne => by
      rw [hg7.block q (by simp; omega) (fun e => hne e.symm)]
      exact Below.heap_alloc w6 _ q hq
    have hob : ∀ q, o.ownBlock = some q → w4.heap.size ≤ q := fun q hq => (hrow6.lt q hq).1
    refine ih m' _ _ hlt ⟨o7, l ++ [x], _, rfl, hrg6.block (far7 _ hrg6.set.lt (fun e => by have := hob _ e; omega)) (far7 _ hrg6.ltr (fun e => by have := hob _ e; omega)), hsb6.block (far7 _ hsb6.lt (fun e => by have := hob _ e; omega)), by rw [List.length_append, ix_append]; exact hrow7,
      (hb6.alloc (by omega) _).grown hg7 (by simp; omega) (fun q hq => by have := hob q hq; omega), by omega, ?_, fun y hy => hsub y (by simp at hy; exact hy.1), fun y => ?_⟩
    · rw [List.nodup_append]
      refine ⟨hnd, by simp, fun a ha b hb e => ?_⟩
      simp at hb
      subst hb
      subst e
      have := ((hmem a).1 ha).2.1
      rw [this] at hlx
      cases hlx
    · rw [List.mem_append, hmem]
      by_cases e : y = x
      · subst e
        simp [hxS, h1, h2]
      · simp [e]
theorem Victim_from {E : List Pr} {src : Int} {ve : Value} {w : World} {k : Value → World → Prop} (hsrc : InR src) (hE : ∀ e ∈ E, InR e.1 ∧ InR e.2) (hn : E.length ≤ 1000) (hve : Lst w ve E.length (px E))
    (hk : ∀ l w', Later w w' → IsOn E src l → k (.tuple #[.int .i64 (l.getLastD 0), .bool (!l.isEmpty)]) w') :
    callW Try.prog (.func (.func 9) #[] #[]) [.int .i64 src, ve] w k := by
  apply cycle_Victim_call
  apply cycle_Victim_run
  simp only [cycle_Victim]
  refine On_from hsrc hE hn hve fun v l w1 hL hon hl hr => ?_
  refine (lst_row hr).len ?_
  simp only [iw_add, iw_sub, iw_mul, iw_lss, iw_leq, iw_gtr, iw_geq, iw_eql, iw_neq, iw_quo, iw_rem, un_not, len_s, len_l, nck_p, fld_p, cv_i, unc_c, ex_0, ex_1, ex_2, st_eq, st_ne, brV_true, brV_false, brV_b, brV_not, one_one, nil_p, nil_pn, nil_n, nil_nn, decide_eq_true_eq, true_and, nb_ite, bs_size, Nat.zero_add, Bool.not_true, Bool.not_false, Bool.false_eq_true, eq_self, if_true, if_false, jn]
  by_cases h0 : l = []
  · subst h0
    rw [if_pos (by rfl)]
    exact hk [] w1 hL hon
  obtain ⟨t, n, rfl⟩ := eq_concat h0
  rw [if_neg (by simp; omega)]
  refine (lst_row hr).len ?_
  simp only [iw_add, iw_sub, iw_mul, iw_lss, iw_leq, iw_gtr, iw_geq, iw_eql, iw_neq, iw_quo, iw_rem, un_not, len_s, len_l, nck_p, fld_p, cv_i, unc_c, ex_0, ex_1, ex_2, st_eq, st_ne, brV_true, brV_false, brV_b, brV_not, one_one, nil_p, nil_pn, nil_n, nil_nn, decide_eq_true_eq, true_and, nb_ite, bs_size, Nat.zero_add, Bool.not_true, Bool.not_false, Bool.false_eq_true, eq_self, if_true, if_false, jn]
  have e1 : IntKind.i64.wrap ((((t ++ [n]).length : Nat) : Int) - 1) = ((t.length : Nat) : Int) := by
    simp only [List.length_append, List.length_cons, List.length_nil] at hl ⊢
    rw [wrap64 (by omega) (by omega)]; omega
  rw [e1]
  refine (lst_row hr).at1 ix_last (by simp) fun a ha _ => ⟨_, ha, ?_⟩
  have := hk (t ++ [n]) w1 hL hon
  rw [show (t ++ [n]).isEmpty = false by cases t <;> rfl, List.getLastD_concat] at this
  exact this
end Go.Proofs.Ytlicdhdpngahgaa
