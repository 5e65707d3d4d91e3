/- Whether anyone is on a cycle: cycle.Any; the first call of chapter 17. -/
import Derived.Test.YtlicdhdpngahgaaOn
set_option linter.unusedVariables false
set_option linter.unusedSimpArgs false
namespace Go.Proofs.Ytlicdhdpngahgaa
open Go.Eng Go.RowKit
def cyc (E : List Pr) (s : Int) : Prop := TG (sd false E) s s
theorem IsOn.nil_iff {E : List Pr} {s : Int} {l : List Int} (h : IsOn E s l) : l = [] ↔ ¬ cyc E s := by
  constructor
  · rintro rfl hc
    have := (h.mem s).2 ⟨hc, hc⟩
    cases this
  · intro hc
    cases l with
    | nil => rfl
    | cons x l =>
      obtain ⟨h1, h2⟩ := (h.mem x).1 List.mem_cons_self
      exact absurd (tg_trans h1 h2) hc
theorem Any_from {E : List Pr} {ve : Value} {w : World} {k : Value → World → Prop} (hE : ∀ e ∈ E, InR e.1 ∧ InR e.2) (hn : E.length ≤ 1000) (hve : Lst w ve E.length (px E))
    (hk : ∀ b w', Later w w' → (b = true ↔ ∃ e ∈ E, cyc E e.1) → k (.bool b) w') :
    callW Try.prog (.func (.func 11) #[] #[]) [ve] w k := by
  apply cycle_Any_call
  apply cycle_Any_run
  have hvc : ve.cells = #[ve] := by
    obtain ⟨p, cap, rfl, _⟩ := hve
    rfl
  simp only [cycle_Any, hvc]
  refine al_lit fun g W hL hg hgs => ?_
  refine ldC_heap hg (v := ve) rfl ?_
  apply slices_ContainsFunc_2_int_2_int_call
  apply slices_ContainsFunc_2_int_2_int_run
  simp only [slices_ContainsFunc_2_int_2_int]
  apply slices_IndexFunc_2_int_2_int_call
  apply slices_IndexFunc_2_int_2_int_run
  simp only [slices_IndexFunc_2_int_2_int]
  refine (hL.lst hve).len ?_
  refine lp_ind _ (fun (m : Nat) r w1 => r = [ve, .func (.func 23) #[] #[.pointer (some ⟨g, 0, none⟩)], .int .i64 E.length, .int .i64 ((E.length - m : Nat) : Int)] ∧ m ≤ E.length ∧ (∀ e ∈ E.take (E.length - m), ¬ cyc E e.1) ∧ Later w w1 ∧ w1.heap[g]? = some (.cells #[ve] 22 (0, 0))) id ?_ (i := E.length) ⟨by simp, Nat.le_refl _, by simp, hL, hg⟩
  rintro m r w1 rec ⟨rfl, hm, hno, hL1, hg1⟩ ih
  simp only [slices_IndexFunc_2_int_2_int_L2, iw_add, iw_sub, iw_mul, iw_lss, iw_leq, iw_gtr, iw_geq, iw_eql, iw_neq, iw_quo, iw_rem, un_not, len_s, len_l, nck_p, fld_p, cv_i, unc_c, ex_0, ex_1, ex_2, st_eq, st_ne, brV_true, brV_false, brV_b, brV_not, one_one, nil_p, nil_pn, nil_n, nil_nn, decide_eq_true_eq, true_and, nb_ite, bs_size, Nat.zero_add, Bool.not_true, Bool.not_false, Bool.false_eq_true, eq_self, if_true, if_false, jn]
  by_cases h0 : m = 0
  · subst h0
    rw [if_neg (by omega)]
    rw [Nat.sub_zero, List.take_length] at hno
    have := hk false w1 hL1 (by simp; exact fun a b he => hno (a, b) he)
    simpa using this
  obtain ⟨m, rfl⟩ : ∃ q, m = q + 1 := ⟨m - 1, by omega⟩
  rw [if_pos (by omega)]
  have hlt : E.length - (m + 1) < E.length := by omega
  have hmi : E.length - m = E.length - (m + 1) + 1 := by omega
  generalize hi : E.length - (m + 1) = i at *
  have hmem := List.getElem_mem hlt
  refine pair_at (hL1.lst hve) hlt fun b1 o1 h1 h1' => ldN2 h1 h1' ?_
  refine ⟨by kernel_rfl, ?_⟩
  show Calls Try.prog 23 #[.agg #[.int .i64 E[i].1, .int .i64 E[i].2], .pointer (some ⟨g, 0, none⟩)] w1 (rt _)
  apply cycle_Any_1_run
  simp only [cycle_Any_1, Value.cells]
  refine al_lit fun g2 W2 hL2 hg2 hg2s => ?_
  refine ixArr (by decide) (by decide) ?_
  refine ldC_heap hg2 (v := .int .i64 E[i].1) rfl ?_
  refine ldC_heap (hL2.heap hg1) (v := ve) rfl ?_
  refine On_from (hE _ hmem).1 hE hn (hL2.lst (hL1.lst hve)) fun v l w3 hL3 hon hl hr => ?_
  refine (lst_row hr).len ?_
  simp only [iw_add, iw_sub, iw_mul, iw_lss, iw_leq, iw_gtr, iw_geq, iw_eql, iw_neq, iw_quo, iw_rem, un_not, len_s, len_l, nck_p, fld_p, cv_i, unc_c, ex_0, ex_1, ex_2, st_eq, st_ne, brV_true, brV_false, brV_b, brV_not, one_one, nil_p, nil_pn, nil_n, nil_nn, decide_eq_true_eq, true_and, nb_ite, bs_size, Nat.zero_add, Bool.not_true, Bool.not_false, Bool.false_eq_true, eq_self, if_true, if_false, jn]
  have hL13 : Later w w3 := (hL1.tr hL2).tr hL3
  by_cases hl0 : l = []
  · have hnc := hon.nil_iff.1 hl0
    subst hl0
    rw [if_neg (by decide), wrap64 (by omega) (by omega)]
    refine ih m _ _ (by simp) ⟨by rw [hmi]; rfl, by omega, ?_, hL13, hL3.heap (hL2.heap hg1)⟩
    rw [hmi, List.take_add_one, List.getElem?_eq_getElem hlt]
    intro e he
    rcases List.mem_append.1 he with he | he
    · exact hno e he
    · simp at he; subst he; exact hnc
  · have hc : cyc E E[i].1 := Classical.not_not.1 fun h => hl0 (hon.nil_iff.2 h)
    have hpos : 0 < l.length := List.length_pos_iff.2 hl0
    rw [if_pos (by omega)]
    have := hk true w3 hL13 (by simp only [true_iff]; exact ⟨E[i], hmem, hc⟩)
    have e1 : decide ((i : Int) ≥ 0) = true := decide_eq_true (by omega)
    rw [e1]
    exact this
/-- What one comes to stays within what is closed. -/
theorem tg_closed {nx : Int → List Int} {a b : Int} {C : Int → Prop} (hC : ∀ x y, (x = a ∨ C x) → y ∈ nx x → C y) (h : TG nx a b) : C b := by
  induction h with
  | single h1 => exact hC _ _ (.inl rfl) h1
  | tail _ h1 ih => exact hC _ _ (.inr ih) h1
def E3 : List Pr := [(1, 2), (2, 1), (3, 1)]
def E2 : List Pr := [(1, 2), (2, 1)]
theorem on31 : IsOn E3 1 [1, 2] where
  rise := by decide
  mem := fun x => by
    have h12 : TG (sd false E3) 1 2 := .single (by decide)
    have h21 : TG (sd false E3) 2 1 := .single (by decide)
    constructor
    · intro h
      simp at h
      rcases h with rfl | rfl
      · exact ⟨tg_trans h12 h21, tg_trans h12 h21⟩
      · exact ⟨h12, h21⟩
    · rintro ⟨h, _⟩
      have := tg_closed (nx := sd false E3) (a := 1) (C := fun y => y = 1 ∨ y = 2) (fun x y hx hy => by
        have : x = 1 ∨ x = 2 := by
          rcases hx with hx | hx
          · exact .inl hx
          · exact hx
        rcases this with rfl | rfl <;> simp [E3, sd, kyE, otE] at hy <;> simp [hy]) h
      simpa using this
theorem on33 : IsOn E3 3 [] where
  rise := by decide
  mem := fun x => by
    constructor
    · intro h; cases h
    · rintro ⟨h, h'⟩
      have h3 : TG (sd false E3) 3 3 := tg_trans h h'
      have := tg_closed (C := fun y => y = 1 ∨ y = 2) (fun x y hx hy => by
        have : x = 3 ∨ x = 1 ∨ x = 2 := hx
        rcases this with rfl | rfl | rfl <;> simp [E3, sd, kyE, otE] at hy <;> simp [hy]) h3
      simp at this
theorem on21 : IsOn E2 1 [1, 2] where
  rise := by decide
  mem := fun x => by
    have h12 : TG (sd false E2) 1 2 := .single (by decide)
    have h21 : TG (sd false E2) 2 1 := .single (by decide)
    constructor
    · intro h
      simp at h
      rcases h with rfl | rfl
      · exact ⟨tg_trans h12 h21, tg_trans h12 h21⟩
      · exact ⟨h12, h21⟩
    · rintro ⟨h, _⟩
      have := tg_closed (nx := sd false E2) (a := 1) (C := fun y => y = 1 ∨ y = 2) (fun x y hx hy => by
        have : x = 1 ∨ x = 2 := by
          rcases hx with hx | hx
          · exact .inl hx
          · exact hx
        rcases this with rfl | rfl <;> simp [E2, sd, kyE, otE] at hy <;> simp [hy]) h
      simpa using this
theorem any55 : ∃ e ∈ ([(5, 5)] : List Pr), cyc [(5, 5)] e.1 := ⟨(5, 5), by simp, .single (by decide)⟩
theorem any12 : ¬ ∃ e ∈ ([(1, 2)] : List Pr), cyc [(1, 2)] e.1 := by
  rintro ⟨e, he, hc⟩
  simp at he
  subst he
  have := tg_closed (C := fun y => y = 2) (fun x y hx hy => by
    have : x = 1 ∨ x = 2 := hx
    rcases this with rfl | rfl <;> simp [sd, kyE, otE] at hy <;> simp [hy]) hc
  simp at this
theorem inR_small {x : Int} (h : -1000 ≤ x ∧ x ≤ 1000) : InR x := ⟨by omega, by omega⟩
theorem lit_pairs {E : List Pr} {parts : List (Nat × Value)} {w : World} {k : Value → World → Prop} (hf : Instr.fill (fun i => some (i * 2, 2)) ((Array.range (E.length * 2)).map (#[Value.int .i64 0, Value.int .i64 0][· % #[Value.int .i64 0, Value.int .i64 0].size]!)) parts = some (px E).toArray) (hn : E.length ≤ 100)
    (hk : ∀ v W, Later w W → Lst W v E.length (px E) → k v W) : blS 43 2 #[.int .i64 0, .int .i64 0] E.length parts w k :=
  blS_lit (px E).toArray hf (by simp) (by simp only [maxLen]; omega) fun v W hL hr _ => hk v W hL (lst_row (by simpa using hr))
theorem alive17_from {w : World} {k : Value → World → Prop} (hk : ∀ w', Later w w' → k (.bool true) w') :
    callW Try.prog (.func (.func 4) #[] #[]) [] w k := by
  apply honeycomblaw17_alive_call
  apply honeycomblaw17_alive_run
  simp only [honeycomblaw17_alive]
  have hE3 : ∀ e ∈ E3, InR e.1 ∧ InR e.2 := by intro e he; simp [E3] at he; rcases he with rfl | rfl | rfl <;> exact ⟨inR_small (by decide), inR_small (by decide)⟩
  have hE2 : ∀ e ∈ E2, InR e.1 ∧ InR e.2 := by intro e he; simp [E2] at he; rcases he with rfl | rfl <;> exact ⟨inR_small (by decide), inR_small (by decide)⟩
  refine build2 (build2 (build2 (lit_pairs (E := E3) (by simp [Instr.fill, Value.cells, px, E3]; apply Array.ext'; simp [List.range, List.range.loop]) (by decide) fun v1 w1 hL1 hv1 => ?_)))
  refine Victim_from (inR_small (by decide)) hE3 (by decide) hv1 fun l w2 hL2 hon => ?_
  obtain rfl := hon.unique on31
  simp only [iw_add, iw_sub, iw_mul, iw_lss, iw_leq, iw_gtr, iw_geq, iw_eql, iw_neq, iw_quo, iw_rem, un_not, len_s, len_l, nck_p, fld_p, cv_i, unc_c, ex_0, ex_1, ex_2, st_eq, st_ne, brV_true, brV_false, brV_b, brV_not, one_one, nil_p, nil_pn, nil_n, nil_nn, decide_eq_true_eq, true_and, nb_ite, bs_size, Nat.zero_add, Bool.not_true, Bool.not_false, Bool.false_eq_true, eq_self, if_true, if_false, jn]
  refine build2 (build2 (build2 (lit_pairs (E := E3) (by simp [Instr.fill, Value.cells, px, E3]; apply Array.ext'; simp [List.range, List.range.loop]) (by decide) fun v3 w3 hL3 hv3 => ?_)))
  refine Victim_from (inR_small (by decide)) hE3 (by decide) hv3 fun l w4 hL4 hon => ?_
  obtain rfl := hon.unique on33
  simp only [iw_add, iw_sub, iw_mul, iw_lss, iw_leq, iw_gtr, iw_geq, iw_eql, iw_neq, iw_quo, iw_rem, un_not, len_s, len_l, nck_p, fld_p, cv_i, unc_c, ex_0, ex_1, ex_2, st_eq, st_ne, brV_true, brV_false, brV_b, brV_not, one_one, nil_p, nil_pn, nil_n, nil_nn, decide_eq_true_eq, true_and, nb_ite, bs_size, Nat.zero_add, Bool.not_true, Bool.not_false, Bool.false_eq_true, eq_self, if_true, if_false, jn, List.isEmpty_cons, List.isEmpty_nil, List.getLastD]
  refine build2 (build2 (lit_pairs (E := E2) (by simp [Instr.fill, Value.cells, px, E2]; apply Array.ext'; simp [List.range, List.range.loop]) (by decide) fun v5 w5 hL5 hv5 => ?_))
  refine On_from (inR_small (by decide)) hE2 (by decide) hv5 fun v6 l w6 hL6 hon hl hr => ?_
  obtain rfl := hon.unique on21
  refine blS_lit (ix [1, 2]).toArray (by simp [Instr.fill, Value.cells, ix]; apply Array.ext'; simp [List.range, List.range.loop]) rfl (by decide) fun v7 w7 hL7 hr7 _ => ?_
  refine SameInts_from (la := [1, 2]) (lb := [1, 2]) (hL7.lst (lst_row hr)) (lst_row hr7) (by decide) fun w8 hL8 => ?_
  simp only [iw_add, iw_sub, iw_mul, iw_lss, iw_leq, iw_gtr, iw_geq, iw_eql, iw_neq, iw_quo, iw_rem, un_not, len_s, len_l, nck_p, fld_p, cv_i, unc_c, ex_0, ex_1, ex_2, st_eq, st_ne, brV_true, brV_false, brV_b, brV_not, one_one, nil_p, nil_pn, nil_n, nil_nn, decide_eq_true_eq, true_and, nb_ite, bs_size, Nat.zero_add, Bool.not_true, Bool.not_false, Bool.false_eq_true, eq_self, if_true, if_false, jn, decide_true]
  refine build2 (lit_pairs (E := [(5, 5)]) (by simp [Instr.fill, Value.cells, px]; apply Array.ext'; simp [List.range, List.range.loop]) (by decide) fun v9 w9 hL9 hv9 => ?_)
  refine Any_from (by intro e he; simp at he; subst he; exact ⟨inR_small (by decide), inR_small (by decide)⟩) (by decide) hv9 fun b w10 hL10 hb => ?_
  obtain rfl := hb.2 any55
  simp only [iw_add, iw_sub, iw_mul, iw_lss, iw_leq, iw_gtr, iw_geq, iw_eql, iw_neq, iw_quo, iw_rem, un_not, len_s, len_l, nck_p, fld_p, cv_i, unc_c, ex_0, ex_1, ex_2, st_eq, st_ne, brV_true, brV_false, brV_b, brV_not, one_one, nil_p, nil_pn, nil_n, nil_nn, decide_eq_true_eq, true_and, nb_ite, bs_size, Nat.zero_add, Bool.not_true, Bool.not_false, Bool.false_eq_true, eq_self, if_true, if_false, jn]
  refine build2 (lit_pairs (E := [(1, 2)]) (by simp [Instr.fill, Value.cells, px]; apply Array.ext'; simp [List.range, List.range.loop]) (by decide) fun v11 w11 hL11 hv11 => ?_)
  refine Any_from (by intro e he; simp at he; subst he; exact ⟨inR_small (by decide), inR_small (by decide)⟩) (by decide) hv11 fun b w12 hL12 hb => ?_
  obtain rfl : b = false := by
    cases b with
    | false => rfl
    | true => exact absurd (hb.1 rfl) any12
  simp only [iw_add, iw_sub, iw_mul, iw_lss, iw_leq, iw_gtr, iw_geq, iw_eql, iw_neq, iw_quo, iw_rem, un_not, len_s, len_l, nck_p, fld_p, cv_i, unc_c, ex_0, ex_1, ex_2, st_eq, st_ne, brV_true, brV_false, brV_b, brV_not, one_one, nil_p, nil_pn, nil_n, nil_nn, decide_eq_true_eq, true_and, nb_ite, bs_size, Nat.zero_add, Bool.not_true, Bool.not_false, Bool.false_eq_true, eq_self, if_true, if_false, jn]
  exact hk w12 (((((((((((hL1.tr hL2).tr hL3).tr hL4).tr hL5).tr hL6).tr hL7).tr hL8).tr hL9).tr hL10).tr hL11).tr hL12)
end Go.Proofs.Ytlicdhdpngahgaa
