/- Whether a record may be: record.Right. -/
import Derived.Test.YtlicdhdpngahgaaDoorEqS
set_option linter.unusedVariables false
set_option linter.unusedSimpArgs false
namespace Go.Proofs.YtlicdhdpngahgaaDoor
open Go.Eng Go.RowKit
theorem in_from {v m : Int} {w : World} {k : Value → World → Prop} (hk : k (.bool (decide (0 ≤ v ∧ v ≤ m))) w) :
    callW Tryd.prog (.func (.func 54) #[] #[]) [.int .i64 v, .int .i64 m] w k := by
  apply record_in_call
  apply record_in_run
  simp only [record_in, iw_add, iw_sub, iw_mul, iw_lss, iw_leq, iw_gtr, iw_geq, iw_eql, iw_neq, iw_quo, iw_rem, un_not, len_s, len_l, nck_p, fld_p, cv_i, unc_c, ex_0, ex_1, ex_2, st_eq, st_ne, brV_true, brV_false, brV_b, brV_not, one_one, nil_p, nil_pn, nil_n, nil_nn, decide_eq_true_eq, true_and, nb_ite, bs_size, Nat.zero_add, Bool.not_true, Bool.not_false, Bool.false_eq_true, eq_self, if_true, if_false, jn]
  by_cases h : v ≥ 0
  · rw [if_pos h]
    have : decide (0 ≤ v ∧ v ≤ m) = decide (v ≤ m) := by
      congr 1
      exact propext ⟨fun h => h.2, fun h2 => ⟨h, h2⟩⟩
    rwa [this] at hk
  · rw [if_neg h]
    have : decide (0 ≤ v ∧ v ≤ m) = false := decide_eq_false fun h2 => h h2.1
    rwa [this] at hk
/-- A search by a test that tells, and turns nothing old. -/
theorem anyInt_from {l : List Int} {v f : Value} {p : Int → Bool} {w : World} {k : Value → World → Prop} (hl : Lst w v l.length (ix l)) (hn : l.length ≤ 1000000) 
    (hf : ∀ x (k' : Value → World → Prop), k' (.bool (p x)) w → callW Tryd.prog f [.int .i64 x] w k')
    (hk : k (.bool (l.any p)) w) : callW Tryd.prog (.func (.func 84) #[] #[]) [v, f] w k := by
  apply slices_ContainsFunc_int_int_call
  apply slices_ContainsFunc_int_int_run
  simp only [slices_ContainsFunc_int_int]
  apply slices_IndexFunc_int_int_call
  apply slices_IndexFunc_int_int_run
  simp only [slices_IndexFunc_int_int]
  refine hl.len ?_
  refine lp_ind _ (fun (m : Nat) r w1 => r = [v, f, .int .i64 l.length, .int .i64 ((l.length - m : Nat) : Int)] ∧ m ≤ l.length ∧ (l.take (l.length - m)).any p = false ∧ w1 = w) id ?_ (i := l.length) ⟨by simp, Nat.le_refl _, by simp, rfl⟩
  rintro m r w1 rec ⟨rfl, hm, hno, rfl⟩ ih
  simp only [slices_IndexFunc_int_int_L2, iw_add, iw_sub, iw_mul, iw_lss, iw_leq, iw_gtr, iw_geq, iw_eql, iw_neq, iw_quo, iw_rem, un_not, len_s, len_l, nck_p, fld_p, cv_i, unc_c, ex_0, ex_1, ex_2, st_eq, st_ne, brV_true, brV_false, brV_b, brV_not, one_one, nil_p, nil_pn, nil_n, nil_nn, decide_eq_true_eq, true_and, nb_ite, bs_size, Nat.zero_add, Bool.not_true, Bool.not_false, Bool.false_eq_true, eq_self, if_true, if_false, jn]
  by_cases h0 : m = 0
  · subst h0
    rw [if_neg (by omega)]
    rw [Nat.sub_zero, List.take_length] at hno
    rw [hno] at hk
    exact hk
  obtain ⟨m, rfl⟩ : ∃ q, m = q + 1 := ⟨m - 1, by omega⟩
  rw [if_pos (by omega)]
  have hlt : l.length - (m + 1) < l.length := by omega
  have hmi : l.length - m = l.length - (m + 1) + 1 := by omega
  generalize hi : l.length - (m + 1) = i at *
  refine hl.at1 (ix_get hlt) hlt fun a ha _ => ⟨_, ha, hf _ _ ?_⟩
  simp only [iw_add, iw_sub, iw_mul, iw_lss, iw_leq, iw_gtr, iw_geq, iw_eql, iw_neq, iw_quo, iw_rem, un_not, len_s, len_l, nck_p, fld_p, cv_i, unc_c, ex_0, ex_1, ex_2, st_eq, st_ne, brV_true, brV_false, brV_b, brV_not, one_one, nil_p, nil_pn, nil_n, nil_nn, decide_eq_true_eq, true_and, nb_ite, bs_size, Nat.zero_add, Bool.not_true, Bool.not_false, Bool.false_eq_true, eq_self, if_true, if_false, jn]
  by_cases hp : p l[i] = true
  · rw [if_pos hp]
    have hany : l.any p = true := List.any_eq_true.2 ⟨_, List.getElem_mem hlt, hp⟩
    rw [hany] at hk
    have : decide ((i : Int) ≥ 0) = true := decide_eq_true (by omega)
    rw [this]
    exact hk
  · rw [if_neg hp, wrap64 (by omega) (by omega)]
    refine ih m _ _ (by simp) ⟨by rw [hmi]; rfl, by omega, ?_, rfl⟩
    rw [hmi, List.take_add_one, List.getElem?_eq_getElem hlt, List.any_append, hno]
    simp [hp]
theorem pages_from {l : List Int} {v : Value} {w : World} {k : Value → World → Prop} (hl : Lst w v l.length (ix l)) (hk : k (.bool (decide (pagesOk l))) w) :
    callW Tryd.prog (.func (.func 56) #[] #[]) [v] w k := by
  apply record_pages_call
  apply record_pages_run
  simp only [record_pages]
  refine hl.len ?_
  simp only [iw_add, iw_sub, iw_mul, iw_lss, iw_leq, iw_gtr, iw_geq, iw_eql, iw_neq, iw_quo, iw_rem, un_not, len_s, len_l, nck_p, fld_p, cv_i, unc_c, ex_0, ex_1, ex_2, st_eq, st_ne, brV_true, brV_false, brV_b, brV_not, one_one, nil_p, nil_pn, nil_n, nil_nn, decide_eq_true_eq, true_and, nb_ite, bs_size, Nat.zero_add, Bool.not_true, Bool.not_false, Bool.false_eq_true, eq_self, if_true, if_false, jn]
  by_cases h : (l.length : Int) ≤ 64
  rotate_left
  · rw [if_neg h]
    have : decide (pagesOk l) = false := decide_eq_false fun h2 => h (by have := h2.1; omega)
    rwa [this] at hk
  rw [if_pos h]
  refine anyInt_from (p := fun x => !decide (in2 x)) hl (by omega) (fun x k' hk' => ?_) ?_
  · apply record_pages_1_call
    apply record_pages_1_run
    simp only [record_pages_1]
    refine in_from ?_
    simp only [iw_add, iw_sub, iw_mul, iw_lss, iw_leq, iw_gtr, iw_geq, iw_eql, iw_neq, iw_quo, iw_rem, un_not, len_s, len_l, nck_p, fld_p, cv_i, unc_c, ex_0, ex_1, ex_2, st_eq, st_ne, brV_true, brV_false, brV_b, brV_not, one_one, nil_p, nil_pn, nil_n, nil_nn, decide_eq_true_eq, true_and, nb_ite, bs_size, Nat.zero_add, Bool.not_true, Bool.not_false, Bool.false_eq_true, eq_self, if_true, if_false, jn]
    exact hk'
  · simp only [iw_add, iw_sub, iw_mul, iw_lss, iw_leq, iw_gtr, iw_geq, iw_eql, iw_neq, iw_quo, iw_rem, un_not, len_s, len_l, nck_p, fld_p, cv_i, unc_c, ex_0, ex_1, ex_2, st_eq, st_ne, brV_true, brV_false, brV_b, brV_not, one_one, nil_p, nil_pn, nil_n, nil_nn, decide_eq_true_eq, true_and, nb_ite, bs_size, Nat.zero_add, Bool.not_true, Bool.not_false, Bool.false_eq_true, eq_self, if_true, if_false, jn]
    have : (!(l.any fun x => !decide (in2 x))) = decide (pagesOk l) := by
      rw [Bool.eq_iff_iff, decide_eq_true_eq]
      simp only [Bool.not_eq_true', List.any_eq_false, decide_eq_true_eq, pagesOk, Bool.not_eq_eq_eq_not, Bool.not_true, decide_eq_false_iff_not, Classical.not_not]
      exact ⟨fun h2 => ⟨by omega, h2⟩, fun h2 => h2.2⟩
    rw [this]
    exact hk
theorem key_from {s : List UInt8} {w : World} {k : Value → World → Prop} (hk : k (.bool (decide (s ≠ [] ∧ s.length ≤ 16))) w) :
    callW Tryd.prog (.func (.func 83) #[] #[]) [.string (bs s)] w k := by
  apply fnv_Key_call
  apply fnv_Key_run
  simp only [fnv_Key, show (⟨#[]⟩ : ByteArray) = bs [] from rfl, iw_add, iw_sub, iw_mul, iw_lss, iw_leq, iw_gtr, iw_geq, iw_eql, iw_neq, iw_quo, iw_rem, un_not, len_s, len_l, nck_p, fld_p, cv_i, unc_c, ex_0, ex_1, ex_2, st_eq, st_ne, brV_true, brV_false, brV_b, brV_not, one_one, nil_p, nil_pn, nil_n, nil_nn, decide_eq_true_eq, true_and, nb_ite, bs_size, Nat.zero_add, Bool.not_true, Bool.not_false, Bool.false_eq_true, eq_self, if_true, if_false, jn]
  by_cases h : s = []
  · rw [if_pos h]
    have : decide (s ≠ [] ∧ s.length ≤ 16) = false := decide_eq_false fun h2 => h2.1 h
    rwa [this] at hk
  · rw [if_neg h]
    have : decide (s ≠ [] ∧ s.length ≤ 16) = decide ((s.length : Int) ≤ 16) := by
      congr 1
      exact propext ⟨fun h2 => by omega, fun h2 => ⟨h, by omega⟩⟩
    rwa [this] at hk
theorem bool_of {b : Bool} {p : Prop} [Decidable p] {k : Value → Prop} (h : k (.bool (decide p))) (hp : b = true ↔ p) : k (.bool b) := by
  have : b = decide p := by rw [Bool.eq_iff_iff, decide_eq_true_eq]; exact hp
  rwa [this]
theorem cellR_from {key val : List UInt8} {bl sz : Int} {w : World} {k : Value → World → Prop} (hk : ∀ w', Later w w' → k (.bool (decide (cellOk key val bl sz))) w') :
    callW Tryd.prog (.func (.func 55) #[] #[]) [.agg #[.string (bs key), .string (bs val), .int .i64 bl, .int .i64 sz]] w k := by
  apply cell_Right_call
  apply cell_Right_run
  simp only [cell_Right, Value.cells]
  refine al_lit fun g W hL hg hgs => ?_
  have hk := hk W hL
  have hno : ¬ cellOk key val bl sz → k (.bool false) W := fun h => by rwa [decide_eq_false h] at hk
  have hgo : ∀ b : Bool, (b = true ↔ cellOk key val bl sz) → k (.bool b) W := fun b h => bool_of (k := fun v => k v W) hk h
  simp only [iw_add, iw_sub, iw_mul, iw_lss, iw_leq, iw_gtr, iw_geq, iw_eql, iw_neq, iw_quo, iw_rem, un_not, len_s, len_l, nck_p, fld_p, cv_i, unc_c, ex_0, ex_1, ex_2, st_eq, st_ne, brV_true, brV_false, brV_b, brV_not, one_one, nil_p, nil_pn, nil_n, nil_nn, decide_eq_true_eq, true_and, nb_ite, bs_size, Nat.zero_add, Bool.not_true, Bool.not_false, Bool.false_eq_true, eq_self, if_true, if_false, jn]
  refine ldC_heap hg (v := .string (bs key)) rfl (key_from ?_)
  simp only [iw_add, iw_sub, iw_mul, iw_lss, iw_leq, iw_gtr, iw_geq, iw_eql, iw_neq, iw_quo, iw_rem, un_not, len_s, len_l, nck_p, fld_p, cv_i, unc_c, ex_0, ex_1, ex_2, st_eq, st_ne, brV_true, brV_false, brV_b, brV_not, one_one, nil_p, nil_pn, nil_n, nil_nn, decide_eq_true_eq, true_and, nb_ite, bs_size, Nat.zero_add, Bool.not_true, Bool.not_false, Bool.false_eq_true, eq_self, if_true, if_false, jn]
  by_cases hkey : key ≠ [] ∧ key.length ≤ 16
  rotate_left
  · rw [if_neg (by simpa using hkey)]
    exact hno fun h => hkey h.1
  rw [if_pos (by simpa using hkey)]
  refine ldC_heap hg (v := .int .i64 bl) rfl ?_
  simp only [iw_add, iw_sub, iw_mul, iw_lss, iw_leq, iw_gtr, iw_geq, iw_eql, iw_neq, iw_quo, iw_rem, un_not, len_s, len_l, nck_p, fld_p, cv_i, unc_c, ex_0, ex_1, ex_2, st_eq, st_ne, brV_true, brV_false, brV_b, brV_not, one_one, nil_p, nil_pn, nil_n, nil_nn, decide_eq_true_eq, true_and, nb_ite, bs_size, Nat.zero_add, Bool.not_true, Bool.not_false, Bool.false_eq_true, eq_self, if_true, if_false, jn]
  by_cases hb : bl = 0
  · rw [if_pos hb]
    refine ldC_heap hg (v := .string (bs val)) rfl ?_
    simp only [iw_add, iw_sub, iw_mul, iw_lss, iw_leq, iw_gtr, iw_geq, iw_eql, iw_neq, iw_quo, iw_rem, un_not, len_s, len_l, nck_p, fld_p, cv_i, unc_c, ex_0, ex_1, ex_2, st_eq, st_ne, brV_true, brV_false, brV_b, brV_not, one_one, nil_p, nil_pn, nil_n, nil_nn, decide_eq_true_eq, true_and, nb_ite, bs_size, Nat.zero_add, Bool.not_true, Bool.not_false, Bool.false_eq_true, eq_self, if_true, if_false, jn]
    by_cases hv : (val.length : Int) ≤ 40
    rotate_left
    · rw [if_neg hv]
      refine hno fun h => ?_
      rcases h.2 with h2 | h2 <;> omega
    rw [if_pos hv]
    refine ldC_heap hg (v := .int .i64 sz) rfl ?_
    simp only [iw_add, iw_sub, iw_mul, iw_lss, iw_leq, iw_gtr, iw_geq, iw_eql, iw_neq, iw_quo, iw_rem, un_not, len_s, len_l, nck_p, fld_p, cv_i, unc_c, ex_0, ex_1, ex_2, st_eq, st_ne, brV_true, brV_false, brV_b, brV_not, one_one, nil_p, nil_pn, nil_n, nil_nn, decide_eq_true_eq, true_and, nb_ite, bs_size, Nat.zero_add, Bool.not_true, Bool.not_false, Bool.false_eq_true, eq_self, if_true, if_false, jn]
    refine hgo _ ?_
    rw [decide_eq_true_eq]
    exact ⟨fun h => ⟨hkey, .inl ⟨hb, by omega, h⟩⟩, fun h => by rcases h.2 with h2 | h2 <;> omega⟩
  rw [if_neg hb]
  refine ldC_heap hg (v := .int .i64 bl) rfl ?_
  simp only [iw_add, iw_sub, iw_mul, iw_lss, iw_leq, iw_gtr, iw_geq, iw_eql, iw_neq, iw_quo, iw_rem, un_not, len_s, len_l, nck_p, fld_p, cv_i, unc_c, ex_0, ex_1, ex_2, st_eq, st_ne, brV_true, brV_false, brV_b, brV_not, one_one, nil_p, nil_pn, nil_n, nil_nn, decide_eq_true_eq, true_and, nb_ite, bs_size, Nat.zero_add, Bool.not_true, Bool.not_false, Bool.false_eq_true, eq_self, if_true, if_false, jn]
  by_cases h2 : bl ≥ 2
  rotate_left
  · rw [if_neg h2]
    exact hno fun h => by rcases h.2 with h3 | h3 <;> omega
  rw [if_pos h2]
  refine ldC_heap hg (v := .int .i64 bl) rfl ?_
  simp only [iw_add, iw_sub, iw_mul, iw_lss, iw_leq, iw_gtr, iw_geq, iw_eql, iw_neq, iw_quo, iw_rem, un_not, len_s, len_l, nck_p, fld_p, cv_i, unc_c, ex_0, ex_1, ex_2, st_eq, st_ne, brV_true, brV_false, brV_b, brV_not, one_one, nil_p, nil_pn, nil_n, nil_nn, decide_eq_true_eq, true_and, nb_ite, bs_size, Nat.zero_add, Bool.not_true, Bool.not_false, Bool.false_eq_true, eq_self, if_true, if_false, jn]
  by_cases h3 : bl < 64
  rotate_left
  · rw [if_neg h3]
    exact hno fun h => by rcases h.2 with h4 | h4 <;> omega
  rw [if_pos h3]
  refine ldC_heap hg (v := .string (bs val)) rfl ?_
  simp only [show (⟨#[]⟩ : ByteArray) = bs [] from rfl, iw_add, iw_sub, iw_mul, iw_lss, iw_leq, iw_gtr, iw_geq, iw_eql, iw_neq, iw_quo, iw_rem, un_not, len_s, len_l, nck_p, fld_p, cv_i, unc_c, ex_0, ex_1, ex_2, st_eq, st_ne, brV_true, brV_false, brV_b, brV_not, one_one, nil_p, nil_pn, nil_n, nil_nn, decide_eq_true_eq, true_and, nb_ite, bs_size, Nat.zero_add, Bool.not_true, Bool.not_false, Bool.false_eq_true, eq_self, if_true, if_false, jn]
  by_cases h4 : val = []
  rotate_left
  · rw [if_neg h4]
    refine hno fun h => ?_
    rcases h.2 with h5 | h5
    · omega
    · exact h4 h5.2.2.1
  rw [if_pos h4]
  refine ldC_heap hg (v := .int .i64 sz) rfl ?_
  simp only [iw_add, iw_sub, iw_mul, iw_lss, iw_leq, iw_gtr, iw_geq, iw_eql, iw_neq, iw_quo, iw_rem, un_not, len_s, len_l, nck_p, fld_p, cv_i, unc_c, ex_0, ex_1, ex_2, st_eq, st_ne, brV_true, brV_false, brV_b, brV_not, one_one, nil_p, nil_pn, nil_n, nil_nn, decide_eq_true_eq, true_and, nb_ite, bs_size, Nat.zero_add, Bool.not_true, Bool.not_false, Bool.false_eq_true, eq_self, if_true, if_false, jn]
  by_cases h5 : sz > 40
  rotate_left
  · rw [if_neg h5]
    exact hno fun h => by rcases h.2 with h6 | h6 <;> omega
  rw [if_pos h5]
  refine ldC_heap hg (v := .int .i64 sz) rfl ?_
  simp only [iw_add, iw_sub, iw_mul, iw_lss, iw_leq, iw_gtr, iw_geq, iw_eql, iw_neq, iw_quo, iw_rem, un_not, len_s, len_l, nck_p, fld_p, cv_i, unc_c, ex_0, ex_1, ex_2, st_eq, st_ne, brV_true, brV_false, brV_b, brV_not, one_one, nil_p, nil_pn, nil_n, nil_nn, decide_eq_true_eq, true_and, nb_ite, bs_size, Nat.zero_add, Bool.not_true, Bool.not_false, Bool.false_eq_true, eq_self, if_true, if_false, jn]
  refine hgo _ ?_
  rw [decide_eq_true_eq]
  exact ⟨fun h => ⟨hkey, .inr ⟨h2, h3, h4, h5, h⟩⟩, fun h => by rcases h.2 with h6 | h6 <;> omega⟩
theorem patR_from {p : Pat} {w : World} {k : Value → World → Prop} (hk : ∀ w', Later w w' → k (.bool (decide (patOk p))) w') :
    callW Tryd.prog (.func (.func 57) #[] #[]) [.agg #[.int .i64 p.page, .int .i64 p.at_, .string (bs p.byt)]] w k := by
  apply patch_Right_call
  apply patch_Right_run
  simp only [patch_Right, Value.cells]
  refine al_lit fun g W hL hg hgs => ?_
  have hk := hk W hL
  have hno : ¬ patOk p → k (.bool false) W := fun h => by rwa [decide_eq_false h] at hk
  have hgo : ∀ b : Bool, (b = true ↔ patOk p) → k (.bool b) W := fun b h => bool_of (k := fun v => k v W) hk h
  simp only [iw_add, iw_sub, iw_mul, iw_lss, iw_leq, iw_gtr, iw_geq, iw_eql, iw_neq, iw_quo, iw_rem, un_not, len_s, len_l, nck_p, fld_p, cv_i, unc_c, ex_0, ex_1, ex_2, st_eq, st_ne, brV_true, brV_false, brV_b, brV_not, one_one, nil_p, nil_pn, nil_n, nil_nn, decide_eq_true_eq, true_and, nb_ite, bs_size, Nat.zero_add, Bool.not_true, Bool.not_false, Bool.false_eq_true, eq_self, if_true, if_false, jn]
  refine ldC_heap hg (v := .int .i64 p.page) rfl ?_
  simp only [iw_add, iw_sub, iw_mul, iw_lss, iw_leq, iw_gtr, iw_geq, iw_eql, iw_neq, iw_quo, iw_rem, un_not, len_s, len_l, nck_p, fld_p, cv_i, unc_c, ex_0, ex_1, ex_2, st_eq, st_ne, brV_true, brV_false, brV_b, brV_not, one_one, nil_p, nil_pn, nil_n, nil_nn, decide_eq_true_eq, true_and, nb_ite, bs_size, Nat.zero_add, Bool.not_true, Bool.not_false, Bool.false_eq_true, eq_self, if_true, if_false, jn]
  by_cases h1 : p.page ≥ 0
  rotate_left
  · rw [if_neg h1]; exact hno fun h => h1 h.1
  rw [if_pos h1]
  refine ldC_heap hg (v := .int .i64 p.page) rfl ?_
  simp only [iw_add, iw_sub, iw_mul, iw_lss, iw_leq, iw_gtr, iw_geq, iw_eql, iw_neq, iw_quo, iw_rem, un_not, len_s, len_l, nck_p, fld_p, cv_i, unc_c, ex_0, ex_1, ex_2, st_eq, st_ne, brV_true, brV_false, brV_b, brV_not, one_one, nil_p, nil_pn, nil_n, nil_nn, decide_eq_true_eq, true_and, nb_ite, bs_size, Nat.zero_add, Bool.not_true, Bool.not_false, Bool.false_eq_true, eq_self, if_true, if_false, jn]
  by_cases h2 : p.page < 64
  rotate_left
  · rw [if_neg h2]; exact hno fun h => h2 h.2.1
  rw [if_pos h2]
  refine ldC_heap hg (v := .int .i64 p.at_) rfl ?_
  simp only [iw_add, iw_sub, iw_mul, iw_lss, iw_leq, iw_gtr, iw_geq, iw_eql, iw_neq, iw_quo, iw_rem, un_not, len_s, len_l, nck_p, fld_p, cv_i, unc_c, ex_0, ex_1, ex_2, st_eq, st_ne, brV_true, brV_false, brV_b, brV_not, one_one, nil_p, nil_pn, nil_n, nil_nn, decide_eq_true_eq, true_and, nb_ite, bs_size, Nat.zero_add, Bool.not_true, Bool.not_false, Bool.false_eq_true, eq_self, if_true, if_false, jn]
  by_cases h3 : p.at_ ≥ 0
  rotate_left
  · rw [if_neg h3]; exact hno fun h => h3 h.2.2.1
  rw [if_pos h3]
  refine ldC_heap hg (v := .int .i64 p.at_) rfl ?_
  simp only [iw_add, iw_sub, iw_mul, iw_lss, iw_leq, iw_gtr, iw_geq, iw_eql, iw_neq, iw_quo, iw_rem, un_not, len_s, len_l, nck_p, fld_p, cv_i, unc_c, ex_0, ex_1, ex_2, st_eq, st_ne, brV_true, brV_false, brV_b, brV_not, one_one, nil_p, nil_pn, nil_n, nil_nn, decide_eq_true_eq, true_and, nb_ite, bs_size, Nat.zero_add, Bool.not_true, Bool.not_false, Bool.false_eq_true, eq_self, if_true, if_false, jn]
  by_cases h4 : p.at_ < 256
  rotate_left
  · rw [if_neg h4]; exact hno fun h => h4 h.2.2.2.1
  rw [if_pos h4]
  refine ldC_heap hg (v := .string (bs p.byt)) rfl ?_
  simp only [show (⟨#[]⟩ : ByteArray) = bs [] from rfl, iw_add, iw_sub, iw_mul, iw_lss, iw_leq, iw_gtr, iw_geq, iw_eql, iw_neq, iw_quo, iw_rem, un_not, len_s, len_l, nck_p, fld_p, cv_i, unc_c, ex_0, ex_1, ex_2, st_eq, st_ne, brV_true, brV_false, brV_b, brV_not, one_one, nil_p, nil_pn, nil_n, nil_nn, decide_eq_true_eq, true_and, nb_ite, bs_size, Nat.zero_add, Bool.not_true, Bool.not_false, Bool.false_eq_true, eq_self, if_true, if_false, jn]
  by_cases h5 : p.byt = []
  · rw [if_pos h5]; exact hno fun h => h.2.2.2.2.1 h5
  rw [if_neg h5]
  refine ldC_heap hg (v := .string (bs p.byt)) rfl ?_
  simp only [iw_add, iw_sub, iw_mul, iw_lss, iw_leq, iw_gtr, iw_geq, iw_eql, iw_neq, iw_quo, iw_rem, un_not, len_s, len_l, nck_p, fld_p, cv_i, unc_c, ex_0, ex_1, ex_2, st_eq, st_ne, brV_true, brV_false, brV_b, brV_not, one_one, nil_p, nil_pn, nil_n, nil_nn, decide_eq_true_eq, true_and, nb_ite, bs_size, Nat.zero_add, Bool.not_true, Bool.not_false, Bool.false_eq_true, eq_self, if_true, if_false, jn]
  refine ldC_heap hg (v := .int .i64 p.at_) rfl ?_
  simp only [iw_add, iw_sub, iw_mul, iw_lss, iw_leq, iw_gtr, iw_geq, iw_eql, iw_neq, iw_quo, iw_rem, un_not, len_s, len_l, nck_p, fld_p, cv_i, unc_c, ex_0, ex_1, ex_2, st_eq, st_ne, brV_true, brV_false, brV_b, brV_not, one_one, nil_p, nil_pn, nil_n, nil_nn, decide_eq_true_eq, true_and, nb_ite, bs_size, Nat.zero_add, Bool.not_true, Bool.not_false, Bool.false_eq_true, eq_self, if_true, if_false, jn]
  rw [wrap64 (by omega) (by omega)]
  refine hgo _ ?_
  rw [decide_eq_true_eq]
  exact ⟨fun h => ⟨h1, h2, h3, h4, h5, h⟩, fun h => h.2.2.2.2.2⟩
theorem anyDirt_from {l : List (Int × Int)} {v f : Value} {p : Int × Int → Bool} {w : World} {k : Value → World → Prop} (hl : Lst w v l.length (dx l)) (hn : l.length ≤ 1000000)
    (hf : ∀ x w1 (k' : Value → World → Prop), Later w w1 → (∀ w2, Later w1 w2 → k' (.bool (p x)) w2) → callW Tryd.prog f [.agg #[.int .i64 x.1, .int .i64 x.2]] w1 k')
    (hk : ∀ w', Later w w' → k (.bool (l.any p)) w') : callW Tryd.prog (.func (.func 58) #[] #[]) [v, f] w k := by
  apply slices_ContainsFunc_api_DirtyInfo_api_DirtyInfo_call
  apply slices_ContainsFunc_api_DirtyInfo_api_DirtyInfo_run
  simp only [slices_ContainsFunc_api_DirtyInfo_api_DirtyInfo]
  apply slices_IndexFunc_api_DirtyInfo_api_DirtyInfo_call
  apply slices_IndexFunc_api_DirtyInfo_api_DirtyInfo_run
  simp only [slices_IndexFunc_api_DirtyInfo_api_DirtyInfo]
  refine hl.len ?_
  refine lp_ind _ (fun (m : Nat) r w1 => r = [v, f, .int .i64 l.length, .int .i64 ((l.length - m : Nat) : Int)] ∧ m ≤ l.length ∧ (l.take (l.length - m)).any p = false ∧ Later w w1) id ?_ (i := l.length) ⟨by simp, Nat.le_refl _, by simp, Later.refl w⟩
  rintro m r w1 rec ⟨rfl, hm, hno, hL⟩ ih
  simp only [slices_IndexFunc_api_DirtyInfo_api_DirtyInfo_L2, iw_add, iw_sub, iw_mul, iw_lss, iw_leq, iw_gtr, iw_geq, iw_eql, iw_neq, iw_quo, iw_rem, un_not, len_s, len_l, nck_p, fld_p, cv_i, unc_c, ex_0, ex_1, ex_2, st_eq, st_ne, brV_true, brV_false, brV_b, brV_not, one_one, nil_p, nil_pn, nil_n, nil_nn, decide_eq_true_eq, true_and, nb_ite, bs_size, Nat.zero_add, Bool.not_true, Bool.not_false, Bool.false_eq_true, eq_self, if_true, if_false, jn]
  by_cases h0 : m = 0
  · subst h0
    rw [if_neg (by omega)]
    rw [Nat.sub_zero, List.take_length] at hno
    have := hk w1 hL
    rw [hno] at this
    exact this
  obtain ⟨m, rfl⟩ : ∃ q, m = q + 1 := ⟨m - 1, by omega⟩
  rw [if_pos (by omega)]
  have hlt : l.length - (m + 1) < l.length := by omega
  have hmi : l.length - m = l.length - (m + 1) + 1 := by omega
  generalize hi : l.length - (m + 1) = i at *
  refine dirt_at (hL.lst hl) hlt fun b o h1 h2 => ldNp h1 h2 (hf _ _ _ hL fun w2 hL2 => ?_)
  simp only [iw_add, iw_sub, iw_mul, iw_lss, iw_leq, iw_gtr, iw_geq, iw_eql, iw_neq, iw_quo, iw_rem, un_not, len_s, len_l, nck_p, fld_p, cv_i, unc_c, ex_0, ex_1, ex_2, st_eq, st_ne, brV_true, brV_false, brV_b, brV_not, one_one, nil_p, nil_pn, nil_n, nil_nn, decide_eq_true_eq, true_and, nb_ite, bs_size, Nat.zero_add, Bool.not_true, Bool.not_false, Bool.false_eq_true, eq_self, if_true, if_false, jn]
  by_cases hp : p l[i] = true
  · rw [if_pos hp]
    have hany : l.any p = true := List.any_eq_true.2 ⟨_, List.getElem_mem hlt, hp⟩
    have := hk w2 (hL.tr hL2)
    rw [hany] at this
    have e1 : decide ((i : Int) ≥ 0) = true := decide_eq_true (by omega)
    rw [e1]
    exact this
  · rw [if_neg hp, wrap64 (by omega) (by omega)]
    refine ih m _ _ (by simp) ⟨by rw [hmi]; rfl, by omega, ?_, hL.tr hL2⟩
    rw [hmi, List.take_add_one, List.getElem?_eq_getElem hlt, List.any_append, hno]
    simp [hp]
end Go.Proofs.YtlicdhdpngahgaaDoor
