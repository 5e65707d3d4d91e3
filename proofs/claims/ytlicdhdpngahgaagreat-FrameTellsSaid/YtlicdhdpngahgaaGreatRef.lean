/- The document's own numbers: Big, Of, Zeros, and what stands on them. -/
import Derived.Test.YtlicdhdpngahgaaGreatFr
set_option linter.unusedVariables false
set_option linter.unusedSimpArgs false
namespace Go.Proofs.YtlicdhdpngahgaaGreat
open Go.Eng Go.RowKit
theorem replicate_bc (n : Nat) : List.replicate n (Value.int .u8 0) = bc (List.replicate n 0) := by simp [bc]
theorem Big_spec {v N : Nat} {w : World} {k : Value → World → Prop} (hv : v ≤ 9223372036854775807) (hN : N ≤ 8) (hk : ∀ w', Later w w' → k (.tuple #[.string (bs (be N v)), .bool (decide (v / 256 ^ N = 0))]) w') :
    Calls Tryz.prog 76 #[.int .i64 v, .int .i64 N] w (rt k) := by
  apply honeycombref1_Big_run
  simp only [honeycombref1_Big]
  refine mkSl T_bytes rfl (by omega) (by omega) fun o W hrow hL hob => ?_
  simp only [iw_add, iw_sub, iw_mul, iw_lss, iw_leq, iw_gtr, iw_geq, iw_eql, iw_neq, iw_quo, iw_rem, un_not, len_s, len_l, nck_p, fld_p, cv_i, unc_c, ex_0, ex_1, ex_2, st_eq, st_ne, brV_true, brV_false, brV_b, brV_not, one_one, nil_p, nil_pn, nil_n, nil_nn, decide_eq_true_eq, true_and, nb_ite, bs_size, Nat.zero_add, Bool.not_true, Bool.not_false, Bool.false_eq_true, eq_self, if_true, if_false, jn]
  rw [wrap64 (by omega) (by omega)]
  refine lp_ind _ (fun (m : Nat) l w1 => l = [.int .i64 v, o, .int .i64 ((v / 256 ^ (N - m) : Nat) : Int), .int .i64 ((m : Int) - 1)] ∧ w1.ownsRow w.heap.size 5 1 o N (bc (List.replicate m 0 ++ be (N - m) v)) ∧ m ≤ N ∧ Later w w1) id ?_ (i := N) ⟨by simp, by simpa [replicate_bc, be] using hrow, Nat.le_refl _, hL⟩
  rintro m l w1 rec ⟨rfl, hown, hm, hL1⟩ ih
  simp only [honeycombref1_Big_L4, iw_add, iw_sub, iw_mul, iw_lss, iw_leq, iw_gtr, iw_geq, iw_eql, iw_neq, iw_quo, iw_rem, un_not, len_s, len_l, nck_p, fld_p, cv_i, unc_c, ex_0, ex_1, ex_2, st_eq, st_ne, brV_true, brV_false, brV_b, brV_not, one_one, nil_p, nil_pn, nil_n, nil_nn, decide_eq_true_eq, true_and, nb_ite, bs_size, Nat.zero_add, Bool.not_true, Bool.not_false, Bool.false_eq_true, eq_self, if_true, if_false, jn]
  by_cases h0 : m = 0
  · subst h0
    rw [if_neg (by omega)]
    refine to_string (l := be N v) U_bytes U_byte U_string (by simpa using hown) ?_
    rw [if_pos (by omega)]
    have := hk w1 hL1
    simp only [Nat.sub_zero]
    have e : decide (((v / 256 ^ N : Nat) : Int) = 0) = decide (v / 256 ^ N = 0) := by
      congr 1
      apply propext
      omega
    rw [e]
    exact this
  · obtain ⟨m, rfl⟩ : ∃ q, m = q + 1 := ⟨m - 1, by omega⟩
    rw [if_pos (by omega)]
    have hle : v / 256 ^ (N - (m + 1)) ≤ v := Nat.div_le_self _ _
    have hNm : N - m = N - (m + 1) + 1 := by omega
    have e1 : v / 256 ^ (N - (m + 1)) / 2 ^ 8 = v / 256 ^ (N - m) := by rw [hNm, Nat.div_div_eq_div_mul]; rfl
    simp only [intW, true_and, and_nat _ (show v / 256 ^ (N - (m + 1)) < 9223372036854775808 by omega), cvI, shW, IntKind.bits, show Int.toNat 8 = 8 from rfl, shr_nat _ 8 (by decide), e1, wrap8]
    have e2 : (((m + 1 : Nat) : Int) - 1) = ((m : Nat) : Int) := by omega
    have e3 : (((v / 256 ^ (N - (m + 1)) % 256 : Nat) : Int) % 256) = ((UInt8.ofNat (v / 256 ^ (N - (m + 1)))).toNat : Int) := by
      rw [← u8_ofNat]; omega
    rw [e2, e3]
    refine row_st hown (by omega) rfl fun w2 hown2 ho => ?_
    obtain ⟨q, hq, hBq, ho⟩ := ho
    refine ⟨by decide, ?_⟩
    rw [wrap64 (by omega) (by omega)]
    refine ih m _ _ (by simp) ⟨rfl, ?_, by omega, hL1.trans (ho.below _ hBq)⟩
    have e4 : (bc (List.replicate (m + 1) 0 ++ be (N - (m + 1)) v)).set m (.int .u8 ((UInt8.ofNat (v / 256 ^ (N - (m + 1)))).toNat : Int)) = bc (List.replicate m 0 ++ be (N - m) v) := by
      rw [hNm, be, List.replicate_succ', List.append_assoc, bc_append, bc_append]
      rw [List.set_append_right _ _ (by simp [bc])]
      simp [bc]
    rw [e4] at hown2
    exact hown2
theorem num_from {v : Int} {w : World} {k : Value → World → Prop} (h0 : 0 ≤ v) (hv : v ≤ 9223372036854775807) (hk : ∀ w', Later w w' → k (.string (bs (be 2 v.toNat))) w') :
    callW Tryz.prog (.func (.func 26) #[] #[]) [.int .i64 v] w k := by
  apply honeycombref1_num_call
  apply honeycombref1_num_run
  simp only [honeycombref1_num]
  apply honeycombref1_Big_call
  have := Big_spec (v := v.toNat) (N := 2) (w := w) (k := fun t7 w => exW t7 0 fun t8 => exW t7 1 fun t9 => k t8 w) (by omega) (by omega) fun w' hw' => by simpa only [iw_add, iw_sub, iw_mul, iw_lss, iw_leq, iw_gtr, iw_geq, iw_eql, iw_neq, iw_quo, iw_rem, un_not, len_s, len_l, nck_p, fld_p, cv_i, unc_c, ex_0, ex_1, ex_2, st_eq, st_ne, brV_true, brV_false, brV_b, brV_not, one_one, nil_p, nil_pn, nil_n, nil_nn, decide_eq_true_eq, true_and, nb_ite, bs_size, Nat.zero_add, Bool.not_true, Bool.not_false, Bool.false_eq_true, eq_self, if_true, if_false, jn] using hk w' hw'
  rwa [Int.toNat_of_nonneg h0] at this
theorem long_from {v : Int} {w : World} {k : Value → World → Prop} (h0 : 0 ≤ v) (hv : v ≤ 9223372036854775807) (hk : ∀ w', Later w w' → k (.string (bs (be 4 v.toNat))) w') :
    callW Tryz.prog (.func (.func 25) #[] #[]) [.int .i64 v] w k := by
  apply honeycombref1_long_call
  apply honeycombref1_long_run
  simp only [honeycombref1_long]
  apply honeycombref1_Big_call
  have := Big_spec (v := v.toNat) (N := 4) (w := w) (k := fun t7 w => exW t7 0 fun t8 => exW t7 1 fun t9 => k t8 w) (by omega) (by omega) fun w' hw' => by simpa only [iw_add, iw_sub, iw_mul, iw_lss, iw_leq, iw_gtr, iw_geq, iw_eql, iw_neq, iw_quo, iw_rem, un_not, len_s, len_l, nck_p, fld_p, cv_i, unc_c, ex_0, ex_1, ex_2, st_eq, st_ne, brV_true, brV_false, brV_b, brV_not, one_one, nil_p, nil_pn, nil_n, nil_nn, decide_eq_true_eq, true_and, nb_ite, bs_size, Nat.zero_add, Bool.not_true, Bool.not_false, Bool.false_eq_true, eq_self, if_true, if_false, jn] using hk w' hw'
  rwa [Int.toNat_of_nonneg h0] at this
theorem text_from {s : List UInt8} {w : World} {k : Value → World → Prop} (hs : s.length ≤ 140737488355328) (hk : ∀ w', Later w w' → k (.string (bs (be 2 s.length ++ s))) w') :
    callW Tryz.prog (.func (.func 77) #[] #[]) [.string (bs s)] w k := by
  apply honeycombref1_text_call
  apply honeycombref1_text_run
  simp only [honeycombref1_text, iw_add, iw_sub, iw_mul, iw_lss, iw_leq, iw_gtr, iw_geq, iw_eql, iw_neq, iw_quo, iw_rem, un_not, len_s, len_l, nck_p, fld_p, cv_i, unc_c, ex_0, ex_1, ex_2, st_eq, st_ne, brV_true, brV_false, brV_b, brV_not, one_one, nil_p, nil_pn, nil_n, nil_nn, decide_eq_true_eq, true_and, nb_ite, bs_size, Nat.zero_add, Bool.not_true, Bool.not_false, Bool.false_eq_true, eq_self, if_true, if_false, jn]
  refine num_from (by omega) (by omega) fun w' hw' => ?_
  refine str_add (by simp; omega) ?_
  exact hk w' hw'
theorem two_call {v : Int} {w : World} {k : Value → World → Prop} (hk : k (.bool (decide (0 ≤ v ∧ v ≤ 65535))) w) : callW Tryz.prog (.func (.func 24) #[] #[]) [.int .i64 v] w k := by
  apply honeycombref1_two_call
  apply honeycombref1_two_run
  simp only [honeycombref1_two, iw_add, iw_sub, iw_mul, iw_lss, iw_leq, iw_gtr, iw_geq, iw_eql, iw_neq, iw_quo, iw_rem, un_not, len_s, len_l, nck_p, fld_p, cv_i, unc_c, ex_0, ex_1, ex_2, st_eq, st_ne, brV_true, brV_false, brV_b, brV_not, one_one, nil_p, nil_pn, nil_n, nil_nn, decide_eq_true_eq, true_and, nb_ite, bs_size, Nat.zero_add, Bool.not_true, Bool.not_false, Bool.false_eq_true, eq_self, if_true, if_false, jn]
  by_cases h : v ≥ 0
  · rw [if_pos h]
    have : decide (v ≤ 65535) = decide (0 ≤ v ∧ v ≤ 65535) := by congr 1; apply propext; omega
    rw [this]; exact hk
  · rw [if_neg h]
    have : decide (0 ≤ v ∧ v ≤ 65535) = false := by apply decide_eq_false; omega
    rw [this] at hk; exact hk
theorem four_call {v : Int} {w : World} {k : Value → World → Prop} (hk : k (.bool (decide (0 ≤ v ∧ v ≤ 4294967295))) w) : callW Tryz.prog (.func (.func 23) #[] #[]) [.int .i64 v] w k := by
  apply honeycombref1_four_call
  apply honeycombref1_four_run
  simp only [honeycombref1_four, iw_add, iw_sub, iw_mul, iw_lss, iw_leq, iw_gtr, iw_geq, iw_eql, iw_neq, iw_quo, iw_rem, un_not, len_s, len_l, nck_p, fld_p, cv_i, unc_c, ex_0, ex_1, ex_2, st_eq, st_ne, brV_true, brV_false, brV_b, brV_not, one_one, nil_p, nil_pn, nil_n, nil_nn, decide_eq_true_eq, true_and, nb_ite, bs_size, Nat.zero_add, Bool.not_true, Bool.not_false, Bool.false_eq_true, eq_self, if_true, if_false, jn]
  by_cases h : v ≥ 0
  · rw [if_pos h]
    have : decide (v ≤ 4294967295) = decide (0 ≤ v ∧ v ≤ 4294967295) := by congr 1; apply propext; omega
    rw [this]; exact hk
  · rw [if_neg h]
    have : decide (0 ≤ v ∧ v ≤ 4294967295) = false := by apply decide_eq_false; omega
    rw [this] at hk; exact hk
theorem max_yl {P : Program} {ts : Array TypeId} {t : TypeId} {a b : Int} {k : Value → Prop} (hk : k (.int .i64 (if b > a then b else a))) : yl P (Builtin.max_ ts t [.int .i64 a, .int .i64 b].toArray) k :=
  ⟨_, fun w => by simp [Builtin.max_, Builtin.max2], hk⟩
theorem Zeros_from {n : Int} {w : World} {k : Value → World → Prop} (h0 : 0 ≤ n) (hn : n ≤ 140737488355328) (hk : ∀ w', Later w w' → k (.string (bs (List.replicate n.toNat 0))) w') :
    callW Tryz.prog (.func (.func 27) #[] #[]) [.int .i64 n] w k := by
  apply honeycombref1_Zeros_call
  apply honeycombref1_Zeros_run
  simp only [honeycombref1_Zeros]
  refine max_yl ?_
  have : (if (0 : Int) > n then (0 : Int) else n) = ((n.toNat : Nat) : Int) := by split <;> omega
  rw [this]
  refine mkSl T_bytes rfl (by omega) (by omega) fun o W hrow hL hob => ?_
  rw [replicate_bc] at hrow
  exact to_string U_bytes U_byte U_string hrow (hk _ hL)
theorem Of_spec {l : List UInt8} {w : World} {k : Value → World → Prop} (hl : l.length ≤ 7) (hk : k (.int .i64 (ofB l)) w) :
    Calls Tryz.prog 29 #[.string (bs l)] w (rt k) := by
  apply honeycombref1_Of_run
  simp only [honeycombref1_Of]
  refine lp_ind _ (fun (m : Nat) r w1 => r = [.string (bs l), .int .i64 (ofB (l.take (l.length - m))), .int .i64 ((l.length - m : Nat) : Int)] ∧ m ≤ l.length ∧ w1 = w) id ?_ (i := l.length) ⟨by simp [ofB], Nat.le_refl _, rfl⟩
  rintro m r w1 rec ⟨rfl, hm, rfl⟩ ih
  simp only [honeycombref1_Of_L3, iw_add, iw_sub, iw_mul, iw_lss, iw_leq, iw_gtr, iw_geq, iw_eql, iw_neq, iw_quo, iw_rem, un_not, len_s, len_l, nck_p, fld_p, cv_i, unc_c, ex_0, ex_1, ex_2, st_eq, st_ne, brV_true, brV_false, brV_b, brV_not, one_one, nil_p, nil_pn, nil_n, nil_nn, decide_eq_true_eq, true_and, nb_ite, bs_size, Nat.zero_add, Bool.not_true, Bool.not_false, Bool.false_eq_true, eq_self, if_true, if_false, jn]
  by_cases h0 : m = 0
  · subst h0
    rw [if_neg (by omega)]
    simpa using hk
  · obtain ⟨m, rfl⟩ : ∃ q, m = q + 1 := ⟨m - 1, by omega⟩
    rw [if_pos (by omega)]
    have hlt : l.length - (m + 1) < l.length := by omega
    have hb := ofB_lt (l.take (l.length - (m + 1)))
    have hb2 : ofB (l.take (l.length - (m + 1))) < 256 ^ 6 := Nat.lt_of_lt_of_le hb (Nat.pow_le_pow_right (by decide) (by simp; omega))
    have hx := (l[l.length - (m + 1)]).toNat_lt
    rw [wrap64 (by omega) (by omega)]
    simp only [ixStr, bs_get, Int.toNat_natCast, List.getElem?_eq_getElem hlt, Option.some.injEq]
    refine ⟨_, by omega, rfl, ?_⟩
    simp only [iw_add, iw_sub, iw_mul, iw_lss, iw_leq, iw_gtr, iw_geq, iw_eql, iw_neq, iw_quo, iw_rem, un_not, len_s, len_l, nck_p, fld_p, cv_i, unc_c, ex_0, ex_1, ex_2, st_eq, st_ne, brV_true, brV_false, brV_b, brV_not, one_one, nil_p, nil_pn, nil_n, nil_nn, decide_eq_true_eq, true_and, nb_ite, bs_size, Nat.zero_add, Bool.not_true, Bool.not_false, Bool.false_eq_true, eq_self, if_true, if_false, jn]
    rw [wrap64 (show -9223372036854775808 ≤ ((l[l.length - (m + 1)]).toNat : Int) by omega) (by omega), wrap64 (by omega) (by omega), wrap64 (by omega) (by omega)]
    refine ih m _ _ (by simp) ⟨?_, by omega, rfl⟩
    have e3 : l.length - m = l.length - (m + 1) + 1 := by omega
    rw [e3, List.take_add_one, List.getElem?_eq_getElem hlt]
    simp only [Option.toList_some, ofB_append]
    congr 3
theorem Of_from {l : List UInt8} {w : World} {k : Value → World → Prop} (hl : l.length ≤ 7) (hk : k (.int .i64 (ofB l)) w) : callW Tryz.prog (.func (.func 29) #[] #[]) [.string (bs l)] w k :=
  honeycombref1_Of_call (Of_spec hl hk)
end Go.Proofs.YtlicdhdpngahgaaGreat
