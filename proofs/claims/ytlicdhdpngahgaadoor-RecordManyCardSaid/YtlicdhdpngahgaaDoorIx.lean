/- Lists of whole numbers: what they are in memory; SameInts. -/
import Derived.Test.YtlicdhdpngahgaaDoorLater
import Derived.Test.YtlicdhdpngahgaaDoorXF
set_option linter.unusedVariables false
set_option linter.unusedSimpArgs false
namespace Go.Proofs.YtlicdhdpngahgaaDoor
open Go.Eng Go.RowKit
def InR (x : Int) : Prop := -9223372036854775808 ≤ x ∧ x ≤ 9223372036854775807
def ix (l : List Int) : List Value := l.map fun x => .int .i64 x
@[simp] theorem ix_length (l : List Int) : (ix l).length = l.length := by simp [ix]
theorem ix_get {l : List Int} {i : Nat} (h : i < l.length) : (ix l)[i]? = some (.int .i64 l[i]) := by simp [ix, h]
theorem ix_append (a b : List Int) : ix (a ++ b) = ix a ++ ix b := by simp [ix]
theorem ix_one (l : List Int) : ∀ u ∈ ix l, u.oneCell' = true := by
  intro u hu
  obtain ⟨_, _, rfl⟩ := List.mem_map.1 hu
  rfl
theorem ix_inj {a b : List Int} (h : ix a = ix b) : a = b := by
  induction a generalizing b with
  | nil => cases b with
    | nil => rfl
    | cons y b => simp [ix] at h
  | cons x a ih => cases b with
    | nil => simp [ix] at h
    | cons y b =>
      simp only [ix, List.map_cons, List.cons.injEq, Value.int.injEq, true_and] at h
      rw [h.1, ih h.2]
theorem T_ints : SlT Tryd.prog 24 3 (.int .i64 0) 1 8 := ⟨by kernel_rfl, by kernel_rfl, rfl, by decide⟩
theorem U_ints : Tryd.prog.underlying 24 = some (.slice 3) := by kernel_rfl
theorem U_int : Tryd.prog.underlying 3 = some (.int .i64) := by kernel_rfl
theorem U_bool : Tryd.prog.underlying 4 = some .bool := by kernel_rfl
theorem one_int {x : Int} (w : World) (e : TypeId) : Src Tryd.prog 1 24 (.slice (some ⟨w.heap.size, 0, none⟩) 1 1) 1 (ix [x]) (w.alloc (.cells #[.int .i64 x] e)) :=
  Src.ofSlice (e' := 3) _ U_ints _ 1 1 (ix [x]) rfl (cell_one_new _ _ _) (ix_one _)
theorem SameInts_spec {la lb : List Int} {va vb : Value} {w : World} {k : Value → World → Prop} (ha : Lst w va la.length (ix la)) (hb : Lst w vb lb.length (ix lb)) (hn : la.length ≤ 140737488355328)
    (hk : ∀ w', Later w w' → k (.bool (decide (la = lb))) w') : Calls Tryd.prog 38 #[va, vb] w (rt k) := by
  apply honeycombbook_SameInts_run
  simp only [honeycombbook_SameInts]
  refine ha.len (hb.len ?_)
  simp only [iw_add, iw_sub, iw_mul, iw_lss, iw_leq, iw_gtr, iw_geq, iw_eql, iw_neq, iw_quo, iw_rem, un_not, len_s, len_l, nck_p, fld_p, cv_i, unc_c, ex_0, ex_1, ex_2, st_eq, st_ne, brV_true, brV_false, brV_b, brV_not, one_one, nil_p, nil_pn, nil_n, nil_nn, decide_eq_true_eq, true_and, nb_ite, bs_size, Nat.zero_add, Bool.not_true, Bool.not_false, Bool.false_eq_true, eq_self, if_true, if_false, jn]
  by_cases hl : (la.length : Int) = (lb.length : Int)
  rotate_left
  · rw [if_neg hl]
    have : decide (la = lb) = false := decide_eq_false fun h => hl (by rw [h])
    have h2 := hk w (Later.refl w)
    rwa [this] at h2
  rw [if_pos hl]
  refine lp_ind _ (fun (m : Nat) r w1 => r = [va, vb, .int .i64 ((la.length - m : Nat) : Int)] ∧ m ≤ la.length ∧ la.take (la.length - m) = lb.take (la.length - m) ∧ Later w w1) id ?_ (i := la.length) ⟨by simp, Nat.le_refl _, by simp, Later.refl w⟩
  rintro m r w1 rec ⟨rfl, hm, he, hL⟩ ih
  simp only [honeycombbook_SameInts_L4, iw_add, iw_sub, iw_mul, iw_lss, iw_leq, iw_gtr, iw_geq, iw_eql, iw_neq, iw_quo, iw_rem, un_not, len_s, len_l, nck_p, fld_p, cv_i, unc_c, ex_0, ex_1, ex_2, st_eq, st_ne, brV_true, brV_false, brV_b, brV_not, one_one, nil_p, nil_pn, nil_n, nil_nn, decide_eq_true_eq, true_and, nb_ite, bs_size, Nat.zero_add, Bool.not_true, Bool.not_false, Bool.false_eq_true, eq_self, if_true, if_false, jn]
  refine (hL.lst ha).len ?_
  simp only [iw_add, iw_sub, iw_mul, iw_lss, iw_leq, iw_gtr, iw_geq, iw_eql, iw_neq, iw_quo, iw_rem, un_not, len_s, len_l, nck_p, fld_p, cv_i, unc_c, ex_0, ex_1, ex_2, st_eq, st_ne, brV_true, brV_false, brV_b, brV_not, one_one, nil_p, nil_pn, nil_n, nil_nn, decide_eq_true_eq, true_and, nb_ite, bs_size, Nat.zero_add, Bool.not_true, Bool.not_false, Bool.false_eq_true, eq_self, if_true, if_false, jn]
  by_cases h0 : m = 0
  · subst h0
    rw [if_neg (by omega)]
    have h1 : la = lb := by
      have h2 := he
      rw [Nat.sub_zero, List.take_length, List.take_of_length_le (by omega)] at h2
      exact h2
    have h2 := hk w1 hL
    rwa [decide_eq_true h1] at h2
  obtain ⟨m, rfl⟩ : ∃ q, m = q + 1 := ⟨m - 1, by omega⟩
  rw [if_pos (by omega)]
  have hlt : la.length - (m + 1) < la.length := by omega
  have hmi : la.length - m = la.length - (m + 1) + 1 := by omega
  generalize hi : la.length - (m + 1) = i at *
  have hlt2 : i < lb.length := by omega
  have hLd : Later w w1.drew := hL.tr (Later.dr w1)
  refine (hLd.lst ha).at1 (ix_get hlt) hlt fun a1 h1 _ => ?_
  refine (hLd.lst hb).at1 (ix_get hlt2) hlt2 fun a2 h2 _ => ?_
  refine ⟨_, h1, _, h2, ?_⟩
  simp only [iw_add, iw_sub, iw_mul, iw_lss, iw_leq, iw_gtr, iw_geq, iw_eql, iw_neq, iw_quo, iw_rem, un_not, len_s, len_l, nck_p, fld_p, cv_i, unc_c, ex_0, ex_1, ex_2, st_eq, st_ne, brV_true, brV_false, brV_b, brV_not, one_one, nil_p, nil_pn, nil_n, nil_nn, decide_eq_true_eq, true_and, nb_ite, bs_size, Nat.zero_add, Bool.not_true, Bool.not_false, Bool.false_eq_true, eq_self, if_true, if_false, jn]
  by_cases hx : la[i] = lb[i]
  · rw [if_pos hx, wrap64 (by omega) (by omega)]
    refine ih m _ _ (by simp) ⟨by rw [hmi]; rfl, by omega, ?_, hLd⟩
    rw [hmi, List.take_add_one, List.take_add_one, he, List.getElem?_eq_getElem hlt, List.getElem?_eq_getElem hlt2, hx]
  · rw [if_neg hx]
    have : decide (la = lb) = false := decide_eq_false fun h => hx (by subst h; rfl)
    have h2 := hk _ hLd
    rwa [this] at h2
theorem SameInts_from {la lb : List Int} {va vb : Value} {w : World} {k : Value → World → Prop} (ha : Lst w va la.length (ix la)) (hb : Lst w vb lb.length (ix lb)) (hn : la.length ≤ 140737488355328)
    (hk : ∀ w', Later w w' → k (.bool (decide (la = lb))) w') : callW Tryd.prog (.func (.func 38) #[] #[]) [va, vb] w k := honeycombbook_SameInts_call (SameInts_spec ha hb hn hk)
theorem ix_set (l : List Int) (j : Nat) (x : Int) : (ix l).set j (.int .i64 x) = ix (l.set j x) := by simp [ix, List.map_set]
end Go.Proofs.YtlicdhdpngahgaaDoor
