/- Lists of whole numbers and of pairs: copies, looks, marks; arrays of two. -/
import Derived.Test.YtlicdhdpngahgaaLater
import Derived.Test.YtlicdhdpngahgaaXF
set_option linter.unusedVariables false
set_option linter.unusedSimpArgs false
namespace Go.Proofs.Ytlicdhdpngahgaa
open Go.Eng Go.RowKit
def InR (x : Int) : Prop := -9223372036854775808 ≤ x ∧ x ≤ 9223372036854775807
def ix (l : List Int) : List Value := l.map fun x => .int .i64 x
@[simp] theorem ix_length (l : List Int) : (ix l).length = l.length := by simp [ix]
theorem ix_get {l : List Int} {i : Nat} (h : i < l.length) : (ix l)[i]? = some (.int .i64 l[i]) := by simp [ix, h]
theorem ix_append (a b : List Int) : ix (a ++ b) = ix a ++ ix b := by simp [ix]
theorem ix_one (l : List Int) : ∀ u ∈ ix l, u.oneCell' = true := by
  intro u hu
  obtain ⟨_, _, rfl⟩ := List.mem_map.1 hu
  rfl
theorem ix_inj {a b : List Int} (h : ix a = ix b) : a = b := by
  induction a generalizing b with
  | nil => cases b with
    | nil => rfl
    | cons y b => simp [ix] at h
  | cons x a ih => cases b with
    | nil => simp [ix] at h
    | cons y b =>
      simp only [ix, List.map_cons, List.cons.injEq, Value.int.injEq, true_and] at h
      rw [h.1, ih h.2]
theorem T_ints : SlT Try.prog 25 3 (.int .i64 0) 1 8 := ⟨by kernel_rfl, by kernel_rfl, rfl, by decide⟩
theorem U_ints : Try.prog.underlying 25 = some (.slice 3) := by kernel_rfl
theorem U_int : Try.prog.underlying 3 = some (.int .i64) := by kernel_rfl
theorem U_bool : Try.prog.underlying 4 = some .bool := by kernel_rfl
theorem one_int {x : Int} (w : World) (e : TypeId) : Src Try.prog 1 25 (.slice (some ⟨w.heap.size, 0, none⟩) 1 1) 1 (ix [x]) (w.alloc (.cells #[.int .i64 x] e)) :=
  Src.ofSlice (e' := 3) _ U_ints _ 1 1 (ix [x]) rfl (cell_one_new _ _ _) (ix_one _)
theorem SameInts_spec {la lb : List Int} {va vb : Value} {w : World} {k : Value → World → Prop} (ha : Lst w va la.length (ix la)) (hb : Lst w vb lb.length (ix lb)) (hn : la.length ≤ 140737488355328)
    (hk : ∀ w', Later w w' → k (.bool (decide (la = lb))) w') : Calls Try.prog 10 #[va, vb] w (rt k) := by
  apply honeycombbook_SameInts_run
  simp only [honeycombbook_SameInts]
  refine ha.len (hb.len ?_)
  simp only [iw_add, iw_sub, iw_mul, iw_lss, iw_leq, iw_gtr, iw_geq, iw_eql, iw_neq, iw_quo, iw_rem, un_not, len_s, len_l, nck_p, fld_p, cv_i, unc_c, ex_0, ex_1, ex_2, st_eq, st_ne, brV_true, brV_false, brV_b, brV_not, one_one, nil_p, nil_pn, nil_n, nil_nn, decide_eq_true_eq, true_and, nb_ite, bs_size, Nat.zero_add, Bool.not_true, Bool.not_false, Bool.false_eq_true, eq_self, if_true, if_false, jn]
  by_cases hl : (la.length : Int) = (lb.length : Int)
  rotate_left
  · rw [if_neg hl]
    have : decide (la = lb) = false := decide_eq_false fun h => hl (by rw [h])
    have h2 := hk w (Later.refl w)
    rwa [this] at h2
  rw [if_pos hl]
  refine lp_ind _ (fun (m : Nat) r w1 => r = [va, vb, .int .i64 ((la.length - m : Nat) : Int)] ∧ m ≤ la.length ∧ la.take (la.length - m) = lb.take (la.length - m) ∧ Later w w1) id ?_ (i := la.length) ⟨by simp, Nat.le_refl _, by simp, Later.refl w⟩
  rintro m r w1 rec ⟨rfl, hm, he, hL⟩ ih
  simp only [honeycombbook_SameInts_L4, iw_add, iw_sub, iw_mul, iw_lss, iw_leq, iw_gtr, iw_geq, iw_eql, iw_neq, iw_quo, iw_rem, un_not, len_s, len_l, nck_p, fld_p, cv_i, unc_c, ex_0, ex_1, ex_2, st_eq, st_ne, brV_true, brV_false, brV_b, brV_not, one_one, nil_p, nil_pn, nil_n, nil_nn, decide_eq_true_eq, true_and, nb_ite, bs_size, Nat.zero_add, Bool.not_true, Bool.not_false, Bool.false_eq_true, eq_self, if_true, if_false, jn]
  refine (hL.lst ha).len ?_
  simp only [iw_add, iw_sub, iw_mul, iw_lss, iw_leq, iw_gtr, iw_geq, iw_eql, iw_neq, iw_quo, iw_rem, un_not, len_s, len_l, nck_p, fld_p, cv_i, unc_c, ex_0, ex_1, ex_2, st_eq, st_ne, brV_true, brV_false, brV_b, brV_not, one_one, nil_p, nil_pn, nil_n, nil_nn, decide_eq_true_eq, true_and, nb_ite, bs_size, Nat.zero_add, Bool.not_true, Bool.not_false, Bool.false_eq_true, eq_self, if_true, if_false, jn]
  by_cases h0 : m = 0
  · subst h0
    rw [if_neg (by omega)]
    have h1 : la = lb := by
      have h2 := he
      rw [Nat.sub_zero, List.take_length, List.take_of_length_le (by omega)] at h2
      exact h2
    have h2 := hk w1 hL
    rwa [decide_eq_true h1] at h2
  obtain ⟨m, rfl⟩ : ∃ q, m = q + 1 := ⟨m - 1, by omega⟩
  rw [if_pos (by omega)]
  have hlt : la.length - (m + 1) < la.length := by omega
  have hmi : la.length - m = la.length - (m + 1) + 1 := by omega
  generalize hi : la.length - (m + 1) = i at *
  have hlt2 : i < lb.length := by omega
  have hLd : Later w w1.drew := hL.tr (Later.dr w1)
  refine (hLd.lst ha).at1 (ix_get hlt) hlt fun a1 h1 _ => ?_
  refine (hLd.lst hb).at1 (ix_get hlt2) hlt2 fun a2 h2 _ => ?_
  refine ⟨_, h1, _, h2, ?_⟩
  simp only [iw_add, iw_sub, iw_mul, iw_lss, iw_leq, iw_gtr, iw_geq, iw_eql, iw_neq, iw_quo, iw_rem, un_not, len_s, len_l, nck_p, fld_p, cv_i, unc_c, ex_0, ex_1, ex_2, st_eq, st_ne, brV_true, brV_false, brV_b, brV_not, one_one, nil_p, nil_pn, nil_n, nil_nn, decide_eq_true_eq, true_and, nb_ite, bs_size, Nat.zero_add, Bool.not_true, Bool.not_false, Bool.false_eq_true, eq_self, if_true, if_false, jn]
  by_cases hx : la[i] = lb[i]
  · rw [if_pos hx, wrap64 (by omega) (by omega)]
    refine ih m _ _ (by simp) ⟨by rw [hmi]; rfl, by omega, ?_, hLd⟩
    rw [hmi, List.take_add_one, List.take_add_one, he, List.getElem?_eq_getElem hlt, List.getElem?_eq_getElem hlt2, hx]
  · rw [if_neg hx]
    have : decide (la = lb) = false := decide_eq_false fun h => hx (by subst h; rfl)
    have h2 := hk _ hLd
    rwa [this] at h2
theorem SameInts_from {la lb : List Int} {va vb : Value} {w : World} {k : Value → World → Prop} (ha : Lst w va la.length (ix la)) (hb : Lst w vb lb.length (ix lb)) (hn : la.length ≤ 140737488355328)
    (hk : ∀ w', Later w w' → k (.bool (decide (la = lb))) w') : callW Try.prog (.func (.func 10) #[] #[]) [va, vb] w k := honeycombbook_SameInts_call (SameInts_spec ha hb hn hk)
theorem copyInts_from {l : List Int} {v : Value} {w : World} {k : Value → World → Prop} (hv : Lst w v l.length (ix l)) (hn : l.length ≤ 1000000000)
    (hk : ∀ v' w', Later w w' → w'.ownsRow w.heap.size 3 1 v' l.length (ix l) → k v' w') : callW Try.prog (.func (.func 19) #[] #[]) [v] w k := by
  apply honeycombbook_copyInts_call
  apply honeycombbook_copyInts_run
  simp only [honeycombbook_copyInts]
  refine app T_ints (World.ownsRow_nil w w.heap.size _ _) (hv.src U_ints (by simp) (by decide) (ix_one l)) (by simp only [maxLen]; omega) (by omega) (Nat.le_refl _) fun v' w' h1 h2 _ _ => ?_
  rw [Nat.zero_add, List.nil_append] at h1
  exact hk v' w' (grown_later h2) h1
/-- The marks. -/
def mi (i k : Nat) : Int := -1000000 * i - k - 7
def mkI (i from_ n : Nat) : List Int := (List.range n).map fun j => mi i (from_ + j)
theorem mkI_length (i f n : Nat) : (mkI i f n).length = n := by simp [mkI]
theorem mkI_succ (i f n : Nat) : mkI i f (n + 1) = mkI i f n ++ [mi i (f + n)] := by simp [mkI, List.range_succ]
theorem mkI_add (i f n m : Nat) : mkI i f n ++ mkI i (f + n) m = mkI i f (n + m) := by
  induction m with
  | zero => simp [mkI]
  | succ m ih => rw [← Nat.add_assoc, mkI_succ, mkI_succ, ← List.append_assoc, ih, Nat.add_assoc]
theorem markInts_from {i f n : Nat} {w : World} {k : Value → World → Prop} (hi : i ≤ 1000000000) (hf : f + n ≤ 100000000000)
    (hk : ∀ v w', Later w w' → w'.ownsRow w.heap.size 3 1 v n (ix (mkI i f n)) → k v w') : callW Try.prog (.func (.func 74) #[] #[]) [.int .i64 i, .int .i64 f, .int .i64 n] w k := by
  apply honeycombbook_markInts_call
  apply honeycombbook_markInts_run
  simp only [honeycombbook_markInts]
  refine lp_ind _ (fun (m : Nat) r w1 => ∃ o, r = [.int .i64 i, .int .i64 f, .int .i64 n, o, .int .i64 ((f + (n - m) : Nat) : Int)] ∧ m ≤ n ∧ w1.ownsRow w.heap.size 3 1 o (n - m) (ix (mkI i f (n - m))) ∧ Later w w1) id ?_ (i := n) ⟨.slice none 0 0, by simp, Nat.le_refl _, by simpa [mkI, ix] using World.ownsRow_nil w w.heap.size 3 1, Later.refl w⟩
  rintro m r w1 rec ⟨o, rfl, hm, hr, hL⟩ ih
  simp only [honeycombbook_markInts_L3, iw_add, iw_sub, iw_mul, iw_lss, iw_leq, iw_gtr, iw_geq, iw_eql, iw_neq, iw_quo, iw_rem, un_not, len_s, len_l, nck_p, fld_p, cv_i, unc_c, ex_0, ex_1, ex_2, st_eq, st_ne, brV_true, brV_false, brV_b, brV_not, one_one, nil_p, nil_pn, nil_n, nil_nn, decide_eq_true_eq, true_and, nb_ite, bs_size, Nat.zero_add, Bool.not_true, Bool.not_false, Bool.false_eq_true, eq_self, if_true, if_false, jn]
  rw [wrap64 (by omega) (by omega)]
  by_cases h0 : m = 0
  · subst h0
    rw [if_neg (by omega)]
    exact hk o w1 hL hr
  obtain ⟨m, rfl⟩ : ∃ q, m = q + 1 := ⟨m - 1, by omega⟩
  rw [if_pos (by omega)]
  have hmi : n - m = n - (m + 1) + 1 := by omega
  rw [wrap64 (show -9223372036854775808 ≤ -1000000 * (i : Int) by omega) (by omega), wrap64 (show -9223372036854775808 ≤ -1000000 * (i : Int) - ((f + (n - (m + 1)) : Nat) : Int) by omega) (by omega), wrap64 (by omega) (by omega)]
  refine blS_one rfl ?_
  have hs := hL.size
  refine app T_ints (hr.alloc _) (one_int _ _) (by simp only [maxLen]; omega) (by omega) (by simp; omega) fun v' w3 hr3 hg3 _ _ => ?_
  rw [wrap64 (by omega) (by omega)]
  refine ih m _ _ (by simp) ⟨v', by rw [hmi]; congr 4, by omega, ?_, (hL.alloc (by omega) _).grown hg3 (by simp; omega) (fun k hk => (hr.lt k hk).1)⟩
  rw [hmi, mkI_succ, ix_append]
  exact hr3
theorem mkI_get {i f n j : Nat} (h : j < n) : (mkI i f n)[j]? = some (mi i (f + j)) := by simp [mkI, h]
theorem ix_set (l : List Int) (j : Nat) (x : Int) : (ix l).set j (.int .i64 x) = ix (l.set j x) := by simp [ix, List.map_set]
end Go.Proofs.Ytlicdhdpngahgaa
