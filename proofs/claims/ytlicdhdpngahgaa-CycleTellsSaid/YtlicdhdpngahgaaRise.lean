/- The reference's Sorted and Rising. -/
import Derived.Test.YtlicdhdpngahgaaSort
set_option linter.unusedVariables false
set_option linter.unusedSimpArgs false
namespace Go.Proofs.Ytlicdhdpngahgaa
open Go.Eng Go.RowKit
theorem app0 {w : World} {l : List Int} {v : Value} {k : Value → World → Prop} (hv : Lst w v l.length (ix l)) (hn : l.length ≤ 1000000000)
    (hk : ∀ v' w', Later w w' → w'.ownsRow w.heap.size 3 1 v' l.length (ix l) → k v' w') : sm Try.prog (bi .append #[25, 25] 25 [.slice none 0 0, v]) w k := by
  refine app T_ints (World.ownsRow_nil w w.heap.size _ _) (hv.src U_ints (by simp) (by decide) (ix_one l)) (by simp only [maxLen]; omega) (by omega) (Nat.le_refl _) fun v' w' h1 h2 _ _ => ?_
  rw [Nat.zero_add, List.nil_append] at h1
  exact hk v' w' (grown_later h2) h1
/-- All but the one at k stand as they should. -/
def But (c : List Int) (i k : Nat) : Prop := ∀ a b, a < b → b ≤ i → b ≠ k → c.getD a 0 ≥ c.getD b 0
def Falls (c : List Int) (i : Nat) : Prop := ∀ a b, a < b → b < i → c.getD a 0 ≥ c.getD b 0
theorem But.zero {c : List Int} {i : Nat} (h : But c i 0) : Falls c (i + 1) := fun a b h1 h2 => h a b h1 (by omega) (by omega)
theorem But.ok {c : List Int} {i k : Nat} (h : But c i k) (hk : 0 < k) (hle : c.getD k 0 ≤ c.getD (k - 1) 0) : Falls c (i + 1) := fun a b h1 h2 => by
  by_cases hb : b = k
  · subst hb
    by_cases ha : a = b - 1
    · subst ha; exact hle
    · have := h a (b - 1) (by omega) (by omega) (by omega); omega
  · exact h a b h1 (by omega) hb
theorem Falls.but {c : List Int} {i : Nat} (h : Falls c i) : But c i i := fun a b h1 h2 h3 => h a b h1 (by omega)
def swp (c : List Int) (k : Nat) : List Int := (c.set k (c.getD (k - 1) 0)).set (k - 1) (c.getD k 0)
theorem swp_get (c : List Int) (k j : Nat) (hk : 0 < k) (hl : k < c.length) : (swp c k).getD j 0 = if j = k - 1 then c.getD k 0 else if j = k then c.getD (k - 1) 0 else c.getD j 0 := by
  simp only [swp, List.getD_eq_getElem?_getD, List.getElem?_set, List.length_set]
  by_cases h1 : j = k - 1
  · subst h1
    simp [show k - 1 < c.length by omega]
  · by_cases h2 : j = k
    · subst h2
      simp [show ¬ (j - 1 = j) by omega, show ¬ (j = j - 1) by omega, hl]
    · simp [show ¬ (k - 1 = j) by omega, show ¬ (k = j) by omega, h1, h2]
theorem But.swp {c : List Int} {i k : Nat} (h : But c i k) (hk : 0 < k) (hki : k ≤ i) (hl : i < c.length) (hgt : c.getD k 0 > c.getD (k - 1) 0) : But (swp c k) i (k - 1) := fun a b h1 h2 h3 => by
  rw [swp_get c k a hk (by omega), swp_get c k b hk (by omega), if_neg h3]
  by_cases hb : b = k
  · subst hb
    rw [if_pos rfl]
    by_cases ha : a = b - 1
    · rw [if_pos ha]; omega
    · rw [if_neg ha, if_neg (by omega)]
      exact h a (b - 1) (by omega) (by omega) (by omega)
  · rw [if_neg hb]
    by_cases ha : a = k - 1
    · rw [if_pos ha]; exact h k b (by omega) h2 hb
    · rw [if_neg ha]
      by_cases ha2 : a = k
      · rw [if_pos ha2]; exact h (k - 1) b (by omega) h2 hb
      · rw [if_neg ha2]; exact h a b h1 h2 hb
@[simp] theorem swp_length (c : List Int) (k : Nat) : (swp c k).length = c.length := by simp [swp]
theorem getD_lt {c : List Int} {k : Nat} (h : k < c.length) : c.getD k 0 = c[k] := by simp [List.getD_eq_getElem?_getD, h]
theorem swp_perm (c : List Int) (k : Nat) (hl : k < c.length) : (swp c k).Perm c := by
  unfold swp
  rw [getD_lt hl, getD_lt (show k - 1 < c.length by omega)]
  exact List.set_set_perm hl (by omega)
theorem falls_pairwise {c : List Int} (h : Falls c c.length) : c.Pairwise (· ≥ ·) := by
  rw [List.pairwise_iff_getElem]
  intro i j hi hj hij
  have := h i j hij hj
  rwa [getD_lt hi, getD_lt hj] at this
theorem Sorted_from {l : List Int} {v : Value} {w : World} {k : Value → World → Prop} (hv : Lst w v l.length (ix l)) (hn : l.length ≤ 1000000)
    (hk : ∀ v' s w', Later w w' → s.Perm l → s.Pairwise (· ≥ ·) → w'.ownsRow w.heap.size 3 1 v' s.length (ix s) → k v' w') :
    callW Try.prog (.func (.func 64) #[] #[]) [v] w k := by
  apply honeycombref1_Sorted_call
  apply honeycombref1_Sorted_run
  simp only [honeycombref1_Sorted]
  refine app0 hv (by omega) fun v1 w1 hL1 hr1 => ?_
  refine lp_ind _ (fun (m : Nat) r w2 => ∃ (i : Nat) (c : List Int), r = [v1, .int .i64 (i : Int)] ∧ c.length = l.length ∧ c.Perm l ∧ i + m = l.length + 1 ∧ 1 ≤ i ∧ Falls c i ∧ w2.ownsRow w.heap.size 3 1 v1 c.length (ix c) ∧ Below w.heap.size w w2) id ?_ (i := l.length)
    ⟨1, l, rfl, rfl, List.Perm.refl _, by omega, Nat.le_refl _, fun a b h1 h2 => by omega, hr1, hL1⟩
  rintro m r w2 rec ⟨i, c, rfl, hcl, hcp, him, hi1, hF, hr2, hb2⟩ ih
  simp only [honeycombref1_Sorted_L3, iw_add, iw_sub, iw_mul, iw_lss, iw_leq, iw_gtr, iw_geq, iw_eql, iw_neq, iw_quo, iw_rem, un_not, len_s, len_l, nck_p, fld_p, cv_i, unc_c, ex_0, ex_1, ex_2, st_eq, st_ne, brV_true, brV_false, brV_b, brV_not, one_one, nil_p, nil_pn, nil_n, nil_nn, decide_eq_true_eq, true_and, nb_ite, bs_size, Nat.zero_add, Bool.not_true, Bool.not_false, Bool.false_eq_true, eq_self, if_true, if_false, jn]
  refine (lst_row hr2).len ?_
  simp only [iw_add, iw_sub, iw_mul, iw_lss, iw_leq, iw_gtr, iw_geq, iw_eql, iw_neq, iw_quo, iw_rem, un_not, len_s, len_l, nck_p, fld_p, cv_i, unc_c, ex_0, ex_1, ex_2, st_eq, st_ne, brV_true, brV_false, brV_b, brV_not, one_one, nil_p, nil_pn, nil_n, nil_nn, decide_eq_true_eq, true_and, nb_ite, bs_size, Nat.zero_add, Bool.not_true, Bool.not_false, Bool.false_eq_true, eq_self, if_true, if_false, jn]
  by_cases hlt : i < c.length
  rotate_left
  · rw [if_neg (by omega)]
    refine hk v1 c w2 hb2 hcp (falls_pairwise fun a b h1 h2 => hF a b h1 (by omega)) hr2
  rw [if_pos (by omega)]
  refine lp_ind _ (fun (m2 : Nat) r w3 => ∃ c', r = [v1, .int .i64 (i : Int), .int .i64 (m2 : Int)] ∧ c'.length = l.length ∧ c'.Perm l ∧ m2 ≤ i ∧ But c' i m2 ∧ w3.ownsRow w.heap.size 3 1 v1 c'.length (ix c') ∧ Below w.heap.size w w3) id ?_ (i := i) ⟨c, rfl, hcl, hcp, Nat.le_refl _, hF.but, hr2, hb2⟩
  rintro k2 r w3 rec3 ⟨c3, rfl, hcl3, hcp3, hki, hB, hr3, hb3⟩ ih3
  simp only [honeycombref1_Sorted_L6, iw_add, iw_sub, iw_mul, iw_lss, iw_leq, iw_gtr, iw_geq, iw_eql, iw_neq, iw_quo, iw_rem, un_not, len_s, len_l, nck_p, fld_p, cv_i, unc_c, ex_0, ex_1, ex_2, st_eq, st_ne, brV_true, brV_false, brV_b, brV_not, one_one, nil_p, nil_pn, nil_n, nil_nn, decide_eq_true_eq, true_and, nb_ite, bs_size, Nat.zero_add, Bool.not_true, Bool.not_false, Bool.false_eq_true, eq_self, if_true, if_false, jn]
  have hs3 := hb3.size
  have fin : ∀ w4, Below w.heap.size w w4 → w4.ownsRow w.heap.size 3 1 v1 c3.length (ix c3) → Falls c3 (i + 1) → honeycombref1_Sorted_J4 k rec [v1, .int .i64 (i : Int)] w4 := fun w4 hb4 hr4 hF4 => by
    simp only [honeycombref1_Sorted_J4, iw_add, iw_sub, iw_mul, iw_lss, iw_leq, iw_gtr, iw_geq, iw_eql, iw_neq, iw_quo, iw_rem, un_not, len_s, len_l, nck_p, fld_p, cv_i, unc_c, ex_0, ex_1, ex_2, st_eq, st_ne, brV_true, brV_false, brV_b, brV_not, one_one, nil_p, nil_pn, nil_n, nil_nn, decide_eq_true_eq, true_and, nb_ite, bs_size, Nat.zero_add, Bool.not_true, Bool.not_false, Bool.false_eq_true, eq_self, if_true, if_false, jn]
    rw [wrap64 (by omega) (by omega)]
    exact ih (m - 1) _ _ (by simp; omega) ⟨i + 1, c3, by congr 2, hcl3, hcp3, by omega, by omega, hF4, hr4, hb4⟩
  have hrd := (Later.dr w3).row hr3
  have hbd : Below w.heap.size w w3.drew := hb3.trans (Below.drew (Below.refl _ w3))
  by_cases h0 : k2 = 0
  · subst h0
    rw [if_neg (by decide)]
    exact fin _ hbd hrd hB.zero
  rw [if_pos (by omega)]
  have hk1 : k2 < c3.length := by omega
  have hk2 : k2 - 1 < c3.length := by omega
  have e1 : IntKind.i64.wrap ((k2 : Int) - 1) = ((k2 - 1 : Nat) : Int) := by rw [wrap64 (by omega) (by omega)]; omega
  rw [e1]
  refine (lst_row hrd).at1 (ix_get hk1) hk1 fun a1 ha1 _ => ?_
  refine (lst_row hrd).at1 (ix_get hk2) hk2 fun a2 ha2 _ => ⟨_, ha1, _, ha2, ?_⟩
  simp only [iw_add, iw_sub, iw_mul, iw_lss, iw_leq, iw_gtr, iw_geq, iw_eql, iw_neq, iw_quo, iw_rem, un_not, len_s, len_l, nck_p, fld_p, cv_i, unc_c, ex_0, ex_1, ex_2, st_eq, st_ne, brV_true, brV_false, brV_b, brV_not, one_one, nil_p, nil_pn, nil_n, nil_nn, decide_eq_true_eq, true_and, nb_ite, bs_size, Nat.zero_add, Bool.not_true, Bool.not_false, Bool.false_eq_true, eq_self, if_true, if_false, jn]
  by_cases hgt : c3[k2] > c3[k2 - 1]
  rotate_left
  · rw [if_neg hgt]
    refine fin _ hbd hrd (hB.ok (by omega) ?_)
    rw [getD_lt hk1, getD_lt hk2]; omega
  rw [if_pos hgt]
  have hrdd := (Later.dr w3.drew).row hrd
  refine (lst_row hrdd).at1 (ix_get hk2) hk2 fun a3 ha3 _ => ?_
  refine (lst_row hrdd).at1 (ix_get hk1) hk1 fun a4 ha4 _ => ⟨_, ha3, _, ha4, ?_⟩
  refine row_st hrdd hk1 rfl fun w4 hr4 ho4 => ?_
  rw [ix_set] at hr4
  refine row_st hr4 hk2 rfl fun w5 hr5 ho5 => ?_
  rw [ix_set] at hr5
  have hsw : (c3.set k2 c3[k2 - 1]).set (k2 - 1) c3[k2] = swp c3 k2 := by
    unfold swp
    rw [getD_lt hk1, getD_lt hk2]
  rw [hsw] at hr5
  obtain ⟨q4, _, hq4, ho4⟩ := ho4
  obtain ⟨q5, _, hq5, ho5⟩ := ho5
  have hb5 : Below w.heap.size w w5 := ((hbd.trans (Below.drew (Below.refl _ w3.drew))).trans (ho4.below _ hq4)).trans (ho5.below _ hq5)
  rw [← swp_length c3 k2] at hr5
  exact ih3 (k2 - 1) _ _ (by simp; omega) ⟨swp c3 k2, rfl, by simp [hcl3], (swp_perm c3 k2 hk1).trans hcp3, by omega, hB.swp (by omega) hki (by omega) (by rw [getD_lt hk1, getD_lt hk2]; exact hgt), hr5, hb5⟩
/-- A list rising, each once. -/
structure IsRise (l r : List Int) : Prop where
  rise : r.Pairwise (· < ·)
  mem : ∀ x, x ∈ r ↔ x ∈ l
theorem IsRise.len {l r : List Int} (h : IsRise l r) : r.length ≤ l.length := by
  have hn : r.Nodup := by rw [List.nodup_iff_pairwise_ne]; exact h.rise.imp fun h => by omega
  suffices ∀ {a m : List Int}, a.Nodup → (∀ x ∈ a, x ∈ m) → a.length ≤ m.length from this hn fun x hx => (h.mem x).1 hx
  intro a
  induction a with
  | nil => intros; exact Nat.zero_le _
  | cons x a ih =>
    intro m hn hs
    have hx := hs x List.mem_cons_self
    have h1 := ih (m := m.erase x) (List.nodup_cons.1 hn).2 fun y hy => by
      have hne : y ≠ x := fun e => by subst e; exact (List.nodup_cons.1 hn).1 hy
      exact (List.mem_erase_of_ne hne).2 (hs y (List.mem_cons_of_mem _ hy))
    rw [List.length_erase_of_mem hx] at h1
    have := List.length_pos_of_mem hx
    simp only [List.length_cons]
    omega
theorem concat_last {t : List Int} {n : Int} (h : (t ++ [n]).Pairwise (· < ·)) : ∀ x ∈ t ++ [n], x ≤ n := by
  rw [List.pairwise_append] at h
  intro x hx
  rcases List.mem_append.1 hx with hx | hx
  · have := h.2.2 x hx n (by simp); omega
  · simp at hx; omega
theorem ix_last' {T : List Int} {n : Int} : (ix (T ++ [n]))[T.length]? = some (.int .i64 n) := by
  rw [ix_append, List.getElem?_append_right (by simp)]
  simp [ix]
theorem Rising_from {l : List Int} {v : Value} {w : World} {k : Value → World → Prop} (hv : Lst w v l.length (ix l)) (hn : l.length ≤ 1000000)
    (hk : ∀ v' r w', Later w w' → IsRise l r → w'.ownsRow w.heap.size 3 1 v' r.length (ix r) → k v' w') :
    callW Try.prog (.func (.func 21) #[] #[]) [v] w k := by
  apply honeycombref1_Rising_call
  apply honeycombref1_Rising_run
  simp only [honeycombref1_Rising]
  refine Sorted_from hv hn fun v1 s w1 hL1 hp hs hr1 => ?_
  refine (lst_row hr1).len ?_
  simp only [iw_add, iw_sub, iw_mul, iw_lss, iw_leq, iw_gtr, iw_geq, iw_eql, iw_neq, iw_quo, iw_rem, un_not, len_s, len_l, nck_p, fld_p, cv_i, unc_c, ex_0, ex_1, ex_2, st_eq, st_ne, brV_true, brV_false, brV_b, brV_not, one_one, nil_p, nil_pn, nil_n, nil_nn, decide_eq_true_eq, true_and, nb_ite, bs_size, Nat.zero_add, Bool.not_true, Bool.not_false, Bool.false_eq_true, eq_self, if_true, if_false, jn]
  have hsl := hp.length_eq
  have hsz1 := hL1.size
  rw [wrap64 (by omega) (by omega)]
  refine lp_ind _ (fun (m : Nat) r w2 => ∃ (o : Value) (out : List Int), r = [v1, o, .int .i64 ((m : Int) - 1)] ∧ m ≤ s.length ∧ out.Pairwise (· < ·) ∧ (∀ x, x ∈ out ↔ x ∈ s.drop m) ∧ out.length ≤ s.length - m ∧ Lst w2 v1 s.length (ix s) ∧ w2.ownsRow w1.heap.size 3 1 o out.length (ix out) ∧ Later w1 w2) id ?_ (i := s.length)
    ⟨.slice none 0 0, [], rfl, Nat.le_refl _, by simp, by simp, by simp, lst_row hr1, by simpa [ix] using World.ownsRow_nil w1 w1.heap.size 3 1, Later.refl _⟩
  rintro m r w2 rec ⟨o, out, rfl, hm, hri, hmem, hol, hv2, hr2, hL2⟩ ih
  simp only [honeycombref1_Rising_L4, iw_add, iw_sub, iw_mul, iw_lss, iw_leq, iw_gtr, iw_geq, iw_eql, iw_neq, iw_quo, iw_rem, un_not, len_s, len_l, nck_p, fld_p, cv_i, unc_c, ex_0, ex_1, ex_2, st_eq, st_ne, brV_true, brV_false, brV_b, brV_not, one_one, nil_p, nil_pn, nil_n, nil_nn, decide_eq_true_eq, true_and, nb_ite, bs_size, Nat.zero_add, Bool.not_true, Bool.not_false, Bool.false_eq_true, eq_self, if_true, if_false, jn]
  by_cases h0 : m = 0
  · subst h0
    rw [if_neg (by decide)]
    refine hk o out w2 (hL1.tr hL2) ⟨hri, fun x => ?_⟩ (ownsRow_mono hsz1 hr2)
    rw [hmem, List.drop_zero]
    exact hp.mem_iff
  obtain ⟨m, rfl⟩ : ∃ q, m = q + 1 := ⟨m - 1, by omega⟩
  rw [if_pos (by omega)]
  have hlt : m < s.length := by omega
  have e1 : ((m + 1 : Nat) : Int) - 1 = (m : Int) := by omega
  rw [e1]
  have hdrop : s.drop m = s[m] :: s.drop (m + 1) := List.drop_eq_getElem_cons hlt
  have hLd : Later w1 w2.drew := hL2.tr (Later.dr w2)
  have hv2d : Lst w2.drew v1 s.length (ix s) := (Later.dr w2).lst hv2
  have hr2d := (Later.dr w2).row hr2
  have hs2 := hL2.size
  have hbig : ∀ x ∈ out, x ≤ s[m] := fun x hx => by
    have h1 := (hmem x).1 hx
    have h2 : (s.drop m).Pairwise (· ≥ ·) := hs.drop
    rw [hdrop, List.pairwise_cons] at h2
    exact h2.1 x h1
  have skip : s[m] ∈ out → honeycombref1_Rising_J5 k rec [v1, o, .int .i64 (m : Int)] w2.drew := fun hin => by
    simp only [honeycombref1_Rising_J5, iw_add, iw_sub, iw_mul, iw_lss, iw_leq, iw_gtr, iw_geq, iw_eql, iw_neq, iw_quo, iw_rem, un_not, len_s, len_l, nck_p, fld_p, cv_i, unc_c, ex_0, ex_1, ex_2, st_eq, st_ne, brV_true, brV_false, brV_b, brV_not, one_one, nil_p, nil_pn, nil_n, nil_nn, decide_eq_true_eq, true_and, nb_ite, bs_size, Nat.zero_add, Bool.not_true, Bool.not_false, Bool.false_eq_true, eq_self, if_true, if_false, jn]
    rw [wrap64 (by omega) (by omega)]
    refine ih m _ _ (by simp) ⟨o, out, rfl, by omega, hri, fun x => ?_, by omega, hv2d, hr2d, hLd⟩
    rw [hdrop, List.mem_cons, hmem]
    constructor
    · exact .inr
    · rintro (rfl | h)
      · exact (hmem _).1 hin
      · exact h
  have add : s[m] ∉ out → honeycombref1_Rising_J7 k rec [v1, o, .int .i64 (m : Int)] w2.drew := fun hin => by
    simp only [honeycombref1_Rising_J7, iw_add, iw_sub, iw_mul, iw_lss, iw_leq, iw_gtr, iw_geq, iw_eql, iw_neq, iw_quo, iw_rem, un_not, len_s, len_l, nck_p, fld_p, cv_i, unc_c, ex_0, ex_1, ex_2, st_eq, st_ne, brV_true, brV_false, brV_b, brV_not, one_one, nil_p, nil_pn, nil_n, nil_nn, decide_eq_true_eq, true_and, nb_ite, bs_size, Nat.zero_add, Bool.not_true, Bool.not_false, Bool.false_eq_true, eq_self, if_true, if_false, jn]
    refine hv2d.at1 (ix_get hlt) hlt fun a ha _ => ⟨_, ha, ?_⟩
    refine blS_one rfl ?_
    refine app T_ints (hr2d.alloc _) (one_int _ _) (by simp only [maxLen]; omega) (by omega) (by simp; omega) fun o' w3 hr3 hg3 _ _ => ?_
    simp only [jn, honeycombref1_Rising_J5, iw_add, iw_sub, iw_mul, iw_lss, iw_leq, iw_gtr, iw_geq, iw_eql, iw_neq, iw_quo, iw_rem, un_not, len_s, len_l, nck_p, fld_p, cv_i, unc_c, ex_0, ex_1, ex_2, st_eq, st_ne, brV_true, brV_false, brV_b, brV_not, one_one, nil_p, nil_pn, nil_n, nil_nn, decide_eq_true_eq, true_and, nb_ite, bs_size, Nat.zero_add, Bool.not_true, Bool.not_false, Bool.false_eq_true, eq_self, if_true, if_false, jn]
    rw [wrap64 (by omega) (by omega)]
    have hb3 : Later w1 w3 := (hLd.alloc hLd.size _).grown hg3 (by simp; omega) (fun q hq => (hr2.lt q hq).1)
    refine ih m _ _ (by simp) ⟨o', out ++ [s[m]], rfl, by omega, ?_, fun x => ?_, by simp; omega, hb3.lst (lst_row hr1), by rw [List.length_append, ix_append]; exact hr3, hb3⟩
    · rw [List.pairwise_append]
      refine ⟨hri, by simp, fun x hx y hy => ?_⟩
      simp at hy
      subst hy
      have h1 := hbig x hx
      have h2 : x ≠ s[m] := fun e => hin (e ▸ hx)
      omega
    · rw [hdrop, List.mem_append, List.mem_singleton, List.mem_cons, hmem]
      exact Or.comm
  refine (lst_row hr2).len ?_
  simp only [iw_add, iw_sub, iw_mul, iw_lss, iw_leq, iw_gtr, iw_geq, iw_eql, iw_neq, iw_quo, iw_rem, un_not, len_s, len_l, nck_p, fld_p, cv_i, unc_c, ex_0, ex_1, ex_2, st_eq, st_ne, brV_true, brV_false, brV_b, brV_not, one_one, nil_p, nil_pn, nil_n, nil_nn, decide_eq_true_eq, true_and, nb_ite, bs_size, Nat.zero_add, Bool.not_true, Bool.not_false, Bool.false_eq_true, eq_self, if_true, if_false, jn]
  by_cases ho : out = []
  · subst ho
    rw [if_pos (by rfl)]
    exact add (by simp)
  rw [if_neg (by have := List.length_pos_iff.2 ho; omega)]
  refine (lst_row hr2).len ?_
  simp only [iw_add, iw_sub, iw_mul, iw_lss, iw_leq, iw_gtr, iw_geq, iw_eql, iw_neq, iw_quo, iw_rem, un_not, len_s, len_l, nck_p, fld_p, cv_i, unc_c, ex_0, ex_1, ex_2, st_eq, st_ne, brV_true, brV_false, brV_b, brV_not, one_one, nil_p, nil_pn, nil_n, nil_nn, decide_eq_true_eq, true_and, nb_ite, bs_size, Nat.zero_add, Bool.not_true, Bool.not_false, Bool.false_eq_true, eq_self, if_true, if_false, jn]
  obtain ⟨t, n, rfl⟩ : ∃ t n, out = t ++ [n] := ⟨out.dropLast, out.getLast ho, (List.dropLast_concat_getLast ho).symm⟩
  have e2 : IntKind.i64.wrap ((((t ++ [n]).length : Nat) : Int) - 1) = ((t.length : Nat) : Int) := by
    simp only [List.length_append, List.length_cons, List.length_nil] at hol ⊢
    rw [wrap64 (by omega) (by omega)]; omega
  rw [e2]
  refine (lst_row hr2d).at1 ix_last' (by simp) fun a1 ha1 _ => ?_
  refine hv2d.at1 (ix_get hlt) hlt fun a2 ha2 _ => ⟨_, ha1, _, ha2, ?_⟩
  simp only [iw_add, iw_sub, iw_mul, iw_lss, iw_leq, iw_gtr, iw_geq, iw_eql, iw_neq, iw_quo, iw_rem, un_not, len_s, len_l, nck_p, fld_p, cv_i, unc_c, ex_0, ex_1, ex_2, st_eq, st_ne, brV_true, brV_false, brV_b, brV_not, one_one, nil_p, nil_pn, nil_n, nil_nn, decide_eq_true_eq, true_and, nb_ite, bs_size, Nat.zero_add, Bool.not_true, Bool.not_false, Bool.false_eq_true, eq_self, if_true, if_false, jn]
  by_cases hne : n = s[m]
  · rw [if_pos hne]
    exact skip (by rw [← hne]; simp)
  · rw [if_neg hne]
    refine add fun hin => ?_
    have h1 := concat_last hri _ hin
    have h2 := hbig n (by simp)
    omega
end Go.Proofs.Ytlicdhdpngahgaa
