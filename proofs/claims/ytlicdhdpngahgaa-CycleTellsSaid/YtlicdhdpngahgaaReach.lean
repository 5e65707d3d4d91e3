/- To whom one comes: cycle's reach. -/
import Derived.Test.YtlicdhdpngahgaaSetM
import Derived.Test.YtlicdhdpngahgaaPairs
import Derived.Test.YtlicdhdpngahgaaRowAt
set_option linter.unusedVariables false
set_option linter.unusedSimpArgs false
namespace Go.Proofs.Ytlicdhdpngahgaa
open Go.Eng Go.RowKit
/-! ### What is meant -/
def kyE (at_ : Bool) (e : Pr) : Int := if at_ then e.2 else e.1
def otE (at_ : Bool) (e : Pr) : Int := if at_ then e.1 else e.2
/-- The other ends of the edges of one. -/
def sd (at_ : Bool) (E : List Pr) (n : Int) : List Int := (E.filter fun e => decide (kyE at_ e = n)).map (otE at_)
/-- One comes there by one step or more. -/
def TG (nx : Int → List Int) (a b : Int) : Prop := Relation.TransGen (fun x y => y ∈ nx x) a b
structure DI (nx : Int → List Int) (src : Int) (S T : List Int) : Prop where
  a : ∀ x ∈ S, TG nx src x
  b : ∀ x ∈ T, x = src ∨ x ∈ S
  c : ∀ x, (x = src ∨ x ∈ S) → x ∈ T ∨ ∀ y ∈ nx x, y ∈ S
  nd : S.Nodup
theorem DI.start (nx : Int → List Int) (src : Int) : DI nx src [] [src] := ⟨by simp, by simp, fun x h => .inl (by simpa using h), by simp⟩
theorem DI.done {nx : Int → List Int} {src : Int} {S : List Int} (h : DI nx src S []) (x : Int) : x ∈ S ↔ TG nx src x := by
  refine ⟨h.a x, fun hx => ?_⟩
  induction hx with
  | single h1 =>
    rcases h.c src (.inl rfl) with h2 | h2
    · cases h2
    · exact h2 _ h1
  | tail _ h1 ih =>
    rcases h.c _ (.inr ih) with h2 | h2
    · cases h2
    · exact h2 _ h1
/-- Within a round: j of those ahead of n are seen. -/
structure DJ (nx : Int → List Int) (src n : Int) (j : Nat) (S T : List Int) : Prop where
  a : ∀ x ∈ S, TG nx src x
  b : ∀ x ∈ T, x = src ∨ x ∈ S
  c : ∀ x, (x = src ∨ x ∈ S) → x ∈ T ∨ (∀ y ∈ nx x, y ∈ S) ∨ x = n
  p : ∀ y ∈ (nx n).take j, y ∈ S
  nn : n = src ∨ n ∈ S
  nd : S.Nodup
theorem DI.pop {nx : Int → List Int} {src n : Int} {S T : List Int} (h : DI nx src S (T ++ [n])) : DJ nx src n 0 S T where
  a := h.a
  b := fun x hx => h.b x (List.mem_append_left _ hx)
  c := fun x hx => by
    rcases h.c x hx with h1 | h1
    · rcases List.mem_append.1 h1 with h1 | h1
      · exact .inl h1
      · exact .inr (.inr (by simpa using h1))
    · exact .inr (.inl h1)
  p := by simp
  nn := h.b n (by simp)
  nd := h.nd
theorem DJ.old {nx : Int → List Int} {src n x : Int} {j : Nat} {S T : List Int} (h : DJ nx src n j S T) (hx : (nx n)[j]? = some x) (hm : x ∈ S) : DJ nx src n (j + 1) S T where
  a := h.a
  b := h.b
  c := h.c
  p := fun y hy => by
    rw [List.take_add_one, hx] at hy
    rcases List.mem_append.1 hy with hy | hy
    · exact h.p y hy
    · simp at hy; subst hy; exact hm
  nn := h.nn
  nd := h.nd
theorem DJ.new {nx : Int → List Int} {src n x : Int} {j : Nat} {S T : List Int} (h : DJ nx src n j S T) (hx : (nx n)[j]? = some x) (hm : x ∉ S) : DJ nx src n (j + 1) (S ++ [x]) (T ++ [x]) where
  a := fun y hy => by
    rcases List.mem_append.1 hy with hy | hy
    · exact h.a y hy
    · simp at hy
      subst hy
      have h1 : y ∈ nx n := List.mem_of_getElem? hx
      rcases h.nn with h2 | h2
      · subst h2; exact .single h1
      · exact .tail (h.a n h2) h1
  b := fun y hy => by
    rcases List.mem_append.1 hy with hy | hy
    · rcases h.b y hy with h1 | h1
      · exact .inl h1
      · exact .inr (List.mem_append_left _ h1)
    · exact .inr (List.mem_append_right _ hy)
  c := fun y hy => by
    have key : (y = src ∨ y ∈ S) → y ∈ T ++ [x] ∨ (∀ z ∈ nx y, z ∈ S ++ [x]) ∨ y = n := fun hy => by
      rcases h.c y hy with h1 | h1 | h1
      · exact .inl (List.mem_append_left _ h1)
      · exact .inr (.inl fun z hz => List.mem_append_left _ (h1 z hz))
      · exact .inr (.inr h1)
    rcases hy with hy | hy
    · exact key (.inl hy)
    · rcases List.mem_append.1 hy with hy | hy
      · exact key (.inr hy)
      · exact .inl (List.mem_append_right _ hy)
  p := fun y hy => by
    rw [List.take_add_one, hx] at hy
    rcases List.mem_append.1 hy with hy | hy
    · exact List.mem_append_left _ (h.p y hy)
    · simp at hy; subst hy; simp
  nn := h.nn.imp id (List.mem_append_left _)
  nd := by
    rw [List.nodup_append]
    exact ⟨h.nd, by simp, fun a ha b hb e => by simp at hb; subst hb; subst e; exact hm ha⟩
theorem DJ.close {nx : Int → List Int} {src n : Int} {S T : List Int} (h : DJ nx src n (nx n).length S T) : DI nx src S T where
  a := h.a
  b := h.b
  c := fun x hx => by
    rcases h.c x hx with h1 | h1 | h1
    · exact .inl h1
    · exact .inr h1
    · subst h1
      exact .inr fun y hy => h.p y (by rwa [List.take_length])
  nd := h.nd
theorem nodup_le : ∀ {l m : List Int}, l.Nodup → (∀ x ∈ l, x ∈ m) → l.length ≤ m.length
  | [], _, _, _ => Nat.zero_le _
  | x :: l, m, hn, hs => by
    have hx := hs x List.mem_cons_self
    have h1 := nodup_le (l := l) (m := m.erase x) (List.nodup_cons.1 hn).2 fun y hy => by
      have hne : y ≠ x := fun e => by subst e; exact (List.nodup_cons.1 hn).1 hy
      exact (List.mem_erase_of_ne hne).2 (hs y (List.mem_cons_of_mem _ hy))
    rw [List.length_erase_of_mem hx] at h1
    have := List.length_pos_of_mem hx
    simp only [List.length_cons]
    omega
theorem TG_last {nx : Int → List Int} {a b : Int} (h : TG nx a b) : ∃ x, b ∈ nx x := by
  cases h with
  | single h => exact ⟨_, h⟩
  | tail _ h => exact ⟨_, h⟩
theorem sd_sub {at_ : Bool} {E : List Pr} {n x : Int} (h : x ∈ sd at_ E n) : x ∈ E.map (otE at_) := by
  obtain ⟨e, he, rfl⟩ := List.mem_map.1 h
  exact List.mem_map.2 ⟨e, (List.mem_filter.1 he).1, rfl⟩
theorem DJ.few {at_ : Bool} {E : List Pr} {src n : Int} {j : Nat} {S T : List Int} (h : DJ (sd at_ E) src n j S T) : S.length ≤ E.length := by
  have := nodup_le (m := E.map (otE at_)) h.nd fun x hx => by
    obtain ⟨y, hy⟩ := TG_last (h.a x hx)
    exact sd_sub hy
  simpa using this
theorem sd_inR {at_ : Bool} {E : List Pr} (hE : ∀ e ∈ E, InR e.1 ∧ InR e.2) {n x : Int} (h : x ∈ sd at_ E n) : InR x := by
  obtain ⟨e, he, rfl⟩ := List.mem_map.1 (sd_sub h)
  unfold otE
  split
  · exact (hE e he).1
  · exact (hE e he).2
theorem sd_len (at_ : Bool) (E : List Pr) (n : Int) : (sd at_ E n).length ≤ E.length := by
  simp only [sd, List.length_map]
  exact List.length_filter_le _ _

/-! ### The walk -/
def atV (at_ : Bool) : Value := .int .i64 (if at_ then 1 else 0)
theorem sd_succ (at_ : Bool) (E : List Pr) (n : Int) {i : Nat} (h : i < E.length) : sd at_ (E.take (i + 1)) n = sd at_ (E.take i) n ++ (if kyE at_ E[i] = n then [otE at_ E[i]] else []) := by
  rw [List.take_add_one, List.getElem?_eq_getElem h]
  simp only [sd, List.filter_append, List.map_append, Option.toList_some]
  congr 1
  by_cases hk : kyE at_ E[i] = n
  · simp [List.filter, hk]
  · simp [List.filter, hk]
theorem side_from {at_ : Bool} {E : List Pr} {n : Int} {ve : Value} {w : World} {k : Value → World → Prop} (hve : Lst w ve E.length (px E)) (hn : E.length ≤ 1000)
    (hk : ∀ v w', Later w w' → w'.ownsRow w.heap.size 3 1 v (sd at_ E n).length (ix (sd at_ E n)) → k v w') :
    callW Try.prog (.func (.func 61) #[] #[]) [.agg #[ve], .int .i64 n, atV at_] w k := by
  apply cycle_graph_side_call
  apply cycle_graph_side_run
  simp only [cycle_graph_side, Value.cells]
  refine al_lit fun g W hL hg hgs => ?_
  simp only [iw_add, iw_sub, iw_mul, iw_lss, iw_leq, iw_gtr, iw_geq, iw_eql, iw_neq, iw_quo, iw_rem, un_not, len_s, len_l, nck_p, fld_p, cv_i, unc_c, ex_0, ex_1, ex_2, st_eq, st_ne, brV_true, brV_false, brV_b, brV_not, one_one, nil_p, nil_pn, nil_n, nil_nn, decide_eq_true_eq, true_and, nb_ite, bs_size, Nat.zero_add, Bool.not_true, Bool.not_false, Bool.false_eq_true, eq_self, if_true, if_false, jn]
  refine ldC_heap hg (v := ve) rfl ?_
  refine (hL.lst hve).len ?_
  refine lp_ind _ (fun (m : Nat) r w1 => ∃ o, r = [.int .i64 n, atV at_, o, ve, .int .i64 E.length, .int .i64 ((E.length - m : Nat) : Int)] ∧ m ≤ E.length ∧ w1.ownsRow w.heap.size 3 1 o (sd at_ (E.take (E.length - m)) n).length (ix (sd at_ (E.take (E.length - m)) n)) ∧ Later w w1) id ?_ (i := E.length) ⟨.slice none 0 0, by simp, Nat.le_refl _, by simpa [sd, ix] using World.ownsRow_nil W w.heap.size 3 1, hL⟩
  rintro m r w1 rec ⟨o, rfl, hm, hr, hL1⟩ ih
  simp only [cycle_graph_side_L3, iw_add, iw_sub, iw_mul, iw_lss, iw_leq, iw_gtr, iw_geq, iw_eql, iw_neq, iw_quo, iw_rem, un_not, len_s, len_l, nck_p, fld_p, cv_i, unc_c, ex_0, ex_1, ex_2, st_eq, st_ne, brV_true, brV_false, brV_b, brV_not, one_one, nil_p, nil_pn, nil_n, nil_nn, decide_eq_true_eq, true_and, nb_ite, bs_size, Nat.zero_add, Bool.not_true, Bool.not_false, Bool.false_eq_true, eq_self, if_true, if_false, jn]
  by_cases h0 : m = 0
  · subst h0
    rw [if_neg (by omega)]
    rw [Nat.sub_zero, List.take_length] at hr
    exact hk o w1 hL1 hr
  obtain ⟨m, rfl⟩ : ∃ q, m = q + 1 := ⟨m - 1, by omega⟩
  rw [if_pos (by omega)]
  have hlt : E.length - (m + 1) < E.length := by omega
  have hmi : E.length - m = E.length - (m + 1) + 1 := by omega
  generalize hi : E.length - (m + 1) = i at *
  have hlen := sd_len at_ (E.take i) n
  simp only [List.length_take] at hlen
  refine pair_at (hL1.lst hve) hlt fun b1 o1 h1 h1' => ldN2 h1 h1' ?_
  refine al_lit fun g2 W2 hL2 hg2 hg2s => ?_
  refine stN_heap hg2 rfl rfl (by simp [isCell]) fun W3 hg3 hs3 hb3 ho3 => ?_
  have hL3 : Later w1 W3 := hL2.trans (hb3 _ (by omega))
  have hr3 := hL3.row hr
  have hs2 := hL1.size
  have hsw := hL3.size
  have hLw : Later w W3 := hL1.tr hL3
  have e1 : (if at_ then (1 : Int) else 0).toNat = if at_ then 1 else 0 := by cases at_ <;> rfl
  have e2 : ((1 : Int) - if at_ then (1 : Int) else 0).toNat = if at_ then 0 else 1 := by cases at_ <;> rfl
  have e3 : IntKind.i64.wrap ((1 : Int) - if at_ then (1 : Int) else 0) = (1 : Int) - if at_ then (1 : Int) else 0 := by cases at_ <;> exact wrap64 (by decide) (by decide)
  refine ixArr (by cases at_ <;> decide) (by cases at_ <;> decide) ?_
  rw [e1, Nat.zero_add]
  refine ldC_heap hg3 (v := .int .i64 (kyE at_ E[i])) (by cases at_ <;> rfl) ?_
  simp only [iw_add, iw_sub, iw_mul, iw_lss, iw_leq, iw_gtr, iw_geq, iw_eql, iw_neq, iw_quo, iw_rem, un_not, len_s, len_l, nck_p, fld_p, cv_i, unc_c, ex_0, ex_1, ex_2, st_eq, st_ne, brV_true, brV_false, brV_b, brV_not, one_one, nil_p, nil_pn, nil_n, nil_nn, decide_eq_true_eq, true_and, nb_ite, bs_size, Nat.zero_add, Bool.not_true, Bool.not_false, Bool.false_eq_true, eq_self, if_true, if_false, jn, atV]
  have fin : ∀ o' W', w.heap.size ≤ W'.heap.size → Later w W' → W'.ownsRow w.heap.size 3 1 o' (sd at_ (E.take (i + 1)) n).length (ix (sd at_ (E.take (i + 1)) n)) → cycle_graph_side_J7 k rec [.int .i64 n, atV at_, o', ve, .int .i64 E.length, .int .i64 (i : Int)] W' := fun o' W' hs' hL' hr' => by
    simp only [cycle_graph_side_J7, iw_add, iw_sub, iw_mul, iw_lss, iw_leq, iw_gtr, iw_geq, iw_eql, iw_neq, iw_quo, iw_rem, un_not, len_s, len_l, nck_p, fld_p, cv_i, unc_c, ex_0, ex_1, ex_2, st_eq, st_ne, brV_true, brV_false, brV_b, brV_not, one_one, nil_p, nil_pn, nil_n, nil_nn, decide_eq_true_eq, true_and, nb_ite, bs_size, Nat.zero_add, Bool.not_true, Bool.not_false, Bool.false_eq_true, eq_self, if_true, if_false, jn]
    rw [wrap64 (by omega) (by omega)]
    exact ih m _ _ (by simp) ⟨o', by rw [hmi]; rfl, by omega, by rw [hmi]; exact hr', hL'⟩
  by_cases hky : kyE at_ E[i] = n
  · rw [if_pos hky, e3]
    refine ixArr (by cases at_ <;> decide) (by cases at_ <;> decide) ?_
    rw [e2, Nat.zero_add]
    refine ldC_heap hg3 (v := .int .i64 (otE at_ E[i])) (by cases at_ <;> rfl) ?_
    refine blS_one rfl ?_
    refine app T_ints (hr3.alloc _) (one_int _ _) (by simp only [maxLen]; omega) (by omega) (by simp; omega) fun v' w3 hr3 hg3 _ _ => ?_
    refine fin v' w3 (by have := hg3.size; simp at this; omega) ((hLw.alloc (by omega) _).grown hg3 (by simp; omega) (fun k hk => (hr.lt k hk).1)) ?_
    rw [sd_succ _ _ _ hlt, if_pos hky, ix_append, List.length_append]
    exact hr3
  · rw [if_neg hky]
    refine fin o W3 (by omega) hLw ?_
    rw [sd_succ _ _ _ hlt, if_neg hky, List.append_nil]
    exact hr3
end Go.Proofs.Ytlicdhdpngahgaa
