/- Chapter 12: numbers that have no room are refused; the greatest that have it are not. -/
import Derived.Test.YtlicdhdpngahgaaDoorAlive
set_option linter.unusedVariables false
set_option linter.unusedSimpArgs false
namespace Go.Proofs.YtlicdhdpngahgaaDoor
open Go.Eng Go.RowKit
def recF (kind tx prev next : Int) (pages : List Int) : Rec := ⟨kind, tx, prev, next, [], false, [], [], 0, 0, pages, [], [], []⟩
theorem recF_ok {kind tx prev next : Int} {pages : List Int} : (recF kind tx prev next pages).ok ↔ (1 ≤ kind ∧ kind ≤ 7) ∧ in2 tx ∧ in4 prev ∧ in4 next ∧ pagesOk pages := by
  simp [Rec.ok, recF]
theorem fill_recF {k : Value → Prop} (hk : k (.agg (rcells (recF 1 0 0 0 []) (.slice none 0 0) (.slice none 0 0) (.slice none 0 0) (.slice none 0 0)))) :
    fillL [(0, 1), (1, 1), (2, 1), (3, 1), (4, 1), (5, 1), (6, 4), (10, 1), (11, 1), (12, 1), (13, 1)] #[.int .i64 0, .int .i64 0, .int .i64 0, .int .i64 0, .string ⟨#[]⟩, .bool false, .string ⟨#[]⟩, .string ⟨#[]⟩, .int .i64 0, .int .i64 0, .slice none 0 0, .slice none 0 0, .slice none 0 0, .slice none 0 0]
      [(0, .int .i64 1)] k := by
  simpa [fillL, Instr.fill, Value.cells, rcells, recF, bs] using hk
theorem recF_v {w : World} {vp : Value} {kind tx prev next : Int} {pages : List Int} (hp : Lst w vp pages.length (ix pages)) : RecV w vp (.slice none 0 0) (.slice none 0 0) (.slice none 0 0) [] (recF kind tx prev next pages) :=
  ⟨hp, lst_nil _ _ _, lst_nil _ _ _, lst_nil _ _ _, rfl, fun i x hx => by simp [recF] at hx⟩
theorem Edges_J18 {W w : World} {g : Nat} {r : Rec} {vp vq vt vd : Value} {ps : List Value} {T : TypeId} {c : Bool} {k : Value → World → Prop} (hT : Tab w) (hv : RecV w vp vq vt vd ps r) (hg : w.heap[g]? = some (.cells (rcells r vp vq vt vd) T (0, 0)))
    (hc : c = decide r.ok) (hL : Later W w) (hk : ∀ w', Later W w' → k (.bool true) w') : honeycomblaw12_RecordEdges_J18 k [.pointer (some ⟨g, 0, none⟩), .bool c] w := by
  simp only [honeycomblaw12_RecordEdges_J18, iw_add, iw_sub, iw_mul, iw_lss, iw_leq, iw_gtr, iw_geq, iw_eql, iw_neq, iw_quo, iw_rem, un_not, len_s, len_l, nck_p, fld_p, cv_i, unc_c, ex_0, ex_1, ex_2, st_eq, st_ne, brV_true, brV_false, brV_b, brV_not, one_one, nil_p, nil_pn, nil_n, nil_nn, decide_eq_true_eq, true_and, nb_ite, bs_size, Nat.zero_add, Bool.not_true, Bool.not_false, Bool.false_eq_true, eq_self, if_true, if_false, jn]
  refine ldN_heap hg rfl ?_
  refine Put_from hT hv fun w1 hL1 => ?_
  simp only [iw_add, iw_sub, iw_mul, iw_lss, iw_leq, iw_gtr, iw_geq, iw_eql, iw_neq, iw_quo, iw_rem, un_not, len_s, len_l, nck_p, fld_p, cv_i, unc_c, ex_0, ex_1, ex_2, st_eq, st_ne, brV_true, brV_false, brV_b, brV_not, one_one, nil_p, nil_pn, nil_n, nil_nn, decide_eq_true_eq, true_and, nb_ite, bs_size, Nat.zero_add, Bool.not_true, Bool.not_false, Bool.false_eq_true, eq_self, if_true, if_false, jn, nil6_eq]
  subst hc
  simp only [BEq.rfl, iw_add, iw_sub, iw_mul, iw_lss, iw_leq, iw_gtr, iw_geq, iw_eql, iw_neq, iw_quo, iw_rem, un_not, len_s, len_l, nck_p, fld_p, cv_i, unc_c, ex_0, ex_1, ex_2, st_eq, st_ne, brV_true, brV_false, brV_b, brV_not, one_one, nil_p, nil_pn, nil_n, nil_nn, decide_eq_true_eq, true_and, nb_ite, bs_size, Nat.zero_add, Bool.not_true, Bool.not_false, Bool.false_eq_true, eq_self, if_true, if_false, jn]
  refine ldN_heap (hL1.heap hg) rfl ?_
  refine Right_from (hT.later hL1) (hv.later hL1) fun w2 hL2 => ?_
  simp only [BEq.rfl, iw_add, iw_sub, iw_mul, iw_lss, iw_leq, iw_gtr, iw_geq, iw_eql, iw_neq, iw_quo, iw_rem, un_not, len_s, len_l, nck_p, fld_p, cv_i, unc_c, ex_0, ex_1, ex_2, st_eq, st_ne, brV_true, brV_false, brV_b, brV_not, one_one, nil_p, nil_pn, nil_n, nil_nn, decide_eq_true_eq, true_and, nb_ite, bs_size, Nat.zero_add, Bool.not_true, Bool.not_false, Bool.false_eq_true, eq_self, if_true, if_false, jn, nil6_eq]
  by_cases h : r.ok
  · simp only [h, iw_add, iw_sub, iw_mul, iw_lss, iw_leq, iw_gtr, iw_geq, iw_eql, iw_neq, iw_quo, iw_rem, un_not, len_s, len_l, nck_p, fld_p, cv_i, unc_c, ex_0, ex_1, ex_2, st_eq, st_ne, brV_true, brV_false, brV_b, brV_not, one_one, nil_p, nil_pn, nil_n, nil_nn, decide_eq_true_eq, true_and, nb_ite, bs_size, Nat.zero_add, Bool.not_true, Bool.not_false, Bool.false_eq_true, eq_self, if_true, if_false, jn]
    simpa [h] using hk w2 ((hL.tr hL1).tr hL2)
  · have := hk w2 ((hL.tr hL1).tr hL2)
    simp only [h, show (⟨#[]⟩ : ByteArray) = bs [] from rfl, iw_add, iw_sub, iw_mul, iw_lss, iw_leq, iw_gtr, iw_geq, iw_eql, iw_neq, iw_quo, iw_rem, un_not, len_s, len_l, nck_p, fld_p, cv_i, unc_c, ex_0, ex_1, ex_2, st_eq, st_ne, brV_true, brV_false, brV_b, brV_not, one_one, nil_p, nil_pn, nil_n, nil_nn, decide_eq_true_eq, true_and, nb_ite, bs_size, Nat.zero_add, Bool.not_true, Bool.not_false, Bool.false_eq_true, eq_self, if_true, if_false, jn]
    simpa [h] using this
theorem RecordEdges_spec {a v : Int} {w : World} {k : Value → World → Prop} (hT : Tab w) (hk : ∀ w', Later w w' → k (.bool true) w') :
    Calls Tryd.prog 7 #[.int .i64 a, .int .i64 v] w (rt k) := by
  apply honeycomblaw12_RecordEdges_run
  unfold honeycomblaw12_RecordEdges
  refine alive12_from hT fun w1 hL1 => ?_
  have hT1 := hT.later hL1
  simp only [iw_add, iw_sub, iw_mul, iw_lss, iw_leq, iw_gtr, iw_geq, iw_eql, iw_neq, iw_quo, iw_rem, un_not, len_s, len_l, nck_p, fld_p, cv_i, unc_c, ex_0, ex_1, ex_2, st_eq, st_ne, brV_true, brV_false, brV_b, brV_not, one_one, nil_p, nil_pn, nil_n, nil_nn, decide_eq_true_eq, true_and, nb_ite, bs_size, Nat.zero_add, Bool.not_true, Bool.not_false, Bool.false_eq_true, eq_self, if_true, if_false, jn]
  refine fill_recF ?_
  refine lay_rec (recF_v (lst_nil _ _ _)) rfl fun g w2 hL2 hg hgs => ?_
  have hT2 := hT1.later hL2
  have hL := hL1.tr hL2
  have hs0 := hL1.size
  have key : ∀ c : Bool, c = decide (in2 v) → honeycomblaw12_RecordEdges_J5 k [.int .i64 a, .int .i64 v, .pointer (some ⟨g, 0, none⟩), .bool c] w2 := fun c hc => by
    have out : ∀ {w3 : World} {kind tx prev next : Int} {pages : List Int} {vp : Value} {c : Bool}, Later w2 w3 → w3.heap[g]? = some (.cells (rcells (recF 1 0 0 0 []) (.slice none 0 0) (.slice none 0 0) (.slice none 0 0) (.slice none 0 0)) 29 (0, 0)) →
        Lst w3 vp pages.length (ix pages) → c = decide ((recF kind tx prev next pages).ok) → ∀ w4, w4.heap[g]? = some (.cells (rcells (recF kind tx prev next pages) vp (.slice none 0 0) (.slice none 0 0) (.slice none 0 0)) 29 (0, 0)) → Only g w3 w4 → (∀ q, vp.ownBlock = some q → q ≠ g) →
        honeycomblaw12_RecordEdges_J18 k [.pointer (some ⟨g, 0, none⟩), .bool c] w4 := fun {w3 kind tx prev next pages vp c} hL3 _ hp hc w4 h4 ho hne => by
      have hB : Below w.heap.size w w4 := Below.trans (hL.tr hL3) (ho.below _ (by omega))
      have hT4 : Tab w4 := hT.later hB
      refine Edges_J18 hT4 (recF_v ?_) h4 hc hB hk
      obtain ⟨p, cap, rfl, hx⟩ := hp
      refine ⟨p, cap, rfl, ?_⟩
      rcases hx with hx | ⟨b, o, rfl, hx⟩
      · exact .inl hx
      · refine .inr ⟨b, o, rfl, fun j u hu => ?_⟩
        have := hx j u hu
        rw [World.cell?] at this ⊢
        rw [ho.other b (hne b rfl)]
        exact this
    have no : ∀ (p : Option Addr) q, p = none → (Value.slice p 0 0).ownBlock = some q → q ≠ g := fun p q hp h => by subst hp; cases h
    simp only [honeycomblaw12_RecordEdges_J5, iw_add, iw_sub, iw_mul, iw_lss, iw_leq, iw_gtr, iw_geq, iw_eql, iw_neq, iw_quo, iw_rem, un_not, len_s, len_l, nck_p, fld_p, cv_i, unc_c, ex_0, ex_1, ex_2, st_eq, st_ne, brV_true, brV_false, brV_b, brV_not, one_one, nil_p, nil_pn, nil_n, nil_nn, decide_eq_true_eq, true_and, nb_ite, bs_size, Nat.zero_add, Bool.not_true, Bool.not_false, Bool.false_eq_true, eq_self, if_true, if_false, jn]
    refine ⟨by decide, by decide, ?_⟩
    generalize Int.tmod (IntKind.i64.wrap (Int.tmod a 5 + 5)) 5 = z
    have p0 : pagesOk [] := by decide
    have z2 : in2 0 := by decide
    have z4 : in4 0 := by decide
    have o2 : in2 1 := by decide
    have k1 : (1 : Int) ≤ 1 ∧ (1 : Int) ≤ 7 := by decide
    have in4_d : ∀ x : Int, 0 ≤ x → decide (x ≤ 4294967295) = decide (in4 x) := fun x hx => decide_eq_decide.2 ⟨fun h => ⟨hx, h⟩, fun h => h.2⟩
    by_cases hz0 : z = 0
    · rw [if_pos hz0]
      refine stC_heap hg (by decide) rfl fun w3 h3 ho => ?_
      exact out (kind := 1) (tx := v) (prev := 0) (next := 0) (pages := []) (Later.refl _) hg (lst_nil _ none 0) (by rw [hc]; exact decide_eq_decide.2 (by simp [recF_ok, z4, p0])) w3 h3 ho (fun q hq => by cases hq)
    rw [if_neg hz0]
    by_cases hz1 : z = 1
    · rw [if_pos hz1]
      refine stC_heap hg (by decide) rfl fun w3 h3 ho => ?_
      have fin : ∀ c, c = decide (in4 v) → honeycomblaw12_RecordEdges_J18 k [.pointer (some ⟨g, 0, none⟩), .bool c] w3 := fun c hc =>
        out (kind := 1) (tx := 0) (prev := v) (next := 0) (pages := []) (Later.refl _) hg (lst_nil _ none 0) (by rw [hc]; exact decide_eq_decide.2 (by simp [recF_ok, z2, z4, p0])) w3 h3 ho (fun q hq => by cases hq)
      by_cases hv0 : v ≥ 0
      · rw [if_pos hv0]; exact fin _ (in4_d v hv0)
      · rw [if_neg hv0]; exact fin false (decide_eq_false fun h : in4 v => hv0 h.1).symm
    rw [if_neg hz1]
    by_cases hz2 : z = 2
    · rw [if_pos hz2]
      refine stC_heap hg (by decide) rfl fun w3 h3 ho => ?_
      have fin : ∀ c, c = decide (in4 v) → honeycomblaw12_RecordEdges_J18 k [.pointer (some ⟨g, 0, none⟩), .bool c] w3 := fun c hc =>
        out (kind := 1) (tx := 0) (prev := 0) (next := v) (pages := []) (Later.refl _) hg (lst_nil _ none 0) (by rw [hc]; exact decide_eq_decide.2 (by simp [recF_ok, z2, z4, p0])) w3 h3 ho (fun q hq => by cases hq)
      by_cases hv0 : v ≥ 0
      · rw [if_pos hv0]; exact fin _ (in4_d v hv0)
      · rw [if_neg hv0]; exact fin false (decide_eq_false fun h : in4 v => hv0 h.1).symm
    rw [if_neg hz2]
    by_cases hz3 : z = 3
    · rw [if_pos hz3]
      refine blS_lit (ix [1, v]).toArray (by simp [Instr.fill, Value.cells, ix]; apply Array.ext'; simp [List.range, List.range.loop]) rfl (by decide) fun vz w3 hL3 hr3 hb3 => ?_
      have hg3 := hL3.heap hg
      have hlt := lt_of_heap hg
      refine stC_heap hg3 (by decide) (Lst.cell (lst_row hr3)).1 fun w4 h4 ho => ?_
      exact out (kind := 1) (tx := 0) (prev := 0) (next := 0) (pages := [1, v]) hL3 hg3 (lst_row hr3) (by rw [hc]; exact decide_eq_decide.2 (by simp [recF_ok, z2, z4, pagesOk, o2])) w4 h4 ho (fun q hq => by rw [hb3] at hq; have := Option.some.inj hq; omega)
    rw [if_neg hz3]
    refine stC_heap hg (by decide) rfl fun w3 h3 ho => ?_
    have fin : ∀ c, c = decide (1 ≤ v ∧ v ≤ 7) → honeycomblaw12_RecordEdges_J18 k [.pointer (some ⟨g, 0, none⟩), .bool c] w3 := fun c hc =>
      out (kind := v) (tx := 0) (prev := 0) (next := 0) (pages := []) (Later.refl _) hg (lst_nil _ none 0) (by rw [hc]; exact decide_eq_decide.2 (by simp [recF_ok, z2, z4, p0])) w3 h3 ho (fun q hq => by cases hq)
    by_cases hv0 : v ≥ 1
    · rw [if_pos hv0]; exact fin _ (decide_eq_decide.2 ⟨fun h => ⟨hv0, h⟩, fun h => h.2⟩)
    · rw [if_neg hv0]; exact fin false (decide_eq_false fun h : 1 ≤ v ∧ v ≤ 7 => hv0 h.1).symm
  by_cases h0 : v ≥ 0
  · rw [if_pos h0]
    refine key _ ?_
    by_cases h7 : v ≤ 65535
    · rw [decide_eq_true h7, decide_eq_true (show in2 v from ⟨h0, h7⟩)]
    · rw [decide_eq_false h7, decide_eq_false fun h : in2 v => h7 h.2]
  · rw [if_neg h0]
    exact key false (decide_eq_false fun h : in2 v => h0 h.1).symm
end Go.Proofs.YtlicdhdpngahgaaDoor
