/- Chapter 12: RecordMany, whole. -/
import Derived.Test.YtlicdhdpngahgaaDoorMany
set_option linter.unusedVariables false
set_option linter.unusedSimpArgs false
namespace Go.Proofs.YtlicdhdpngahgaaDoor
open Go.Eng Go.RowKit
set_option maxHeartbeats 1000000 in
theorem Many_J4 {w wE : World} {g p n t d : Nat} {vp vt vd : Value} {T : TypeId} {k : Value → World → Prop} (hT : Tab w) (hL : Later w wE) (hg : wE.heap[g]? = some (.cells (rcells (recM p 0 t d) vp (.slice none 0 0) vt vd) T (0, 0))) (hlo : w.heap.size ≤ g)
    (h1 : wE.ownsRow w.heap.size 3 1 vp p (ix (List.replicate p 0))) (h2 : wE.ownsRow w.heap.size 41 4 vt t (vx (List.replicate t (.slice none 0 0)) (List.replicate t tx0))) (h3 : wE.ownsRow w.heap.size 74 2 vd d (dx (List.replicate d (0, 0))))
    (n1 : vp.ownBlock ≠ some g) (n2 : vt.ownBlock ≠ some g) (n3 : vd.ownBlock ≠ some g) (hp : p ≤ 80) (hn : n ≤ 60) (ht : t ≤ 20) (hd : d ≤ 80) (hk : ∀ w', Later w w' → k (.bool true) w') :
    honeycomblaw12_RecordMany_J4 k [.int .i64 p, .int .i64 n, .int .i64 t, .int .i64 d, .pointer (some ⟨g, 0, none⟩)] wE := by
  have hgl := lt_of_heap hg
  simp only [honeycomblaw12_RecordMany_J4, iw_add, iw_sub, iw_mul, iw_lss, iw_leq, iw_gtr, iw_geq, iw_eql, iw_neq, iw_quo, iw_rem, un_not, len_s, len_l, nck_p, fld_p, cv_i, unc_c, ex_0, ex_1, ex_2, st_eq, st_ne, brV_true, brV_false, brV_b, brV_not, one_one, nil_p, nil_pn, nil_n, nil_nn, decide_eq_true_eq, true_and, nb_ite, bs_size, Nat.zero_add, Bool.not_true, Bool.not_false, Bool.false_eq_true, eq_self, if_true, if_false, jn]
  refine lp_ind _ (fun (m : Nat) l w6 => ∃ vq, l = [.int .i64 p, .int .i64 n, .int .i64 t, .int .i64 d, .pointer (some ⟨g, 0, none⟩), .int .i64 ((n - m : Nat) : Int)] ∧ m ≤ n ∧ w6.heap[g]? = some (.cells (rcells (recM p (n - m) t d) vp vq vt vd) T (0, 0)) ∧ w6.ownsRow wE.heap.size 39 3 vq (n - m) (qx (patsTo (n - m))) ∧
      (∀ q, q < wE.heap.size → q ≠ g → w6.heap[q]? = wE.heap[q]?) ∧ Below w.heap.size w w6 ∧ wE.heap.size ≤ w6.heap.size) id ?_ (i := n) ⟨.slice none 0 0, by rw [Nat.sub_self]; rfl, Nat.le_refl _, by rw [Nat.sub_self]; exact hg, by rw [Nat.sub_self]; exact ⟨rfl, .inl ⟨rfl, rfl⟩⟩, fun _ _ _ => rfl, hL, Nat.le_refl _⟩
  rintro m l w6 rec ⟨vq, rfl, hm, hg6, hr6, hE6, hB6, hs6⟩ ih
  have hp6 := lst_row (ownsRow_block h1 fun q hq => hE6 q (h1.lt q hq).2 (fun e => n1 (by rw [hq, e])))
  have ht6 := lst_row (ownsRow_block h2 fun q hq => hE6 q (h2.lt q hq).2 (fun e => n2 (by rw [hq, e])))
  have hd6 := lst_row (ownsRow_block h3 fun q hq => hE6 q (h3.lt q hq).2 (fun e => n3 (by rw [hq, e])))
  have hv6 : RecV w6 vp vq vt vd (List.replicate t (.slice none 0 0)) (recM p (n - m) t d) :=
    ⟨by simpa [recM] using hp6, by simpa [recM] using lst_row hr6, by simpa [recM] using ht6, by simpa [recM] using hd6, by simp [recM], fun i x hx => by
      have hx' : (List.replicate t tx0)[i]? = some x := hx
      rw [List.getElem?_replicate] at hx'
      split at hx'
      · rename_i hi
        have := Option.some.inj hx'
        subst this
        exact ⟨.slice none 0 0, by rw [List.getElem?_replicate, if_pos hi], lst_nil _ _ _⟩
      · cases hx'⟩
  have hT6 : Tab w6 := hT.later hB6
  simp only [honeycomblaw12_RecordMany_L5, iw_add, iw_sub, iw_mul, iw_lss, iw_leq, iw_gtr, iw_geq, iw_eql, iw_neq, iw_quo, iw_rem, un_not, len_s, len_l, nck_p, fld_p, cv_i, unc_c, ex_0, ex_1, ex_2, st_eq, st_ne, brV_true, brV_false, brV_b, brV_not, one_one, nil_p, nil_pn, nil_n, nil_nn, decide_eq_true_eq, true_and, nb_ite, bs_size, Nat.zero_add, Bool.not_true, Bool.not_false, Bool.false_eq_true, eq_self, if_true, if_false, jn]
  by_cases h0 : m = 0
  · subst h0
    rw [if_neg (by omega)]
    simp only [Nat.sub_zero] at hg6 hr6 hv6
    refine ldN_heap hg6 rfl ?_
    refine Put_from hT6 hv6 fun w7 hL7 => ?_
    have hok := recM_ok (p := p) (t := t) (d := d) hn
    simp only [iw_add, iw_sub, iw_mul, iw_lss, iw_leq, iw_gtr, iw_geq, iw_eql, iw_neq, iw_quo, iw_rem, un_not, len_s, len_l, nck_p, fld_p, cv_i, unc_c, ex_0, ex_1, ex_2, st_eq, st_ne, brV_true, brV_false, brV_b, brV_not, one_one, nil_p, nil_pn, nil_n, nil_nn, decide_eq_true_eq, true_and, nb_ite, bs_size, Nat.zero_add, Bool.not_true, Bool.not_false, Bool.false_eq_true, eq_self, if_true, if_false, jn]
    generalize hD : decide (recM p n t d).ok = D
    have leaf : ∀ c, c = D → nilW 6 .eql (.bool D) (.bool c) fun t87 => brV t87 (ldN 14 (.pointer (some ⟨g, 0, none⟩)) w7 fun t89 _ => callW Tryd.prog (.func (.func 22) #[] #[]) [t89] w7 fun t90 w => lenSl t90 fun t91 => intW .eql t91 (.int .i64 n) fun t93 => k t93 w) (k (.bool false) w7) := fun c hc => by
      rw [nil6_eq, hc]
      simp only [BEq.rfl, brV_true]
      refine ldN_heap (hL7.heap hg6) rfl ?_
      refine Touches_from (hv6.later hL7) (by simp [recM]; omega) fun v' l w8 hL8 hri hr8 => ?_
      refine (lst_row hr8).len ?_
      have hln := rise_range hri
      simp only [iw_add, iw_sub, iw_mul, iw_lss, iw_leq, iw_gtr, iw_geq, iw_eql, iw_neq, iw_quo, iw_rem, un_not, len_s, len_l, nck_p, fld_p, cv_i, unc_c, ex_0, ex_1, ex_2, st_eq, st_ne, brV_true, brV_false, brV_b, brV_not, one_one, nil_p, nil_pn, nil_n, nil_nn, decide_eq_true_eq, true_and, nb_ite, bs_size, Nat.zero_add, Bool.not_true, Bool.not_false, Bool.false_eq_true, eq_self, if_true, if_false, jn, hln, decide_true]
      exact hk w8 ((Later.tr hB6 hL7).tr hL8)
    have no : ¬ (p ≤ 64 ∧ n ≤ 40 ∧ t ≤ 8 ∧ d ≤ 64) → false = D := fun h => by rw [← hD, decide_eq_false fun h' => h (hok.1 h')]
    by_cases c1 : (p : Int) ≤ 64
    · rw [if_pos c1]
      by_cases c2 : (n : Int) ≤ 40
      · rw [if_pos c2]
        by_cases c3 : (t : Int) ≤ 8
        · rw [if_pos c3]
          refine leaf _ ?_
          rw [← hD]
          exact decide_eq_decide.2 ⟨fun h => hok.2 ⟨by omega, by omega, by omega, by omega⟩, fun h => by have := hok.1 h; omega⟩
        · rw [if_neg c3]; exact leaf _ (no (by omega))
      · rw [if_neg c2]; exact leaf _ (no (by omega))
    · rw [if_neg c1]; exact leaf _ (no (by omega))
  obtain ⟨m, rfl⟩ : ∃ q, m = q + 1 := ⟨m - 1, by omega⟩
  rw [if_pos (by omega)]
  have hmi : n - m = n - (m + 1) + 1 := by omega
  have hin : n - (m + 1) < n := by omega
  generalize hi : n - (m + 1) = i at *
  refine ldC_heap hg6 (v := vq) rfl ?_
  refine fill_p ?_
  refine blS_lit (qx [⟨(i : Int), 0, [112]⟩]).toArray (by simp [Instr.fill, Value.cells, qx]; apply Array.ext'; simp [List.range, List.range.loop, bs]) rfl (by decide) fun v12 w12 hL12 hr12 hb12 => ?_
  have hs12 := hL12.size
  refine app T_pats (hL12.row hr6) ((lst_row hr12).src U_pats (by simp) (by decide) (qx_one _)) (by simp only [maxLen]; omega) (by omega) (by omega) fun v13 w13 hr13 hgb hat13 _ => ?_
  have hs13 := hgb.size
  have hg12 := hL12.heap hg6
  have hob : ∀ q, vq.ownBlock = some q → wE.heap.size ≤ q := fun q hq => (hr6.lt q hq).1
  have hg13 : w13.heap[g]? = some (.cells (rcells (recM p i t d) vp vq vt vd) T (0, 0)) := by
    rw [hgb.block g (lt_of_heap hg12) (fun e => by have := hob g e.symm; omega)]; exact hg12
  refine stC_heap hg13 (by simp [rcells]) (row_cell' hr13) fun w14 h14 ho14 => ?_
  have hs14 := ho14.size
  rw [show IntKind.i64.wrap ((i : Int) + 1) = (i : Int) + 1 from Eng.wrap64 (by omega) (by omega)]
  have hBl := hL.size
  refine ih m _ _ (by simp) ⟨v13, by rw [hmi]; rfl, by omega, ?_, ?_, fun q hq1 hq2 => ?_, ?_, by omega⟩
  · rw [hmi]; exact h14
  · rw [hmi, patsTo_succ, qx_append]
    exact ownsRow_block hr13 fun q hq => ho14.other q (by have := (hr13.lt q hq).1; omega)
  · rw [ho14.other q hq2, hgb.block q (by omega) (fun e => by have := hob q e.symm; omega), hL12.block q (by omega), hE6 q hq1 hq2]
  · exact Below.trans (Below.trans (Later.tr hB6 hL12) ((Below.refl _ w12).grown hgb (by omega) fun q hq => by have := hob q hq; omega)) (ho14.below _ (by omega))
/-- The record laid in a block that stood there before. -/
theorem Many_leaf {w wE : World} {g p n t d : Nat} {vp vt vd : Value} {c0 : Array Value} {T : TypeId} {k : Value → World → Prop} (hT : Tab w) (hL : Later w wE) (hg : wE.heap[g]? = some (.cells c0 T (0, 0))) (h0 : c0.size = 14) (hlo : w.heap.size ≤ g)
    (h1 : wE.ownsRow w.heap.size 3 1 vp p (ix (List.replicate p 0))) (h2 : wE.ownsRow w.heap.size 41 4 vt t (vx (List.replicate t (.slice none 0 0)) (List.replicate t tx0))) (h3 : wE.ownsRow w.heap.size 74 2 vd d (dx (List.replicate d (0, 0))))
    (n1 : vp.ownBlock ≠ some g) (n2 : vt.ownBlock ≠ some g) (n3 : vd.ownBlock ≠ some g) (hp : p ≤ 80) (hn : n ≤ 60) (ht : t ≤ 20) (hd : d ≤ 80) (hk : ∀ w', Later w w' → k (.bool true) w') :
    fillL [(0, 1), (1, 1), (2, 1), (3, 1), (4, 1), (5, 1), (6, 4), (10, 1), (11, 1), (12, 1), (13, 1)] #[.int .i64 0, .int .i64 0, .int .i64 0, .int .i64 0, .string ⟨#[]⟩, .bool false, .string ⟨#[]⟩, .string ⟨#[]⟩, .int .i64 0, .int .i64 0, .slice none 0 0, .slice none 0 0, .slice none 0 0, .slice none 0 0]
      [(0, .int .i64 7), (7, vp), (9, vt), (10, vd)] fun t54 => stN 14 (.pointer (some ⟨g, 0, none⟩)) t54 wE fun w => honeycomblaw12_RecordMany_J4 k [.int .i64 p, .int .i64 n, .int .i64 t, .int .i64 d, .pointer (some ⟨g, 0, none⟩)] w := by
  have l1 := Lst.cell (lst_row h1)
  have l2 := Lst.cell (lst_row h2)
  have l3 := Lst.cell (lst_row h3)
  refine fill_recM (p := p) (t := t) (d := d) l1.2 l2.2 l3.2 ?_
  refine stN_heap hg h0 rfl (rcells_one l1.1 rfl l2.1 l3.1) fun w2 hg2 hs2 hb2 ho2 => ?_
  exact Many_J4 hT (Below.trans hL (hb2 _ hlo)) hg2 hlo (ownsRow_block h1 fun q hq => ho2 q fun e => n1 (by rw [hq, e])) (ownsRow_block h2 fun q hq => ho2 q fun e => n2 (by rw [hq, e])) (ownsRow_block h3 fun q hq => ho2 q fun e => n3 (by rw [hq, e])) n1 n2 n3 hp hn ht hd hk
/-- .. or in a new one. -/
theorem Many_leaf2 {w wE : World} {p n t d : Nat} {vp vt vd : Value} {c0 : Array Value} {T : TypeId} {k : Value → World → Prop} (hT : Tab w) (hL : Later w wE) (h0 : c0.size = 14)
    (h1 : wE.ownsRow w.heap.size 3 1 vp p (ix (List.replicate p 0))) (h2 : wE.ownsRow w.heap.size 41 4 vt t (vx (List.replicate t (.slice none 0 0)) (List.replicate t tx0))) (h3 : wE.ownsRow w.heap.size 74 2 vd d (dx (List.replicate d (0, 0))))
    (hp : p ≤ 80) (hn : n ≤ 60) (ht : t ≤ 20) (hd : d ≤ 80) (hk : ∀ w', Later w w' → k (.bool true) w') :
    fillL [(0, 1), (1, 1), (2, 1), (3, 1), (4, 1), (5, 1), (6, 4), (10, 1), (11, 1), (12, 1), (13, 1)] #[.int .i64 0, .int .i64 0, .int .i64 0, .int .i64 0, .string ⟨#[]⟩, .bool false, .string ⟨#[]⟩, .string ⟨#[]⟩, .int .i64 0, .int .i64 0, .slice none 0 0, .slice none 0 0, .slice none 0 0, .slice none 0 0]
      [(0, .int .i64 7), (7, vp), (9, vt), (10, vd)] fun t54 => alW c0 T wE fun t9 w => stN 14 t9 t54 w fun w => honeycomblaw12_RecordMany_J4 k [.int .i64 p, .int .i64 n, .int .i64 t, .int .i64 d, t9] w := by
  have l1 := Lst.cell (lst_row h1)
  have l2 := Lst.cell (lst_row h2)
  have l3 := Lst.cell (lst_row h3)
  refine fill_recM (p := p) (t := t) (d := d) l1.2 l2.2 l3.2 ?_
  refine al_lit fun g w1 hL1 hg hgs => ?_
  have hsz := hL.size
  have ne : ∀ {v : Value} {e sz n : Nat} {xs : List Value}, wE.ownsRow w.heap.size e sz v n xs → v.ownBlock ≠ some g := fun h e => by have := (h.lt g e).2; omega
  refine stN_heap hg h0 rfl (rcells_one l1.1 rfl l2.1 l3.1) fun w2 hg2 hs2 hb2 ho2 => ?_
  exact Many_J4 hT (Below.trans (hL.tr hL1) (hb2 _ (by omega))) hg2 (by omega) (ownsRow_block (hL1.row h1) fun q hq => ho2 q fun e => ne h1 (by rw [hq, e])) (ownsRow_block (hL1.row h2) fun q hq => ho2 q fun e => ne h2 (by rw [hq, e])) (ownsRow_block (hL1.row h3) fun q hq => ho2 q fun e => ne h3 (by rw [hq, e])) (ne h1) (ne h2) (ne h3) hp hn ht hd hk
end Go.Proofs.YtlicdhdpngahgaaDoor
