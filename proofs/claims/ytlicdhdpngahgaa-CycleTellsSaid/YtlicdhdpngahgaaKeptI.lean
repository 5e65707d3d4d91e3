/- The book keeps lists of whole numbers: Ints. -/
import Derived.Test.YtlicdhdpngahgaaInts
set_option linter.unusedVariables false
set_option linter.unusedSimpArgs false
namespace Go.Proofs.Ytlicdhdpngahgaa
open Go.Eng Go.RowKit
theorem T_lists : SlT Try.prog 28 25 (.slice none 0 0) 1 24 := ⟨by kernel_rfl, by kernel_rfl, rfl, by decide⟩
theorem U_lists : Try.prog.underlying 28 = some (.slice 25) := by kernel_rfl
abbrev Row := Value × List Int
/-- The book, in which lists of whole numbers alone are kept: F are its own blocks. -/
structure TB (B gb : Nat) (F : Nat → Prop) (R : List Row) (cs : Array Value) (lv wv : Value) (ws : List Value) (w : World) : Prop where
  at_ : w.heap[gb]? = some (.cells cs 38 (0, 0))
  size : cs.size = 18
  c2 : cs[0]? = some lv
  c3 : cs[1]? = some wv
  rest : ∀ (i : Nat), i < 18 → i ≠ 0 → i ≠ 1 → cs[i]? = some (.slice none 0 0)
  base : B ≤ gb
  fgb : F gb
  lrow : w.ownsRow B 25 1 lv R.length (R.map Prod.fst)
  lne : lv.ownBlock ≠ some gb
  lf : ∀ q, lv.ownBlock = some q → F q
  wrow : w.ownsRow B 25 1 wv R.length ws
  wne : wv.ownBlock ≠ some gb
  wf : ∀ q, wv.ownBlock = some q → F q
  lw : ∀ q, lv.ownBlock = some q → wv.ownBlock ≠ some q
  was : ∀ (i : Nat) (r : Row), R[i]? = some r → ∃ u, ws[i]? = some u ∧ w.ownsRow B 3 1 u r.2.length (ix r.2) ∧ u.ownBlock ≠ some gb ∧ (∀ q, u.ownBlock = some q → F q ∧ lv.ownBlock ≠ some q ∧ wv.ownBlock ≠ some q)
  rows : ∀ (i : Nat) (r : Row), R[i]? = some r → w.ownsRow B 3 1 r.1 r.2.length (ix r.2) ∧ ∀ q, r.1.ownBlock = some q → ¬ F q
  apart : ∀ (i j : Nat) (r s : Row), R[i]? = some r → R[j]? = some s → i ≠ j → ∀ q, r.1.ownBlock = some q → s.1.ownBlock ≠ some q
theorem TB.far {B gb : Nat} {F : Nat → Prop} {R : List Row} {cs : Array Value} {lv wv : Value} {ws : List Value} {w w' : World} (h : TB B gb F R cs lv wv ws w) (hs : ∀ (q : Nat) (o : Obj), w.heap[q]? = some o → w'.heap[q]? = some o) : TB B gb F R cs lv wv ws w' where
  at_ := hs _ _ h.at_
  size := h.size
  c2 := h.c2
  c3 := h.c3
  rest := h.rest
  base := h.base
  fgb := h.fgb
  lrow := ownsRow_heap h.lrow hs
  lne := h.lne
  lf := h.lf
  wrow := ownsRow_heap h.wrow hs
  wne := h.wne
  wf := h.wf
  lw := h.lw
  was := fun i r hr => by
    obtain ⟨u, h1, h2, h3⟩ := h.was i r hr
    exact ⟨u, h1, ownsRow_heap h2 hs, h3⟩
  rows := fun i r hr => ⟨ownsRow_heap (h.rows i r hr).1 hs, (h.rows i r hr).2⟩
  apart := h.apart
theorem one_list {v : Value} (w : World) (e : TypeId) (hv : isCell v = true) : Src Try.prog 1 28 (.slice (some ⟨w.heap.size, 0, none⟩) 1 1) 1 [v] (w.alloc (.cells #[v] e)) :=
  Src.ofSlice (e' := 25) _ U_lists _ 1 1 [v] rfl (cell_one_new _ _ _) (by
    intro u hu
    simp at hu
    subst hu
    cases u <;> first | rfl | cases hv)
theorem Ints_from {B gb : Nat} {F : Nat → Prop} {R : List Row} {cs : Array Value} {lv wv v : Value} {ws : List Value} {xs : List Int} {w : World} {k : Value → World → Prop} (h : TB B gb F R cs lv wv ws w) (hn : R.length < 250) (hB : B ≤ w.heap.size)
    (hx : xs.length ≤ 1000000000) (hrow : w.ownsRow B 3 1 v xs.length (ix xs)) (hvF : ∀ q, v.ownBlock = some q → ¬ F q) (hap : ∀ r ∈ R, ∀ q, r.1.ownBlock = some q → v.ownBlock ≠ some q)
    (hk : ∀ (cs' : Array Value) (lv' wv' : Value) (ws' : List Value) (w' : World), Below B w w' → (∀ q : Nat, q < w.heap.size → ¬ F q → w'.heap[q]? = w.heap[q]?) → TB B gb (fun q => F q ∨ (w.heap.size ≤ q ∧ q < w'.heap.size)) (R ++ [(v, xs)]) cs' lv' wv' ws' w' → k (.tuple #[]) w') :
    callW Try.prog (.func (.func 7) #[] #[]) [.pointer (some ⟨gb, 0, none⟩), v] w k := by
  apply honeycombbook_Book_Ints_call
  apply honeycombbook_Book_Ints_run
  simp only [honeycombbook_Book_Ints, iw_add, iw_sub, iw_mul, iw_lss, iw_leq, iw_gtr, iw_geq, iw_eql, iw_neq, iw_quo, iw_rem, un_not, len_s, len_l, nck_p, fld_p, cv_i, unc_c, ex_0, ex_1, ex_2, st_eq, st_ne, brV_true, brV_false, brV_b, brV_not, one_one, nil_p, nil_pn, nil_n, nil_nn, decide_eq_true_eq, true_and, nb_ite, bs_size, Nat.zero_add, Bool.not_true, Bool.not_false, Bool.false_eq_true, eq_self, if_true, if_false, jn]
  refine ldC_heap h.at_ h.c2 ?_
  refine (lst_row h.lrow).len ?_
  simp only [iw_add, iw_sub, iw_mul, iw_lss, iw_leq, iw_gtr, iw_geq, iw_eql, iw_neq, iw_quo, iw_rem, un_not, len_s, len_l, nck_p, fld_p, cv_i, unc_c, ex_0, ex_1, ex_2, st_eq, st_ne, brV_true, brV_false, brV_b, brV_not, one_one, nil_p, nil_pn, nil_n, nil_nn, decide_eq_true_eq, true_and, nb_ite, bs_size, Nat.zero_add, Bool.not_true, Bool.not_false, Bool.false_eq_true, eq_self, if_true, if_false, jn]
  rw [if_pos (by omega)]
  refine ldC_heap h.at_ h.c2 ?_
  refine blS_one (row_cell' hrow) ?_
  have hgl := lt_of_heap h.at_
  have hlb : ∀ q, lv.ownBlock = some q → q < w.heap.size := fun q hq => (h.lrow.lt q hq).2
  have hwb : ∀ q, wv.ownBlock = some q → q < w.heap.size := fun q hq => (h.wrow.lt q hq).2
  have hvb : ∀ q, v.ownBlock = some q → q < w.heap.size := fun q hq => (hrow.lt q hq).2
  refine app T_lists (h.lrow.alloc _) (one_list _ _ (row_cell' hrow)) (by simp only [maxLen]; omega) (by omega) (by simp; omega) fun lv' w2 hl2 hg2 hat2 _ => ?_
  have at2 : w2.heap[gb]? = some (.cells cs 38 (0, 0)) := by
    rw [hg2.block gb (by simp; omega) (fun e => h.lne e.symm)]; exact (Later.al _ _).heap h.at_
  refine stC_heap at2 (by rw [h.size]; decide) (row_cell' hl2) fun w3 at3 ho3 => ?_
  have at3d : w3.drew.heap[gb]? = _ := at3
  have far3 : ∀ q : Nat, q < w.heap.size → q ≠ gb → lv.ownBlock ≠ some q → w3.heap[q]? = w.heap[q]? := fun q hq h1 h2 => by
    rw [ho3.other q h1, hg2.block q (by simp; omega) (fun e => h2 e.symm)]
    exact Below.heap_alloc w _ q hq
  have hsz2 : w.heap.size + 1 ≤ w2.heap.size := by have := hg2.size; simpa using this
  have hsz3 : w3.heap.size = w2.heap.size := ho3.size
  refine ldC_heap at3d (v := wv) (by simpa using h.c3) ?_
  have hvF' : ∀ q, v.ownBlock = some q → q ≠ gb ∧ lv.ownBlock ≠ some q ∧ wv.ownBlock ≠ some q := fun q hq => ⟨fun e => hvF q hq (e ▸ h.fgb), fun e => hvF q hq (h.lf q e), fun e => hvF q hq (h.wf q e)⟩
  have hrow3 : w3.drew.ownsRow B 3 1 v xs.length (ix xs) := (Later.dr w3).row (ownsRow_block hrow fun q hq => far3 q (hvb q hq) (hvF' q hq).1 (hvF' q hq).2.1)
  refine copyInts_from (lst_row hrow3) hx fun u w4 hL4 hu4 => ?_
  have hsz4 := hL4.size
  have hsz4' : w3.drew.heap.size = w3.heap.size := rfl
  refine held_cons (w := w3.drew) hL4 (holds1 (by rw [heap_cell at3d]; simpa using h.c3)) (held_nil ?_)
  refine blS_one (row_cell' hu4) ?_
  have at5 : (w4.alloc (.cells #[u] 25)).heap[gb]? = _ := (Later.al _ _).heap (hL4.heap at3d)
  refine held_cons (w := w3.drew) (hL4.tr (Later.al _ _)) (holds1 (by rw [heap_cell at3d]; simpa using h.c3)) (held_nil ?_)
  have hw5 : (w4.alloc (.cells #[u] 25)).ownsRow B 25 1 wv R.length ws := (hL4.row ((Later.dr w3).row (ownsRow_block h.wrow fun q hq => far3 q (hwb q hq) (fun e => h.wne (e ▸ hq)) (fun e => h.lw q e hq)))).alloc _
  refine app T_lists hw5 (one_list _ _ (row_cell' hu4)) (by simp only [maxLen]; omega) (by omega) (by simp; omega) fun wv' w6 hw6 hg6 hat6 _ => ?_
  have hsz6 : w4.heap.size + 1 ≤ w6.heap.size := by have := hg6.size; simpa using this
  have at6 : w6.heap[gb]? = _ := (hg6.block gb (by simp; omega) (fun e => h.wne e.symm)).trans at5
  refine stC_heap at6 (by simp [h.size]) (row_cell' hw6) fun w7 at7 ho7 => ?_
  have hsz7 : w7.heap.size = w6.heap.size := ho7.size
  have far6 : ∀ q : Nat, q < w4.heap.size → wv.ownBlock ≠ some q → w6.heap[q]? = w4.heap[q]? := fun q hq h2 => by
    rw [hg6.block q (by simp; omega) (fun e => h2 e.symm)]
    exact Below.heap_alloc w4 _ q hq
  have far7 : ∀ q : Nat, q < w.heap.size → q ≠ gb → lv.ownBlock ≠ some q → wv.ownBlock ≠ some q → w7.heap[q]? = w.heap[q]? := fun q hq h1 h2 h3 => by
    rw [ho7.other q h1, far6 q (by omega) h3, hL4.block q (by omega)]
    exact far3 q hq h1 h2
  have hlv2 : ∀ q, lv'.ownBlock = some q → q ≠ gb ∧ wv.ownBlock ≠ some q ∧ q < w2.heap.size ∧ (F q ∨ w.heap.size ≤ q) := fun q hq => by
    have hq2 := (hl2.lt q hq).2
    rcases hat2 with e | e
    · rw [e] at hq
      exact ⟨fun e => h.lne (e ▸ hq), h.lw q hq, hq2, .inl (h.lf q hq)⟩
    · rw [hq] at e
      injection e with e
      simp at e
      exact ⟨by omega, fun h2 => by have := hwb q h2; omega, hq2, .inr (by omega)⟩
  have hub : ∀ q, u.ownBlock = some q → w3.heap.size ≤ q ∧ q < w4.heap.size := fun q hq => hu4.lt q hq
  have hwv6 : ∀ q, wv'.ownBlock = some q → q ≠ gb ∧ (wv.ownBlock = some q ∨ w4.heap.size ≤ q) ∧ q < w6.heap.size := fun q hq => by
    have hq2 := (hw6.lt q hq).2
    rcases hat6 with e | e
    · rw [e] at hq
      exact ⟨fun e => h.wne (e ▸ hq), .inl hq, hq2⟩
    · rw [hq] at e
      injection e with e
      simp at e
      exact ⟨by omega, .inr (by omega), hq2⟩
  have hb : Below B w w7 := by
    have b1 : Below B w w2 := ((Below.refl B w).alloc hB _).grown hg2 (by simp; omega) (fun k hk => (h.lrow.lt k hk).1)
    have b2 : Below B w w4 := ((b1.trans (ho3.below B h.base)).trans (Below.drew (Below.refl B w3))).trans (hL4.mono (by rw [hsz4']; omega))
    exact ((b2.alloc (by omega) _).grown hg6 (by simp; omega) (fun k hk => (h.wrow.lt k hk).1)).trans (ho7.below B h.base)
  have hrowK : ∀ (u : Value) (n : Nat) (ys : List Value), w.ownsRow B 3 1 u n ys → u.ownBlock ≠ some gb → (∀ q, u.ownBlock = some q → lv.ownBlock ≠ some q ∧ wv.ownBlock ≠ some q) → w7.ownsRow B 3 1 u n ys := fun u n ys hr h1 h2 =>
    ownsRow_block hr fun q hq => far7 q (hr.lt q hq).2 (fun e => h1 (e ▸ hq)) (h2 q hq).1 (h2 q hq).2
  refine hk ((cs.setIfInBounds 0 lv').setIfInBounds 1 wv') lv' wv' (ws ++ [u]) w7 hb (fun q hq hF => far7 q hq (fun e => hF (e ▸ h.fgb)) (fun e => hF (h.lf q e)) (fun e => hF (h.wf q e))) ?_
  refine ⟨at7, by simp [h.size], ?_, ?_, ?_, h.base, .inl h.fgb, ?_, fun e => (hlv2 gb e).1 rfl, ?_, ?_, fun e => (hwv6 gb e).1 rfl, ?_, ?_, ?_, ?_, ?_⟩
  · simp [h.size]
  · simp [h.size]
  · intro i h1 h2 h3
    rw [Array.getElem?_setIfInBounds_ne (fun e => h3 e.symm), Array.getElem?_setIfInBounds_ne (fun e => h2 e.symm)]
    exact h.rest i h1 h2 h3
  · rw [List.length_append, List.map_append]
    refine ownsRow_block hl2 fun q hq => ?_
    obtain ⟨h1, h2, h3, _⟩ := hlv2 q hq
    rw [ho7.other q h1, far6 q (by omega) h2, hL4.block q (by omega)]
    exact ho3.other q h1
  · intro q hq
    obtain ⟨h1, h2, h3, h4⟩ := hlv2 q hq
    rcases h4 with h4 | h4
    · exact .inl h4
    · exact .inr ⟨h4, by omega⟩
  · rw [List.length_append]
    exact ownsRow_block hw6 fun q hq => ho7.other q (hwv6 q hq).1
  · intro q hq
    obtain ⟨h1, h2, h3⟩ := hwv6 q hq
    rcases h2 with h2 | h2
    · exact .inl (h.wf q h2)
    · exact .inr ⟨by omega, by omega⟩
  · intro q hq he
    obtain ⟨h1, h2, h3, h4⟩ := hlv2 q hq
    obtain ⟨_, h5, _⟩ := hwv6 q he
    rcases h5 with h5 | h5
    · exact h2 h5
    · omega
  · intro i r hr
    have hwl : ws.length = R.length := by simpa using h.wrow.1
    by_cases hi : i < R.length
    · rw [List.getElem?_append_left hi] at hr
      obtain ⟨u1, h1, h2, h3, h4⟩ := h.was i r hr
      refine ⟨u1, by rw [List.getElem?_append_left (by omega)]; exact h1, hrowK u1 _ _ h2 h3 (fun q hq => (h4 q hq).2), h3, fun q hq => ⟨.inl (h4 q hq).1, ?_, ?_⟩⟩
      · have hq1 := (h2.lt q hq).2
        rcases hat2 with e | e
        · rw [e]; exact (h4 q hq).2.1
        · rw [e]; intro e2; injection e2 with e2; simp at e2; omega
      · have hq1 := (h2.lt q hq).2
        rcases hat6 with e | e
        · rw [e]; exact (h4 q hq).2.2
        · rw [e]; intro e2; injection e2 with e2; simp at e2; omega
    · rw [List.getElem?_append_right (by omega)] at hr
      have hi0 : i - R.length = 0 := by
        rcases Nat.eq_zero_or_pos (i - R.length) with h0 | h0
        · exact h0
        · rw [List.getElem?_eq_none (by simp; omega)] at hr; cases hr
      rw [hi0] at hr
      injection hr with hr
      subst hr
      refine ⟨u, by rw [List.getElem?_append_right (by omega), hwl, hi0]; rfl, ?_, ?_, ?_⟩
      · refine ownsRow_mono (B := w3.drew.heap.size) (by rw [hsz4']; omega) (ownsRow_block hu4 fun q hq => ?_)
        have := hub q hq
        rw [ho7.other q (by omega), far6 q (by omega) (fun e => by have := hwb q e; omega)]
      · intro e; have := hub gb e; omega
      · intro q hq
        have hq1 := hub q hq
        refine ⟨.inr ⟨by omega, by omega⟩, fun e => ?_, fun e => ?_⟩
        · have := (hlv2 q e).2.2.1; omega
        · rcases (hwv6 q e).2.1 with h5 | h5
          · have := hwb q h5; omega
          · omega
  · intro i r hr
    by_cases hi : i < R.length
    · rw [List.getElem?_append_left hi] at hr
      obtain ⟨h1, h2⟩ := h.rows i r hr
      have hq1 : ∀ q, r.1.ownBlock = some q → q < w.heap.size := fun q hq => (h1.lt q hq).2
      exact ⟨hrowK _ _ _ h1 (fun e => h2 gb e h.fgb) (fun q hq => ⟨fun e => h2 q hq (h.lf q e), fun e => h2 q hq (h.wf q e)⟩), fun q hq hF => by
        rcases hF with hF | hF
        · exact h2 q hq hF
        · have := hq1 q hq; omega⟩
    · rw [List.getElem?_append_right (by omega)] at hr
      have hi0 : i - R.length = 0 := by
        rcases Nat.eq_zero_or_pos (i - R.length) with h0 | h0
        · exact h0
        · rw [List.getElem?_eq_none (by simp; omega)] at hr; cases hr
      rw [hi0] at hr
      injection hr with hr
      subst hr
      exact ⟨hrowK _ _ _ hrow (fun e => hvF gb e h.fgb) (fun q hq => (hvF' q hq).2), fun q hq hF => by
        rcases hF with hF | hF
        · exact hvF q hq hF
        · have := hvb q hq; omega⟩
  · have key : ∀ (i : Nat) (r : Row), (R ++ [(v, xs)])[i]? = some r → (R[i]? = some r ∧ i < R.length) ∨ (i = R.length ∧ r = (v, xs)) := fun i r hr => by
      by_cases hi : i < R.length
      · rw [List.getElem?_append_left hi] at hr; exact .inl ⟨hr, hi⟩
      · rw [List.getElem?_append_right (by omega)] at hr
        have hi0 : i - R.length = 0 := by
          rcases Nat.eq_zero_or_pos (i - R.length) with h0 | h0
          · exact h0
          · rw [List.getElem?_eq_none (by simp; omega)] at hr; cases hr
        rw [hi0] at hr
        injection hr with hr
        exact .inr ⟨by omega, hr.symm⟩
    intro i j r s hr hs hij q hq
    rcases key i r hr with ⟨h1, h1'⟩ | ⟨h1, rfl⟩ <;> rcases key j s hs with ⟨h2, h2'⟩ | ⟨h2, rfl⟩
    · exact h.apart i j r s h1 h2 hij q hq
    · exact hap r (List.mem_of_getElem? h1) q hq
    · exact fun e => hap s (List.mem_of_getElem? h2) q e hq
    · omega
end Go.Proofs.Ytlicdhdpngahgaa
