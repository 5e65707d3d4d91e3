/- The book looks at its lists of whole numbers, marks them, and makes them grow. -/
import Derived.Test.YtlicdhdpngahgaaKeptI
set_option linter.unusedVariables false
set_option linter.unusedSimpArgs false
namespace Go.Proofs.Ytlicdhdpngahgaa
open Go.Eng Go.RowKit
theorem stillInts_from {B gb : Nat} {F : Nat → Prop} {R : List Row} {cs : Array Value} {lv wv : Value} {ws : List Value} {w : World} {k : Value → World → Prop} (h : TB B gb F R cs lv wv ws w) (hn : R.length ≤ 250) (hx : ∀ r ∈ R, r.2.length ≤ 1000000000)
    (hk : ∀ w', Later w w' → k (.bool true) w') : callW Try.prog (.func (.func 25) #[] #[]) [.pointer (some ⟨gb, 0, none⟩)] w k := by
  apply honeycombbook_Book_stillInts_call
  apply honeycombbook_Book_stillInts_run
  simp only [honeycombbook_Book_stillInts]
  refine lp_ind _ (fun (m : Nat) r w1 => r = [.pointer (some ⟨gb, 0, none⟩), .int .i64 ((R.length - m : Nat) : Int)] ∧ m ≤ R.length ∧ Later w w1) id ?_ (i := R.length) ⟨by simp, Nat.le_refl _, Later.refl w⟩
  rintro m r w1 rec ⟨rfl, hm, hL⟩ ih
  simp only [honeycombbook_Book_stillInts_L2, iw_add, iw_sub, iw_mul, iw_lss, iw_leq, iw_gtr, iw_geq, iw_eql, iw_neq, iw_quo, iw_rem, un_not, len_s, len_l, nck_p, fld_p, cv_i, unc_c, ex_0, ex_1, ex_2, st_eq, st_ne, brV_true, brV_false, brV_b, brV_not, one_one, nil_p, nil_pn, nil_n, nil_nn, decide_eq_true_eq, true_and, nb_ite, bs_size, Nat.zero_add, Bool.not_true, Bool.not_false, Bool.false_eq_true, eq_self, if_true, if_false, jn]
  refine ldC_heap (hL.heap h.at_) h.c2 ?_
  refine (lst_row (hL.row h.lrow)).len ?_
  simp only [iw_add, iw_sub, iw_mul, iw_lss, iw_leq, iw_gtr, iw_geq, iw_eql, iw_neq, iw_quo, iw_rem, un_not, len_s, len_l, nck_p, fld_p, cv_i, unc_c, ex_0, ex_1, ex_2, st_eq, st_ne, brV_true, brV_false, brV_b, brV_not, one_one, nil_p, nil_pn, nil_n, nil_nn, decide_eq_true_eq, true_and, nb_ite, bs_size, Nat.zero_add, Bool.not_true, Bool.not_false, Bool.false_eq_true, eq_self, if_true, if_false, jn]
  by_cases h0 : m = 0
  · subst h0
    rw [if_neg (by omega)]
    exact hk w1 hL
  obtain ⟨m, rfl⟩ : ∃ q, m = q + 1 := ⟨m - 1, by omega⟩
  rw [if_pos (by omega)]
  have hlt : R.length - (m + 1) < R.length := by omega
  have hmi : R.length - m = R.length - (m + 1) + 1 := by omega
  generalize hi : R.length - (m + 1) = i at *
  have hLd : Later w w1.drew := hL.tr (Later.dr w1)
  have hr : R[i]? = some R[i] := List.getElem?_eq_getElem hlt
  obtain ⟨u, hu, hur, _⟩ := h.was i _ hr
  have hv := (h.rows i _ hr).1
  refine ldC_heap (hLd.heap h.at_) h.c2 ?_
  refine (lst_row (hLd.row h.lrow)).at1 (u := R[i].1) (by simp [hlt]) hlt fun a1 h1 _ => ⟨_, h1, ?_⟩
  refine ldC_heap (hLd.heap h.at_) h.c3 ?_
  refine (lst_row (hLd.row h.wrow)).at1 hu hlt fun a2 h2 _ => ⟨_, h2, ?_⟩
  refine SameInts_from (lst_row (hLd.row hv)) (lst_row (hLd.row hur)) (by have := hx _ (List.getElem_mem hlt); omega) fun w2 hL2 => ?_
  refine held_cons (w := w1.drew) hL2 (holds1 (by rw [heap_cell (hLd.heap h.at_)]; exact h.c3)) (held_cons (w := w1.drew) hL2 (holds1 (by rw [heap_cell (hLd.heap h.at_)]; exact h.c2)) (held_nil ?_))
  simp only [iw_add, iw_sub, iw_mul, iw_lss, iw_leq, iw_gtr, iw_geq, iw_eql, iw_neq, iw_quo, iw_rem, un_not, len_s, len_l, nck_p, fld_p, cv_i, unc_c, ex_0, ex_1, ex_2, st_eq, st_ne, brV_true, brV_false, brV_b, brV_not, one_one, nil_p, nil_pn, nil_n, nil_nn, decide_eq_true_eq, true_and, nb_ite, bs_size, Nat.zero_add, Bool.not_true, Bool.not_false, Bool.false_eq_true, eq_self, if_true, if_false, jn, decide_true]
  rw [wrap64 (by omega) (by omega)]
  exact ih m _ _ (by simp) ⟨by rw [hmi]; rfl, by omega, hLd.tr hL2⟩
theorem markedInts_from {vals : List Value} {ns : List Nat} {sv : Value} {w : World} {k : Value → World → Prop} (hs : Lst w sv vals.length vals) (hl : vals.length ≤ 1000) (hns : ns.length = vals.length)
    (hv : ∀ i v n, vals[i]? = some v → ns[i]? = some n → n ≤ 1000000000 ∧ Lst w v n (ix (mkI i 0 n))) (hk : ∀ w', Later w w' → k (.bool true) w') :
    callW Try.prog (.func (.func 52) #[] #[]) [sv] w k := by
  apply honeycombbook_markedInts_call
  apply honeycombbook_markedInts_run
  simp only [honeycombbook_markedInts]
  refine lp_ind _ (fun (m : Nat) r w1 => r = [sv, .int .i64 ((vals.length - m : Nat) : Int)] ∧ m ≤ vals.length ∧ Later w w1) id ?_ (i := vals.length) ⟨by simp, Nat.le_refl _, Later.refl w⟩
  rintro m r w1 rec ⟨rfl, hm, hL⟩ ih
  simp only [honeycombbook_markedInts_L2, iw_add, iw_sub, iw_mul, iw_lss, iw_leq, iw_gtr, iw_geq, iw_eql, iw_neq, iw_quo, iw_rem, un_not, len_s, len_l, nck_p, fld_p, cv_i, unc_c, ex_0, ex_1, ex_2, st_eq, st_ne, brV_true, brV_false, brV_b, brV_not, one_one, nil_p, nil_pn, nil_n, nil_nn, decide_eq_true_eq, true_and, nb_ite, bs_size, Nat.zero_add, Bool.not_true, Bool.not_false, Bool.false_eq_true, eq_self, if_true, if_false, jn]
  refine (hL.lst hs).len ?_
  simp only [iw_add, iw_sub, iw_mul, iw_lss, iw_leq, iw_gtr, iw_geq, iw_eql, iw_neq, iw_quo, iw_rem, un_not, len_s, len_l, nck_p, fld_p, cv_i, unc_c, ex_0, ex_1, ex_2, st_eq, st_ne, brV_true, brV_false, brV_b, brV_not, one_one, nil_p, nil_pn, nil_n, nil_nn, decide_eq_true_eq, true_and, nb_ite, bs_size, Nat.zero_add, Bool.not_true, Bool.not_false, Bool.false_eq_true, eq_self, if_true, if_false, jn]
  by_cases h0 : m = 0
  · subst h0
    rw [if_neg (by omega)]
    exact hk w1 hL
  obtain ⟨m, rfl⟩ : ∃ q, m = q + 1 := ⟨m - 1, by omega⟩
  rw [if_pos (by omega)]
  have hlt : vals.length - (m + 1) < vals.length := by omega
  have hmi : vals.length - m = vals.length - (m + 1) + 1 := by omega
  generalize hi : vals.length - (m + 1) = i at *
  have hLd : Later w w1.drew := hL.tr (Later.dr w1)
  have hr : vals[i]? = some vals[i] := List.getElem?_eq_getElem hlt
  have hnr : ns[i]? = some (ns[i]'(by omega)) := List.getElem?_eq_getElem (by omega)
  generalize ns[i]'(by omega) = n at *
  obtain ⟨hnn, hvl⟩ := hv i _ _ hr hnr
  refine (hLd.lst hs).at1 hr hlt fun a1 h1 _ => ?_
  refine (hLd.lst hs).at1 hr hlt fun a2 h2 _ => ?_
  refine ⟨_, h1, _, h2, ?_⟩
  refine (hLd.lst hvl).len ?_
  refine markInts_from (f := 0) (by omega) (by omega) fun v2 w2 hL2 hr2 => ?_
  refine held_cons (w := w1.drew) hL2 (holds1 h2) (held_cons (w := w1.drew) hL2 (holds1 h1) (held_nil ?_))
  have hlen : (mkI i 0 n).length = n := mkI_length _ _ _
  refine SameInts_from (la := mkI i 0 n) (lb := mkI i 0 n) (by rw [hlen]; exact hL2.lst (hLd.lst hvl)) (by rw [hlen]; exact lst_row hr2) (by rw [hlen]; omega) fun w3 hL3 => ?_
  refine held_cons (w := w2) hL3 (holds1 (hL2.cell h2)) (held_nil ?_)
  simp only [iw_add, iw_sub, iw_mul, iw_lss, iw_leq, iw_gtr, iw_geq, iw_eql, iw_neq, iw_quo, iw_rem, un_not, len_s, len_l, nck_p, fld_p, cv_i, unc_c, ex_0, ex_1, ex_2, st_eq, st_ne, brV_true, brV_false, brV_b, brV_not, one_one, nil_p, nil_pn, nil_n, nil_nn, decide_eq_true_eq, true_and, nb_ite, bs_size, Nat.zero_add, Bool.not_true, Bool.not_false, Bool.false_eq_true, eq_self, if_true, if_false, jn, decide_true]
  rw [wrap64 (by omega) (by omega)]
  exact ih m _ _ (by simp) ⟨by rw [hmi]; rfl, by omega, (hLd.tr hL2).tr hL3⟩

/-- The lists of whole numbers that the book keeps, no more. -/
structure TM (B gb : Nat) (R : List Row) (cs : Array Value) (lv : Value) (w : World) : Prop where
  at_ : w.heap[gb]? = some (.cells cs 38 (0, 0))
  c2 : cs[0]? = some lv
  base : B ≤ gb
  lrow : w.ownsRow B 25 1 lv R.length (R.map Prod.fst)
  lne : lv.ownBlock ≠ some gb
  rows : ∀ (i : Nat) (r : Row), R[i]? = some r → w.ownsRow B 3 1 r.1 r.2.length (ix r.2) ∧ r.1.ownBlock ≠ some gb ∧ ∀ q, r.1.ownBlock = some q → lv.ownBlock ≠ some q
  apart : ∀ (i j : Nat) (r s : Row), R[i]? = some r → R[j]? = some s → i ≠ j → ∀ q, r.1.ownBlock = some q → s.1.ownBlock ≠ some q
theorem TB.tm {B gb : Nat} {F : Nat → Prop} {R : List Row} {cs : Array Value} {lv wv : Value} {ws : List Value} {w : World} (h : TB B gb F R cs lv wv ws w) : TM B gb R cs lv w where
  at_ := h.at_
  c2 := h.c2
  base := h.base
  lrow := h.lrow
  lne := h.lne
  rows := fun i r hr => ⟨(h.rows i r hr).1, fun e => (h.rows i r hr).2 gb e h.fgb, fun q hq e => (h.rows i r hr).2 q hq (h.lf q e)⟩
  apart := h.apart
theorem TM.far {B gb : Nat} {R : List Row} {cs : Array Value} {lv : Value} {w w' : World} (h : TM B gb R cs lv w) (hs : ∀ (q : Nat) (o : Obj), w.heap[q]? = some o → w'.heap[q]? = some o) : TM B gb R cs lv w' where
  at_ := hs _ _ h.at_
  c2 := h.c2
  base := h.base
  lrow := ownsRow_heap h.lrow hs
  lne := h.lne
  rows := fun i r hr => ⟨ownsRow_heap (h.rows i r hr).1 hs, (h.rows i r hr).2⟩
  apart := h.apart
theorem TM.later {B gb : Nat} {R : List Row} {cs : Array Value} {lv : Value} {w w' : World} (h : TM B gb R cs lv w) (hL : Later w w') : TM B gb R cs lv w' := h.far fun q o hq => hL.heap hq
/-- Row i alone has turned. -/
theorem TM.turn {B gb i : Nat} {R : List Row} {cs : Array Value} {lv : Value} {w w' : World} {r : Row} {xs : List Int} (h : TM B gb R cs lv w) (hr : R[i]? = some r) (hl : xs.length = r.2.length) (hrow : w'.ownsRow B 3 1 r.1 xs.length (ix xs))
    (ho : ∀ q : Nat, q < w.heap.size → r.1.ownBlock ≠ some q → w'.heap[q]? = w.heap[q]?) : TM B gb (R.set i (r.1, xs)) cs lv w' where
  at_ := by rw [ho gb (lt_of_heap h.at_) (h.rows i r hr).2.1]; exact h.at_
  c2 := h.c2
  base := h.base
  lrow := by
    have hm : (R.set i (r.1, xs)).map Prod.fst = R.map Prod.fst := by
      rw [List.map_set]
      apply List.ext_getElem?
      intro j
      by_cases hj : i = j
      · subst hj
        have hlt : i < R.length := (List.getElem?_eq_some_iff.1 hr).1
        rw [List.getElem?_set_self (by simpa using hlt), List.getElem?_map, hr]
        rfl
      · rw [List.getElem?_set_ne hj]
    rw [hm, List.length_set]
    exact ownsRow_block h.lrow fun q hq => ho q (h.lrow.lt q hq).2 fun e => (h.rows i r hr).2.2 q e hq
  lne := h.lne
  rows := fun j s hs => by
    by_cases hj : i = j
    · subst hj
      have hlt : i < R.length := (List.getElem?_eq_some_iff.1 hr).1
      rw [List.getElem?_set_self hlt] at hs
      injection hs with hs
      subst hs
      exact ⟨hrow, (h.rows i r hr).2⟩
    · rw [List.getElem?_set_ne hj] at hs
      obtain ⟨h1, h2⟩ := h.rows j s hs
      exact ⟨ownsRow_block h1 fun q hq => ho q (h1.lt q hq).2 fun e => h.apart i j r s hr hs hj q e hq, h2⟩
  apart := fun a b x y hx hy hab q hq => by
    have key : ∀ (j : Nat) (s : Row), (R.set i (r.1, xs))[j]? = some s → ∃ t, R[j]? = some t ∧ t.1 = s.1 := fun j s hs => by
      by_cases hj : i = j
      · subst hj
        have hlt : i < R.length := (List.getElem?_eq_some_iff.1 hr).1
        rw [List.getElem?_set_self hlt] at hs
        injection hs with hs
        exact ⟨r, hr, by rw [← hs]⟩
      · rw [List.getElem?_set_ne hj] at hs
        exact ⟨s, hs, rfl⟩
    obtain ⟨x', hx', ex⟩ := key a x hx
    obtain ⟨y', hy', ey⟩ := key b y hy
    rw [← ey]
    exact h.apart a b x' y' hx' hy' hab q (by rw [ex]; exact hq)
end Go.Proofs.Ytlicdhdpngahgaa
