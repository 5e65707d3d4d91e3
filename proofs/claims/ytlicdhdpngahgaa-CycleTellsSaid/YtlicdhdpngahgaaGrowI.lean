/- The book makes its lists of whole numbers grow. -/
import Derived.Test.YtlicdhdpngahgaaMarkI
set_option linter.unusedVariables false
set_option linter.unusedSimpArgs false
namespace Go.Proofs.Ytlicdhdpngahgaa
open Go.Eng Go.RowKit
theorem row_prefix {w w' : World} {B e n m : Nat} {l v : Value} {xs ys zs : List Value} (hl : w'.ownsRow B e 1 l (n + m) (xs ++ ys)) (hv : w.ownsRow B e 1 v n xs) (hl0 : w.ownsRow B e 1 l (n + m) zs) (hb : l.ownBlock = v.ownBlock) : w'.ownsRow B e 1 v n xs := by
  refine ⟨hv.1, ?_⟩
  rcases hv.2 with ⟨rfl, h0⟩ | ⟨g, cap, cur, rfl, hB, hg, hnc, hcm, hcs, ht⟩
  · exact .inl ⟨rfl, h0⟩
  · rcases hl0.2 with ⟨rfl, _⟩ | ⟨g1, cap1, cur1, rfl, _, hg1, _, _, hcs1, _⟩
    · simp [Value.ownBlock] at hb
    · simp [Value.ownBlock] at hb
      subst hb
      rw [hg] at hg1
      injection hg1 with hg1
      injection hg1 with hg1
      subst hg1
      rcases hl.2 with ⟨h, _⟩ | ⟨g2, cap2, cur2, h, _, hg2, hnc2, hcm2, hcs2, ht2⟩
      · cases h
      · injection h with ha _ hc
        injection ha with ha
        injection ha with ha
        subst ha
        subst hc
        have hx : xs.length = n := by simpa using hv.1
        refine .inr ⟨g1, cap, cur2, rfl, hB, hg2, hnc, hcm, by omega, ?_⟩
        have := congrArg (List.take n) ht2
        rw [List.take_take, List.take_left' hx] at this
        rw [Nat.mul_one, ← this]
        congr 1
        omega
/-- One more append of marks. -/
theorem grow_step {B i n s m : Nat} {v0 l : Value} {w0 w1 : World} {k : Value → World → Prop} (hB : B ≤ w0.heap.size) (hi : i ≤ 1000000000) (hn : n + s + m ≤ 1000001000)
    (hl : w1.ownsRow B 3 1 l (n + s) (ix (mkI i 0 (n + s)))) (hv : w1.ownsRow B 3 1 v0 n (ix (mkI i 0 n))) (hv0 : ∀ q, v0.ownBlock = some q → q < w0.heap.size) (hlb : l.ownBlock = v0.ownBlock ∨ ∃ q, l.ownBlock = some q ∧ w0.heap.size ≤ q)
    (hb : Below B w0 w1) (hfar : ∀ q : Nat, q < w0.heap.size → v0.ownBlock ≠ some q → w1.heap[q]? = w0.heap[q]?)
    (hk : ∀ l' w2, w2.ownsRow B 3 1 l' (n + (s + m)) (ix (mkI i 0 (n + (s + m)))) → w2.ownsRow B 3 1 v0 n (ix (mkI i 0 n)) → (l'.ownBlock = v0.ownBlock ∨ ∃ q, l'.ownBlock = some q ∧ w0.heap.size ≤ q) → Below B w0 w2 → (∀ q : Nat, q < w0.heap.size → v0.ownBlock ≠ some q → w2.heap[q]? = w0.heap[q]?) → k l' w2) :
    callW Try.prog (.func (.func 74) #[] #[]) [.int .i64 i, .int .i64 ((n + s : Nat) : Int), .int .i64 m] w1 fun x w => sm Try.prog (bi .append #[25, 25] 25 [l, x]) w k := by
  refine markInts_from hi (by omega) fun mv w2 hL2 hmv => ?_
  have hs1 := hb.size
  have hs2 := hL2.size
  refine app_k T_ints (hL2.row hl) ((lst_row hmv).src U_ints (by simp [mkI_length]) (by decide) (ix_one _)) (by simp only [maxLen]; omega) (by omega) (by omega) fun l' w3 hl3 hg3 hat _ hold hsame => ?_
  have hf3 : ∀ q : Nat, q < w2.heap.size → l.ownBlock ≠ some q → w3.heap[q]? = w2.heap[q]? := fun q hq hne => hg3.block q hq fun e => hne e.symm
  rw [← ix_append, show mkI i (n + s) m = mkI i (0 + (n + s)) m by rw [Nat.zero_add], mkI_add] at hl3
  refine hk l' w3 (by rw [← Nat.add_assoc]; exact hl3) ?_ ?_ ?_ ?_
  · rcases hlb with e | ⟨q, hq, hge⟩
    · have e1 : ix (mkI i 0 (n + s)) = ix (mkI i 0 n) ++ ix (mkI i n s) := by
        rw [← ix_append, ← mkI_add i 0 n s, Nat.zero_add]
      rw [e1] at hold
      exact row_prefix hold (hL2.row hv) (hL2.row hl) e
    · refine ownsRow_block (hL2.row hv) fun q' hq' => hf3 q' (by have := hv0 q' hq'; omega) fun e => ?_
      rw [hq] at e
      injection e with e
      have := hv0 q' hq'
      omega
  · rcases hat with e | e
    · rw [e]; exact hlb
    · exact .inr ⟨_, e, by omega⟩
  · refine (hb.trans (hL2.mono (by omega))).grown hg3 (by omega) fun q hq => (hl.lt q hq).1
  · intro q hq hne
    rw [hf3 q (by omega) ?_, hL2.block q (by omega)]
    · exact hfar q hq hne
    · intro e
      rcases hlb with e2 | ⟨q2, hq2, hge⟩
      · exact hne (by rw [← e2]; exact e)
      · rw [hq2] at e
        injection e with e
        omega
theorem grow_inner {B Bo gb i n : Nat} {v0 o : Value} {G : List Value} {w : World} {k : Value → World → Prop} {r3 : List Value → World → Prop} (hBo : B ≤ Bo) (hoB : Bo ≤ w.heap.size) (hi : i ≤ 1000) (hn : n ≤ 1000000000) (hG : G.length ≤ 1000)
    (hv : w.ownsRow B 3 1 v0 n (ix (mkI i 0 n))) (ho : w.ownsRow Bo 25 1 o G.length G) (hov : ∀ q, v0.ownBlock = some q → q < Bo)
    (hk : ∀ v' o' w', Below B w w' → w'.ownsRow B 3 1 v' (n + 72) (ix (mkI i 0 (n + 72))) → w'.ownsRow B 3 1 v0 n (ix (mkI i 0 n)) → (v'.ownBlock = v0.ownBlock ∨ ∃ q, v'.ownBlock = some q ∧ w.heap.size ≤ q) → w'.ownsRow Bo 25 1 o' (G.length + 1) (G ++ [v']) →
      (o'.ownBlock = o.ownBlock ∨ ∃ q, o'.ownBlock = some q ∧ w.heap.size ≤ q) → (∀ q, v'.ownBlock = some q → o'.ownBlock ≠ some q) → (∀ q : Nat, q < w.heap.size → v0.ownBlock ≠ some q → o.ownBlock ≠ some q → w'.heap[q]? = w.heap[q]?) → r3 [.pointer (some ⟨gb, 0, none⟩), o', .int .i64 ((i : Int) + 1)] w') :
    lp (honeycombbook_Book_growInts_L7 k r3) [.pointer (some ⟨gb, 0, none⟩), o, .int .i64 (i : Int), v0, .int .i64 0] w := by
  have hvl : ∀ q, v0.ownBlock = some q → q < w.heap.size := fun q hq => (hv.lt q hq).2
  refine lp_ind _ (fun (m : Nat) r w1 => ∃ l, r = [.pointer (some ⟨gb, 0, none⟩), o, .int .i64 (i : Int), l, .int .i64 ((12 - m : Nat) : Int)] ∧ m ≤ 12 ∧ w1.ownsRow B 3 1 l (n + (12 - m)) (ix (mkI i 0 (n + (12 - m)))) ∧ w1.ownsRow B 3 1 v0 n (ix (mkI i 0 n)) ∧
      (l.ownBlock = v0.ownBlock ∨ ∃ q, l.ownBlock = some q ∧ w.heap.size ≤ q) ∧ Below B w w1 ∧ (∀ q : Nat, q < w.heap.size → v0.ownBlock ≠ some q → w1.heap[q]? = w.heap[q]?)) id ?_ (i := 12) ⟨v0, rfl, Nat.le_refl _, by simpa using hv, hv, .inl rfl, Below.refl _ _, fun _ _ _ => rfl⟩
  rintro m r w1 rec ⟨l, rfl, hm, hl, hv1, hlb, hb, hfar⟩ ih
  simp only [honeycombbook_Book_growInts_L7, iw_add, iw_sub, iw_mul, iw_lss, iw_leq, iw_gtr, iw_geq, iw_eql, iw_neq, iw_quo, iw_rem, un_not, len_s, len_l, nck_p, fld_p, cv_i, unc_c, ex_0, ex_1, ex_2, st_eq, st_ne, brV_true, brV_false, brV_b, brV_not, one_one, nil_p, nil_pn, nil_n, nil_nn, decide_eq_true_eq, true_and, nb_ite, bs_size, Nat.zero_add, Bool.not_true, Bool.not_false, Bool.false_eq_true, eq_self, if_true, if_false, jn]
  have hs1 := hb.size
  by_cases h0 : m = 0
  · subst h0
    rw [if_neg (by decide)]
    refine (lst_row hl).len ?_
    refine grow_step (m := 60) (s := 12) (by omega) (by omega) (by omega) hl hv1 hvl hlb hb hfar fun l2 w2 hl2 hv2 hlb2 hb2 hfar2 => ?_
    refine blS_one (row_cell' hl2) ?_
    have hs2 := hb2.size
    have ho2 : w2.ownsRow Bo 25 1 o G.length G := ownsRow_block ho fun q hq => hfar2 q (ho.lt q hq).2 fun e => by have := (ho.lt q hq).1; have := hov q e; omega
    refine app T_lists (ho2.alloc _) (one_list _ _ (row_cell' hl2)) (by simp only [maxLen]; omega) (by omega) (by simp; omega) fun o' w3 ho3 hg3 hat3 _ => ?_
    rw [wrap64 (by omega) (by omega)]
    have hob : ∀ q, o.ownBlock = some q → Bo ≤ q ∧ q < w.heap.size := fun q hq => ho.lt q hq
    have hf3 : ∀ q : Nat, q < w2.heap.size → o.ownBlock ≠ some q → w3.heap[q]? = w2.heap[q]? := fun q hq hne => by
      rw [hg3.block q (by simp; omega) (fun e => hne e.symm)]
      exact Below.heap_alloc w2 _ q hq
    refine hk l2 o' w3 ((hb2.alloc (by omega) _).grown hg3 (by simp; omega) fun q hq => by have := (hob q hq).1; omega) ?_ ?_ hlb2 ho3 ?_ ?_ ?_
    · refine ownsRow_block hl2 fun q hq => hf3 q (hl2.lt q hq).2 fun e => ?_
      have h1 := hob q e
      rcases hlb2 with e2 | ⟨q2, h2, h3⟩
      · have := hov q (by rw [← e2]; exact hq); omega
      · rw [hq] at h2; injection h2 with h2; omega
    · refine ownsRow_block hv2 fun q hq => hf3 q (by have := hvl q hq; omega) fun e => ?_
      have := hob q e
      have := hov q hq
      omega
    · rcases hat3 with e | e
      · exact .inl e
      · exact .inr ⟨_, e, by simp; omega⟩
    · intro q hq e
      have hq2 := (hl2.lt q hq).2
      rcases hat3 with e3 | e3
      · rw [e3] at e
        have h1 := hob q e
        rcases hlb2 with e2 | ⟨q2, h2, h3⟩
        · have := hov q (by rw [← e2]; exact hq); omega
        · rw [hq] at h2; injection h2 with h2; omega
      · rw [e] at e3; injection e3 with e3; simp at e3; omega
    · intro q hq h1 h2
      rw [hf3 q (by omega) h2]
      exact hfar2 q hq h1
  obtain ⟨m, rfl⟩ : ∃ q, m = q + 1 := ⟨m - 1, by omega⟩
  rw [if_pos (by omega)]
  refine (lst_row hl).len ?_
  refine grow_step (m := 1) (by omega) (by omega) (by omega) hl hv1 hvl hlb hb hfar fun l2 w2 hl2 hv2 hlb2 hb2 hfar2 => ?_
  rw [wrap64 (by omega) (by omega)]
  have hmi : 12 - m = 12 - (m + 1) + 1 := by omega
  exact ih m _ _ (by simp) ⟨l2, by rw [hmi]; rfl, by omega, by rw [hmi]; exact hl2, hv2, hlb2, hb2, hfar2⟩
theorem growInts_from {B gb : Nat} {R : List Row} {cs : Array Value} {lv : Value} {w : World} {k : Value → World → Prop} (h : TM B gb R cs lv w) (hB : B ≤ w.heap.size) (hn : R.length ≤ 250) (hx : ∀ r ∈ R, r.2.length ≤ 1000000000)
    (hm : ∀ (j : Nat) (r : Row), R[j]? = some r → r.2 = mkI j 0 r.2.length)
    (hk : ∀ o G w', Below B w w' → TM B gb R cs lv w' → G.length = R.length → w'.ownsRow B 25 1 o G.length G → (∀ (j : Nat) (r : Row) (v : Value), R[j]? = some r → G[j]? = some v → w'.ownsRow B 3 1 v (r.2.length + 72) (ix (mkI j 0 (r.2.length + 72)))) → k o w') :
    callW Try.prog (.func (.func 43) #[] #[]) [.pointer (some ⟨gb, 0, none⟩)] w k := by
  apply honeycombbook_Book_growInts_call
  apply honeycombbook_Book_growInts_run
  simp only [honeycombbook_Book_growInts]
  have hgb := lt_of_heap h.at_
  have hlvb : ∀ q, lv.ownBlock = some q → q < w.heap.size := fun q hq => (h.lrow.lt q hq).2
  have hrb : ∀ (j : Nat) (r : Row), R[j]? = some r → ∀ q, r.1.ownBlock = some q → q < w.heap.size := fun j r hr q hq => ((h.rows j r hr).1.lt q hq).2
  refine lp_ind _ (fun (m : Nat) r w1 => ∃ (o : Value) (G : List Value), r = [.pointer (some ⟨gb, 0, none⟩), o, .int .i64 ((R.length - m : Nat) : Int)] ∧ m ≤ R.length ∧ Below B w w1 ∧ TM B gb R cs lv w1 ∧ G.length = R.length - m ∧ w1.ownsRow w.heap.size 25 1 o G.length G ∧ w.heap.size ≤ w1.heap.size ∧
      (∀ (j : Nat) (r : Row) (v : Value), R[j]? = some r → G[j]? = some v → w1.ownsRow B 3 1 v (r.2.length + 72) (ix (mkI j 0 (r.2.length + 72))) ∧ ∀ q, v.ownBlock = some q → o.ownBlock ≠ some q ∧ (r.1.ownBlock = some q ∨ w.heap.size ≤ q))) id ?_ (i := R.length)
    ⟨.slice none 0 0, [], by simp, Nat.le_refl _, Below.refl _ _, h, by simp, World.ownsRow_nil _ _ _ _, Nat.le_refl _, by simp⟩
  rintro m r w1 rec ⟨o, G, rfl, hmR, hb, h1, hGl, ho, hsz, hG⟩ ih
  simp only [honeycombbook_Book_growInts_L3, iw_add, iw_sub, iw_mul, iw_lss, iw_leq, iw_gtr, iw_geq, iw_eql, iw_neq, iw_quo, iw_rem, un_not, len_s, len_l, nck_p, fld_p, cv_i, unc_c, ex_0, ex_1, ex_2, st_eq, st_ne, brV_true, brV_false, brV_b, brV_not, one_one, nil_p, nil_pn, nil_n, nil_nn, decide_eq_true_eq, true_and, nb_ite, bs_size, Nat.zero_add, Bool.not_true, Bool.not_false, Bool.false_eq_true, eq_self, if_true, if_false, jn]
  refine ldC_heap h1.at_ h1.c2 ?_
  refine (lst_row h1.lrow).len ?_
  simp only [iw_add, iw_sub, iw_mul, iw_lss, iw_leq, iw_gtr, iw_geq, iw_eql, iw_neq, iw_quo, iw_rem, un_not, len_s, len_l, nck_p, fld_p, cv_i, unc_c, ex_0, ex_1, ex_2, st_eq, st_ne, brV_true, brV_false, brV_b, brV_not, one_one, nil_p, nil_pn, nil_n, nil_nn, decide_eq_true_eq, true_and, nb_ite, bs_size, Nat.zero_add, Bool.not_true, Bool.not_false, Bool.false_eq_true, eq_self, if_true, if_false, jn]
  by_cases h0 : m = 0
  · subst h0
    rw [if_neg (by omega)]
    exact hk o G w1 hb h1 (by omega) (ownsRow_mono hB ho) fun j r v hr hv => (hG j r v hr hv).1
  obtain ⟨m, rfl⟩ : ∃ q, m = q + 1 := ⟨m - 1, by omega⟩
  rw [if_pos (by omega)]
  have hlt : R.length - (m + 1) < R.length := by omega
  have hmi : R.length - m = R.length - (m + 1) + 1 := by omega
  generalize hi : R.length - (m + 1) = i at *
  have hr : R[i]? = some R[i] := List.getElem?_eq_getElem hlt
  have hmem := hx _ (List.getElem_mem hlt)
  generalize R[i] = r at *
  refine ldC_heap h1.at_ h1.c2 ?_
  refine (lst_row h1.lrow).at1 (u := r.1) (by rw [List.getElem?_map, hr]; rfl) (by omega) fun a1 ha1 _ => ⟨_, ha1, ?_⟩
  obtain ⟨hrow, hg1, hg2⟩ := h1.rows i r hr
  have hrow' : w1.ownsRow B 3 1 r.1 r.2.length (ix (mkI i 0 r.2.length)) := by
    have := hrow
    rw [hm i r hr, mkI_length] at this
    exact this
  have hob : ∀ q, o.ownBlock = some q → w.heap.size ≤ q := fun q hq => (ho.lt q hq).1
  refine grow_inner (Bo := w.heap.size) hB hsz (by omega) hmem (by omega) hrow' ho (fun q hq => hrb i r hr q hq) fun v' o' w2 hb2 hv2 hv02 hvb ho2 hob2 hvo hfar => ?_
  have hs2 := hb2.size
  have h2 : TM B gb R cs lv w2 := {
    at_ := by rw [hfar gb (lt_of_heap h1.at_) hg1 (fun e => by have := hob gb e; omega)]; exact h1.at_
    c2 := h1.c2
    base := h1.base
    lrow := ownsRow_block h1.lrow fun q hq => hfar q (h1.lrow.lt q hq).2 (fun e => hg2 q e hq) (fun e => by have := hob q e; have := hlvb q hq; omega)
    lne := h1.lne
    rows := fun j s hs => by
      refine ⟨?_, (h1.rows j s hs).2⟩
      by_cases hj : i = j
      · subst hj
        rw [hr] at hs
        injection hs with hs
        subst hs
        rw [hm i r hr, mkI_length]
        exact hv02
      · exact ownsRow_block (h1.rows j s hs).1 fun q hq => hfar q ((h1.rows j s hs).1.lt q hq).2 (fun e => h1.apart i j r s hr hs hj q e hq) (fun e => by have := hob q e; have := hrb j s hs q hq; omega)
    apart := h1.apart }
  refine ih m _ _ (by simp) ⟨o', G ++ [v'], by rw [hmi]; rfl, by omega, hb.trans hb2, h2, by simp; omega, by rw [List.length_append]; exact ho2, by omega, fun j s v hs hv => ?_⟩
  by_cases hj : j < G.length
  · rw [List.getElem?_append_left hj] at hv
    obtain ⟨hv1, hv2'⟩ := hG j s v hs hv
    have hij : i ≠ j := by omega
    have hne : ∀ q, v.ownBlock = some q → r.1.ownBlock ≠ some q := fun q hq e => by
      rcases (hv2' q hq).2 with e2 | e2
      · exact h1.apart i j r s hr hs hij q e e2
      · have := hrb i r hr q e; omega
    refine ⟨ownsRow_block hv1 fun q hq => hfar q (hv1.lt q hq).2 (hne q hq) (hv2' q hq).1, fun q hq => ⟨fun e => ?_, (hv2' q hq).2⟩⟩
    rcases hob2 with e2 | ⟨q2, e2, hge⟩
    · rw [e2] at e; exact (hv2' q hq).1 e
    · rw [e] at e2
      injection e2 with e2
      have := (hv1.lt q hq).2
      omega
  · rw [List.getElem?_append_right (by omega)] at hv
    have hj0 : j - G.length = 0 := by
      rcases Nat.eq_zero_or_pos (j - G.length) with h0 | h0
      · exact h0
      · rw [List.getElem?_eq_none (by simp; omega)] at hv; cases hv
    rw [hj0] at hv
    injection hv with hv
    subst hv
    have hji : j = i := by omega
    subst hji
    rw [hr] at hs
    injection hs with hs
    subst hs
    refine ⟨hv2, fun q hq => ⟨hvo q hq, ?_⟩⟩
    rcases hvb with e | ⟨q2, e, hge⟩
    · exact .inl (by rw [← e]; exact hq)
    · rw [hq] at e
      injection e with e
      exact .inr (by omega)
end Go.Proofs.Ytlicdhdpngahgaa
