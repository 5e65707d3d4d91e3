/- A record as bytes: record.Put. -/
import Derived.Test.YtlicdhdpngahgaaDoorPackB
set_option linter.unusedVariables false
set_option linter.unusedSimpArgs false
namespace Go.Proofs.YtlicdhdpngahgaaDoor
open Go.Eng Go.RowKit
def yesN (b : Bool) : Int := if b then 1 else 0
def numsB (l : List Int) : List UInt8 := n2 l.length ++ l.flatMap n2
def patB (p : Pat) : List UInt8 := n2 p.page ++ n2 p.at_ ++ txt p.byt
def txB (t : Txi) : List UInt8 := n2 t.tx ++ n4 t.last ++ n2 (yesN t.com) ++ numsB t.pages
def dirtB (d : Int × Int) : List UInt8 := n2 d.1 ++ n4 d.2
def headB (r : Rec) : List UInt8 := n2 r.kind ++ n2 r.tx ++ n4 r.prev ++ n4 r.next ++ txt r.key ++ n2 (yesN r.had) ++ txt r.okey ++ txt r.oval ++ n2 r.blob ++ n2 r.size
def putB (r : Rec) : List UInt8 := headB r ++ numsB r.pages ++ (n2 r.patches.length ++ r.patches.flatMap patB) ++ (n2 r.txs.length ++ r.txs.flatMap txB) ++ (n2 r.dirty.length ++ r.dirty.flatMap dirtB)
theorem n2_len (x : Int) : (n2 x).length = 2 := be_length _ _
theorem n4_len (x : Int) : (n4 x).length = 4 := be_length _ _
theorem txt_len (s : List UInt8) : (txt s).length = 2 + s.length := by simp [txt, n2_len]
theorem flat_n2_len (l : List Int) : (l.flatMap n2).length = 2 * l.length := by
  induction l with
  | nil => rfl
  | cons x l ih => simp only [List.flatMap_cons, List.length_append, n2_len, ih, List.length_cons]; omega
theorem nums_len (l : List Int) : (numsB l).length = 2 + 2 * l.length := by rw [numsB, List.length_append, n2_len, flat_n2_len]
theorem yes_from {b : Bool} {w : World} {k : Value → World → Prop} (hk : k (.int .i64 (yesN b)) w) : callW Tryd.prog (.func (.func 49) #[] #[]) [.bool b] w k := by
  apply record_yes_call
  apply record_yes_run
  cases b <;> (simp only [record_yes, iw_add, iw_sub, iw_mul, iw_lss, iw_leq, iw_gtr, iw_geq, iw_eql, iw_neq, iw_quo, iw_rem, un_not, len_s, len_l, nck_p, fld_p, cv_i, unc_c, ex_0, ex_1, ex_2, st_eq, st_ne, brV_true, brV_false, brV_b, brV_not, one_one, nil_p, nil_pn, nil_n, nil_nn, decide_eq_true_eq, true_and, nb_ite, bs_size, Nat.zero_add, Bool.not_true, Bool.not_false, Bool.false_eq_true, eq_self, if_true, if_false, jn]; exact hk)
/-- The variable that holds the way to write a number. -/
abbrev NumAt (W1 : World) (g t5 : Nat) : Prop := W1.heap[t5]? = some (.cells #[fNum g] 78 (0, 0)) ∧ t5 ≠ g
theorem NumAt.ld {W1 w : World} {g t5 : Nat} {v : Value} {l : List UInt8} (h : NumAt W1 g t5) (hw : Wr W1 w g v l) {k : Value → Cells → Prop} (hk : k (fNum g) [(⟨t5, 0, none⟩, fNum g)]) : ldC (.pointer (some ⟨t5, 0, none⟩)) w k :=
  ldC_heap (hw.old h.1 h.2) rfl hk
theorem flat_take {α : Type} {f : α → List UInt8} {l : List α} {i : Nat} (h : i < l.length) : (l.take (i + 1)).flatMap f = (l.take i).flatMap f ++ f l[i] := by
  rw [List.take_add_one, List.getElem?_eq_getElem h, List.flatMap_append]
  simp
theorem nums_from {W1 w : World} {g t5 : Nat} {pv v : Value} {l : List UInt8} {ns : List Int} {k : Value → World → Prop} (hN : NumAt W1 g t5) (h : Wr W1 w g v l) (hns : pagesOk ns) (hl : l.length ≤ 1000000)
    (hlst : ∀ (w' : World) (v' : Value) (l' : List UInt8), Wr W1 w' g v' l' → Lst w' pv ns.length (ix ns))
    (hk : ∀ v' w' u, Wr W1 w' g v' (l ++ numsB ns) → Stp w w' g v v' → k u w') : callW Tryd.prog (.func (.func 48) #[] #[.pointer (some ⟨t5, 0, none⟩)]) [pv] w k := by
  refine ⟨by kernel_rfl, ?_⟩
  show Calls Tryd.prog 48 #[pv, .pointer (some ⟨t5, 0, none⟩)] w (rt k)
  apply record_Put_1_run
  simp only [record_Put_1]
  have hnl := hns.1
  refine hN.ld h ?_
  refine (hlst w v _ h).len ?_
  refine num_from (x := (ns.length : Int)) h ⟨by omega, by omega⟩ (by omega) fun v1 w1 u h1 hst1 => ?_
  refine (hlst w1 v1 _ h1).len ?_
  refine lp_ind _ (fun (m : Nat) r w2 => ∃ v2, r = [.pointer (some ⟨t5, 0, none⟩), pv, .int .i64 ns.length, .int .i64 ((ns.length - m : Nat) : Int)] ∧ m ≤ ns.length ∧ Wr W1 w2 g v2 (l ++ n2 ns.length ++ (ns.take (ns.length - m)).flatMap n2) ∧ Stp w w2 g v v2) id ?_ (i := ns.length) ⟨v1, by simp, Nat.le_refl _, by simpa using h1, hst1⟩
  rintro m r w2 rec ⟨v2, rfl, hm, h2, hst2⟩ ih
  simp only [record_Put_1_L2, iw_add, iw_sub, iw_mul, iw_lss, iw_leq, iw_gtr, iw_geq, iw_eql, iw_neq, iw_quo, iw_rem, un_not, len_s, len_l, nck_p, fld_p, cv_i, unc_c, ex_0, ex_1, ex_2, st_eq, st_ne, brV_true, brV_false, brV_b, brV_not, one_one, nil_p, nil_pn, nil_n, nil_nn, decide_eq_true_eq, true_and, nb_ite, bs_size, Nat.zero_add, Bool.not_true, Bool.not_false, Bool.false_eq_true, eq_self, if_true, if_false, jn]
  by_cases h0 : m = 0
  · subst h0
    rw [if_neg (by omega)]
    rw [Nat.sub_zero, List.take_length, List.append_assoc] at h2
    exact hk v2 w2 _ h2 hst2
  obtain ⟨m, rfl⟩ : ∃ q, m = q + 1 := ⟨m - 1, by omega⟩
  rw [if_pos (by omega)]
  have hlt : ns.length - (m + 1) < ns.length := by omega
  have hmi : ns.length - m = ns.length - (m + 1) + 1 := by omega
  generalize hi : ns.length - (m + 1) = i at *
  refine (hlst w2 v2 _ h2).at1 (ix_get hlt) hlt fun a ha _ => ⟨_, ha, ?_⟩
  refine hN.ld h2 ?_
  refine num_from h2 (hns.2 _ (List.getElem_mem hlt)) (by rw [List.length_append, List.length_append, n2_len, flat_n2_len, List.length_take]; omega) fun v3 w3 u h3 hst3 => ?_
  rw [wrap64 (by omega) (by omega)]
  refine ih m _ _ (by simp) ⟨v3, by rw [hmi]; rfl, by omega, ?_, hst2.trans hst3⟩
  rw [hmi, flat_take hlt]
  simpa using h3
theorem pat_len {p : Pat} (h : patOk p) : (patB p).length ≤ 262 := by
  rw [patB, List.length_append, List.length_append, n2_len, n2_len, txt_len]
  have := h.2.2.2.2.2
  have := h.2.2.1
  omega
theorem tx_len {t : Txi} (h : txOk t) : (txB t).length ≤ 138 := by
  rw [txB, List.length_append, List.length_append, List.length_append, n2_len, n4_len, n2_len, nums_len]
  have := h.2.2.1
  omega
theorem flat_len {α : Type} {f : α → List UInt8} {n : Nat} : ∀ {l : List α}, (∀ x ∈ l, (f x).length ≤ n) → (l.flatMap f).length ≤ n * l.length
  | [], _ => Nat.zero_le _
  | x :: l, h => by
    have h1 := h x List.mem_cons_self
    have h2 := flat_len (f := f) (l := l) fun y hy => h y (List.mem_cons_of_mem _ hy)
    simp only [List.flatMap_cons, List.length_append, List.length_cons, Nat.mul_add, Nat.mul_one]
    omega
theorem dirt_len (d : Int × Int) : (dirtB d).length ≤ 6 := by rw [dirtB, List.length_append, n2_len, n4_len]; omega
/-- The pages that were changed, and the end. -/
theorem Put_L36 {W1 w w0 : World} {r : Rec} {g t5 : Nat} {v vd : Value} {l : List UInt8} {k : Value → World → Prop} (hN : NumAt W1 g t5) (h : Wr W1 w g v l) (hok : ∀ d ∈ r.dirty, dirtOk d) (hn : r.dirty.length ≤ 64) (hl : l.length ≤ 100000)
    (hlst : ∀ (w' : World) (v' : Value) (l' : List UInt8), Wr W1 w' g v' l' → Lst w' vd r.dirty.length (dx r.dirty))
    (hk : ∀ w' v', Wr W1 w' g v' (l ++ r.dirty.flatMap dirtB) → k (.tuple #[.string (bs (l ++ r.dirty.flatMap dirtB)), .bool true]) w') :
    lp (record_Put_L36 k) [.pointer (some ⟨g, 0, none⟩), .pointer (some ⟨t5, 0, none⟩), fLong g, vd, .int .i64 r.dirty.length, .int .i64 0] w := by
  refine lp_ind _ (fun (m : Nat) x w2 => ∃ v2, x = [.pointer (some ⟨g, 0, none⟩), .pointer (some ⟨t5, 0, none⟩), fLong g, vd, .int .i64 r.dirty.length, .int .i64 ((r.dirty.length - m : Nat) : Int)] ∧ m ≤ r.dirty.length ∧ Wr W1 w2 g v2 (l ++ (r.dirty.take (r.dirty.length - m)).flatMap dirtB)) id ?_ (i := r.dirty.length) ⟨v, by simp, Nat.le_refl _, by simpa using h⟩
  rintro m x w2 rec ⟨v2, rfl, hm, h2⟩ ih
  simp only [record_Put_L36, iw_add, iw_sub, iw_mul, iw_lss, iw_leq, iw_gtr, iw_geq, iw_eql, iw_neq, iw_quo, iw_rem, un_not, len_s, len_l, nck_p, fld_p, cv_i, unc_c, ex_0, ex_1, ex_2, st_eq, st_ne, brV_true, brV_false, brV_b, brV_not, one_one, nil_p, nil_pn, nil_n, nil_nn, decide_eq_true_eq, true_and, nb_ite, bs_size, Nat.zero_add, Bool.not_true, Bool.not_false, Bool.false_eq_true, eq_self, if_true, if_false, jn]
  by_cases h0 : m = 0
  · subst h0
    rw [if_neg (by omega)]
    rw [Nat.sub_zero, List.take_length] at h2
    refine wdone_from h2 ?_
    simp only [iw_add, iw_sub, iw_mul, iw_lss, iw_leq, iw_gtr, iw_geq, iw_eql, iw_neq, iw_quo, iw_rem, un_not, len_s, len_l, nck_p, fld_p, cv_i, unc_c, ex_0, ex_1, ex_2, st_eq, st_ne, brV_true, brV_false, brV_b, brV_not, one_one, nil_p, nil_pn, nil_n, nil_nn, decide_eq_true_eq, true_and, nb_ite, bs_size, Nat.zero_add, Bool.not_true, Bool.not_false, Bool.false_eq_true, eq_self, if_true, if_false, jn]
    exact hk w2 v2 h2
  obtain ⟨m, rfl⟩ : ∃ q, m = q + 1 := ⟨m - 1, by omega⟩
  rw [if_pos (by omega)]
  have hlt : r.dirty.length - (m + 1) < r.dirty.length := by omega
  have hmi : r.dirty.length - m = r.dirty.length - (m + 1) + 1 := by omega
  generalize hi : r.dirty.length - (m + 1) = i at *
  have hd := hok _ (List.getElem_mem hlt)
  have hlen : (l ++ (r.dirty.take i).flatMap dirtB).length ≤ 200000 := by
    have h1 := flat_len (f := dirtB) (l := r.dirty.take i) (n := 6) fun x _ => dirt_len x
    have h2 : (r.dirty.take i).length ≤ 64 := by rw [List.length_take]; omega
    rw [List.length_append]
    omega
  refine dirt_at (hlst w2 v2 _ h2) hlt fun b o h3 h4 => ldNp h3 h4 ?_
  refine al_lit fun g2 w3 hL3 hg2 hgs => ?_
  refine stN_heap hg2 rfl rfl (by simp [isCell]) fun w4 hg4 hs4 hb4 ho4 => ?_
  have hL4 : Later w2 w4 := hL3.trans (hb4 _ (by omega))
  have hw4 := h2.later hL4
  have hgs2 := h2.size
  have hglt := h2.glt
  have hvb : ∀ q, v2.ownBlock = some q → q < w2.heap.size := fun q hq => (h2.row.lt q hq).2
  refine hN.ld hw4 ?_
  simp only [iw_add, iw_sub, iw_mul, iw_lss, iw_leq, iw_gtr, iw_geq, iw_eql, iw_neq, iw_quo, iw_rem, un_not, len_s, len_l, nck_p, fld_p, cv_i, unc_c, ex_0, ex_1, ex_2, st_eq, st_ne, brV_true, brV_false, brV_b, brV_not, one_one, nil_p, nil_pn, nil_n, nil_nn, decide_eq_true_eq, true_and, nb_ite, bs_size, Nat.zero_add, Bool.not_true, Bool.not_false, Bool.false_eq_true, eq_self, if_true, if_false, jn]
  refine ldC_heap hg4 (v := .int .i64 (r.dirty[i]).1) rfl ?_
  refine num_from hw4 hd.1 (by omega) fun v5 w5 u h5 hst5 => ?_
  have hg5 := hst5.heap hg4 (by omega) (fun e => by have := hvb g2 e; omega)
  refine ldC_heap hg5 (v := .int .i64 (r.dirty[i]).2) rfl ?_
  refine long_from h5 hd.2 (by rw [List.length_append, n2_len]; omega) fun v6 w6 u h6 hst6 => ?_
  rw [wrap64 (by omega) (by omega)]
  refine ih m _ _ (by simp) ⟨v6, by rw [hmi]; rfl, by omega, ?_⟩
  rw [hmi, flat_take hlt]
  simpa [dirtB] using h6
theorem Put_L27 {W1 w : World} {r : Rec} {g t5 t1 : Nat} {v vp vq vt vd : Value} {ps : List Value} {l : List UInt8} {k : Value → World → Prop} (hN : NumAt W1 g t5) (h : Wr W1 w g v l) (hr : r.ok) (hl : l.length ≤ 50000)
    (h1 : W1.heap[t1]? = some (.cells (rcells r vp vq vt vd) 29 (0, 0))) (h1g : t1 ≠ g)
    (hlst : ∀ (w' : World) (v' : Value) (l' : List UInt8), Wr W1 w' g v' l' → RecV w' vp vq vt vd ps r)
    (hk : ∀ w' v' l', l' = l ++ r.txs.flatMap txB ++ n2 r.dirty.length ++ r.dirty.flatMap dirtB → Wr W1 w' g v' l' → k (.tuple #[.string (bs l'), .bool true]) w') :
    lp (record_Put_L27 k) [.pointer (some ⟨t1, 0, none⟩), .pointer (some ⟨g, 0, none⟩), .pointer (some ⟨t5, 0, none⟩), fLong g, .func (.func 48) #[] #[.pointer (some ⟨t5, 0, none⟩)], vt, .int .i64 r.txs.length, .int .i64 0] w := by
  obtain ⟨okA, okP, okT, okD⟩ := (ok_iff r).1 hr
  have htl := okA.2.2.2.2.2.2.2.2.1
  have hdl := okA.2.2.2.2.2.2.2.2.2
  refine lp_ind _ (fun (m : Nat) x w2 => ∃ v2, x = [.pointer (some ⟨t1, 0, none⟩), .pointer (some ⟨g, 0, none⟩), .pointer (some ⟨t5, 0, none⟩), fLong g, .func (.func 48) #[] #[.pointer (some ⟨t5, 0, none⟩)], vt, .int .i64 r.txs.length, .int .i64 ((r.txs.length - m : Nat) : Int)] ∧ m ≤ r.txs.length ∧ Wr W1 w2 g v2 (l ++ (r.txs.take (r.txs.length - m)).flatMap txB)) id ?_ (i := r.txs.length) ⟨v, by simp, Nat.le_refl _, by simpa using h⟩
  rintro m x w2 rec ⟨v2, rfl, hm, h2⟩ ih
  have hlen : ∀ i, (l ++ (r.txs.take i).flatMap txB).length ≤ 60000 := fun i => by
    have h3 := flat_len (f := txB) (l := r.txs.take i) (n := 138) fun x hx => tx_len (okT x (List.mem_of_mem_take hx))
    have h4 : (r.txs.take i).length ≤ 8 := by rw [List.length_take]; omega
    rw [List.length_append]
    omega
  simp only [record_Put_L27, iw_add, iw_sub, iw_mul, iw_lss, iw_leq, iw_gtr, iw_geq, iw_eql, iw_neq, iw_quo, iw_rem, un_not, len_s, len_l, nck_p, fld_p, cv_i, unc_c, ex_0, ex_1, ex_2, st_eq, st_ne, brV_true, brV_false, brV_b, brV_not, one_one, nil_p, nil_pn, nil_n, nil_nn, decide_eq_true_eq, true_and, nb_ite, bs_size, Nat.zero_add, Bool.not_true, Bool.not_false, Bool.false_eq_true, eq_self, if_true, if_false, jn]
  by_cases h0 : m = 0
  · subst h0
    rw [if_neg (by omega)]
    have hle := hlen r.txs.length
    rw [Nat.sub_zero, List.take_length] at h2
    rw [List.take_length] at hle
    refine hN.ld h2 ?_
    refine ldC_heap (h2.old h1 h1g) (v := vd) rfl ?_
    refine (hlst w2 v2 _ h2).d.len ?_
    refine num_from (x := (r.dirty.length : Int)) h2 ⟨by omega, by omega⟩ (by omega) fun v3 w3 u h3 hst3 => ?_
    refine ldC_heap (h3.old h1 h1g) (v := vd) rfl ?_
    refine (hlst w3 v3 _ h3).d.len ?_
    exact Put_L36 (w0 := w) hN h3 okD hdl (by rw [List.length_append, n2_len]; omega) (fun w' v' l' hw' => (hlst w' v' l' hw').d) fun w' v' hw' => hk w' v' _ rfl hw'
  obtain ⟨m, rfl⟩ : ∃ q, m = q + 1 := ⟨m - 1, by omega⟩
  rw [if_pos (by omega)]
  have hlt : r.txs.length - (m + 1) < r.txs.length := by omega
  have hmi : r.txs.length - m = r.txs.length - (m + 1) + 1 := by omega
  generalize hi : r.txs.length - (m + 1) = i at *
  have ht := okT _ (List.getElem_mem hlt)
  have hle := hlen i
  have hv2 := hlst w2 v2 _ h2
  obtain ⟨pv, hpv, hpl⟩ := hv2.s i _ (List.getElem?_eq_getElem hlt)
  refine tx_at hv2.t hv2.n hlt fun b o h3 h4 h5 h6 => ldN4 h3 h4 h5 (h6 pv hpv) ?_
  refine al_lit fun g2 w3 hL3 hg2 hgs => ?_
  refine stN_heap hg2 rfl rfl (by simp [isCell]; exact (Lst.cell hpl).1) fun w4 hg4 hs4 hb4 ho4 => ?_
  have hL4 : Later w2 w4 := hL3.trans (hb4 _ (by omega))
  have hw4 := h2.later hL4
  have hgs2 := h2.size
  have hglt := h2.glt
  have hvb : ∀ q, v2.ownBlock = some q → q < w2.heap.size := fun q hq => (h2.row.lt q hq).2
  have hvg2 : v2.ownBlock ≠ some g2 := fun e => by have := hvb g2 e; omega
  refine hN.ld hw4 ?_
  simp only [iw_add, iw_sub, iw_mul, iw_lss, iw_leq, iw_gtr, iw_geq, iw_eql, iw_neq, iw_quo, iw_rem, un_not, len_s, len_l, nck_p, fld_p, cv_i, unc_c, ex_0, ex_1, ex_2, st_eq, st_ne, brV_true, brV_false, brV_b, brV_not, one_one, nil_p, nil_pn, nil_n, nil_nn, decide_eq_true_eq, true_and, nb_ite, bs_size, Nat.zero_add, Bool.not_true, Bool.not_false, Bool.false_eq_true, eq_self, if_true, if_false, jn]
  refine ldC_heap hg4 (v := .int .i64 r.txs[i].tx) rfl ?_
  refine num_from hw4 ht.1 (by omega) fun v5 w5 u h5 hst5 => ?_
  have hlt4 := lt_of_heap hg4
  have hg5 := hst5.heap hg4 (by omega) hvg2
  refine ldC_heap hg5 (v := .int .i64 r.txs[i].last) rfl ?_
  refine long_from h5 ht.2.1 (by rw [List.length_append, n2_len]; omega) fun v6 w6 u h6 hst6 => ?_
  have hst46 := hst5.trans hst6
  have hg6 := hst46.heap hg4 (by omega) hvg2
  have h6d : Wr W1 w6.drew g v6 _ := h6.later (Later.dr w6)
  refine hN.ld h6d ?_
  refine ldC_heap (w := w6.drew) hg6 (v := .bool r.txs[i].com) rfl ?_
  refine yes_from ?_
  refine held_cons (w := w6.drew) (Later.refl _) (holds1 (by rw [heap_cell (h6d.old hN.1 hN.2)]; rfl)) (held_nil ?_)
  refine num_from h6d (x := yesN r.txs[i].com) (by unfold yesN; split <;> decide) (by rw [List.length_append, List.length_append, n2_len, n4_len]; omega) fun v7 w7 u h7 hst7 => ?_
  have hst47 : Stp w4 w7 g v2 v7 := hst46.trans ⟨hst7.size, hst7.far, hst7.blk⟩
  have hg7 := hst47.heap hg4 (by omega) hvg2
  refine ldC_heap hg7 (v := pv) rfl ?_
  refine nums_from hN h7 ht.2.2 (by rw [List.length_append, List.length_append, List.length_append, n2_len, n4_len, n2_len]; omega) (fun w' v' l' hw' => ?_) fun v8 w8 u h8 hst8 => ?_
  · obtain ⟨u, hu, hl⟩ := (hlst w' v' l' hw').s i _ (List.getElem?_eq_getElem hlt)
    rw [hpv] at hu
    injection hu with hu
    subst hu
    exact hl
  rw [wrap64 (by omega) (by omega)]
  refine ih m _ _ (by simp) ⟨v8, by rw [hmi]; rfl, by omega, ?_⟩
  rw [hmi, flat_take hlt]
  simpa [txB] using h8
end Go.Proofs.YtlicdhdpngahgaaDoor
