/- A record as bytes: record.Put, whole. -/
import Derived.Test.YtlicdhdpngahgaaDoorRPut
set_option linter.unusedVariables false
set_option linter.unusedSimpArgs false
namespace Go.Proofs.YtlicdhdpngahgaaDoor
open Go.Eng Go.RowKit
abbrev fNums (t5 : Nat) : Value := .func (.func 48) #[] #[.pointer (some ⟨t5, 0, none⟩)]
theorem Put_L19 {W1 w : World} {r : Rec} {g t5 t1 : Nat} {v vp vq vt vd : Value} {ps : List Value} {l : List UInt8} {k : Value → World → Prop} (hN : NumAt W1 g t5) (h : Wr W1 w g v l) (hr : r.ok) (hl : l.length ≤ 20000)
    (h1 : W1.heap[t1]? = some (.cells (rcells r vp vq vt vd) 29 (0, 0))) (h1g : t1 ≠ g)
    (hlst : ∀ (w' : World) (v' : Value) (l' : List UInt8), Wr W1 w' g v' l' → RecV w' vp vq vt vd ps r)
    (hk : ∀ w' v' l', l' = l ++ r.patches.flatMap patB ++ n2 r.txs.length ++ r.txs.flatMap txB ++ n2 r.dirty.length ++ r.dirty.flatMap dirtB → Wr W1 w' g v' l' → k (.tuple #[.string (bs l'), .bool true]) w') :
    lp (record_Put_L19 k) [.pointer (some ⟨t1, 0, none⟩), .pointer (some ⟨g, 0, none⟩), .pointer (some ⟨t5, 0, none⟩), fLong g, fText g, fNums t5, vq, .int .i64 r.patches.length, .int .i64 0] w := by
  obtain ⟨okA, okP, okT, okD⟩ := (ok_iff r).1 hr
  have hql := okA.2.2.2.2.2.2.2.1
  have htl := okA.2.2.2.2.2.2.2.2.1
  refine lp_ind _ (fun (m : Nat) x w2 => ∃ v2, x = [.pointer (some ⟨t1, 0, none⟩), .pointer (some ⟨g, 0, none⟩), .pointer (some ⟨t5, 0, none⟩), fLong g, fText g, fNums t5, vq, .int .i64 r.patches.length, .int .i64 ((r.patches.length - m : Nat) : Int)] ∧ m ≤ r.patches.length ∧ Wr W1 w2 g v2 (l ++ (r.patches.take (r.patches.length - m)).flatMap patB)) id ?_ (i := r.patches.length) ⟨v, by simp, Nat.le_refl _, by simpa using h⟩
  rintro m x w2 rec ⟨v2, rfl, hm, h2⟩ ih
  have hlen : ∀ i, (l ++ (r.patches.take i).flatMap patB).length ≤ 40000 := fun i => by
    have h3 := flat_len (f := patB) (l := r.patches.take i) (n := 262) fun x hx => pat_len (okP x (List.mem_of_mem_take hx))
    have h4 : (r.patches.take i).length ≤ 40 := by rw [List.length_take]; omega
    rw [List.length_append]
    omega
  simp only [record_Put_L19, iw_add, iw_sub, iw_mul, iw_lss, iw_leq, iw_gtr, iw_geq, iw_eql, iw_neq, iw_quo, iw_rem, un_not, len_s, len_l, nck_p, fld_p, cv_i, unc_c, ex_0, ex_1, ex_2, st_eq, st_ne, brV_true, brV_false, brV_b, brV_not, one_one, nil_p, nil_pn, nil_n, nil_nn, decide_eq_true_eq, true_and, nb_ite, bs_size, Nat.zero_add, Bool.not_true, Bool.not_false, Bool.false_eq_true, eq_self, if_true, if_false, jn]
  by_cases h0 : m = 0
  · subst h0
    rw [if_neg (by omega)]
    have hle := hlen r.patches.length
    rw [Nat.sub_zero, List.take_length] at h2
    rw [List.take_length] at hle
    refine hN.ld h2 ?_
    refine ldC_heap (h2.old h1 h1g) (v := vt) rfl ?_
    refine (hlst w2 v2 _ h2).t.len ?_
    refine num_from (x := (r.txs.length : Int)) h2 ⟨by omega, by omega⟩ (by omega) fun v3 w3 u h3 hst3 => ?_
    refine ldC_heap (h3.old h1 h1g) (v := vt) rfl ?_
    refine (hlst w3 v3 _ h3).t.len ?_
    exact Put_L27 hN h3 hr (by rw [List.length_append, n2_len]; omega) h1 h1g hlst fun w' v' l' e hw' => hk w' v' l' e hw'
  obtain ⟨m, rfl⟩ : ∃ q, m = q + 1 := ⟨m - 1, by omega⟩
  rw [if_pos (by omega)]
  have hlt : r.patches.length - (m + 1) < r.patches.length := by omega
  have hmi : r.patches.length - m = r.patches.length - (m + 1) + 1 := by omega
  generalize hi : r.patches.length - (m + 1) = i at *
  have hp := okP _ (List.getElem_mem hlt)
  have hle := hlen i
  refine pat_at (hlst w2 v2 _ h2).q hlt fun b o h3 h4 h5 => ldN3 h3 h4 h5 ?_
  refine al_lit fun g2 w3 hL3 hg2 hgs => ?_
  refine stN_heap hg2 rfl rfl (by simp [isCell]) fun w4 hg4 hs4 hb4 ho4 => ?_
  have hL4 : Later w2 w4 := hL3.trans (hb4 _ (by omega))
  have hw4 := h2.later hL4
  have hgs2 := h2.size
  have hglt := h2.glt
  have hvb : ∀ q, v2.ownBlock = some q → q < w2.heap.size := fun q hq => (h2.row.lt q hq).2
  have hvg2 : v2.ownBlock ≠ some g2 := fun e => by have := hvb g2 e; omega
  refine hN.ld hw4 ?_
  simp only [iw_add, iw_sub, iw_mul, iw_lss, iw_leq, iw_gtr, iw_geq, iw_eql, iw_neq, iw_quo, iw_rem, un_not, len_s, len_l, nck_p, fld_p, cv_i, unc_c, ex_0, ex_1, ex_2, st_eq, st_ne, brV_true, brV_false, brV_b, brV_not, one_one, nil_p, nil_pn, nil_n, nil_nn, decide_eq_true_eq, true_and, nb_ite, bs_size, Nat.zero_add, Bool.not_true, Bool.not_false, Bool.false_eq_true, eq_self, if_true, if_false, jn]
  refine ldC_heap hg4 (v := .int .i64 r.patches[i].page) rfl ?_
  refine num_from hw4 (by have := hp.1; have := hp.2.1; exact ⟨by omega, by omega⟩) (by omega) fun v5 w5 u h5 hst5 => ?_
  have hg5 := hst5.heap hg4 (by omega) hvg2
  refine hN.ld h5 ?_
  refine ldC_heap hg5 (v := .int .i64 r.patches[i].at_) rfl ?_
  refine num_from h5 (by have := hp.2.2.1; have := hp.2.2.2.1; exact ⟨by omega, by omega⟩) (by rw [List.length_append, n2_len]; omega) fun v6 w6 u h6 hst6 => ?_
  have hg6 := (hst5.trans hst6).heap hg4 (by omega) hvg2
  refine ldC_heap hg6 (v := .string (bs r.patches[i].byt)) rfl ?_
  refine text_from h6 (by have := hp.2.2.2.2.2; have := hp.2.2.1; omega) (by rw [List.length_append, List.length_append, n2_len, n2_len]; omega) fun v7 w7 u h7 hst7 => ?_
  rw [wrap64 (by omega) (by omega)]
  refine ih m _ _ (by simp) ⟨v7, by rw [hmi]; rfl, by omega, ?_⟩
  rw [hmi, flat_take hlt]
  simpa [patB] using h7
theorem lst_wr {W1 w : World} {g n : Nat} {v x : Value} {l : List UInt8} {xs : List Value} (h : Wr W1 w g v l) (hx : Lst W1 x n xs) (hg : ∀ q, x.ownBlock = some q → q ≠ g) : Lst w x n xs := by
  obtain ⟨p, cap, rfl, hc⟩ := hx
  refine ⟨p, cap, rfl, ?_⟩
  rcases hc with hc | ⟨b, o, rfl, hc⟩
  · exact .inl hc
  · refine .inr ⟨b, o, rfl, fun j u hu => ?_⟩
    have h1 := hc j u hu
    unfold World.cell? at h1 ⊢
    simp only [] at h1 ⊢
    cases hq : W1.heap[b]? with
    | none => rw [hq] at h1; cases h1
    | some ob => rw [hq] at h1; rw [h.old hq (hg b rfl)]; exact h1
theorem head_len {r : Rec} (h : r.ok) : (headB r).length ≤ 400 := by
  have hk := h.2.2.2.2.1
  have hc : r.okey.length ≤ 16 ∧ r.oval.length ≤ 40 := by
    rcases h.2.2.2.2.2.1 with ⟨a, b, _⟩ | ⟨⟨_, a⟩, ⟨_, b, _⟩ | ⟨_, _, b, _⟩⟩
    · simp [a, b]
    · exact ⟨a, b⟩
    · exact ⟨a, by simp [b]⟩
  simp only [headB, List.length_append, n2_len, n4_len, txt_len]
  omega
theorem pages_in2 {n : Nat} (h : n ≤ 65535) : in2 (n : Int) := ⟨by omega, by omega⟩
theorem Put_from {r : Rec} {vp vq vt vd : Value} {ps : List Value} {w : World} {k : Value → World → Prop} (hT : Tab w) (hv : RecV w vp vq vt vd ps r)
    (hk : ∀ w', Later w w' → k (.tuple #[.string (bs (if r.ok then putB r else [])), .bool (decide r.ok)]) w') : callW Tryd.prog (.func (.func 18) #[] #[]) [.agg (rcells r vp vq vt vd)] w k := by
  apply record_Put_call
  apply record_Put_run
  simp only [record_Put, Value.cells]
  refine al_lit fun t1 W hL h1 h1s => ?_
  refine ldN_heap h1 rfl ?_
  refine Right_from (hT.later hL) (hv.later hL) fun w2 hL2 => ?_
  have hLw2 := hL.tr hL2
  simp only [iw_add, iw_sub, iw_mul, iw_lss, iw_leq, iw_gtr, iw_geq, iw_eql, iw_neq, iw_quo, iw_rem, un_not, len_s, len_l, nck_p, fld_p, cv_i, unc_c, ex_0, ex_1, ex_2, st_eq, st_ne, brV_true, brV_false, brV_b, brV_not, one_one, nil_p, nil_pn, nil_n, nil_nn, decide_eq_true_eq, true_and, nb_ite, bs_size, Nat.zero_add, Bool.not_true, Bool.not_false, Bool.false_eq_true, eq_self, if_true, if_false, jn]
  by_cases hr : r.ok
  rotate_left
  · rw [if_neg (by simpa using hr)]
    have := hk w2 hLw2
    rwa [if_neg hr, decide_eq_false hr] at this
  rw [if_pos (by simpa using hr)]
  have hk : ∀ w', Later w w' → k (.tuple #[.string (bs (putB r)), .bool true]) w' := fun w' hw' => by
    have := hk w' hw'
    rwa [if_pos hr, decide_eq_true hr] at this
  obtain ⟨okA, okP, okT, okD⟩ := (ok_iff r).1 hr
  have hql := okA.2.2.2.2.2.2.2.1
  simp only [fillL, Instr.fill]
  refine al_lit fun g w3 hL3 hg3 hgs3 => ?_
  refine al_lit fun t5 w4 hL4 h54 h5s => ?_
  refine stC_heap h54 (by simp) rfl fun W1 h51 ho1 => ?_
  have hs1 := ho1.size
  have hsL := hL.size
  have hsL2 := hL2.size
  have hsL3 := hL3.size
  have hsL4 := hL4.size
  have hlt4 := lt_of_heap h54
  have hltg := lt_of_heap hg3
  have hlt1 := lt_of_heap h1
  have hL41 : Below t5 w4 W1 := ho1.below t5 (Nat.le_refl _)
  have hgW : W1.heap[g]? = some (.cells #[.slice none 0 0, .bool false] 77 (0, 0)) := by
    rw [ho1.other g (by omega)]; exact hL4.heap hg3
  have hNum : NumAt W1 g t5 := ⟨by simpa using h51, by omega⟩
  have hbelow : Below w.heap.size w W1 := (((hLw2.tr hL3).tr hL4)).trans (hL41.mono (by omega))
  have h1W : W1.heap[t1]? = some (.cells (rcells r vp vq vt vd) 29 (0, 0)) := by
    have := lt_of_heap h1
    rw [ho1.other t1 (by omega)]
    exact hL4.heap (hL3.heap (hL2.heap h1))
  have h1g : t1 ≠ g := by omega
  have hwr : Wr W1 W1 g (.slice none 0 0) [] := ⟨rfl, rfl, rfl, Nat.le_refl _, fun _ _ _ => rfl, by omega, hgW, by simpa [bc] using World.ownsRow_nil W1 W1.heap.size 5 1⟩
  have hbw : ∀ {w' : World} {v' : Value} {l' : List UInt8}, Wr W1 w' g v' l' → Below w.heap.size w w' := fun h => hbelow.trans (h.below (by omega))
  have hlst : ∀ (w' : World) (v' : Value) (l' : List UInt8), Wr W1 w' g v' l' → RecV w' vp vq vt vd ps r := fun w' v' l' h => hv.later (hbw h)
  have hce : (r.okey.length ≤ 16 ∧ r.oval.length ≤ 40) ∧ in2 r.blob ∧ in2 r.size := by
    rcases okA.2.2.2.2.2.1 with ⟨a, b, c, d⟩ | ⟨⟨_, a⟩, ⟨c, b, d⟩ | ⟨c, c2, b, d, d2⟩⟩
    · rw [a, b, c, d]; exact ⟨by simp, by decide, by decide⟩
    · rw [c, d]; exact ⟨⟨a, b⟩, by decide, by decide⟩
    · rw [b]; exact ⟨⟨a, by simp⟩, ⟨by omega, by omega⟩, ⟨by omega, by omega⟩⟩
  have hyes : in2 (yesN r.had) := by unfold yesN; split <;> decide
  refine hNum.ld hwr (ldC_heap h1W (v := .int .i64 r.kind) rfl ?_)
  refine num_from hwr (by have := okA.1; exact ⟨by omega, by omega⟩) (by simp) fun v1 x1 u a1 _ => ?_
  refine hNum.ld a1 (ldC_heap (a1.old h1W h1g) (v := .int .i64 r.tx) rfl ?_)
  refine num_from a1 okA.2.1 (by simp only [List.length_append, n2_len, n4_len, txt_len, List.length_nil]; omega) fun v2 x2 u a2 _ => ?_
  refine ldC_heap (a2.old h1W h1g) (v := .int .i64 r.prev) rfl ?_
  refine long_from a2 okA.2.2.1 (by simp only [List.length_append, n2_len, n4_len, txt_len, List.length_nil]; omega) fun v3 x3 u a3 _ => ?_
  refine ldC_heap (a3.old h1W h1g) (v := .int .i64 r.next) rfl ?_
  refine long_from a3 okA.2.2.2.1 (by simp only [List.length_append, n2_len, n4_len, txt_len, List.length_nil]; omega) fun v4 x4 u a4 _ => ?_
  refine ldC_heap (a4.old h1W h1g) (v := .string (bs r.key)) rfl ?_
  have hkl := okA.2.2.2.2.1
  refine text_from a4 (by omega) (by simp only [List.length_append, n2_len, n4_len, txt_len, List.length_nil]; omega) fun v5 x5 u a5 _ => ?_
  have a5d := a5.later (Later.dr x5)
  refine hNum.ld a5d (ldC_heap (a5d.old h1W h1g) (v := .bool r.had) rfl (yes_from ?_))
  refine held_cons (w := x5.drew) (Later.refl _) (holds1 (by rw [heap_cell (a5d.old hNum.1 hNum.2)]; rfl)) (held_nil ?_)
  refine num_from a5d hyes (by simp only [List.length_append, n2_len, n4_len, txt_len, List.length_nil]; omega) fun v6 x6 u a6 _ => ?_
  refine ldC_heap (a6.old h1W h1g) (v := .string (bs r.okey)) rfl ?_
  refine text_from a6 (by omega) (by simp only [List.length_append, n2_len, n4_len, txt_len, List.length_nil]; omega) fun v7 x7 u a7 _ => ?_
  refine ldC_heap (a7.old h1W h1g) (v := .string (bs r.oval)) rfl ?_
  refine text_from a7 (by omega) (by simp only [List.length_append, n2_len, n4_len, txt_len, List.length_nil]; omega) fun v8 x8 u a8 _ => ?_
  refine hNum.ld a8 (ldC_heap (a8.old h1W h1g) (v := .int .i64 r.blob) rfl ?_)
  refine num_from a8 hce.2.1 (by simp only [List.length_append, n2_len, n4_len, txt_len, List.length_nil]; omega) fun v9 x9 u a9 _ => ?_
  refine hNum.ld a9 (ldC_heap (a9.old h1W h1g) (v := .int .i64 r.size) rfl ?_)
  refine num_from a9 hce.2.2 (by simp only [List.length_append, n2_len, n4_len, txt_len, List.length_nil]; omega) fun v10 x10 u a10 _ => ?_
  rw [show ([] : List UInt8) ++ n2 r.kind ++ n2 r.tx ++ n4 r.prev ++ n4 r.next ++ txt r.key ++ n2 (yesN r.had) ++ txt r.okey ++ txt r.oval ++ n2 r.blob ++ n2 r.size = headB r from rfl] at a10
  have hhl := head_len hr
  have hpl := okA.2.2.2.2.2.2.1.1
  refine ldC_heap (a10.old h1W h1g) (v := vp) rfl ?_
  refine nums_from hNum a10 okA.2.2.2.2.2.2.1 (by omega) (fun w' v' l' h => (hlst w' v' l' h).p) fun v11 x11 u a11 _ => ?_
  refine hNum.ld a11 (ldC_heap (a11.old h1W h1g) (v := vq) rfl ?_)
  refine (hlst x11 v11 _ a11).q.len ?_
  have hl11 : (headB r ++ numsB r.pages).length ≤ 1000 := by rw [List.length_append, nums_len]; omega
  refine num_from (x := (r.patches.length : Int)) a11 (pages_in2 (by omega)) (by omega) fun v12 x12 u a12 _ => ?_
  refine ldC_heap (a12.old h1W h1g) (v := vq) rfl ?_
  refine (hlst x12 v12 _ a12).q.len ?_
  refine Put_L19 hNum a12 hr (by rw [List.length_append, n2_len]; omega) h1W h1g hlst fun w' v' l' e hw' => ?_
  have : l' = putB r := by rw [e, putB]; simp only [List.append_assoc]
  subst this
  exact hk w' (hbw hw')
end Go.Proofs.YtlicdhdpngahgaaDoor
