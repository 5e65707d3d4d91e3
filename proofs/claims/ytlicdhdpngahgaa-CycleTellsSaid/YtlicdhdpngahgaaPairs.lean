/- Pairs of whole numbers: copies, looks, what is lent. -/
import Derived.Test.YtlicdhdpngahgaaInts
import Derived.Laws.StructEq
set_option linter.unusedVariables false
set_option linter.unusedSimpArgs false
namespace Go.Proofs.Ytlicdhdpngahgaa
open Go.Eng Go.RowKit
abbrev Pr := Int × Int
def px (l : List Pr) : List Value := l.flatMap fun e => [.int .i64 e.1, .int .i64 e.2]
@[simp] theorem px_length (l : List Pr) : (px l).length = l.length * 2 := by
  induction l with
  | nil => rfl
  | cons e l ih => simp only [px, List.flatMap_cons, List.length_append, List.length_cons, List.length_nil] at ih ⊢; omega
theorem px_cons (e : Pr) (l : List Pr) : px (e :: l) = .int .i64 e.1 :: .int .i64 e.2 :: px l := rfl
theorem px_append (a b : List Pr) : px (a ++ b) = px a ++ px b := by simp [px]
theorem px_get : ∀ {l : List Pr} {i : Nat} (h : i < l.length), (px l)[i * 2]? = some (.int .i64 l[i].1) ∧ (px l)[i * 2 + 1]? = some (.int .i64 l[i].2)
  | e :: l, 0, h => ⟨rfl, rfl⟩
  | e :: l, i + 1, h => by
    have := px_get (l := l) (i := i) (by simpa using h)
    rw [px_cons, show (i + 1) * 2 = i * 2 + 1 + 1 by omega, show i * 2 + 1 + 1 + 1 = (i * 2 + 1) + 1 + 1 by omega]
    simpa using this
theorem px_one (l : List Pr) : ∀ u ∈ px l, u.oneCell' = true := by
  intro u hu
  obtain ⟨e, _, h⟩ := List.mem_flatMap.1 hu
  simp at h
  rcases h with rfl | rfl <;> rfl
theorem T_pairs : SlT Try.prog 22 43 (.agg #[.int .i64 0, .int .i64 0]) 2 16 := ⟨by kernel_rfl, by kernel_rfl, rfl, by decide⟩
theorem U_pairs : Try.prog.underlying 22 = some (.slice 43) := by kernel_rfl
theorem U_pair : Try.prog.underlying 43 = some (.array 2 3) := by kernel_rfl
theorem S_int : (Try.prog.info? 3).map (·.size) = some 1 := by kernel_rfl
theorem S_inti : ∃ i, Try.prog.info? 3 = some i ∧ i.size = 1 := by
  have := S_int
  cases h : Try.prog.info? 3 with
  | none => rw [h] at this; cases this
  | some i => rw [h] at this; injection this with this; exact ⟨i, rfl, this⟩
theorem ixArr {b o : Nat} {i : Int} {k : Value → Prop} (h0 : 0 ≤ i) (h1 : i < 2) (hk : k (.pointer (some ⟨b, o + i.toNat, none⟩))) : yl Try.prog (Instr.indexAt 43 (.pointer (some ⟨b, o, none⟩)) (.int .i64 i)) k := by
  obtain ⟨inf, hi, hs⟩ := S_inti
  refine ⟨_, fun w => ?_, hk⟩
  simp [Instr.indexAt, asIntOf, run_underlying U_pair, Instr.sureAddr, sizeOf, run_ti hi, hs, h0, h1, addA]
theorem zero_pair (w : World) : (zeroValue 43).run Try.prog w = .ok (.agg #[.int .i64 0, .int .i64 0]) w := by
  obtain ⟨i, hi, hz, _, _⟩ := T_pairs.i
  simp [zeroValue, run_ti hi, hz]
theorem build2 {a b : Int} {k : Value → Prop} (hk : k (.agg #[.int .i64 a, .int .i64 b])) : yl Try.prog (Instr.build 43 [(0, .int .i64 a), (1, .int .i64 b)].toArray) k := by
  obtain ⟨inf, hi, hs⟩ := S_inti
  refine ⟨_, fun w => ?_, hk⟩
  simp [Instr.build, run_underlying U_pair, sizeOf, run_ti hi, hs, zero_pair, Instr.fill, Value.cells]
theorem build1 {a : Int} {k : Value → Prop} (hk : k (.agg #[.int .i64 a, .int .i64 0])) : yl Try.prog (Instr.build 43 [(0, .int .i64 a)].toArray) k := by
  obtain ⟨inf, hi, hs⟩ := S_inti
  refine ⟨_, fun w => ?_, hk⟩
  simp [Instr.build, run_underlying U_pair, sizeOf, run_ti hi, hs, zero_pair, Instr.fill, Value.cells]
theorem agg_int : isAggT Try.prog 3 = some false := by kernel_rfl
theorem eq_pair {x y : Operand} {a b : Pr} {k : Value → Prop} (hk : k (.bool (decide (a = b)))) : yl Try.prog (semBin .eql 43 x y (.agg #[.int .i64 a.1, .int .i64 a.2]) (.agg #[.int .i64 b.1, .int .i64 b.2])) k := by
  obtain ⟨inf, hi, hs⟩ := S_inti
  obtain ⟨a1, a2⟩ := a
  obtain ⟨b1, b2⟩ := b
  refine ⟨_, fun w => ?_, hk⟩
  show (do eqGuard .eql 43 x y (.agg #[.int .i64 a1, .int .i64 a2]) (.agg #[.int .i64 b1, .int .i64 b2]); binOp .eql 43 (.agg #[.int .i64 a1, .int .i64 a2]) (.agg #[.int .i64 b1, .int .i64 b2]) : Sem Value).run Try.prog w = _
  rw [Sem.run_bind, run_eqGuard_agg (P := Try.prog) w .eql 43 x y _ _ (by kernel_rfl), Result.andThen_ok, run_eql_struct]
  have e1 : ∀ (p q : Int) (w : World), (Op.equalIn 9999 3 (.int .i64 p) (.int .i64 q)).run Try.prog w = .ok (p == q) w := fun p q w => run_equalIn_int (P := Try.prog) w 9998 3 .i64 .i64 p q U_int
  have hp : ∀ (u : Value) (cs : Array Value) (j : Nat) (w : World), cs[j]? = some u → (part 3 cs j).run Try.prog w = .ok u w := fun u cs j w h => by
    simp [part, run_isAgg agg_int, h]
  have key : (Op.equalIn 10000 43 (.agg #[.int .i64 a1, .int .i64 a2]) (.agg #[.int .i64 b1, .int .i64 b2])).run Try.prog w = .ok (a1 == b1 && a2 == b2) w := by
    rw [show (10000 : Nat) = 9999 + 1 from rfl, Op.equalIn]
    simp only [Sem.run_bind, run_underlying U_pair, Result.andThen_ok, sizeOf, run_ti hi, hs, Sem.run_pure]
    simp only [Std.Legacy.Range.forIn_eq_forIn_range', Std.Legacy.Range.size, List.range', Nat.sub_zero, List.forIn_cons, List.forIn_nil]
    have pa0 := fun w => hp (.int .i64 a1) #[.int .i64 a1, .int .i64 a2] (0 * 1) w rfl
    have pb0 := fun w => hp (.int .i64 b1) #[.int .i64 b1, .int .i64 b2] (0 * 1) w rfl
    have pa1 := fun w => hp (.int .i64 a2) #[.int .i64 a1, .int .i64 a2] ((0 + 1) * 1) w rfl
    have pb1 := fun w => hp (.int .i64 b2) #[.int .i64 b1, .int .i64 b2] ((0 + 1) * 1) w rfl
    simp only [Sem.run_bind, pa0, pb0, e1, Result.andThen_ok]
    cases (a1 == b1) with
    | false => simp
    | true =>
      simp only [Bool.not_true, Bool.false_eq_true, if_false, Sem.run_pure, Sem.run_bind, pa1, pb1, e1, Result.andThen_ok]
      cases (a2 == b2) <;> simp
  rw [key]
  simp [Prod.ext_iff]
  rfl
theorem pair_at {w : World} {v : Value} {l : List Pr} (h : Lst w v l.length (px l)) {i : Nat} (hi : i < l.length) {k : Value → Prop}
    (hk : ∀ b o, w.cell? ⟨b, o, none⟩ = some (.int .i64 l[i].1) → w.cell? ⟨b, o + 1, none⟩ = some (.int .i64 l[i].2) → k (.pointer (some ⟨b, o, none⟩))) : ixS 2 v (.int .i64 i) k := by
  refine h.atN hi (fun h0 => by have := px_length l; rw [h0] at this; simp at this; omega) fun b o hc => hk b o ?_ (hc 1 _ (px_get hi).2)
  have := hc 0 _ (px_get hi).1
  simpa using this
theorem ldN2 {w : World} {b o : Nat} {u v : Value} {k : Value → Cells → Prop} (h1 : w.cell? ⟨b, o, none⟩ = some u) (h2 : w.cell? ⟨b, o + 1, none⟩ = some v) (hk : k (.agg #[u, v]) (cellsOf ⟨b, o, none⟩ 0 [u, v])) : ldN 2 (.pointer (some ⟨b, o, none⟩)) w k := by
  refine ⟨[u, v], rfl, ?_, hk⟩
  intro c hc
  simp only [cellsOf, List.mem_cons, List.not_mem_nil, or_false, addA, Nat.add_zero] at hc
  rcases hc with rfl | rfl
  · exact h1
  · exact h2
theorem SamePairs_spec {la lb : List Pr} {va vb : Value} {w : World} {k : Value → World → Prop} (ha : Lst w va la.length (px la)) (hb : Lst w vb lb.length (px lb)) (hn : la.length ≤ 140737488355328)
    (hk : ∀ w', Later w w' → k (.bool (decide (la = lb))) w') : Calls Try.prog 24 #[va, vb] w (rt k) := by
  apply honeycombbook_SamePairs_run
  simp only [honeycombbook_SamePairs]
  refine ha.len (hb.len ?_)
  simp only [iw_add, iw_sub, iw_mul, iw_lss, iw_leq, iw_gtr, iw_geq, iw_eql, iw_neq, iw_quo, iw_rem, un_not, len_s, len_l, nck_p, fld_p, cv_i, unc_c, ex_0, ex_1, ex_2, st_eq, st_ne, brV_true, brV_false, brV_b, brV_not, one_one, nil_p, nil_pn, nil_n, nil_nn, decide_eq_true_eq, true_and, nb_ite, bs_size, Nat.zero_add, Bool.not_true, Bool.not_false, Bool.false_eq_true, eq_self, if_true, if_false, jn]
  by_cases hl : (la.length : Int) = (lb.length : Int)
  rotate_left
  · rw [if_neg hl]
    have : decide (la = lb) = false := decide_eq_false fun h => hl (by rw [h])
    have h2 := hk w (Later.refl w)
    rwa [this] at h2
  rw [if_pos hl]
  refine lp_ind _ (fun (m : Nat) r w1 => r = [va, vb, .int .i64 ((la.length - m : Nat) : Int)] ∧ m ≤ la.length ∧ la.take (la.length - m) = lb.take (la.length - m) ∧ Later w w1) id ?_ (i := la.length) ⟨by simp, Nat.le_refl _, by simp, Later.refl w⟩
  rintro m r w1 rec ⟨rfl, hm, he, hL⟩ ih
  simp only [honeycombbook_SamePairs_L4, iw_add, iw_sub, iw_mul, iw_lss, iw_leq, iw_gtr, iw_geq, iw_eql, iw_neq, iw_quo, iw_rem, un_not, len_s, len_l, nck_p, fld_p, cv_i, unc_c, ex_0, ex_1, ex_2, st_eq, st_ne, brV_true, brV_false, brV_b, brV_not, one_one, nil_p, nil_pn, nil_n, nil_nn, decide_eq_true_eq, true_and, nb_ite, bs_size, Nat.zero_add, Bool.not_true, Bool.not_false, Bool.false_eq_true, eq_self, if_true, if_false, jn]
  refine (hL.lst ha).len ?_
  simp only [iw_add, iw_sub, iw_mul, iw_lss, iw_leq, iw_gtr, iw_geq, iw_eql, iw_neq, iw_quo, iw_rem, un_not, len_s, len_l, nck_p, fld_p, cv_i, unc_c, ex_0, ex_1, ex_2, st_eq, st_ne, brV_true, brV_false, brV_b, brV_not, one_one, nil_p, nil_pn, nil_n, nil_nn, decide_eq_true_eq, true_and, nb_ite, bs_size, Nat.zero_add, Bool.not_true, Bool.not_false, Bool.false_eq_true, eq_self, if_true, if_false, jn]
  by_cases h0 : m = 0
  · subst h0
    rw [if_neg (by omega)]
    have h1 : la = lb := by
      have h2 := he
      rw [Nat.sub_zero, List.take_length, List.take_of_length_le (by omega)] at h2
      exact h2
    have h2 := hk w1 hL
    rwa [decide_eq_true h1] at h2
  obtain ⟨m, rfl⟩ : ∃ q, m = q + 1 := ⟨m - 1, by omega⟩
  rw [if_pos (by omega)]
  have hlt : la.length - (m + 1) < la.length := by omega
  have hmi : la.length - m = la.length - (m + 1) + 1 := by omega
  generalize hi : la.length - (m + 1) = i at *
  have hlt2 : i < lb.length := by omega
  have hLd : Later w w1.drew := hL.tr (Later.dr w1)
  refine pair_at (hLd.lst ha) hlt fun b1 o1 h1 h1' => ?_
  refine pair_at (hLd.lst hb) hlt2 fun b2 o2 h2 h2' => ?_
  refine ldN2 h1 h1' (ldN2 h2 h2' (eq_pair ?_))
  simp only [iw_add, iw_sub, iw_mul, iw_lss, iw_leq, iw_gtr, iw_geq, iw_eql, iw_neq, iw_quo, iw_rem, un_not, len_s, len_l, nck_p, fld_p, cv_i, unc_c, ex_0, ex_1, ex_2, st_eq, st_ne, brV_true, brV_false, brV_b, brV_not, one_one, nil_p, nil_pn, nil_n, nil_nn, decide_eq_true_eq, true_and, nb_ite, bs_size, Nat.zero_add, Bool.not_true, Bool.not_false, Bool.false_eq_true, eq_self, if_true, if_false, jn]
  by_cases hx : la[i] = lb[i]
  · rw [if_pos hx, wrap64 (by omega) (by omega)]
    refine ih m _ _ (by simp) ⟨by rw [hmi]; rfl, by omega, ?_, hLd⟩
    rw [hmi, List.take_add_one, List.take_add_one, he, List.getElem?_eq_getElem hlt, List.getElem?_eq_getElem hlt2, hx]
  · rw [if_neg hx]
    have : decide (la = lb) = false := decide_eq_false fun h => hx (by subst h; rfl)
    have h2 := hk _ hLd
    rwa [this] at h2
theorem copyPairs_from {l : List Pr} {v : Value} {w : World} {k : Value → World → Prop} (hv : Lst w v l.length (px l)) (hn : l.length ≤ 1000000000)
    (hk : ∀ v' w', Later w w' → w'.ownsRow w.heap.size 43 2 v' l.length (px l) → k v' w') : callW Try.prog (.func (.func 14) #[] #[]) [v] w k := by
  apply honeycombbook_copyPairs_call
  apply honeycombbook_copyPairs_run
  simp only [honeycombbook_copyPairs]
  refine app T_pairs (World.ownsRow_nil w w.heap.size _ _) (hv.src U_pairs (by simp) (by decide) (px_one l)) (by simp only [maxLen]; omega) (by omega) (Nat.le_refl _) fun v' w' h1 h2 _ _ => ?_
  rw [Nat.zero_add, List.nil_append] at h1
  exact hk v' w' (grown_later h2) h1
theorem px_mark (l : List Pr) : (px (l ++ [(-77, 0)]))[l.length * 2]? = some (.int .i64 (-77)) := by
  have := (px_get (l := l ++ [(-77, 0)]) (i := l.length) (by simp)).1
  simpa using this
/-- Pairs that are lent: behind them there is room, in which a mark stands. -/
def LentP (w : World) (v : Value) (l : List Pr) : Prop := ∃ b o cap, v = .slice (some ⟨b, o, none⟩) l.length cap ∧ l.length + 1 ≤ cap ∧ ∀ j u, (px (l ++ [(-77, 0)]))[j]? = some u → w.cell? ⟨b, o + j, none⟩ = some u
theorem Later.lentP {w w' : World} (h : Later w w') {v : Value} {l : List Pr} (hl : LentP w v l) : LentP w' v l := by
  obtain ⟨b, o, cap, hv, hc, hx⟩ := hl
  exact ⟨b, o, cap, hv, hc, fun j u hu => h.cell (hx j u hu)⟩
theorem LentP.lst {w : World} {v : Value} {l : List Pr} (h : LentP w v l) : Lst w v l.length (px l) := by
  obtain ⟨b, o, cap, hv, hc, hx⟩ := h
  refine ⟨_, cap, hv, .inr ⟨b, o, rfl, fun j u hu => hx j u ?_⟩⟩
  rw [px_append, List.getElem?_append_left (List.getElem?_eq_some_iff.1 hu).1]
  exact hu
theorem lent_of_block {w w' : World} {v : Value} {l : List Pr} (h : LentP w v l) (hs : ∀ q o, v.ownBlock = some q → w.heap[q]? = some o → w'.heap[q]? = some o) : LentP w' v l := by
  obtain ⟨b, o, cap, rfl, hc, hx⟩ := h
  refine ⟨b, o, cap, rfl, hc, fun j u hu => ?_⟩
  have h1 := hx j u hu
  unfold World.cell? at h1 ⊢
  simp only [] at h1 ⊢
  cases hq : w.heap[b]? with
  | none => rw [hq] at h1; cases h1
  | some ob => rw [hq] at h1; rw [hs b ob rfl hq]; exact h1
theorem lentP_block {w : World} {v : Value} {l : List Pr} (h : LentP w v l) : ∀ q, v.ownBlock = some q → q < w.heap.size := by
  obtain ⟨b, o, cap, rfl, hc, hx⟩ := h
  intro q hq
  simp [Value.ownBlock] at hq
  subst hq
  have := hx (l.length * 2) (.int .i64 (-77)) (px_mark l)
  exact World.block_lt_of_cell? w _ this
theorem LentPairs_from {l : List Pr} {v : Value} {w : World} {k : Value → World → Prop} (hv : Lst w v l.length (px l)) (hn : l.length ≤ 1000000000)
    (hk : ∀ v' w', Later w w' → LentP w' v' l → (∀ q, v'.ownBlock = some q → w.heap.size ≤ q) → k v' w') : callW Try.prog (.func (.func 5) #[] #[]) [v] w k := by
  apply honeycombbook_LentPairs_call
  apply honeycombbook_LentPairs_run
  simp only [honeycombbook_LentPairs]
  refine copyPairs_from hv hn fun v1 w1 hL1 hr1 => build1 ?_
  refine blS_lit (px [(-77, 0)]).toArray (by simp [Instr.fill, Value.cells, px]; apply Array.ext'; simp [List.range, List.range.loop]) rfl (by decide) fun v2 w2 hL2 hr2 hb2 => ?_
  refine app T_pairs (hL2.row hr1) ((lst_row hr2).src U_pairs (by simp) (by decide) (px_one _)) (by simp only [maxLen]; omega) (by omega) (Nat.le_trans hL1.size hL2.size) fun v3 w3 hr3 hg3 _ hnn => ?_
  refine hv.len ?_
  rw [show (px [(-77, 0)]).toArray.toList = px [(-77, 0)] from rfl, ← px_append] at hr3
  obtain ⟨g, cap, hv2, hB, hlt⟩ := hr3.form (by omega)
  have hc : l.length + 1 ≤ cap := by
    rcases hr3.2 with ⟨hv3, _⟩ | ⟨g', cap', cur, hv3, _, _, h4, _⟩
    · rw [hv3] at hv2; cases hv2
    · rw [hv3] at hv2
      injection hv2 with _ _ hcap
      omega
  subst hv2
  simp only [slSl, natO, Int.toNat_natCast, Nat.sub_zero, Nat.zero_mul]
  refine ⟨by omega, by omega, .inr (by omega), ?_⟩
  have hb : Below w.heap.size w w3 := (hL1.tr hL2).grown hg3 (hL1.tr hL2).size (fun k hk => (hr1.lt k hk).1)
  refine hk _ w3 hb ⟨g, 0, cap, ?_, hc, ?_⟩ ?_
  · split
    · rfl
    · simp [addA]
  · intro j u hu
    have := hr3.cells (g := g) rfl j u hu
    rwa [addA] at this
  · intro q hq
    have : g = q := by
      split at hq <;> simpa [Value.ownBlock, addA] using hq
    omega
theorem StaysPairs_from {l : List Pr} {v vb : Value} {w : World} {k : Value → World → Prop} (hv : LentP w v l) (hb : Lst w vb l.length (px l)) (hn : l.length ≤ 1000000000)
    (hk : ∀ w', Later w w' → k (.bool true) w') : callW Try.prog (.func (.func 12) #[] #[]) [v, vb] w k := by
  apply honeycombbook_StaysPairs_call
  apply honeycombbook_StaysPairs_run
  simp only [honeycombbook_StaysPairs]
  refine honeycombbook_SamePairs_call (SamePairs_spec hv.lst hb (by omega) fun w1 hL1 => ?_)
  obtain ⟨b, o, cap, rfl, hc, hx⟩ := hv
  simp only [iw_add, iw_sub, iw_mul, iw_lss, iw_leq, iw_gtr, iw_geq, iw_eql, iw_neq, iw_quo, iw_rem, un_not, len_s, len_l, nck_p, fld_p, cv_i, unc_c, ex_0, ex_1, ex_2, st_eq, st_ne, brV_true, brV_false, brV_b, brV_not, one_one, nil_p, nil_pn, nil_n, nil_nn, decide_eq_true_eq, true_and, nb_ite, bs_size, Nat.zero_add, Bool.not_true, Bool.not_false, Bool.false_eq_true, eq_self, if_true, if_false, jn, decide_true]
  rw [wrap64 (by omega) (by omega)]
  simp only [slSl, natO, Int.toNat_natCast, Nat.sub_zero, Nat.zero_mul, show ((l.length : Int) + 1).toNat = l.length + 1 by omega]
  refine ⟨by omega, by omega, .inr (by omega), ?_⟩
  have hcell : w1.cell? ⟨b, o + l.length * 2, none⟩ = some (.int .i64 (-77)) := hL1.cell (hx (l.length * 2) _ (px_mark l))
  have he : (if cap = 0 then some (⟨b, o, none⟩ : Addr) else Option.map (fun x : Addr => x.add 0) (some (⟨b, o, none⟩ : Addr))) = some ⟨b, o, none⟩ := by split <;> rfl
  rw [he]
  refine ⟨by omega, by omega, ?_⟩
  rw [addA]
  simp only [Int.toNat_natCast]
  refine ixArr (by decide) (by decide) ⟨_, hcell, ?_⟩
  simp only [iw_add, iw_sub, iw_mul, iw_lss, iw_leq, iw_gtr, iw_geq, iw_eql, iw_neq, iw_quo, iw_rem, un_not, len_s, len_l, nck_p, fld_p, cv_i, unc_c, ex_0, ex_1, ex_2, st_eq, st_ne, brV_true, brV_false, brV_b, brV_not, one_one, nil_p, nil_pn, nil_n, nil_nn, decide_eq_true_eq, true_and, nb_ite, bs_size, Nat.zero_add, Bool.not_true, Bool.not_false, Bool.false_eq_true, eq_self, if_true, if_false, jn, decide_true]
  exact hk w1 hL1
end Go.Proofs.Ytlicdhdpngahgaa
