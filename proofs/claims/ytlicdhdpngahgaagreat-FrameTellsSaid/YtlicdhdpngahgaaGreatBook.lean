/- The book's lists of texts: copies, marks, looks. -/
import Derived.Test.YtlicdhdpngahgaaGreatBatch
set_option linter.unusedVariables false
set_option linter.unusedSimpArgs false
namespace Go.Proofs.YtlicdhdpngahgaaGreat
open Go.Eng Go.RowKit
theorem SameTexts_spec {la lb : List (List UInt8)} {va vb : Value} {w : World} {k : Value → World → Prop} (ha : Lst w va la.length (tx la)) (hb : Lst w vb lb.length (tx lb)) (hn : la.length ≤ 140737488355328)
    (hk : ∀ w', Later w w' → k (.bool (decide (la = lb))) w') : Calls Tryz.prog 16 #[va, vb] w (rt k) := by
  apply honeycombbook_SameTexts_run
  simp only [honeycombbook_SameTexts]
  refine ha.len (hb.len ?_)
  simp only [iw_add, iw_sub, iw_mul, iw_lss, iw_leq, iw_gtr, iw_geq, iw_eql, iw_neq, iw_quo, iw_rem, un_not, len_s, len_l, nck_p, fld_p, cv_i, unc_c, ex_0, ex_1, ex_2, st_eq, st_ne, brV_true, brV_false, brV_b, brV_not, one_one, nil_p, nil_pn, nil_n, nil_nn, decide_eq_true_eq, true_and, nb_ite, bs_size, Nat.zero_add, Bool.not_true, Bool.not_false, Bool.false_eq_true, eq_self, if_true, if_false, jn]
  by_cases hl : (la.length : Int) = (lb.length : Int)
  rotate_left
  · rw [if_neg hl]
    have : decide (la = lb) = false := decide_eq_false fun h => hl (by rw [h])
    have h2 := hk w (Later.refl w)
    rwa [this] at h2
  rw [if_pos hl]
  refine lp_ind _ (fun (m : Nat) r w1 => r = [va, vb, .int .i64 ((la.length - m : Nat) : Int)] ∧ m ≤ la.length ∧ la.take (la.length - m) = lb.take (la.length - m) ∧ Later w w1) id ?_ (i := la.length) ⟨by simp, Nat.le_refl _, by simp, Later.refl w⟩
  rintro m r w1 rec ⟨rfl, hm, he, hL⟩ ih
  simp only [honeycombbook_SameTexts_L4, iw_add, iw_sub, iw_mul, iw_lss, iw_leq, iw_gtr, iw_geq, iw_eql, iw_neq, iw_quo, iw_rem, un_not, len_s, len_l, nck_p, fld_p, cv_i, unc_c, ex_0, ex_1, ex_2, st_eq, st_ne, brV_true, brV_false, brV_b, brV_not, one_one, nil_p, nil_pn, nil_n, nil_nn, decide_eq_true_eq, true_and, nb_ite, bs_size, Nat.zero_add, Bool.not_true, Bool.not_false, Bool.false_eq_true, eq_self, if_true, if_false, jn]
  refine (hL.lst ha).len ?_
  simp only [iw_add, iw_sub, iw_mul, iw_lss, iw_leq, iw_gtr, iw_geq, iw_eql, iw_neq, iw_quo, iw_rem, un_not, len_s, len_l, nck_p, fld_p, cv_i, unc_c, ex_0, ex_1, ex_2, st_eq, st_ne, brV_true, brV_false, brV_b, brV_not, one_one, nil_p, nil_pn, nil_n, nil_nn, decide_eq_true_eq, true_and, nb_ite, bs_size, Nat.zero_add, Bool.not_true, Bool.not_false, Bool.false_eq_true, eq_self, if_true, if_false, jn]
  by_cases h0 : m = 0
  · subst h0
    rw [if_neg (by omega)]
    have h1 : la = lb := by
      have h2 := he
      rw [Nat.sub_zero, List.take_length, List.take_of_length_le (by omega)] at h2
      exact h2
    have h2 := hk w1 hL
    rwa [decide_eq_true h1] at h2
  obtain ⟨m, rfl⟩ : ∃ q, m = q + 1 := ⟨m - 1, by omega⟩
  rw [if_pos (by omega)]
  have hlt : la.length - (m + 1) < la.length := by omega
  have hmi : la.length - m = la.length - (m + 1) + 1 := by omega
  generalize hi : la.length - (m + 1) = i at *
  have hlt2 : i < lb.length := by omega
  have hLd : Later w w1.drew := hL.tr (Later.dr w1)
  refine (hLd.lst ha).at1 (tx_get hlt) hlt fun a1 h1 _ => ?_
  refine (hLd.lst hb).at1 (tx_get hlt2) hlt2 fun a2 h2 _ => ?_
  refine ⟨_, h1, _, h2, ?_⟩
  simp only [iw_add, iw_sub, iw_mul, iw_lss, iw_leq, iw_gtr, iw_geq, iw_eql, iw_neq, iw_quo, iw_rem, un_not, len_s, len_l, nck_p, fld_p, cv_i, unc_c, ex_0, ex_1, ex_2, st_eq, st_ne, brV_true, brV_false, brV_b, brV_not, one_one, nil_p, nil_pn, nil_n, nil_nn, decide_eq_true_eq, true_and, nb_ite, bs_size, Nat.zero_add, Bool.not_true, Bool.not_false, Bool.false_eq_true, eq_self, if_true, if_false, jn]
  by_cases hx : la[i] = lb[i]
  · rw [if_pos hx, wrap64 (by omega) (by omega)]
    refine ih m _ _ (by simp) ⟨by rw [hmi]; rfl, by omega, ?_, hLd⟩
    rw [hmi, List.take_add_one, List.take_add_one, he, List.getElem?_eq_getElem hlt, List.getElem?_eq_getElem hlt2, hx]
  · rw [if_neg hx]
    have : decide (la = lb) = false := decide_eq_false fun h => hx (by subst h; rfl)
    have h2 := hk _ hLd
    rwa [this] at h2
theorem SameTexts_from {la lb : List (List UInt8)} {va vb : Value} {w : World} {k : Value → World → Prop} (ha : Lst w va la.length (tx la)) (hb : Lst w vb lb.length (tx lb)) (hn : la.length ≤ 140737488355328)
    (hk : ∀ w', Later w w' → k (.bool (decide (la = lb))) w') : callW Tryz.prog (.func (.func 16) #[] #[]) [va, vb] w k := honeycombbook_SameTexts_call (SameTexts_spec ha hb hn hk)
theorem tx_one (l : List (List UInt8)) : ∀ u ∈ tx l, u.oneCell' = true := by
  intro u hu
  obtain ⟨_, _, rfl⟩ := List.mem_map.1 hu
  rfl
theorem copyTexts_from {l : List (List UInt8)} {v : Value} {w : World} {k : Value → World → Prop} (hv : Lst w v l.length (tx l)) (hn : l.length ≤ 1000000000)
    (hk : ∀ v' w', Later w w' → w'.ownsRow w.heap.size 9 1 v' l.length (tx l) → k v' w') : callW Tryz.prog (.func (.func 30) #[] #[]) [v] w k := by
  apply honeycombbook_copyTexts_call
  apply honeycombbook_copyTexts_run
  simp only [honeycombbook_copyTexts]
  refine app T_strs (World.ownsRow_nil w w.heap.size _ _) (hv.src U_strs (by simp) (by decide) (tx_one l)) (by simp only [maxLen]; omega) (by omega) (Nat.le_refl _) fun v' w' h1 h2 _ _ => ?_
  rw [Nat.zero_add, List.nil_append] at h1
  exact hk v' w' (grown_later h2) h1
/-- 'mark', behind a list that is lent. -/
def mark : List UInt8 := [109, 97, 114, 107]
/-- A list that is lent: behind it there is room, in which a mark stands. -/
def Lent (w : World) (v : Value) (l : List (List UInt8)) : Prop := ∃ b o cap, v = .slice (some ⟨b, o, none⟩) l.length cap ∧ l.length + 1 ≤ cap ∧ ∀ j u, (tx (l ++ [mark]))[j]? = some u → w.cell? ⟨b, o + j, none⟩ = some u
theorem Later.lent {w w' : World} (h : Later w w') {v : Value} {l : List (List UInt8)} (hl : Lent w v l) : Lent w' v l := by
  obtain ⟨b, o, cap, hv, hc, hx⟩ := hl
  exact ⟨b, o, cap, hv, hc, fun j u hu => h.cell (hx j u hu)⟩
theorem Lent.lst {w : World} {v : Value} {l : List (List UInt8)} (h : Lent w v l) : Lst w v l.length (tx l) := by
  obtain ⟨b, o, cap, hv, hc, hx⟩ := h
  refine ⟨_, cap, hv, .inr ⟨b, o, rfl, fun j u hu => hx j u ?_⟩⟩
  rw [tx_append, List.getElem?_append_left (List.getElem?_eq_some_iff.1 hu).1]
  exact hu
theorem LentTexts_from {l : List (List UInt8)} {v : Value} {w : World} {k : Value → World → Prop} (hv : Lst w v l.length (tx l)) (hn : l.length ≤ 1000000000)
    (hk : ∀ v' w', Later w w' → Lent w' v' l → (∀ q, v'.ownBlock = some q → w.heap.size ≤ q) → k v' w') : callW Tryz.prog (.func (.func 10) #[] #[]) [v] w k := by
  apply honeycombbook_LentTexts_call
  apply honeycombbook_LentTexts_run
  simp only [honeycombbook_LentTexts]
  refine copyTexts_from hv hn fun v1 w1 hL1 hr1 => ?_
  refine blS_one rfl ?_
  refine app T_strs (hr1.alloc _) (one_string (s := mark) _ _) (by simp only [maxLen]; omega) (by omega) (by have := hL1.size; simp; omega) fun v2 w2 hr2 hg2 _ hnn => ?_
  refine hv.len ?_
  rw [← tx_append] at hr2
  obtain ⟨g, cap, hv2, hB, hlt⟩ := hr2.form (by omega)
  have hc : l.length + 1 ≤ cap := by
    rcases hr2.2 with ⟨hv3, _⟩ | ⟨g', cap', cur, hv3, _, _, h4, _⟩
    · rw [hv3] at hv2; cases hv2
    · rw [hv3] at hv2
      injection hv2 with _ _ hcap
      omega
  subst hv2
  simp only [slSl, natO, Int.toNat_natCast, Nat.sub_zero, Nat.zero_mul]
  refine ⟨by omega, by omega, .inr (by omega), ?_⟩
  have hb : Below w.heap.size w w2 := (hL1.alloc hL1.size _).grown hg2 (by have := hL1.size; simp; omega) (fun k hk => (hr1.lt k hk).1)
  refine hk _ w2 hb ⟨g, 0, cap, ?_, hc, ?_⟩ ?_
  · split
    · rfl
    · simp [addA]
  · intro j u hu
    have := hr2.cells (g := g) rfl j u hu
    rwa [addA] at this
  · intro q hq
    have : g = q := by
      split at hq <;> simpa [Value.ownBlock, addA] using hq
    omega
theorem StaysTexts_from {l : List (List UInt8)} {v vb : Value} {w : World} {k : Value → World → Prop} (hv : Lent w v l) (hb : Lst w vb l.length (tx l)) (hn : l.length ≤ 1000000000)
    (hk : ∀ w', Later w w' → k (.bool true) w') : callW Tryz.prog (.func (.func 19) #[] #[]) [v, vb] w k := by
  apply honeycombbook_StaysTexts_call
  apply honeycombbook_StaysTexts_run
  simp only [honeycombbook_StaysTexts]
  refine SameTexts_from hv.lst hb (by omega) fun w1 hL1 => ?_
  obtain ⟨b, o, cap, rfl, hc, hx⟩ := hv
  simp only [iw_add, iw_sub, iw_mul, iw_lss, iw_leq, iw_gtr, iw_geq, iw_eql, iw_neq, iw_quo, iw_rem, un_not, len_s, len_l, nck_p, fld_p, cv_i, unc_c, ex_0, ex_1, ex_2, st_eq, st_ne, brV_true, brV_false, brV_b, brV_not, one_one, nil_p, nil_pn, nil_n, nil_nn, decide_eq_true_eq, true_and, nb_ite, bs_size, Nat.zero_add, Bool.not_true, Bool.not_false, Bool.false_eq_true, eq_self, if_true, if_false, jn, decide_true]
  rw [wrap64 (by omega) (by omega)]
  simp only [slSl, natO, Int.toNat_natCast, Nat.sub_zero, Nat.zero_mul, show ((l.length : Int) + 1).toNat = l.length + 1 by omega]
  refine ⟨by omega, by omega, .inr (by omega), ?_⟩
  have hcell : w1.cell? ⟨b, o + l.length, none⟩ = some (.string (bs mark)) := hL1.cell (hx l.length _ (by simp [tx]))
  have he : (if cap = 0 then some (⟨b, o, none⟩ : Addr) else Option.map (fun x : Addr => x.add 0) (some (⟨b, o, none⟩ : Addr))) = some ⟨b, o, none⟩ := by split <;> rfl
  rw [he]
  refine ⟨by omega, by omega, ?_⟩
  rw [addA]
  simp only [Int.toNat_natCast, Nat.mul_one]
  refine ⟨_, hcell, ?_⟩
  simp only [show (⟨#[109, 97, 114, 107]⟩ : ByteArray) = bs mark from rfl, st_eq, decide_true]
  exact hk w1 hL1

/-- The marks' names. -/
def nm (i k : Nat) : List UInt8 := [109, UInt8.ofNat (65 + i % 26), UInt8.ofNat (65 + i / 26 % 26), UInt8.ofNat (48 + k % 10), UInt8.ofNat (48 + k / 10 % 10), UInt8.ofNat (48 + k / 100 % 10)]
theorem tmod_nat (a b : Nat) : ((a : Int).tmod b) = ((a % b : Nat) : Int) := by rw [Int.tmod_eq_emod_of_nonneg (by omega)]; rfl
theorem tdiv_nat (a b : Nat) : ((a : Int).tdiv b) = ((a / b : Nat) : Int) := by rw [Int.tdiv_eq_ediv_of_nonneg (by omega)]; rfl
theorem name_from {i k : Nat} {w : World} {K : Value → World → Prop} (hi : i ≤ 1000000000) (hk : k ≤ 1000000000000) (hK : ∀ w', Later w w' → K (.string (bs (nm i k))) w') : callW Tryz.prog (.func (.func 101) #[] #[]) [.int .i64 i, .int .i64 k] w K := by
  apply honeycombbook_name_call
  apply honeycombbook_name_run
  simp only [honeycombbook_name, iw_add, iw_sub, iw_mul, iw_lss, iw_leq, iw_gtr, iw_geq, iw_eql, iw_neq, iw_quo, iw_rem, un_not, len_s, len_l, nck_p, fld_p, cv_i, unc_c, ex_0, ex_1, ex_2, st_eq, st_ne, brV_true, brV_false, brV_b, brV_not, one_one, nil_p, nil_pn, nil_n, nil_nn, decide_eq_true_eq, true_and, nb_ite, bs_size, Nat.zero_add, Bool.not_true, Bool.not_false, Bool.false_eq_true, eq_self, if_true, if_false, jn]
  have t26 : ∀ a : Nat, ((a : Int).tmod 26) = ((a % 26 : Nat) : Int) := fun a => tmod_nat a 26
  have t10 : ∀ a : Nat, ((a : Int).tmod 10) = ((a % 10 : Nat) : Int) := fun a => tmod_nat a 10
  have d26 : ∀ a : Nat, ((a : Int).tdiv 26) = ((a / 26 : Nat) : Int) := fun a => tdiv_nat a 26
  have d10 : ∀ a : Nat, ((a : Int).tdiv 10) = ((a / 10 : Nat) : Int) := fun a => tdiv_nat a 10
  have d100 : ∀ a : Nat, ((a : Int).tdiv 100) = ((a / 100 : Nat) : Int) := fun a => tdiv_nat a 100
  have w1 : ∀ a : Nat, a ≤ 1000000000000 → IntKind.i64.wrap (a : Int) = a := fun a h => wrap64 (by omega) (by omega)
  have w65 : ∀ a : Nat, a ≤ 1000000000000 → IntKind.i64.wrap (65 + (a : Int)) = ((65 + a : Nat) : Int) := fun a h => by rw [wrap64 (by omega) (by omega)]; omega
  have w48 : ∀ a : Nat, a ≤ 1000000000000 → IntKind.i64.wrap (48 + (a : Int)) = ((48 + a : Nat) : Int) := fun a h => by rw [wrap64 (by omega) (by omega)]; omega
  simp only [t26, t10, d26, d10, d100, w1 (i / 26) (by omega), w1 (k / 10) (by omega), w1 (k / 100) (by omega), w65 (i % 26) (by omega), w65 (i / 26 % 26) (by omega), w48 (k % 10) (by omega), w48 (k / 10 % 10) (by omega), w48 (k / 100 % 10) (by omega), wrap8, u8_ofNat]
  refine ⟨by decide, by decide, by decide, by decide, by decide, by decide, by decide, by decide, ?_⟩
  refine blS_lit (bc (nm i k)).toArray (by simp [Instr.fill, Value.cells]; apply Array.ext'; simp [List.range, List.range.loop, bc, nm]) rfl (by decide) fun v W hL hr _ => ?_
  exact to_string U_bytes U_byte U_string hr (hK W hL)
def mkT (i from_ n : Nat) : List (List UInt8) := (List.range n).map fun j => nm i (from_ + j)
theorem mkT_length (i f n : Nat) : (mkT i f n).length = n := by simp [mkT]
theorem mkT_succ (i f n : Nat) : mkT i f (n + 1) = mkT i f n ++ [nm i (f + n)] := by simp [mkT, List.range_succ]
theorem mkT_add (i f n m : Nat) : mkT i f n ++ mkT i (f + n) m = mkT i f (n + m) := by
  induction m with
  | zero => simp [mkT]
  | succ m ih => rw [← Nat.add_assoc, mkT_succ, mkT_succ, ← List.append_assoc, ih, Nat.add_assoc]
theorem markTexts_from {i f n : Nat} {w : World} {k : Value → World → Prop} (hi : i ≤ 1000000000) (hf : f + n ≤ 100000000000)
    (hk : ∀ v w', Later w w' → w'.ownsRow w.heap.size 9 1 v n (tx (mkT i f n)) → k v w') : callW Tryz.prog (.func (.func 88) #[] #[]) [.int .i64 i, .int .i64 f, .int .i64 n] w k := by
  apply honeycombbook_markTexts_call
  apply honeycombbook_markTexts_run
  simp only [honeycombbook_markTexts]
  refine lp_ind _ (fun (m : Nat) r w1 => ∃ o, r = [.int .i64 i, .int .i64 f, .int .i64 n, o, .int .i64 ((f + (n - m) : Nat) : Int)] ∧ m ≤ n ∧ w1.ownsRow w.heap.size 9 1 o (n - m) (tx (mkT i f (n - m))) ∧ Later w w1) id ?_ (i := n) ⟨.slice none 0 0, by simp, Nat.le_refl _, by simpa [mkT, tx] using World.ownsRow_nil w w.heap.size 9 1, Later.refl w⟩
  rintro m r w1 rec ⟨o, rfl, hm, hr, hL⟩ ih
  simp only [honeycombbook_markTexts_L3, iw_add, iw_sub, iw_mul, iw_lss, iw_leq, iw_gtr, iw_geq, iw_eql, iw_neq, iw_quo, iw_rem, un_not, len_s, len_l, nck_p, fld_p, cv_i, unc_c, ex_0, ex_1, ex_2, st_eq, st_ne, brV_true, brV_false, brV_b, brV_not, one_one, nil_p, nil_pn, nil_n, nil_nn, decide_eq_true_eq, true_and, nb_ite, bs_size, Nat.zero_add, Bool.not_true, Bool.not_false, Bool.false_eq_true, eq_self, if_true, if_false, jn]
  rw [wrap64 (by omega) (by omega)]
  by_cases h0 : m = 0
  · subst h0
    rw [if_neg (by omega)]
    exact hk o w1 hL hr
  obtain ⟨m, rfl⟩ : ∃ q, m = q + 1 := ⟨m - 1, by omega⟩
  rw [if_pos (by omega)]
  have hmi : n - m = n - (m + 1) + 1 := by omega
  refine name_from hi (by omega) fun w2 hL2 => ?_
  refine blS_one rfl ?_
  have hs := hL.size
  have hs2 := hL2.size
  refine app T_strs ((hL2.row hr).alloc _) (one_string _ _) (by simp only [maxLen]; omega) (by omega) (by simp; omega) fun v' w3 hr3 hg3 _ _ => ?_
  rw [wrap64 (by omega) (by omega)]
  refine ih m _ _ (by simp) ⟨v', by rw [hmi]; congr 4, by omega, ?_, ((hL.tr hL2).alloc (by omega) _).grown hg3 (by simp; omega) (fun k hk => (hr.lt k hk).1)⟩
  rw [hmi, mkT_succ, tx_append]
  exact hr3
end Go.Proofs.YtlicdhdpngahgaaGreat
