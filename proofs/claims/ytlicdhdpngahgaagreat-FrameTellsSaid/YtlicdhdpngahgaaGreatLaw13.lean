/- What FrameTells asks first. -/
import Derived.Test.YtlicdhdpngahgaaGreatRefB
import Derived.Test.YtlicdhdpngahgaaGreatApart
set_option linter.unusedVariables false
set_option linter.unusedSimpArgs false
namespace Go.Proofs.YtlicdhdpngahgaaGreat
open Go.Eng Go.RowKit
def al0 : List (List UInt8) := [[97, 98, 99], [100]]
def al1 : List UInt8 := [0, 0, 0, 3, 0, 0, 2, 8, 0, 3, 97, 98, 99, 0, 1, 100] ++ List.replicate 48 0
theorem al_batch : batch 3 0 al0 = some [al1] := by decide
theorem al_scan : (scnGo scn0 [al1]).l = al0 ∧ (scnGo scn0 [al1]).en = 1 ∧ (scnGo scn0 [al1]).la = 3 := by decide
theorem al_lens : lens al0 ≤ 140737488355 := by simp [lens, al0]
theorem al_lens1 : lens [[97, 98, 99]] ≤ 140737488355328 := by simp [lens]
theorem lit1 {s : ByteArray} {a : List UInt8} {e : TypeId} {w : World} {k : Value → World → Prop} (hs : s = bs a) (hk : ∀ v W, Later w W → Lst W v 1 (tx [a]) → k v W) : blS e 1 #[.string ⟨#[]⟩] 1 [(0, .string s)] w k := by
  subst hs
  refine blS_lit (tx [a]).toArray (by simp [Instr.fill, Value.cells]; apply Array.ext'; simp [List.range, List.range.loop, tx]) rfl (by decide) fun v W hL hr _ => hk v W hL (lst_row hr)
theorem lit2 {s t : ByteArray} {a b : List UInt8} {e : TypeId} {w : World} {k : Value → World → Prop} (hs : s = bs a) (ht : t = bs b) (hk : ∀ v W, Later w W → Lst W v 2 (tx [a, b]) → k v W) : blS e 1 #[.string ⟨#[]⟩] 2 [(0, .string s), (1, .string t)] w k := by
  subst hs
  subst ht
  refine blS_lit (tx [a, b]).toArray (by simp [Instr.fill, Value.cells]; apply Array.ext'; simp [List.range, List.range.loop, tx]) rfl (by decide) fun v W hL hr _ => hk v W hL (lst_row hr)
theorem alive13_from {w : World} {k : Value → World → Prop} (hk : ∀ w', Later w w' → k (.bool true) w') : callW Tryz.prog (.func (.func 5) #[] #[]) [] w k := by
  apply honeycomblaw13_alive_call
  apply honeycomblaw13_alive_run
  simp only [honeycomblaw13_alive]
  refine lit2 (a := [97, 98, 99]) (b := [100]) rfl rfl fun v1 w1 hL1 hv1 => ?_
  have hv1x : Lst w1 v1 al0.length (tx al0) := hv1
  refine Batch_from (e := 3) (i := 0) (l := al0) hv1x al_lens (fun h => absurd (al_batch.symm.trans h) (by simp)) (fun out hout v2 w2 hL2 hr2 => ?_)
  obtain rfl : [al1] = out := Option.some.inj (al_batch.symm.trans hout)
  simp only [iw_add, iw_sub, iw_mul, iw_lss, iw_leq, iw_gtr, iw_geq, iw_eql, iw_neq, iw_quo, iw_rem, un_not, len_s, len_l, nck_p, fld_p, cv_i, unc_c, ex_0, ex_1, ex_2, st_eq, st_ne, brV_true, brV_false, brV_b, brV_not, one_one, nil_p, nil_pn, nil_n, nil_nn, decide_eq_true_eq, true_and, nb_ite, bs_size, Nat.zero_add, Bool.not_true, Bool.not_false, Bool.false_eq_true, eq_self, if_true, if_false, jn]
  have hl2 := lst_row hr2
  refine frame_Scan_call (Scan_spec (l := [al1]) hl2 (by intro b hb; simp at hb; subst hb; simp [al1]) (by simp) fun v3 w3 hL3 hr3 => ?_)
  obtain ⟨e1, e2, e3⟩ := al_scan
  rw [e1] at hr3
  rw [e2, e3]
  simp only [iw_add, iw_sub, iw_mul, iw_lss, iw_leq, iw_gtr, iw_geq, iw_eql, iw_neq, iw_quo, iw_rem, un_not, len_s, len_l, nck_p, fld_p, cv_i, unc_c, ex_0, ex_1, ex_2, st_eq, st_ne, brV_true, brV_false, brV_b, brV_not, one_one, nil_p, nil_pn, nil_n, nil_nn, decide_eq_true_eq, true_and, nb_ite, bs_size, Nat.zero_add, Bool.not_true, Bool.not_false, Bool.false_eq_true, eq_self, if_true, if_false, jn]
  refine (hL3.lst hl2).len ?_
  simp only [iw_add, iw_sub, iw_mul, iw_lss, iw_leq, iw_gtr, iw_geq, iw_eql, iw_neq, iw_quo, iw_rem, un_not, len_s, len_l, nck_p, fld_p, cv_i, unc_c, ex_0, ex_1, ex_2, st_eq, st_ne, brV_true, brV_false, brV_b, brV_not, one_one, nil_p, nil_pn, nil_n, nil_nn, decide_eq_true_eq, true_and, nb_ite, bs_size, Nat.zero_add, Bool.not_true, Bool.not_false, Bool.false_eq_true, eq_self, if_true, if_false, jn]
  rw [if_pos (by decide)]
  refine (hL3.lst hl2).at1 (i := 0) rfl (by decide) fun a1 ha1 _ => ⟨_, ha1, ?_⟩
  simp only [iw_add, iw_sub, iw_mul, iw_lss, iw_leq, iw_gtr, iw_geq, iw_eql, iw_neq, iw_quo, iw_rem, un_not, len_s, len_l, nck_p, fld_p, cv_i, unc_c, ex_0, ex_1, ex_2, st_eq, st_ne, brV_true, brV_false, brV_b, brV_not, one_one, nil_p, nil_pn, nil_n, nil_nn, decide_eq_true_eq, true_and, nb_ite, bs_size, Nat.zero_add, Bool.not_true, Bool.not_false, Bool.false_eq_true, eq_self, if_true, if_false, jn]
  rw [if_pos (by decide)]
  refine (hL3.lst hl2).at1 (i := 0) rfl (by decide) fun a1 ha1 _ => ⟨_, ha1, ?_⟩
  simp only [slStr, natO, show Int.toNat 14 = 14 from rfl, bs_size, bs_extract]
  refine ⟨by decide, by decide, by decide, ?_⟩
  simp only [show (⟨#[0, 0, 0, 3, 0, 0, 2, 8, 0, 3, 97, 98, 99, 0]⟩ : ByteArray) = bs ((al1.take 14).drop 0) from rfl, iw_add, iw_sub, iw_mul, iw_lss, iw_leq, iw_gtr, iw_geq, iw_eql, iw_neq, iw_quo, iw_rem, un_not, len_s, len_l, nck_p, fld_p, cv_i, unc_c, ex_0, ex_1, ex_2, st_eq, st_ne, brV_true, brV_false, brV_b, brV_not, one_one, nil_p, nil_pn, nil_n, nil_nn, decide_eq_true_eq, true_and, nb_ite, bs_size, Nat.zero_add, Bool.not_true, Bool.not_false, Bool.false_eq_true, eq_self, if_true, if_false, jn, decide_true]
  refine lit2 (a := [97, 98, 99]) (b := [100]) rfl rfl fun v4 w4 hL4 hv4 => ?_
  refine SameTexts_from (la := al0) (lb := al0) (hL4.lst (lst_row hr3)) hv4 (by simp [al0]) fun w5 hL5 => ?_
  simp only [iw_add, iw_sub, iw_mul, iw_lss, iw_leq, iw_gtr, iw_geq, iw_eql, iw_neq, iw_quo, iw_rem, un_not, len_s, len_l, nck_p, fld_p, cv_i, unc_c, ex_0, ex_1, ex_2, st_eq, st_ne, brV_true, brV_false, brV_b, brV_not, one_one, nil_p, nil_pn, nil_n, nil_nn, decide_eq_true_eq, true_and, nb_ite, bs_size, Nat.zero_add, Bool.not_true, Bool.not_false, Bool.false_eq_true, eq_self, if_true, if_false, jn, decide_true]
  refine lit1 (a := [97, 98, 99]) rfl fun v6 w6 hL6 hv6 => ?_
  refine frame_Count_call (Count_spec (l := [[97, 98, 99]]) hv6 al_lens1 fun w7 hL7 => ?_)
  have e7 : secs (strm [[97, 98, 99]]).length = 1 := by decide
  rw [e7]
  simp only [iw_add, iw_sub, iw_mul, iw_lss, iw_leq, iw_gtr, iw_geq, iw_eql, iw_neq, iw_quo, iw_rem, un_not, len_s, len_l, nck_p, fld_p, cv_i, unc_c, ex_0, ex_1, ex_2, st_eq, st_ne, brV_true, brV_false, brV_b, brV_not, one_one, nil_p, nil_pn, nil_n, nil_nn, decide_eq_true_eq, true_and, nb_ite, bs_size, Nat.zero_add, Bool.not_true, Bool.not_false, Bool.false_eq_true, eq_self, if_true, if_false, jn]
  exact hk w7 ((((((hL1.tr hL2).tr hL3).tr hL4).tr hL5).tr hL6).tr hL7)
/-- Texts that are few enough. -/
def Few (l : List (List UInt8)) : Prop := l.length ≤ 20 ∧ (l.map List.length).sum ≤ 1500
instance (l : List (List UInt8)) : Decidable (Few l) := by unfold Few; exact inferInstance
theorem sum_take_le (l : List (List UInt8)) (i : Nat) : ((l.take i).map List.length).sum ≤ (l.map List.length).sum := by
  have : (l.map List.length).sum = ((l.take i).map List.length).sum + ((l.drop i).map List.length).sum := by
    rw [← List.sum_append, ← List.map_append, List.take_append_drop]
  omega
theorem sum_le (l : List (List UInt8)) (c : Nat) (h : ∀ r ∈ l, r.length ≤ c) : (l.map List.length).sum ≤ l.length * c := by
  induction l with
  | nil => simp
  | cons r l ih =>
    have h1 := h r List.mem_cons_self
    have h2 := ih fun x hx => h x (List.mem_cons_of_mem _ hx)
    simp only [List.map_cons, List.sum_cons, List.length_cons, Nat.add_mul, Nat.one_mul]
    omega
theorem Few_from {l : List (List UInt8)} {v : Value} {w : World} {k : Value → World → Prop} (hv : Lst w v l.length (tx l)) (hn : l.length ≤ 140737488355328) (hx : ∀ r ∈ l, r.length ≤ 140737488355328) (hk : k (.bool (decide (Few l))) w) :
    callW Tryz.prog (.func (.func 4) #[] #[]) [v] w k := by
  apply honeycomblaw13_Few_call
  apply honeycomblaw13_Few_run
  simp only [honeycomblaw13_Few]
  refine hv.len ?_
  refine lp_ind _ (fun (m : Nat) r w1 => ∃ s : Int, r = [v, .int .i64 s, .int .i64 l.length, .int .i64 ((l.length - m : Nat) : Int)] ∧ m ≤ l.length ∧ (l.length ≤ 20 → s = (((l.take (l.length - m)).map List.length).sum : Nat)) ∧ w1 = w) id ?_ (i := l.length) ⟨0, by simp, Nat.le_refl _, by simp, rfl⟩
  rintro m r w1 rec ⟨s, rfl, hm, hs, rfl⟩ ih
  simp only [honeycomblaw13_Few_L3, iw_add, iw_sub, iw_mul, iw_lss, iw_leq, iw_gtr, iw_geq, iw_eql, iw_neq, iw_quo, iw_rem, un_not, len_s, len_l, nck_p, fld_p, cv_i, unc_c, ex_0, ex_1, ex_2, st_eq, st_ne, brV_true, brV_false, brV_b, brV_not, one_one, nil_p, nil_pn, nil_n, nil_nn, decide_eq_true_eq, true_and, nb_ite, bs_size, Nat.zero_add, Bool.not_true, Bool.not_false, Bool.false_eq_true, eq_self, if_true, if_false, jn]
  by_cases h0 : m = 0
  · subst h0
    rw [if_neg (by omega)]
    refine hv.len ?_
    simp only [iw_add, iw_sub, iw_mul, iw_lss, iw_leq, iw_gtr, iw_geq, iw_eql, iw_neq, iw_quo, iw_rem, un_not, len_s, len_l, nck_p, fld_p, cv_i, unc_c, ex_0, ex_1, ex_2, st_eq, st_ne, brV_true, brV_false, brV_b, brV_not, one_one, nil_p, nil_pn, nil_n, nil_nn, decide_eq_true_eq, true_and, nb_ite, bs_size, Nat.zero_add, Bool.not_true, Bool.not_false, Bool.false_eq_true, eq_self, if_true, if_false, jn]
    by_cases h1 : (l.length : Int) ≤ 20
    · rw [if_pos h1]
      have e := hs (by omega)
      rw [Nat.sub_zero, List.take_length] at e
      have : decide (s ≤ 1500) = decide (Few l) := by
        congr 1
        apply propext
        unfold Few
        omega
      rw [this]
      exact hk
    · rw [if_neg h1]
      have : decide (Few l) = false := decide_eq_false fun h => h1 (by have := h.1; omega)
      rw [this] at hk
      exact hk
  obtain ⟨m, rfl⟩ : ∃ q, m = q + 1 := ⟨m - 1, by omega⟩
  rw [if_pos (by omega)]
  have hlt : l.length - (m + 1) < l.length := by omega
  have hmi : l.length - m = l.length - (m + 1) + 1 := by omega
  generalize hi : l.length - (m + 1) = i at *
  refine hv.at1 (tx_get hlt) hlt fun a ha _ => ⟨_, ha, ?_⟩
  simp only [iw_add, iw_sub, iw_mul, iw_lss, iw_leq, iw_gtr, iw_geq, iw_eql, iw_neq, iw_quo, iw_rem, un_not, len_s, len_l, nck_p, fld_p, cv_i, unc_c, ex_0, ex_1, ex_2, st_eq, st_ne, brV_true, brV_false, brV_b, brV_not, one_one, nil_p, nil_pn, nil_n, nil_nn, decide_eq_true_eq, true_and, nb_ite, bs_size, Nat.zero_add, Bool.not_true, Bool.not_false, Bool.false_eq_true, eq_self, if_true, if_false, jn]
  rw [wrap64 (show -9223372036854775808 ≤ (i : Int) + 1 by omega) (by omega)]
  refine ih m _ _ (by simp) ⟨_, by rw [hmi]; rfl, by omega, fun h20 => ?_, rfl⟩
  have h1 := hs h20
  have h2 := sum_take_le l i
  have h3 := sum_le l _ hx
  have h4 : l.length * 140737488355328 ≤ 20 * 140737488355328 := Nat.mul_le_mul_right _ h20
  have h5 := hx _ (List.getElem_mem hlt)
  rw [hmi, List.take_add_one, List.getElem?_eq_getElem hlt]
  rw [wrap64 (by omega) (by omega), h1]
  simp only [List.map_append, List.sum_append, Option.toList_some, List.map_cons, List.map_nil, List.sum_cons, List.sum_nil]
  omega
end Go.Proofs.YtlicdhdpngahgaaGreat
