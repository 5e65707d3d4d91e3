/- Chapter 12: RecordMany: in whatever order the lists are made. -/
import Derived.Test.YtlicdhdpngahgaaDoorManyB
set_option linter.unusedVariables false
set_option linter.unusedSimpArgs false
namespace Go.Proofs.YtlicdhdpngahgaaDoor
open Go.Eng Go.RowKit
theorem ne_blk {v : Value} {a g : Nat} (h : v.ownBlock = some a) (hne : a ≠ g) : v.ownBlock ≠ some g := fun e => hne (Option.some.inj (h.symm.trans e))
attribute [local irreducible] callW sm alW fillL stN jn honeycomblaw12_RecordMany_J4 in
set_option maxHeartbeats 1000000 in
theorem RecordMany_spec {a0 a1 a2 a3 : Int} {w : World} {k : Value → World → Prop} (hT : Tab w) (hk : ∀ w', Later w w' → k (.bool true) w') :
    Calls Tryd.prog 8 #[.int .i64 a0, .int .i64 a1, .int .i64 a2, .int .i64 a3] w (rt k) := by
  apply honeycomblaw12_RecordMany_run
  unfold honeycomblaw12_RecordMany
  have two : honeycomblaw12_RecordMany_J2 k [] w := by
    simp only [honeycomblaw12_RecordMany_J2]
    exact alive12_from hT fun w3 h3 => hk w3 h3
  simp only [iw_add, iw_sub, iw_mul, iw_lss, iw_leq, iw_gtr, iw_geq, iw_eql, iw_neq, iw_quo, iw_rem, un_not, len_s, len_l, nck_p, fld_p, cv_i, unc_c, ex_0, ex_1, ex_2, st_eq, st_ne, brV_true, brV_false, brV_b, brV_not, one_one, nil_p, nil_pn, nil_n, nil_nn, decide_eq_true_eq, true_and, nb_ite, bs_size, Nat.zero_add, Bool.not_true, Bool.not_false, Bool.false_eq_true, eq_self, if_true, if_false, jn]
  by_cases c1 : a0 < 0
  · rw [if_pos c1]; exact two
  rw [if_neg c1]
  by_cases c2 : a0 > 80
  · rw [if_pos c2]; exact two
  rw [if_neg c2]
  by_cases c3 : a1 < 0
  · rw [if_pos c3]; exact two
  rw [if_neg c3]
  by_cases c4 : a1 > 60
  · rw [if_pos c4]; exact two
  rw [if_neg c4]
  by_cases c5 : a2 < 0
  · rw [if_pos c5]; exact two
  rw [if_neg c5]
  by_cases c6 : a2 > 20
  · rw [if_pos c6]; exact two
  rw [if_neg c6]
  by_cases c7 : a3 < 0
  · rw [if_pos c7]; exact two
  rw [if_neg c7]
  by_cases c8 : a3 > 80
  · rw [if_pos c8]; exact two
  rw [if_neg c8]
  obtain ⟨p, rfl⟩ : ∃ p : Nat, a0 = p := ⟨a0.toNat, by omega⟩
  obtain ⟨n, rfl⟩ : ∃ p : Nat, a1 = p := ⟨a1.toNat, by omega⟩
  obtain ⟨t, rfl⟩ : ∃ p : Nat, a2 = p := ⟨a2.toNat, by omega⟩
  obtain ⟨d, rfl⟩ : ∃ p : Nat, a3 = p := ⟨a3.toNat, by omega⟩
  have hp : p ≤ 80 := by omega
  have hn : n ≤ 60 := by omega
  have ht : t ≤ 20 := by omega
  have hd : d ≤ 80 := by omega
  clear c1 c2 c3 c4 c5 c6 c7 c8 two
  refine alive12_from hT fun w1 hL1 => ?_
  simp only [iw_add, iw_sub, iw_mul, iw_lss, iw_leq, iw_gtr, iw_geq, iw_eql, iw_neq, iw_quo, iw_rem, un_not, len_s, len_l, nck_p, fld_p, cv_i, unc_c, ex_0, ex_1, ex_2, st_eq, st_ne, brV_true, brV_false, brV_b, brV_not, one_one, nil_p, nil_pn, nil_n, nil_nn, decide_eq_true_eq, true_and, nb_ite, bs_size, Nat.zero_add, Bool.not_true, Bool.not_false, Bool.false_eq_true, eq_self, if_true, if_false, jn]
  have hLd : Later w1 w1.drew := Later.dr w1
  generalize w1.drew = w2 at *
  have hT2 : Tab w2 := hT.later (hL1.tr hLd)
  have hk2 : ∀ w', Later w2 w' → k (.bool true) w' := fun w' h => hk w' ((hL1.tr hLd).tr h)
  clear hk hT hL1 hLd
  repeat' first
    | refine mkP hp (fun vp wp hrp hLp hbp hsp => ?_)
    | refine mkT (by omega) (fun vt wt hrt hLt hbt hst => ?_)
    | refine mkD hd (fun vd wd hrd hLd hbd hsd => ?_)
    | refine al_lit2 (fun g wg hLg hg hgs hsg => ?_)
    | refine Many_leaf hT2 (by (repeat (first | assumption | exact Later.refl _ | refine Later.tr ?_ (by assumption)))) (by refine Later.heap ?_ hg; (repeat (first | assumption | exact Later.refl _ | refine Later.tr ?_ (by assumption)))) rfl (by omega) (ownsRow_mono (by omega) (Later.row (by (repeat (first | assumption | exact Later.refl _ | refine Later.tr ?_ (by assumption)))) hrp)) (ownsRow_mono (by omega) (Later.row (by (repeat (first | assumption | exact Later.refl _ | refine Later.tr ?_ (by assumption)))) hrt)) (ownsRow_mono (by omega) (Later.row (by (repeat (first | assumption | exact Later.refl _ | refine Later.tr ?_ (by assumption)))) hrd)) (ne_blk hbp (by omega)) (ne_blk hbt (by omega)) (ne_blk hbd (by omega)) hp hn ht hd hk2
    | refine Many_leaf2 hT2 (by (repeat (first | assumption | exact Later.refl _ | refine Later.tr ?_ (by assumption)))) rfl (ownsRow_mono (by omega) (Later.row (by (repeat (first | assumption | exact Later.refl _ | refine Later.tr ?_ (by assumption)))) hrp)) (ownsRow_mono (by omega) (Later.row (by (repeat (first | assumption | exact Later.refl _ | refine Later.tr ?_ (by assumption)))) hrt)) (ownsRow_mono (by omega) (Later.row (by (repeat (first | assumption | exact Later.refl _ | refine Later.tr ?_ (by assumption)))) hrd)) hp hn ht hd hk2
    | refine And.intro ?_ ?_
end Go.Proofs.YtlicdhdpngahgaaDoor
