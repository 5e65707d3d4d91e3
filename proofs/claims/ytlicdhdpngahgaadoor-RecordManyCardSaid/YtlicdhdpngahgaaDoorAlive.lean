/- Chapter 12: the first call whose answer the document fixes. -/
import Derived.Test.YtlicdhdpngahgaaDoorTouch
import Derived.Test.YtlicdhdpngahgaaDoorRGetC
set_option linter.unusedVariables false
set_option linter.unusedSimpArgs false
namespace Go.Proofs.YtlicdhdpngahgaaDoor
open Go.Eng Go.RowKit
def recA : Rec := ⟨1, 3, 7, 0, [107], true, [107], [118], 0, 0, [5], [⟨2, 9, [120, 121]⟩], [], []⟩
def byA : List UInt8 := putB recA
theorem recA_ok : recA.ok := by decide +kernel
theorem byA_len : byA.length = 45 := by decide +kernel
theorem byA_head : byA.take 4 = [0, 1, 0, 3] := by decide +kernel
theorem byA_parse : parse byA = recA := by decide +kernel
theorem byA_get : getOk byA := by decide +kernel
theorem recA_fit : recA.fit := by refine ⟨?_, ?_, ?_, ?_, ?_⟩ <;> simp [recA]
theorem rise_one {l : List Int} (h : IsRise [2] l) : l = [2] :=
  rising_eq h.rise (by simp) h.mem
theorem fill_pat {k : Value → Prop} (hk : k (.agg #[.int .i64 2, .int .i64 9, .string ⟨#[120, 121]⟩])) :
    fillL [(0, 1), (1, 1), (2, 1)] #[.int .i64 0, .int .i64 0, .string ⟨#[]⟩] [(0, .int .i64 2), (1, .int .i64 9), (2, .string ⟨#[120, 121]⟩)] k := by
  simpa [fillL, Instr.fill, Value.cells] using hk
theorem fill_cell {k : Value → Prop} (hk : k (.agg #[.string ⟨#[107]⟩, .string ⟨#[118]⟩, .int .i64 0, .int .i64 0])) :
    fillL [(0, 1), (1, 1), (2, 1), (3, 1)] #[.string ⟨#[]⟩, .string ⟨#[]⟩, .int .i64 0, .int .i64 0] [(0, .string ⟨#[107]⟩), (1, .string ⟨#[118]⟩)] k := by
  simpa [fillL, Instr.fill, Value.cells] using hk
theorem fill_recA {vp vq : Value} {w : World} {n m : Nat} {xs ys : List Value} (hp : Lst w vp n xs) (hq : Lst w vq m ys) {k : Value → Prop} (hk : k (.agg (rcells recA vp vq (.slice none 0 0) (.slice none 0 0)))) :
    fillL [(0, 1), (1, 1), (2, 1), (3, 1), (4, 1), (5, 1), (6, 4), (10, 1), (11, 1), (12, 1), (13, 1)] #[.int .i64 0, .int .i64 0, .int .i64 0, .int .i64 0, .string ⟨#[]⟩, .bool false, .string ⟨#[]⟩, .string ⟨#[]⟩, .int .i64 0, .int .i64 0, .slice none 0 0, .slice none 0 0, .slice none 0 0, .slice none 0 0]
      [(0, .int .i64 1), (1, .int .i64 3), (2, .int .i64 7), (4, .string ⟨#[107]⟩), (5, .bool true), (6, .agg #[.string ⟨#[107]⟩, .string ⟨#[118]⟩, .int .i64 0, .int .i64 0]), (7, vp), (8, vq)] k := by
  obtain ⟨p1, c1, rfl, _⟩ := hp
  obtain ⟨p2, c2, rfl, _⟩ := hq
  simpa [fillL, Instr.fill, Value.cells, rcells, recA, bs] using hk
theorem rcells_one {r : Rec} {vp vq vt vd : Value} (hp : isCell vp = true) (hq : isCell vq = true) (ht : isCell vt = true) (hd : isCell vd = true) : ∀ u ∈ (rcells r vp vq vt vd).toList, isCell u = true := by
  intro u hu
  simp only [rcells, List.mem_cons, List.not_mem_nil, or_false] at hu
  rcases hu with rfl | rfl | rfl | rfl | rfl | rfl | rfl | rfl | rfl | rfl | rfl | rfl | rfl | rfl <;> first | rfl | assumption
theorem RecV.ones {w : World} {vp vq vt vd : Value} {ps : List Value} {r : Rec} (h : RecV w vp vq vt vd ps r) : ∀ u ∈ (rcells r vp vq vt vd).toList, isCell u = true :=
  rcells_one (Lst.cell h.p).1 (Lst.cell h.q).1 (Lst.cell h.t).1 (Lst.cell h.d).1
/-- A record laid down in a block of its own. -/
theorem lay_rec {r : Rec} {vp vq vt vd : Value} {ps : List Value} {c0 : Array Value} {T : TypeId} {w : World} {k : Value → World → Prop} (hv : RecV w vp vq vt vd ps r) (h0 : c0.size = 14)
    (hk : ∀ g w', Later w w' → w'.heap[g]? = some (.cells (rcells r vp vq vt vd) T (0, 0)) → w.heap.size ≤ g → k (.pointer (some ⟨g, 0, none⟩)) w') :
    alW c0 T w fun t w => stN 14 t (.agg (rcells r vp vq vt vd)) w fun w => k t w := by
  refine al_lit fun g w1 hL1 hg hgs => ?_
  refine stN_heap hg h0 rfl hv.ones fun w2 h2 hs2 hb2 ho2 => ?_
  exact hk g w2 (Below.trans hL1 (hb2 _ (Nat.le_of_eq hgs.symm))) h2 (Nat.le_of_eq hgs.symm)
theorem alive12_from {w : World} {k : Value → World → Prop} (hT : Tab w) (hk : ∀ w', Later w w' → k (.bool true) w') : callW Tryd.prog (.func (.func 16) #[] #[]) [] w k := by
  apply honeycomblaw12_alive_call
  apply honeycomblaw12_alive_run
  unfold honeycomblaw12_alive
  refine fill_cell ?_
  refine blS_lit (ix [5]).toArray (by simp [Instr.fill, Value.cells, ix]; apply Array.ext'; simp [List.range, List.range.loop]) rfl (by decide) fun vp w1 hL1 hp1 _ => ?_
  refine fill_pat ?_
  refine blS_lit (qx [⟨2, 9, [120, 121]⟩]).toArray (by simp [Instr.fill, Value.cells, qx]; apply Array.ext'; simp [List.range, List.range.loop, bs]) rfl (by decide) fun vq w2 hL2 hq2 _ => ?_
  have hv2 : RecV w2 vp vq (.slice none 0 0) (.slice none 0 0) [] recA := ⟨hL2.lst (lst_row hp1), lst_row hq2, lst_nil _ _ _, lst_nil _ _ _, rfl, fun i x hx => by simp [recA] at hx⟩
  refine fill_recA hv2.p hv2.q ?_
  refine lay_rec hv2 rfl fun g1 w3 hL3 hg1 _ => ?_
  have hv3 := hv2.later hL3
  refine ldN_heap hg1 rfl ?_
  refine Put_from (hT.later ((hL1.tr hL2).tr hL3)) hv3 fun w4 hL4 => ?_
  rw [if_pos recA_ok, decide_eq_true recA_ok]
  have hT4 := hT.later (((hL1.tr hL2).tr hL3).tr hL4)
  have hv4 := hv3.later hL4
  have hg4 := hL4.heap hg1
  show exW _ 0 _
  simp only [iw_add, iw_sub, iw_mul, iw_lss, iw_leq, iw_gtr, iw_geq, iw_eql, iw_neq, iw_quo, iw_rem, un_not, len_s, len_l, nck_p, fld_p, cv_i, unc_c, ex_0, ex_1, ex_2, st_eq, st_ne, brV_true, brV_false, brV_b, brV_not, one_one, nil_p, nil_pn, nil_n, nil_nn, decide_eq_true_eq, true_and, nb_ite, bs_size, Nat.zero_add, Bool.not_true, Bool.not_false, Bool.false_eq_true, eq_self, if_true, if_false, jn]
  have eB : putB recA = byA := rfl
  rw [eB]
  have hbl := byA_len
  have hbh := byA_head
  have hbp := byA_parse
  have hbg := byA_get
  generalize byA = B at *
  refine Get_from hT4 (by omega) (fun _ up uq ut ud pb w5 hL5 ho5 => ?_) (fun h => absurd hbg h)
  have hb5 := ho5.v
  clear ho5
  rw [hbp] at hb5 ⊢
  have hT5 := hT4.later hL5
  have hv5 := hv4.later hL5
  have hg5 := hL5.heap hg4
  simp only [iw_add, iw_sub, iw_mul, iw_lss, iw_leq, iw_gtr, iw_geq, iw_eql, iw_neq, iw_quo, iw_rem, un_not, len_s, len_l, nck_p, fld_p, cv_i, unc_c, ex_0, ex_1, ex_2, st_eq, st_ne, brV_true, brV_false, brV_b, brV_not, one_one, nil_p, nil_pn, nil_n, nil_nn, decide_eq_true_eq, true_and, nb_ite, bs_size, Nat.zero_add, Bool.not_true, Bool.not_false, Bool.false_eq_true, eq_self, if_true, if_false, jn]
  refine lay_rec hb5 rfl fun g2 w6 hL6 hg6 _ => ?_
  have hT6 := hT5.later hL6
  have hv6 := hv5.later hL6
  have hb6 := hb5.later hL6
  have hg16 := hL6.heap hg5
  rw [hbl]
  rw [if_pos (by decide)]
  simp only [slStr, natO, show Int.toNat 4 = 4 from rfl, bs_size, bs_extract]
  refine ⟨by decide, by omega, by omega, ?_⟩
  rw [List.drop_zero, hbh]
  simp only [show (⟨#[0, 1, 0, 3]⟩ : ByteArray) = bs [0, 1, 0, 3] from rfl, iw_add, iw_sub, iw_mul, iw_lss, iw_leq, iw_gtr, iw_geq, iw_eql, iw_neq, iw_quo, iw_rem, un_not, len_s, len_l, nck_p, fld_p, cv_i, unc_c, ex_0, ex_1, ex_2, st_eq, st_ne, brV_true, brV_false, brV_b, brV_not, one_one, nil_p, nil_pn, nil_n, nil_nn, decide_eq_true_eq, true_and, nb_ite, bs_size, Nat.zero_add, Bool.not_true, Bool.not_false, Bool.false_eq_true, eq_self, if_true, if_false, jn, decide_true]
  refine ldN_heap hg6 rfl ?_
  refine ldN_heap hg16 rfl ?_
  refine SameRecord_from hb6 hv6 recA_fit fun w7 hL7 => ?_
  simp only [iw_add, iw_sub, iw_mul, iw_lss, iw_leq, iw_gtr, iw_geq, iw_eql, iw_neq, iw_quo, iw_rem, un_not, len_s, len_l, nck_p, fld_p, cv_i, unc_c, ex_0, ex_1, ex_2, st_eq, st_ne, brV_true, brV_false, brV_b, brV_not, one_one, nil_p, nil_pn, nil_n, nil_nn, decide_eq_true_eq, true_and, nb_ite, bs_size, Nat.zero_add, Bool.not_true, Bool.not_false, Bool.false_eq_true, eq_self, if_true, if_false, jn, decide_true]
  have hT7 := hT6.later hL7
  refine Name_from hT7 fun w8 hL8 => ?_
  simp only [show (⟨#[117, 110, 100, 111, 110, 101]⟩ : ByteArray) = bs [117, 110, 100, 111, 110, 101] from rfl, show nameOf 2 = [117, 110, 100, 111, 110, 101] from by decide, iw_add, iw_sub, iw_mul, iw_lss, iw_leq, iw_gtr, iw_geq, iw_eql, iw_neq, iw_quo, iw_rem, un_not, len_s, len_l, nck_p, fld_p, cv_i, unc_c, ex_0, ex_1, ex_2, st_eq, st_ne, brV_true, brV_false, brV_b, brV_not, one_one, nil_p, nil_pn, nil_n, nil_nn, decide_eq_true_eq, true_and, nb_ite, bs_size, Nat.zero_add, Bool.not_true, Bool.not_false, Bool.false_eq_true, eq_self, if_true, if_false, jn, decide_true]
  refine ldN_heap ((hL7.tr hL8).heap hg16) rfl ?_
  refine Touches_from (hv6.later (hL7.tr hL8)) (by simp [recA]) fun vt l w9 hL9 hri hr9 => ?_
  obtain rfl := rise_one hri
  refine blS_lit (ix [2]).toArray (by simp [Instr.fill, Value.cells, ix]; apply Array.ext'; simp [List.range, List.range.loop]) rfl (by decide) fun vz w10 hL10 hr10 _ => ?_
  refine SameInts_from (la := [2]) (lb := [2]) (lst_row (hL10.row hr9)) (lst_row hr10) (by simp) fun w11 hL11 => ?_
  rw [decide_eq_true rfl]
  exact hk _ ((((((((((hL1.tr hL2).tr hL3).tr hL4).tr hL5).tr hL6).tr hL7).tr hL8).tr hL9).tr hL10).tr hL11)
end Go.Proofs.YtlicdhdpngahgaaDoor
