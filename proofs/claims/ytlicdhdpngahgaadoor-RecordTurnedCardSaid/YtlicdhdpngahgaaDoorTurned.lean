/- Chapter 12: a byte that is turned makes a record another one, or none. -/
import Derived.Test.YtlicdhdpngahgaaDoorBytes
set_option linter.unusedVariables false
set_option linter.unusedSimpArgs false
namespace Go.Proofs.YtlicdhdpngahgaaDoor
open Go.Eng Go.RowKit
theorem xor_u8 (b y : UInt8) : bits .xor .u8 (b.toNat : Int) (y.toNat : Int) = ((b ^^^ y).toNat : Int) := by
  have e : ∀ z : UInt8, BitVec.ofInt 8 (z.toNat : Int) = z.toBitVec := fun z => by
    apply BitVec.eq_of_toNat_eq
    rw [BitVec.ofInt_natCast, BitVec.toNat_ofNat]
    exact Nat.mod_eq_of_lt z.toNat_lt
  have e2 : bits .xor .u8 (b.toNat : Int) (y.toNat : Int) = IntKind.u8.wrap (((BitVec.ofInt 8 (b.toNat : Int)) ^^^ (BitVec.ofInt 8 (y.toNat : Int))).toNat : Nat) := rfl
  rw [e2, e, e, wrap8]
  have h := (b ^^^ y).toNat_lt
  have e3 : (b.toBitVec ^^^ y.toBitVec).toNat = (b ^^^ y).toNat := rfl
  rw [e3]
  omega
theorem xor_ne {b y : UInt8} (h : y ≠ 0) : b ^^^ y ≠ b := fun e => h (by
  have := congrArg (b ^^^ ·) e
  simp only [← UInt8.xor_assoc, UInt8.xor_self, UInt8.zero_xor] at this
  exact this)
theorem Rec.ok.fit {r : Rec} (h : r.ok) : r.fit := by
  obtain ⟨hk, ht, hp, hn, hkey, hold, hpg, hpl, htl, hdl, hpat, htx, hd⟩ := h
  have := hpg.1
  exact ⟨by omega, by omega, by omega, by omega, fun t ht => by have := (htx t ht).2.2.1; omega⟩
theorem row_ge {w : World} {B e sz n : Nat} {v : Value} {xs : List Value} (hr : w.ownsRow B e sz v n xs) {q : Nat} (hq : v.ownBlock = some q) : B ≤ q := by
  rcases hr.2 with ⟨rfl, _⟩ | ⟨g, cap, cur, rfl, hb, _⟩
  · cases hq
  · have : g = q := Option.some.inj hq
    omega
theorem row_other {w w' : World} {g B e sz n : Nat} {v : Value} {xs : List Value} (hr : w.ownsRow B e sz v n xs) (ho : ∀ q, q ≠ g → w'.heap[q]? = w.heap[q]?) (hg : g < B) : w'.ownsRow B e sz v n xs :=
  ownsRow_block hr fun q hq => ho q (by have := row_ge hr hq; omega)
theorem RecO.other {w w' : World} {g B : Nat} {vp vq vt vd : Value} {ps : List Value} {r : Rec} (h : RecO w B vp vq vt vd ps r) (ho : ∀ q, q ≠ g → w'.heap[q]? = w.heap[q]?) (hg : g < B) : RecV w' vp vq vt vd ps r :=
  ⟨lst_row (row_other h.p ho hg), lst_row (row_other h.q ho hg), lst_row (row_other h.t ho hg), lst_row (row_other h.d ho hg), h.n, fun i x hx => by
    obtain ⟨u, h1, h2, _⟩ := h.s i x hx
    exact ⟨u, h1, lst_row (row_other h2 ho hg)⟩⟩
theorem Turned_J10 {W w : World} {g g2 : Nat} {r x : Rec} {vp vq vt vd up uq ut ud : Value} {ps us : List Value} {T T2 : TypeId} {c : Bool} {k : Value → World → Prop} (hg : w.heap[g]? = some (.cells (rcells r vp vq vt vd) T (0, 0))) (hg2 : w.heap[g2]? = some (.cells (rcells x up uq ut ud) T2 (0, 0)))
    (hv : RecV w vp vq vt vd ps r) (hx : c = true → RecV w up uq ut ud us x ∧ x.ok ∧ x ≠ r) (hL : Later W w) (hk : ∀ w', Later W w' → k (.bool true) w') : honeycomblaw12_RecordTurned_J10 k [.pointer (some ⟨g, 0, none⟩), .pointer (some ⟨g2, 0, none⟩), .bool c] w := by
  simp only [honeycomblaw12_RecordTurned_J10, iw_add, iw_sub, iw_mul, iw_lss, iw_leq, iw_gtr, iw_geq, iw_eql, iw_neq, iw_quo, iw_rem, un_not, len_s, len_l, nck_p, fld_p, cv_i, unc_c, ex_0, ex_1, ex_2, st_eq, st_ne, brV_true, brV_false, brV_b, brV_not, one_one, nil_p, nil_pn, nil_n, nil_nn, decide_eq_true_eq, true_and, nb_ite, bs_size, Nat.zero_add, Bool.not_true, Bool.not_false, Bool.false_eq_true, eq_self, if_true, if_false, jn]
  cases c
  · exact hk w hL
  obtain ⟨h1, h2, h3⟩ := hx rfl
  simp only [iw_add, iw_sub, iw_mul, iw_lss, iw_leq, iw_gtr, iw_geq, iw_eql, iw_neq, iw_quo, iw_rem, un_not, len_s, len_l, nck_p, fld_p, cv_i, unc_c, ex_0, ex_1, ex_2, st_eq, st_ne, brV_true, brV_false, brV_b, brV_not, one_one, nil_p, nil_pn, nil_n, nil_nn, decide_eq_true_eq, true_and, nb_ite, bs_size, Nat.zero_add, Bool.not_true, Bool.not_false, Bool.false_eq_true, eq_self, if_true, if_false, jn]
  refine ldN_heap hg2 rfl ?_
  refine ldN_heap hg rfl ?_
  refine SameRecord_from h1 hv h2.fit fun w1 hL1 => ?_
  rw [decide_eq_false h3]
  simp only [iw_add, iw_sub, iw_mul, iw_lss, iw_leq, iw_gtr, iw_geq, iw_eql, iw_neq, iw_quo, iw_rem, un_not, len_s, len_l, nck_p, fld_p, cv_i, unc_c, ex_0, ex_1, ex_2, st_eq, st_ne, brV_true, brV_false, brV_b, brV_not, one_one, nil_p, nil_pn, nil_n, nil_nn, decide_eq_true_eq, true_and, nb_ite, bs_size, Nat.zero_add, Bool.not_true, Bool.not_false, Bool.false_eq_true, eq_self, if_true, if_false, jn]
  exact hk w1 (hL.tr hL1)
/-- The answer laid down in a block that stood there before. -/
theorem Turned_st {W w : World} {g g2 B : Nat} {r x : Rec} {vp vq vt vd up uq ut ud : Value} {ps us : List Value} {T T2 : TypeId} {c : Bool} {c0 : Array Value} {k : Value → World → Prop} (hg : w.heap[g]? = some (.cells (rcells r vp vq vt vd) T (0, 0))) (hg2 : w.heap[g2]? = some (.cells c0 T2 (0, 0))) (h0 : c0.size = 14)
    (hv : RecV W vp vq vt vd ps r) (hone : ∀ u ∈ (rcells x up uq ut ud).toList, isCell u = true) (hx : c = true → RecO w B up uq ut ud us x ∧ x.ok ∧ x ≠ r) (hB : g2 < B) (hne : g ≠ g2) (hlo : W.heap.size ≤ g2) (hL : Later W w) (hk : ∀ w', Later W w' → k (.bool true) w') :
    stN 14 (.pointer (some ⟨g2, 0, none⟩)) (.agg (rcells x up uq ut ud)) w fun w => honeycomblaw12_RecordTurned_J10 k [.pointer (some ⟨g, 0, none⟩), .pointer (some ⟨g2, 0, none⟩), .bool c] w := by
  refine stN_heap hg2 h0 rfl hone fun w2 h2 hs2 hb2 ho2 => ?_
  have hL2 : Later W w2 := Below.trans hL (hb2 _ hlo)
  refine Turned_J10 (us := us) (by rw [ho2 g hne]; exact hg) h2 (hv.later hL2) (fun hc => ?_) hL2 hk
  obtain ⟨h3, h4, h5⟩ := hx hc
  exact ⟨h3.other ho2 hB, h4, h5⟩
theorem turned_ne {s : List UInt8} {m : Nat} {c : UInt8} (hm : m < s.length) (hc : c ≠ s[m]) : (s.take m ++ [c]) ++ s.drop (m + 1) ≠ s := fun e => by
  have h := congrArg (fun l : List UInt8 => l[m]?) e
  simp only [List.append_assoc] at h
  rw [List.getElem?_append_right (by rw [List.length_take]; omega), List.length_take, Nat.min_eq_left (by omega), Nat.sub_self, List.getElem?_eq_getElem hm] at h
  exact hc (by simpa using h)
theorem RecordTurned_spec {r : Rec} {vp vq vt vd : Value} {ps : List Value} {a z : Int} {w : World} {k : Value → World → Prop} (hT : Tab w) (hv : RecV w vp vq vt vd ps r) (hn : r.lens) (hz : 0 ≤ z ∧ z ≤ 255) (hk : ∀ w', Later w w' → k (.bool true) w') :
    Calls Tryd.prog 6 #[.agg (rcells r vp vq vt vd), .int .i64 a, .int .u8 z] w (rt k) := by
  apply honeycomblaw12_RecordTurned_run
  unfold honeycomblaw12_RecordTurned
  simp only [Value.cells]
  refine al_lit fun g w1 hL1 hg hgs => ?_
  have hv1 := hv.later hL1
  have two : ∀ w2, Later w w2 → honeycomblaw12_RecordTurned_J2 k [] w2 := fun w2 h2 => by
    simp only [honeycomblaw12_RecordTurned_J2]
    exact alive12_from (hT.later h2) fun w3 h3 => hk w3 (h2.tr h3)
  refine ldN_heap hg rfl ?_
  refine Light_from hv1 hn fun c w2 hL2 _ => ?_
  have hL02 := hL1.tr hL2
  cases c
  · simp only [iw_add, iw_sub, iw_mul, iw_lss, iw_leq, iw_gtr, iw_geq, iw_eql, iw_neq, iw_quo, iw_rem, un_not, len_s, len_l, nck_p, fld_p, cv_i, unc_c, ex_0, ex_1, ex_2, st_eq, st_ne, brV_true, brV_false, brV_b, brV_not, one_one, nil_p, nil_pn, nil_n, nil_nn, decide_eq_true_eq, true_and, nb_ite, bs_size, Nat.zero_add, Bool.not_true, Bool.not_false, Bool.false_eq_true, eq_self, if_true, if_false, jn]; exact two _ hL02
  simp only [iw_add, iw_sub, iw_mul, iw_lss, iw_leq, iw_gtr, iw_geq, iw_eql, iw_neq, iw_quo, iw_rem, un_not, len_s, len_l, nck_p, fld_p, cv_i, unc_c, ex_0, ex_1, ex_2, st_eq, st_ne, brV_true, brV_false, brV_b, brV_not, one_one, nil_p, nil_pn, nil_n, nil_nn, decide_eq_true_eq, true_and, nb_ite, bs_size, Nat.zero_add, Bool.not_true, Bool.not_false, Bool.false_eq_true, eq_self, if_true, if_false, jn]
  by_cases hz0 : z = 0
  · rw [if_pos hz0]; exact two _ hL02
  rw [if_neg hz0]
  refine alive12_from (hT.later hL02) fun w3 hL3 => ?_
  have hL03 := hL02.tr hL3
  have hL13 := hL2.tr hL3
  simp only [iw_add, iw_sub, iw_mul, iw_lss, iw_leq, iw_gtr, iw_geq, iw_eql, iw_neq, iw_quo, iw_rem, un_not, len_s, len_l, nck_p, fld_p, cv_i, unc_c, ex_0, ex_1, ex_2, st_eq, st_ne, brV_true, brV_false, brV_b, brV_not, one_one, nil_p, nil_pn, nil_n, nil_nn, decide_eq_true_eq, true_and, nb_ite, bs_size, Nat.zero_add, Bool.not_true, Bool.not_false, Bool.false_eq_true, eq_self, if_true, if_false, jn]
  refine ldN_heap (hL13.heap hg) rfl ?_
  refine Put_from (hT.later hL03) (hv.later hL03) fun w4 hL4 => ?_
  have hL04 := hL03.tr hL4
  have hg4 := (hL13.tr hL4).heap hg
  have hT4 := hT.later hL04
  simp only [iw_add, iw_sub, iw_mul, iw_lss, iw_leq, iw_gtr, iw_geq, iw_eql, iw_neq, iw_quo, iw_rem, un_not, len_s, len_l, nck_p, fld_p, cv_i, unc_c, ex_0, ex_1, ex_2, st_eq, st_ne, brV_true, brV_false, brV_b, brV_not, one_one, nil_p, nil_pn, nil_n, nil_nn, decide_eq_true_eq, true_and, nb_ite, bs_size, Nat.zero_add, Bool.not_true, Bool.not_false, Bool.false_eq_true, eq_self, if_true, if_false, jn]
  by_cases hok : r.ok
  · have hle := put_le hok
    have hoth := @round_other r
    simp only [hok, iw_add, iw_sub, iw_mul, iw_lss, iw_leq, iw_gtr, iw_geq, iw_eql, iw_neq, iw_quo, iw_rem, un_not, len_s, len_l, nck_p, fld_p, cv_i, unc_c, ex_0, ex_1, ex_2, st_eq, st_ne, brV_true, brV_false, brV_b, brV_not, one_one, nil_p, nil_pn, nil_n, nil_nn, decide_eq_true_eq, true_and, nb_ite, bs_size, Nat.zero_add, Bool.not_true, Bool.not_false, Bool.false_eq_true, eq_self, if_true, if_false, jn, decide_true]
    generalize putB r = s at *
    rw [if_neg (by omega)]
    obtain ⟨m, hm1, hm2⟩ := index_in a hle.2 (by omega)
    rw [hm2]
    refine ⟨by omega, by omega, ?_⟩
    simp only [slStr, natO, Int.toNat_natCast, bs_size, bs_extract, List.drop_zero]
    refine ⟨by omega, by omega, by omega, ?_⟩
    simp only [ixStr, bs_get, Int.toNat_natCast, List.getElem?_eq_getElem hm1, Option.some.injEq]
    refine ⟨_, by omega, rfl, ?_⟩
    obtain ⟨y, hy⟩ : ∃ y : UInt8, z = (y.toNat : Int) := ⟨UInt8.ofNat z.toNat, by rw [UInt8.toNat_ofNat']; omega⟩
    have hy0 : y ≠ 0 := fun e => by subst e; exact hz0 (by rw [hy]; rfl)
    have hcn := xor_ne (b := s[m]) hy0
    subst hy
    simp only [intW, true_and]
    have hwz : IntKind.i64.wrap ((m : Int) + 1) = ((m + 1 : Nat) : Int) := by rw [Eng.wrap64 (by omega) (by omega)]; omega
    rw [hwz]
    simp only [Int.toNat_natCast]
    have hxor : Eng.bits BinOp.xor IntKind.u8 (s[m].toNat : Int) (y.toNat : Int) = ((s[m] ^^^ y).toNat : Int) := xor_u8 _ _
    rw [hxor, List.take_length]
    generalize s[m] ^^^ y = c at *
    refine ⟨by omega, by omega, Nat.le_refl _, ?_⟩
    have hbl : ((s.take m ++ [c]) ++ s.drop (m + 1)).length ≤ 1000000000 := by simp only [List.length_append, List.length_take, List.length_drop, List.length_singleton]; omega
    have hbb := turned_ne hm1 hcn
    have asm : ∀ {K : Value → Prop}, K (.string (bs ((s.take m ++ [c]) ++ s.drop (m + 1)))) → strW .add (.string (bs (s.take m))) (.string (bs [c])) fun t => strW .add t (.string (bs (s.drop (m + 1)))) K := fun h =>
      str_add (by simp; omega) (str_add (by simp only [List.length_append, List.length_take, List.length_drop, List.length_singleton]; omega) h)
    generalize (s.take m ++ [c]) ++ s.drop (m + 1) = b at *
    have hnot : getOk b → parse b ≠ r := fun h e => hbb (hoth hok h e)
    have finA : ∀ (W5 : World), Later w4 W5 → callW Tryd.prog (.func (.func 17) #[] #[]) [.string (bs b)] W5 fun t61 w => exW t61 0 fun t62 => exW t61 1 fun t63 => alW #[.int .i64 0, .int .i64 0, .int .i64 0, .int .i64 0, .string ⟨#[]⟩, .bool false, .string ⟨#[]⟩, .string ⟨#[]⟩, .int .i64 0, .int .i64 0, .slice none 0 0, .slice none 0 0, .slice none 0 0, .slice none 0 0] 29 w fun t10 w => stN 14 t10 t62 w fun w => honeycomblaw12_RecordTurned_J10 k [.pointer (some ⟨g, 0, none⟩), t10, t63] w := fun W5 h45 => by
      refine Get_from (hT4.later h45) hbl (fun h up uq ut ud pb w5 hL5 ho5 => ?_) (fun h w5 hL5 => ?_)
      · have hne := hnot h
        have hpo := h.2.1
        have h5 := ho5.v
        clear ho5 h hnot hbb hoth asm
        generalize parse b = x at *
        simp only [iw_add, iw_sub, iw_mul, iw_lss, iw_leq, iw_gtr, iw_geq, iw_eql, iw_neq, iw_quo, iw_rem, un_not, len_s, len_l, nck_p, fld_p, cv_i, unc_c, ex_0, ex_1, ex_2, st_eq, st_ne, brV_true, brV_false, brV_b, brV_not, one_one, nil_p, nil_pn, nil_n, nil_nn, decide_eq_true_eq, true_and, nb_ite, bs_size, Nat.zero_add, Bool.not_true, Bool.not_false, Bool.false_eq_true, eq_self, if_true, if_false, jn]
        refine lay_rec h5 rfl fun g6 w6 hL6 hg6 _ => ?_
        have hL46 := (h45.tr hL5).tr hL6
        exact Turned_J10 (us := pb) (hL46.heap hg4) hg6 (hv.later (hL04.tr hL46)) (fun _ => ⟨h5.later hL6, hpo, hne⟩) (hL04.tr hL46) hk
      · simp only [iw_add, iw_sub, iw_mul, iw_lss, iw_leq, iw_gtr, iw_geq, iw_eql, iw_neq, iw_quo, iw_rem, un_not, len_s, len_l, nck_p, fld_p, cv_i, unc_c, ex_0, ex_1, ex_2, st_eq, st_ne, brV_true, brV_false, brV_b, brV_not, one_one, nil_p, nil_pn, nil_n, nil_nn, decide_eq_true_eq, true_and, nb_ite, bs_size, Nat.zero_add, Bool.not_true, Bool.not_false, Bool.false_eq_true, eq_self, if_true, if_false, jn]
        refine lay_rec (rec0_v _) rfl fun g6 w6 hL6 hg6 _ => ?_
        have hL46 := (h45.tr hL5).tr hL6
        exact Turned_J10 (us := []) (hL46.heap hg4) hg6 (hv.later (hL04.tr hL46)) (fun h => by cases h) (hL04.tr hL46) hk
    have finB : ∀ (W5 : World) (g2 : Nat) (c0 : Array Value), c0.size = 14 → W5.heap[g2]? = some (.cells c0 29 (0, 0)) → w4.heap.size ≤ g2 → Later w4 W5 →
        callW Tryd.prog (.func (.func 17) #[] #[]) [.string (bs b)] W5 fun t61 w => exW t61 0 fun t62 => exW t61 1 fun t63 => stN 14 (.pointer (some ⟨g2, 0, none⟩)) t62 w fun w => honeycomblaw12_RecordTurned_J10 k [.pointer (some ⟨g, 0, none⟩), .pointer (some ⟨g2, 0, none⟩), t63] w := fun W5 g2 c0 hc0 hg2 hlo h45 => by
      have hlt := lt_of_heap hg2
      have hgl := lt_of_heap hg4
      have hs04 := hL04.size
      refine Get_from (hT4.later h45) hbl (fun h up uq ut ud pb w5 hL5 ho5 => ?_) (fun h w5 hL5 => ?_)
      · have hne := hnot h
        have hpo := h.2.1
        clear h hnot hbb hoth asm
        generalize parse b = x at *
        simp only [iw_add, iw_sub, iw_mul, iw_lss, iw_leq, iw_gtr, iw_geq, iw_eql, iw_neq, iw_quo, iw_rem, un_not, len_s, len_l, nck_p, fld_p, cv_i, unc_c, ex_0, ex_1, ex_2, st_eq, st_ne, brV_true, brV_false, brV_b, brV_not, one_one, nil_p, nil_pn, nil_n, nil_nn, decide_eq_true_eq, true_and, nb_ite, bs_size, Nat.zero_add, Bool.not_true, Bool.not_false, Bool.false_eq_true, eq_self, if_true, if_false, jn]
        exact Turned_st (us := pb) (B := W5.heap.size) ((h45.tr hL5).heap hg4) (hL5.heap hg2) hc0 hv ho5.v.ones (fun _ => ⟨ho5, hpo, hne⟩) hlt (by omega) (by omega) (hL04.tr (h45.tr hL5)) hk
      · simp only [iw_add, iw_sub, iw_mul, iw_lss, iw_leq, iw_gtr, iw_geq, iw_eql, iw_neq, iw_quo, iw_rem, un_not, len_s, len_l, nck_p, fld_p, cv_i, unc_c, ex_0, ex_1, ex_2, st_eq, st_ne, brV_true, brV_false, brV_b, brV_not, one_one, nil_p, nil_pn, nil_n, nil_nn, decide_eq_true_eq, true_and, nb_ite, bs_size, Nat.zero_add, Bool.not_true, Bool.not_false, Bool.false_eq_true, eq_self, if_true, if_false, jn]
        exact Turned_st (us := []) (B := W5.heap.size) ((h45.tr hL5).heap hg4) (hL5.heap hg2) hc0 hv (rec0_v w5).ones (fun h => by cases h) hlt (by omega) (by omega) (hL04.tr (h45.tr hL5)) hk
    have lit : ∀ {W : World} {K : Value → World → Prop}, (∀ v W', Later W W' → W'.ownsRow W.heap.size 5 1 v 1 (bc [c]) → K v W') → blS 5 1 #[.int .u8 0] 1 [(0, .int .u8 (c.toNat : Int))] W K := fun hK =>
      blS_lit (bc [c]).toArray (by simp [Instr.fill, Value.cells]; apply Array.ext'; simp [List.range, List.range.loop, bc]) rfl (by decide) fun v W' hL hr _ => hK v W' hL hr
    have hdr : Later w4 w4.drew := Later.dr w4
    refine ⟨lit fun v W5 hL5 hr5 => ⟨to_string (l := [c]) U_bytes U_byte U_string hr5 (asm ⟨finA W5 (hdr.tr hL5), ?_⟩), ?_⟩, ?_⟩
    · refine al_lit fun g2 W6 hL6 hg2 hgs2 => ?_
      exact finB W6 g2 _ rfl hg2 (by have := (hdr.tr hL5).size; omega) ((hdr.tr hL5).tr hL6)
    · refine al_lit fun g2 W6 hL6 hg2 hgs2 => ?_
      refine to_string (l := [c]) U_bytes U_byte U_string (hL6.row hr5) (asm ?_)
      exact finB W6 g2 _ rfl hg2 (by have := (hdr.tr hL5).size; omega) ((hdr.tr hL5).tr hL6)
    · refine al_lit fun g2 W6 hL6 hg2 hgs2 => ?_
      refine lit fun v W5 hL5 hr5 => ?_
      refine to_string (l := [c]) U_bytes U_byte U_string hr5 (asm ?_)
      exact finB W5 g2 _ rfl (hL5.heap hg2) (by have := hdr.size; omega) ((hdr.tr hL6).tr hL5)
  · simp only [hok, iw_add, iw_sub, iw_mul, iw_lss, iw_leq, iw_gtr, iw_geq, iw_eql, iw_neq, iw_quo, iw_rem, un_not, len_s, len_l, nck_p, fld_p, cv_i, unc_c, ex_0, ex_1, ex_2, st_eq, st_ne, brV_true, brV_false, brV_b, brV_not, one_one, nil_p, nil_pn, nil_n, nil_nn, decide_eq_true_eq, true_and, nb_ite, bs_size, Nat.zero_add, Bool.not_true, Bool.not_false, Bool.false_eq_true, eq_self, if_true, if_false, jn, decide_false]
    exact hk w4 hL04
end Go.Proofs.YtlicdhdpngahgaaDoor
