/- The document's own sectors. -/
import Derived.Test.YtlicdhdpngahgaaGreatRef
set_option linter.unusedVariables false
set_option linter.unusedSimpArgs false
namespace Go.Proofs.YtlicdhdpngahgaaGreat
open Go.Eng Go.RowKit
theorem SPut_J7 {a : List UInt8} {w : World} {k : Value → World → Prop} (ha : a.length ≤ 64) (hk : ∀ w', Later w w' → k (.tuple #[.string (bs (a ++ List.replicate (64 - a.length) 0)), .bool true]) w') :
    jn (honeycombref1_SectorPut_J7 k) [.string (bs a)] w := by
  simp only [honeycombref1_SectorPut_J7, iw_add, iw_sub, iw_mul, iw_lss, iw_leq, iw_gtr, iw_geq, iw_eql, iw_neq, iw_quo, iw_rem, un_not, len_s, len_l, nck_p, fld_p, cv_i, unc_c, ex_0, ex_1, ex_2, st_eq, st_ne, brV_true, brV_false, brV_b, brV_not, one_one, nil_p, nil_pn, nil_n, nil_nn, decide_eq_true_eq, true_and, nb_ite, bs_size, Nat.zero_add, Bool.not_true, Bool.not_false, Bool.false_eq_true, eq_self, if_true, if_false, jn]
  rw [wrap64 (by omega) (by omega)]
  refine Zeros_from (by omega) (by omega) fun w' hw' => ?_
  refine str_add (by simp; omega) ?_
  have : ((64 : Int) - (a.length : Int)).toNat = 64 - a.length := by omega
  rw [this]
  exact hk w' hw'
attribute [local irreducible] callW heldC strW sm blS jn
theorem SPut_J6 {s : Sec} {g : Nat} {w W : World} {k : Value → World → Prop} {fr : UInt8} {kd : Int} (hok : s.ok) (hfr : (if s.fresh then 2 else 1) = fr) (hkd : kd = fr.toNat) (hL : Later w W) (hg : W.heap[g]? = some (.cells s.cells 30 (0, 0)))
    (hk : ∀ w', Later w w' → k (.tuple #[.string (bs s.put), .bool true]) w') : honeycombref1_SectorPut_J6 k [.pointer (some ⟨g, 0, none⟩), .int .u8 kd] W := by
  obtain ⟨o1, o2, o3, o4, o5, o6⟩ := hok
  have c0 : W.cell? ⟨g, 0, none⟩ = some (.int .i64 s.epoch) := by rw [heap_cell hg]; rfl
  have c1 : W.cell? ⟨g, 1, none⟩ = some (.int .i64 s.index) := by rw [heap_cell hg]; rfl
  have c3 : W.cell? ⟨g, 3, none⟩ = some (.string (bs s.pay)) := by rw [heap_cell hg]; rfl
  have hl1 : (UInt8.ofNat s.pay.length).toNat = s.pay.length := by simp; omega
  simp only [honeycombref1_SectorPut_J6, unc_c, fld_p, Nat.zero_add, ldC, World.cell?_drew, c0, c1, c3, Option.some.injEq, exists_eq_left', len_s, cv_i, bs_size]
  have e3 : IntKind.u8.wrap (s.pay.length : Int) = ((UInt8.ofNat s.pay.length).toNat : Int) := by rw [wrap8, hl1]; omega
  rw [hkd, e3]
  have hL' : Later w W.drew := hL.tr (Later.dr W)
  have hW : Later W W.drew := Later.dr W
  have hrep : s.put = be 4 s.epoch.toNat ++ be 2 s.index.toNat ++ [fr, UInt8.ofNat s.pay.length] ++ s.pay ++ List.replicate (64 - (be 4 s.epoch.toNat ++ be 2 s.index.toNat ++ [fr, UInt8.ofNat s.pay.length] ++ s.pay).length) 0 := by
    have : 64 - (be 4 s.epoch.toNat ++ be 2 s.index.toNat ++ [fr, UInt8.ofNat s.pay.length] ++ s.pay).length = 56 - s.pay.length := by simp; omega
    rw [this, ← hfr]; rfl
  generalize hl : UInt8.ofNat s.pay.length = lb at *
  generalize W.drew = V at *
  rw [hrep] at hk
  repeat' first
    | refine long_from (by omega) (by omega) (fun w' hw' => ?_)
    | refine num_from (by omega) (by omega) (fun w' hw' => ?_)
    | refine two_from (fun v' w' hw' hr' => ?_)
    | refine str_add (by simp <;> omega) ?_
    | refine to_string U_bytes U_byte U_string (l := [fr, lb]) (by refine Later.row ?_ (by assumption); (repeat (first | assumption | exact Later.refl _ | refine Later.tr ?_ (by assumption)))) ?_
    | refine held_nil ?_
    | refine held_cons (w := W) (by (repeat (first | assumption | exact Later.refl _ | refine Later.tr ?_ (by assumption)))) (holds1 c0) ?_
    | refine held_cons (w := W) (by (repeat (first | assumption | exact Later.refl _ | refine Later.tr ?_ (by assumption)))) (holds1 c1) ?_
    | refine held_cons (w := W) (by (repeat (first | assumption | exact Later.refl _ | refine Later.tr ?_ (by assumption)))) (holds1 c3) ?_
    | (refine SPut_J7 (by simp; omega) fun w' hw' => hk w' ?_; (repeat (first | assumption | exact Later.refl _ | refine Later.tr ?_ (by assumption))))
    | refine And.intro ?_ ?_
theorem SPut_spec {s : Sec} {w : World} {k : Value → World → Prop} (hk : ∀ w', Later w w' → k s.out w') : Calls Tryz.prog 7 #[.agg s.cells] w (rt k) := by
  apply honeycombref1_SectorPut_run
  simp only [honeycombref1_SectorPut, Value.cells]
  refine al_lit fun g W hL hg _ => ?_
  have hbad : ¬ s.ok → honeycombref1_SectorPut_J2 k [] W := fun hn => by
    have := hk _ hL
    rw [Sec.out, if_neg hn] at this
    exact this
  have hgood : s.ok → ∀ w', Later w w' → k (.tuple #[.string (bs s.put), .bool true]) w' := fun ho w' hw' => by
    have := hk _ hw'
    rwa [Sec.out, if_pos ho] at this
  simp only [iw_add, iw_sub, iw_mul, iw_lss, iw_leq, iw_gtr, iw_geq, iw_eql, iw_neq, iw_quo, iw_rem, un_not, len_s, len_l, nck_p, fld_p, cv_i, unc_c, ex_0, ex_1, ex_2, st_eq, st_ne, brV_true, brV_false, brV_b, brV_not, one_one, nil_p, nil_pn, nil_n, nil_nn, decide_eq_true_eq, true_and, nb_ite, bs_size, Nat.zero_add, Bool.not_true, Bool.not_false, Bool.false_eq_true, eq_self, if_true, if_false, jn]
  refine ldC_heap hg (v := .int .i64 s.epoch) rfl ?_
  simp only [iw_add, iw_sub, iw_mul, iw_lss, iw_leq, iw_gtr, iw_geq, iw_eql, iw_neq, iw_quo, iw_rem, un_not, len_s, len_l, nck_p, fld_p, cv_i, unc_c, ex_0, ex_1, ex_2, st_eq, st_ne, brV_true, brV_false, brV_b, brV_not, one_one, nil_p, nil_pn, nil_n, nil_nn, decide_eq_true_eq, true_and, nb_ite, bs_size, Nat.zero_add, Bool.not_true, Bool.not_false, Bool.false_eq_true, eq_self, if_true, if_false, jn]
  by_cases h1 : s.epoch < 1
  · rw [if_pos h1]; exact hbad fun ho => by have := ho.1; omega
  rw [if_neg h1]
  refine ldC_heap hg (v := .int .i64 s.epoch) rfl ?_
  refine four_call ?_
  simp only [iw_add, iw_sub, iw_mul, iw_lss, iw_leq, iw_gtr, iw_geq, iw_eql, iw_neq, iw_quo, iw_rem, un_not, len_s, len_l, nck_p, fld_p, cv_i, unc_c, ex_0, ex_1, ex_2, st_eq, st_ne, brV_true, brV_false, brV_b, brV_not, one_one, nil_p, nil_pn, nil_n, nil_nn, decide_eq_true_eq, true_and, nb_ite, bs_size, Nat.zero_add, Bool.not_true, Bool.not_false, Bool.false_eq_true, eq_self, if_true, if_false, jn]
  by_cases h2 : 0 ≤ s.epoch ∧ s.epoch ≤ 4294967295
  rotate_left
  · rw [if_neg h2]; exact hbad fun ho => h2 ⟨by have := ho.1; omega, ho.2.1⟩
  rw [if_pos h2]
  refine ldC_heap hg (v := .int .i64 s.index) rfl ?_
  refine two_call ?_
  simp only [iw_add, iw_sub, iw_mul, iw_lss, iw_leq, iw_gtr, iw_geq, iw_eql, iw_neq, iw_quo, iw_rem, un_not, len_s, len_l, nck_p, fld_p, cv_i, unc_c, ex_0, ex_1, ex_2, st_eq, st_ne, brV_true, brV_false, brV_b, brV_not, one_one, nil_p, nil_pn, nil_n, nil_nn, decide_eq_true_eq, true_and, nb_ite, bs_size, Nat.zero_add, Bool.not_true, Bool.not_false, Bool.false_eq_true, eq_self, if_true, if_false, jn]
  by_cases h3 : 0 ≤ s.index ∧ s.index ≤ 65535
  rotate_left
  · rw [if_neg h3]; exact hbad fun ho => h3 ⟨ho.2.2.1, ho.2.2.2.1⟩
  rw [if_pos h3]
  refine ldC_heap hg (v := .string (bs s.pay)) rfl ?_
  simp only [iw_add, iw_sub, iw_mul, iw_lss, iw_leq, iw_gtr, iw_geq, iw_eql, iw_neq, iw_quo, iw_rem, un_not, len_s, len_l, nck_p, fld_p, cv_i, unc_c, ex_0, ex_1, ex_2, st_eq, st_ne, brV_true, brV_false, brV_b, brV_not, one_one, nil_p, nil_pn, nil_n, nil_nn, decide_eq_true_eq, true_and, nb_ite, bs_size, Nat.zero_add, Bool.not_true, Bool.not_false, Bool.false_eq_true, eq_self, if_true, if_false, jn]
  by_cases h5 : (s.pay.length : Int) < 1
  · rw [if_pos h5]; exact hbad fun ho => ho.2.2.2.2.1 (List.eq_nil_of_length_eq_zero (by omega))
  rw [if_neg h5]
  refine ldC_heap hg (v := .string (bs s.pay)) rfl ?_
  simp only [iw_add, iw_sub, iw_mul, iw_lss, iw_leq, iw_gtr, iw_geq, iw_eql, iw_neq, iw_quo, iw_rem, un_not, len_s, len_l, nck_p, fld_p, cv_i, unc_c, ex_0, ex_1, ex_2, st_eq, st_ne, brV_true, brV_false, brV_b, brV_not, one_one, nil_p, nil_pn, nil_n, nil_nn, decide_eq_true_eq, true_and, nb_ite, bs_size, Nat.zero_add, Bool.not_true, Bool.not_false, Bool.false_eq_true, eq_self, if_true, if_false, jn]
  by_cases h6 : (s.pay.length : Int) > 56
  · rw [if_pos h6]; exact hbad fun ho => by have := ho.2.2.2.2.2; omega
  rw [if_neg h6]
  have ho : s.ok := ⟨by omega, by omega, by omega, by omega, fun h => by rw [h] at h5; exact h5 (by decide), by omega⟩
  refine ldC_heap hg (v := .bool s.fresh) rfl ?_
  simp only [iw_add, iw_sub, iw_mul, iw_lss, iw_leq, iw_gtr, iw_geq, iw_eql, iw_neq, iw_quo, iw_rem, un_not, len_s, len_l, nck_p, fld_p, cv_i, unc_c, ex_0, ex_1, ex_2, st_eq, st_ne, brV_true, brV_false, brV_b, brV_not, one_one, nil_p, nil_pn, nil_n, nil_nn, decide_eq_true_eq, true_and, nb_ite, bs_size, Nat.zero_add, Bool.not_true, Bool.not_false, Bool.false_eq_true, eq_self, if_true, if_false, jn]
  by_cases h7 : s.fresh = true
  · rw [if_pos h7]; exact SPut_J6 ho (by rw [if_pos h7]) (by decide) hL hg (hgood ho)
  · rw [if_neg h7]; exact SPut_J6 ho (by rw [if_neg h7]) (by decide) hL hg (hgood ho)
theorem SPut_from {s : Sec} {v : Value} {w : World} {k : Value → World → Prop} (hv : v = .agg s.cells) (hk : ∀ w', Later w w' → k s.out w') : callW Tryz.prog (.func (.func 7) #[] #[]) [v] w k := by
  subst hv
  exact honeycombref1_SectorPut_call (SPut_spec hk)
attribute [local semireducible] callW heldC strW sm blS jn
theorem SGet_J4 {g2 g4 : Nat} {b : List UInt8} {w W : World} {k : Value → World → Prop} (hb : Below w.heap.size w W) (h2 : W.heap[g2]? = some (.cells #[.int .i64 0, .int .i64 0, .bool false, .string (bs [])] 30 (0, 0)))
    (h4 : W.heap[g4]? = some (.cells (secOf b).cells 30 (0, 0))) (hle : w.heap.size ≤ g2) (h64 : b.length = 64) (h56 : (b[7]?.getD 0).toNat ≤ 56) (hk : ∀ w', Later w w' → k (secOut (secGet b)) w') :
    honeycombref1_SectorGet_J4 k [.string (bs b), .pointer (some ⟨g2, 0, none⟩), .pointer (some ⟨g4, 0, none⟩)] W := by
  simp only [honeycombref1_SectorGet_J4, unc]
  refine ldN_heap h4 rfl ?_
  refine SPut_from rfl fun W1 hW1 => ?_
  have hb1 : Below w.heap.size w W1 := hb.trans (hW1.mono hb.size)
  unfold Sec.out
  have hbad : ¬ ((secOf b).ok ∧ (secOf b).put = b) → jn (honeycombref1_SectorGet_J6 k) [.pointer (some ⟨g2, 0, none⟩)] W1 := fun hn => by
    simp only [jn, honeycombref1_SectorGet_J6, unc]
    refine fill_zero (ret_sec hb1 (hW1.heap h2) hle rfl rfl (by simp [isCell]) fun w' hw' => ?_)
    have := hk _ hw'
    rwa [secGet, if_neg (fun h => hn ⟨h.2.2.1, h.2.2.2⟩)] at this
  by_cases ho : (secOf b).ok
  · rw [if_pos ho]
    simp only [exW, unW, brV_b, strW, bs_beq, List.getElem?_toArray, List.getElem?_cons_zero, List.getElem?_cons_succ, Bool.not_true, Bool.false_eq_true, if_false, Bool.not_eq_eq_eq_not, decide_eq_true_eq, decide_eq_false_iff_not]
    by_cases he : (secOf b).put = b
    · simp only [he, not_true_eq_false, if_false]
      refine ldN_heap (hW1.heap h4) rfl ?_
      refine ret_sec hb1 (hW1.heap h2) hle rfl rfl (by simp [isCell, Sec.cells]) fun w' hw' => ?_
      have := hk _ hw'
      rwa [secGet, if_pos ⟨h64, h56, ho, he⟩] at this
    · simp only [he, not_false_eq_true, if_true]
      exact hbad fun h => he h.2
  · rw [if_neg ho]
    simp only [exW, unW, brV_b, strW, bs_beq, List.getElem?_toArray, List.getElem?_cons_zero, List.getElem?_cons_succ, Bool.not_false, if_true]
    exact hbad fun h => ho h.1
theorem SGet_spec {b : List UInt8} {w : World} {k : Value → World → Prop} (hlen : b.length ≤ 9223372036854775807) (hk : ∀ w', Later w w' → k (secOut (secGet b)) w') : Calls Tryz.prog 9 #[.string (bs b)] w (rt k) := by
  apply honeycombref1_SectorGet_run
  simp only [honeycombref1_SectorGet]
  refine al_lit fun g2 W hL h2 hgs => ?_
  have hle : w.heap.size ≤ g2 := by omega
  have hbad : ¬ (b.length = 64 ∧ (b[7]?.getD 0).toNat ≤ 56) → jn (honeycombref1_SectorGet_J2 k) [.pointer (some ⟨g2, 0, none⟩)] W := fun hn => by
    simp only [jn, honeycombref1_SectorGet_J2, unc]
    refine fill_zero (ret_sec hL h2 hle rfl rfl (by simp [isCell]) fun w' hw' => ?_)
    have := hk _ hw'
    rwa [secGet, if_neg (fun h => hn ⟨h.1, h.2.1⟩)] at this
  simp only [lenStr, bs_size, intW, true_and, brV_b, bne_iff_ne, ne_eq, decide_eq_true_eq]
  by_cases h64 : b.length = 64
  · rw [if_neg (by omega)]
    obtain ⟨x7, g7⟩ : ∃ x, b[7]? = some x := ⟨b[7]'(by omega), List.getElem?_eq_getElem _⟩
    obtain ⟨x6, g6⟩ : ∃ x, b[6]? = some x := ⟨b[6]'(by omega), List.getElem?_eq_getElem _⟩
    have e7 : (b[7]?.getD 0) = x7 := by rw [g7]; rfl
    have e6 : (b[6]?.getD 0) = x6 := by rw [g6]; rfl
    have hx7 := x7.toNat_lt
    have hx6 := x6.toNat_lt
    have i7 : (Int.toNat 7) = 7 := rfl
    have i6 : (Int.toNat 6) = 6 := rfl
    have i8 : (Int.toNat 8) = 8 := rfl
    have i4 : (Int.toNat 4) = 4 := rfl
    simp only [ixStr, bs_get, i7, g7, i6, g6, Option.some.injEq, exists_and_left, exists_eq_left', cvI, intW, true_and, brV_b, decide_eq_true_eq]
    refine ⟨by decide, ?_⟩
    rw [wrap64 (show -9223372036854775808 ≤ (x7.toNat : Int) by omega) (by omega)]
    by_cases h56 : (x7.toNat : Int) > 56
    · rw [if_pos h56]
      exact hbad fun h => by rw [e7] at h; omega
    · rw [if_neg h56]
      rw [wrap64 (show -9223372036854775808 ≤ (8 : Int) + (x7.toNat : Int) by omega) (by omega)]
      have it : ((8 : Int) + (x7.toNat : Int)).toNat = 8 + x7.toNat := by omega
      simp only [slStr, natO, bs_size, i4, i6, i8, it, h64, bs_extract]
      simp only [show (0 : Int) ≤ 4 from by decide, show (0 : Int) ≤ 6 from by decide, show (0 : Int) ≤ 8 from by decide, show (0 : Nat) ≤ 4 from by decide, show (4 : Nat) ≤ 64 from by decide, show (4 : Nat) ≤ 6 from by decide, show (6 : Nat) ≤ 64 from by decide, true_and]
      refine ⟨by omega, by omega, by omega, by omega, ?_⟩
      have hsec : (#[.int .i64 ((ofB ((b.take 4).drop 0) : Nat) : Int), .int .i64 ((ofB ((b.take 6).drop 4) : Nat) : Int), .bool ((x6.toNat : Int) == 2), .string (bs ((b.take (8 + x7.toNat)).drop 8))] : Array Value) = (secOf b).cells := by
        unfold secOf Sec.cells
        rw [e7, e6]
        congr 4
        by_cases h : x6.toNat = 2
        · rw [h]; rfl
        · have : ¬ ((x6.toNat : Int) = 2) := by omega
          simp [h, this]
      have h56' : (b[7]?.getD 0).toNat ≤ 56 := by rw [e7]; omega
      have fin : ∀ g4 V, Below w.heap.size w V → V.heap[g2]? = some (.cells #[.int .i64 0, .int .i64 0, .bool false, .string (bs [])] 30 (0, 0)) → V.heap[g4]? = some (.cells #[.int .i64 0, .int .i64 0, .bool false, .string ⟨#[]⟩] 30 (0, 0)) → g2 < g4 →
          stN 4 (.pointer (some ⟨g4, 0, none⟩)) (.agg (secOf b).cells) V fun w => jn (honeycombref1_SectorGet_J4 k) [.string (bs b), .pointer (some ⟨g2, 0, none⟩), .pointer (some ⟨g4, 0, none⟩)] w := fun g4 V hb hv2 hv4 hlt => by
        refine stN_heap hv4 rfl rfl (by simp [isCell, Sec.cells]) fun w' h1 _ h3 h5 => ?_
        exact SGet_J4 (hb.trans (h3 _ (by omega))) (by rw [h5 g2 (by omega)]; exact hv2) h1 hle h64 h56' hk
      have hLd : Later W W.drew := Later.dr W
      generalize W.drew = V at *
      refine ⟨?_, ?_⟩
      · refine Of_from (by simp; omega) ?_
        refine ⟨?_, ?_⟩
        · refine Of_from (by simp; omega) (fill_sec ?_)
          rw [hsec]
          refine al_lit fun g4 V' hV' h4 hs => ?_
          exact fin g4 V' (hL.trans ((hLd.tr hV').mono hL.size)) ((hLd.tr hV').heap h2) h4 (by have := lt_of_heap (hLd.heap h2); omega)
        · refine al_lit fun g4 V' hV' h4 hs => ?_
          refine Of_from (by simp; omega) (fill_sec ?_)
          rw [hsec]
          exact fin g4 V' (hL.trans ((hLd.tr hV').mono hL.size)) ((hLd.tr hV').heap h2) h4 (by have := lt_of_heap (hLd.heap h2); omega)
      · refine al_lit fun g4 V' hV' h4 hs => ?_
        refine Of_from (by simp; omega) ?_
        refine Of_from (by simp; omega) (fill_sec ?_)
        rw [hsec]
        exact fin g4 V' (hL.trans ((hLd.tr hV').mono hL.size)) ((hLd.tr hV').heap h2) h4 (by have := lt_of_heap (hLd.heap h2); omega)
  · rw [if_pos (by omega)]
    exact hbad fun h => h64 h.1
theorem SGet_from {b : List UInt8} {w : World} {k : Value → World → Prop} (hlen : b.length ≤ 9223372036854775807) (hk : ∀ w', Later w w' → k (secOut (secGet b)) w') : callW Tryz.prog (.func (.func 9) #[] #[]) [.string (bs b)] w k :=
  honeycombref1_SectorGet_call (SGet_spec hlen hk)
end Go.Proofs.YtlicdhdpngahgaaGreat
