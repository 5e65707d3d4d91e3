/- frame.scan's take, and Scan: the records of sectors. -/
import Derived.Test.YtlicdhdpngahgaaGreatBatch
set_option linter.unusedVariables false
set_option linter.unusedSimpArgs false
namespace Go.Proofs.YtlicdhdpngahgaaGreat
open Go.Eng Go.RowKit
structure Scn where
  b : List UInt8
  op : Bool
  at_ : Int
  ep : Int
  l : List (List UInt8)
  en : Int
  la : Int
def Scn.cells (s : Scn) (v : Value) : Array Value := #[.string (bs s.b), .bool s.op, .int .i64 s.at_, .int .i64 s.ep, v, .int .i64 s.en, .int .i64 s.la]
def Scn.one (s : Scn) : Scn := { s with l := s.l ++ [(s.b.take (2 + ofB (s.b.take 2))).drop 2], b := s.b.drop (2 + ofB (s.b.take 2)), en := s.at_, la := s.ep }
/-- The records that are whole are taken. -/
def eat : Nat → Scn → Scn
  | 0, s => s
  | n + 1, s => if s.op = true ∧ 2 ≤ s.b.length then
      if ofB (s.b.take 2) = 0 then { s with op := false } else if s.b.length < 2 + ofB (s.b.take 2) then s else eat n s.one
    else s
def takeOk (s : Scn) (x : Sec) : Prop := x.index = s.at_ ∧ ¬ x.epoch < s.ep ∧ (x.epoch = s.ep ∨ x.fresh = true)
instance (s : Scn) (x : Sec) : Decidable (takeOk s x) := by unfold takeOk; exact inferInstance
def Scn.laid (s : Scn) (x : Sec) : Scn :=
  { s with b := (if x.fresh then [] else s.b) ++ x.pay, op := if x.fresh then true else s.op, at_ := s.at_ + 1, ep := x.epoch }
/-- A sector is taken; none: it does not belong to the log. -/
def Scn.take (s : Scn) (b : List UInt8) : Option Scn := match secGet b with
  | none => none
  | some x => if takeOk s x then some (eat (s.laid x).b.length (s.laid x)) else none
def scnGo (s : Scn) : List (List UInt8) → Scn
  | [] => s
  | b :: l => match s.take b with
    | none => s
    | some s' => scnGo s' l
def scn0 : Scn := ⟨[], false, 0, 0, [], 0, 0⟩
def ScnAt (B g : Nat) (s : Scn) (w : World) : Prop :=
  ∃ v, w.heap[g]? = some (.cells (s.cells v) 68 (0, 0)) ∧ w.ownsRow B 9 1 v s.l.length (tx s.l) ∧ v.ownBlock ≠ some g ∧ B ≤ g
theorem row_cell {w : World} {B e sz n : Nat} {v : Value} {xs : List Value} (h : w.ownsRow B e sz v n xs) : isCell v = true := by
  rcases h.2 with ⟨rfl, _⟩ | ⟨g, cap, cur, rfl, _⟩ <;> rfl
theorem two_lt (l : List UInt8) : ofB (l.take 2) < 65536 := by
  have := ofB_lt (l.take 2)
  have h2 : 256 ^ (l.take 2).length ≤ 256 ^ 2 := Nat.pow_le_pow_right (by decide) (by simp; omega)
  omega
theorem eat_loop {B g : Nat} {w : World} {s0 : Scn} {k : Value → World → Prop} (hB : B ≤ w.heap.size) (h : ScnAt B g s0 w) (hs : s0.b.length + s0.l.length ≤ 140737488355)
    (hk : ∀ w', Below B w w' → ScnAt B g (eat s0.b.length s0) w' → k (.bool true) w') : lp (frame_scan_take_L9 k) [.pointer (some ⟨g, 0, none⟩)] w := by
  refine lp_ind _ (fun (n : Nat) r w1 => ∃ s, r = [.pointer (some ⟨g, 0, none⟩)] ∧ ScnAt B g s w1 ∧ s.b.length ≤ n ∧ s.b.length + s.l.length ≤ 140737488355 ∧ Below B w w1 ∧ eat n s = eat s0.b.length s0) id ?_ (i := s0.b.length) ⟨s0, rfl, h, Nat.le_refl _, hs, Below.refl _ _, rfl⟩
  rintro n r w1 rec ⟨s, rfl, ⟨v, hg, hrow, hne, hBg⟩, hbn, hsz, hb, he⟩ ih
  have hend : eat n s = s → jn (frame_scan_take_J17 k) [] w1 := fun h => hk w1 hb ⟨v, by rw [← he, h]; exact hg, by rw [← he, h]; exact hrow, hne, hBg⟩
  simp only [frame_scan_take_L9, iw_add, iw_sub, iw_mul, iw_lss, iw_leq, iw_gtr, iw_geq, iw_eql, iw_neq, iw_quo, iw_rem, un_not, len_s, len_l, nck_p, fld_p, cv_i, unc_c, ex_0, ex_1, ex_2, st_eq, st_ne, brV_true, brV_false, brV_b, brV_not, one_one, nil_p, nil_pn, nil_n, nil_nn, decide_eq_true_eq, true_and, nb_ite, bs_size, Nat.zero_add, Bool.not_true, Bool.not_false, Bool.false_eq_true, eq_self, if_true, if_false, jn]
  refine ldC_heap hg (v := .bool s.op) rfl ?_
  simp only [iw_add, iw_sub, iw_mul, iw_lss, iw_leq, iw_gtr, iw_geq, iw_eql, iw_neq, iw_quo, iw_rem, un_not, len_s, len_l, nck_p, fld_p, cv_i, unc_c, ex_0, ex_1, ex_2, st_eq, st_ne, brV_true, brV_false, brV_b, brV_not, one_one, nil_p, nil_pn, nil_n, nil_nn, decide_eq_true_eq, true_and, nb_ite, bs_size, Nat.zero_add, Bool.not_true, Bool.not_false, Bool.false_eq_true, eq_self, if_true, if_false, jn]
  by_cases h1 : s.op = true
  rotate_left
  · rw [if_neg h1]; exact hend (by cases n <;> simp [eat, h1])
  rw [if_pos h1]
  refine ldC_heap hg (v := .string (bs s.b)) rfl ?_
  simp only [iw_add, iw_sub, iw_mul, iw_lss, iw_leq, iw_gtr, iw_geq, iw_eql, iw_neq, iw_quo, iw_rem, un_not, len_s, len_l, nck_p, fld_p, cv_i, unc_c, ex_0, ex_1, ex_2, st_eq, st_ne, brV_true, brV_false, brV_b, brV_not, one_one, nil_p, nil_pn, nil_n, nil_nn, decide_eq_true_eq, true_and, nb_ite, bs_size, Nat.zero_add, Bool.not_true, Bool.not_false, Bool.false_eq_true, eq_self, if_true, if_false, jn]
  by_cases h2 : (s.b.length : Int) ≥ 2
  rotate_left
  · rw [if_neg h2]; exact hend (by cases n <;> simp [eat, show ¬ 2 ≤ s.b.length by omega])
  rw [if_pos h2]
  obtain ⟨n, rfl⟩ : ∃ q, n = q + 1 := ⟨n - 1, by omega⟩
  have h22 : s.op = true ∧ 2 ≤ s.b.length := ⟨h1, by omega⟩
  rw [eat, if_pos h22] at he
  refine ldC_heap hg (v := .string (bs s.b)) rfl ?_
  simp only [slStr, natO, show Int.toNat 2 = 2 from rfl, bs_size, bs_extract, List.drop_zero]
  refine ⟨by decide, by omega, by omega, ?_⟩
  refine value_from (by simp; omega) ?_
  have hm := two_lt s.b
  generalize hmm : ofB (s.b.take 2) = m at *
  simp only [iw_add, iw_sub, iw_mul, iw_lss, iw_leq, iw_gtr, iw_geq, iw_eql, iw_neq, iw_quo, iw_rem, un_not, len_s, len_l, nck_p, fld_p, cv_i, unc_c, ex_0, ex_1, ex_2, st_eq, st_ne, brV_true, brV_false, brV_b, brV_not, one_one, nil_p, nil_pn, nil_n, nil_nn, decide_eq_true_eq, true_and, nb_ite, bs_size, Nat.zero_add, Bool.not_true, Bool.not_false, Bool.false_eq_true, eq_self, if_true, if_false, jn]
  by_cases h3 : m = 0
  · rw [if_pos (by omega)]
    rw [if_pos h3] at he
    refine stC_heap hg (by simp [Scn.cells]) rfl fun w2 hg2 ho => ?_
    simp only [frame_scan_take_J13, iw_add, iw_sub, iw_mul, iw_lss, iw_leq, iw_gtr, iw_geq, iw_eql, iw_neq, iw_quo, iw_rem, un_not, len_s, len_l, nck_p, fld_p, cv_i, unc_c, ex_0, ex_1, ex_2, st_eq, st_ne, brV_true, brV_false, brV_b, brV_not, one_one, nil_p, nil_pn, nil_n, nil_nn, decide_eq_true_eq, true_and, nb_ite, bs_size, Nat.zero_add, Bool.not_true, Bool.not_false, Bool.false_eq_true, eq_self, if_true, if_false, jn]
    refine ldC_heap hg2 (v := .bool false) rfl ?_
    simp only [iw_add, iw_sub, iw_mul, iw_lss, iw_leq, iw_gtr, iw_geq, iw_eql, iw_neq, iw_quo, iw_rem, un_not, len_s, len_l, nck_p, fld_p, cv_i, unc_c, ex_0, ex_1, ex_2, st_eq, st_ne, brV_true, brV_false, brV_b, brV_not, one_one, nil_p, nil_pn, nil_n, nil_nn, decide_eq_true_eq, true_and, nb_ite, bs_size, Nat.zero_add, Bool.not_true, Bool.not_false, Bool.false_eq_true, eq_self, if_true, if_false, jn, Bool.not_false]
    refine hk w2 (hb.trans (ho.below B hBg)) ⟨v, ?_, ?_, hne, hBg⟩
    · rw [hg2, ← he]; rfl
    · rw [← he]; exact ho.row hrow hne
  rw [if_neg (by omega)]
  rw [if_neg h3] at he
  simp only [frame_scan_take_J13, iw_add, iw_sub, iw_mul, iw_lss, iw_leq, iw_gtr, iw_geq, iw_eql, iw_neq, iw_quo, iw_rem, un_not, len_s, len_l, nck_p, fld_p, cv_i, unc_c, ex_0, ex_1, ex_2, st_eq, st_ne, brV_true, brV_false, brV_b, brV_not, one_one, nil_p, nil_pn, nil_n, nil_nn, decide_eq_true_eq, true_and, nb_ite, bs_size, Nat.zero_add, Bool.not_true, Bool.not_false, Bool.false_eq_true, eq_self, if_true, if_false, jn]
  refine ldC_heap hg (v := .bool s.op) rfl ?_
  simp only [h1, iw_add, iw_sub, iw_mul, iw_lss, iw_leq, iw_gtr, iw_geq, iw_eql, iw_neq, iw_quo, iw_rem, un_not, len_s, len_l, nck_p, fld_p, cv_i, unc_c, ex_0, ex_1, ex_2, st_eq, st_ne, brV_true, brV_false, brV_b, brV_not, one_one, nil_p, nil_pn, nil_n, nil_nn, decide_eq_true_eq, true_and, nb_ite, bs_size, Nat.zero_add, Bool.not_true, Bool.not_false, Bool.false_eq_true, eq_self, if_true, if_false, jn, Bool.not_true, Bool.false_eq_true, if_false, not_true_eq_false]
  refine ldC_heap hg (v := .string (bs s.b)) rfl ?_
  simp only [iw_add, iw_sub, iw_mul, iw_lss, iw_leq, iw_gtr, iw_geq, iw_eql, iw_neq, iw_quo, iw_rem, un_not, len_s, len_l, nck_p, fld_p, cv_i, unc_c, ex_0, ex_1, ex_2, st_eq, st_ne, brV_true, brV_false, brV_b, brV_not, one_one, nil_p, nil_pn, nil_n, nil_nn, decide_eq_true_eq, true_and, nb_ite, bs_size, Nat.zero_add, Bool.not_true, Bool.not_false, Bool.false_eq_true, eq_self, if_true, if_false, jn]
  rw [wrap64 (by omega) (by omega)]
  have e2 : (2 : Int) + (m : Int) = ((2 + m : Nat) : Int) := by omega
  rw [e2]
  by_cases h4 : (s.b.length : Int) < ((2 + m : Nat) : Int)
  · rw [if_pos h4]
    rw [if_pos (by omega)] at he
    exact hk w1 hb ⟨v, by rw [← he]; exact hg, by rw [← he]; exact hrow, hne, hBg⟩
  rw [if_neg h4]
  rw [if_neg (by omega)] at he
  have hs1 := hb.size
  have hgl : g < w1.heap.size := lt_of_heap hg
  have hgd : w1.drew.heap[g]? = some (.cells (s.cells v) 68 (0, 0)) := hg
  have hrd : w1.drew.ownsRow B 9 1 v s.l.length (tx s.l) := (Later.dr w1).row hrow
  refine ldC_heap hgd (v := v) rfl ?_
  refine ldC_heap hgd (v := .string (bs s.b)) rfl ?_
  simp only [slStr, natO, show Int.toNat 2 = 2 from rfl, Int.toNat_natCast, bs_size, bs_extract]
  refine ⟨by omega, by decide, by omega, by omega, ?_⟩
  refine blS_one rfl ?_
  have hg2 : (w1.drew.alloc (.cells #[.string (bs ((s.b.take (2 + m)).drop 2))] 9)).heap[g]? = some (.cells (s.cells v) 68 (0, 0)) := (Later.al _ _).heap hgd
  refine held_cons (w := w1.drew) (Later.al _ _) (holds1 (by rw [heap_cell hgd]; rfl)) (held_cons (w := w1.drew) (Later.al _ _) (holds1 (by rw [heap_cell hgd]; rfl)) (held_nil ?_))
  refine app T_strs (hrd.alloc _) (one_string _ _) (by simp only [maxLen]; omega) (by omega) (by simp; omega) fun v' w3 hrow' hgr hat _ => ?_
  have hg3 : w3.heap[g]? = some (.cells (s.cells v) 68 (0, 0)) := by
    rw [hgr.block g (by simp; omega) (fun e => hne e.symm)]; exact hg2
  have hne' : v'.ownBlock ≠ some g := by
    rcases hat with e | e
    · rw [e]; exact hne
    · rw [e]; intro e2; injection e2 with e2; simp at e2; omega
  refine ⟨fun c hc => ?_, held_nil ?_⟩
  · cases hc with
    | head => rw [heap_cell hg3]; rfl
    | tail _ hc => cases hc
  refine stC_heap hg3 (by simp [Scn.cells]) (row_cell hrow') fun w4 hg4 ho4 => ?_
  refine ldC_heap hg4 (v := .string (bs s.b)) rfl ?_
  simp only [slStr, natO, bs_size, bs_extract, Int.toNat_natCast]
  refine ⟨by omega, by omega, Nat.le_refl _, ?_⟩
  refine stC_heap hg4 (by simp [Scn.cells]) rfl fun w5 hg5 ho5 => ?_
  have hgd5 : w5.drew.heap[g]? = _ := hg5
  refine ldC_heap hgd5 (v := .int .i64 s.at_) rfl ?_
  refine ldC_heap hgd5 (v := .int .i64 s.ep) rfl ?_
  refine stC_heap hgd5 (by simp [Scn.cells]) rfl fun w6 hg6 ho6 => ?_
  refine stC_heap hg6 (by simp [Scn.cells]) rfl fun w7 hg7 ho7 => ?_
  have hone : s.one = { s with l := s.l ++ [(s.b.take (2 + m)).drop 2], b := s.b.drop (2 + m), en := s.at_, la := s.ep } := by rw [Scn.one, hmm]
  have etk : (s.b.take s.b.length).drop (2 + m) = s.b.drop (2 + m) := by rw [List.take_length]
  refine ih n _ _ (by simp) ⟨s.one, rfl, ⟨v', ?_, ?_, hne', hBg⟩, ?_, ?_, ?_, he⟩
  · rw [hg7, hone, etk]; rfl
  · have r3 : w3.ownsRow B 9 1 v' s.one.l.length (tx s.one.l) := by
      rw [hone]
      show w3.ownsRow B _ 1 v' (s.l ++ _).length (tx (s.l ++ _))
      rw [tx_append, List.length_append]; exact hrow'
    exact ho7.row (ho6.row ((Later.dr w5).row (ho5.row (ho4.row r3 hne') hne')) hne') hne'
  · rw [hone]; simp; omega
  · rw [hone]; simp; omega
  · have h13 : Below B w w3 := ((hb.trans (Below.drew (Below.refl B w1))).alloc (by simp; omega) _).grown hgr (by simp; omega) (fun k hk => (hrow.lt k hk).1)
    exact (((h13.trans (ho4.below B hBg)).trans (ho5.below B hBg)).trans (Below.drew (Below.refl B w5))).trans ((ho6.below B hBg).trans (ho7.below B hBg))
theorem ScnAt.later {B g : Nat} {s : Scn} {w w' : World} (h : ScnAt B g s w) (hL : Later w w') : ScnAt B g s w' := by
  obtain ⟨v, h1, h2, h3, h4⟩ := h
  exact ⟨v, hL.heap h1, hL.row h2, h3, h4⟩
theorem ScnAt.only {B g h5 : Nat} {s : Scn} {w w' : World} (h : ScnAt B g s w) (hlt : h5 ≠ g) (hrow : ∀ v, w.heap[g]? = some (.cells (s.cells v) 68 (0, 0)) → v.ownBlock ≠ some h5) (ho : Only h5 w w') : ScnAt B g s w' := by
  obtain ⟨v, h1, h2, h3, h4⟩ := h
  exact ⟨v, by rw [ho.other g (fun e => hlt e.symm)]; exact h1, ho.row h2 (hrow v h1), h3, h4⟩
theorem secGet_spec {b : List UInt8} {x : Sec} (h : secGet b = some x) : x = secOf b ∧ x.ok ∧ x.put = b ∧ b.length = 64 := by
  unfold secGet at h
  split at h
  · rename_i hc
    injection h with h
    subst h
    exact ⟨rfl, hc.2.2.1, hc.2.2.2, hc.1⟩
  · cases h
theorem take_J6 {B g g5 : Nat} {w : World} {s : Scn} {x : Sec} {k : Value → World → Prop} (hB : B ≤ w.heap.size) (h : ScnAt B g s w) (h5 : w.heap[g5]? = some (.cells x.cells 23 (0, 0))) (hne : g5 ≠ g)
    (hs : s.b.length + x.pay.length + s.l.length ≤ 140737488355) (ha : 0 ≤ s.at_ ∧ s.at_ ≤ 140737488355)
    (hk : ∀ w', Below B w w' → ScnAt B g (eat (s.b ++ x.pay).length { s with b := s.b ++ x.pay, at_ := s.at_ + 1, ep := x.epoch }) w' → k (.bool true) w') : frame_scan_take_J6 k [.pointer (some ⟨g, 0, none⟩), .pointer (some ⟨g5, 0, none⟩)] w := by
  obtain ⟨v, hg, hrow, hnv, hBg⟩ := h
  simp only [frame_scan_take_J6, iw_add, iw_sub, iw_mul, iw_lss, iw_leq, iw_gtr, iw_geq, iw_eql, iw_neq, iw_quo, iw_rem, un_not, len_s, len_l, nck_p, fld_p, cv_i, unc_c, ex_0, ex_1, ex_2, st_eq, st_ne, brV_true, brV_false, brV_b, brV_not, one_one, nil_p, nil_pn, nil_n, nil_nn, decide_eq_true_eq, true_and, nb_ite, bs_size, Nat.zero_add, Bool.not_true, Bool.not_false, Bool.false_eq_true, eq_self, if_true, if_false, jn]
  have hgd : w.drew.heap[g]? = some (.cells (s.cells v) 68 (0, 0)) := hg
  have h5d : w.drew.heap[g5]? = some (.cells x.cells 23 (0, 0)) := h5
  refine ldC_heap hgd (v := .string (bs s.b)) rfl ?_
  refine ldC_heap h5d (v := .string (bs x.pay)) rfl ?_
  refine str_add (by omega) ?_
  refine stC_heap hgd (by simp [Scn.cells]) rfl fun w1 hg1 ho1 => ?_
  refine ldC_heap hg1 (v := .int .i64 s.at_) rfl ?_
  simp only [iw_add, iw_sub, iw_mul, iw_lss, iw_leq, iw_gtr, iw_geq, iw_eql, iw_neq, iw_quo, iw_rem, un_not, len_s, len_l, nck_p, fld_p, cv_i, unc_c, ex_0, ex_1, ex_2, st_eq, st_ne, brV_true, brV_false, brV_b, brV_not, one_one, nil_p, nil_pn, nil_n, nil_nn, decide_eq_true_eq, true_and, nb_ite, bs_size, Nat.zero_add, Bool.not_true, Bool.not_false, Bool.false_eq_true, eq_self, if_true, if_false, jn]
  rw [wrap64 (by omega) (by omega)]
  refine stC_heap hg1 (by simp [Scn.cells]) rfl fun w2 hg2 ho2 => ?_
  have h52 : w2.heap[g5]? = some (.cells x.cells 23 (0, 0)) := by rw [ho2.other g5 hne, ho1.other g5 hne]; exact h5d
  refine ldC_heap h52 (v := .int .i64 x.epoch) rfl ?_
  refine stC_heap hg2 (by simp [Scn.cells]) rfl fun w3 hg3 ho3 => ?_
  have hb : Below B w w3 := (Below.drew (Below.refl B w)).trans ((ho1.below B hBg).trans ((ho2.below B hBg).trans (ho3.below B hBg)))
  refine eat_loop (s0 := { s with b := s.b ++ x.pay, at_ := s.at_ + 1, ep := x.epoch }) (Nat.le_trans hB hb.size) ⟨v, hg3, ho3.row (ho2.row (ho1.row ((Later.dr w).row hrow) hnv) hnv) hnv, hnv, hBg⟩ (by simp; omega) fun w' hw' hs' => ?_
  exact hk w' (hb.trans hw') hs'
theorem take_spec {B g : Nat} {w : World} {s : Scn} {b : List UInt8} {k : Value → World → Prop} (hB : B ≤ w.heap.size) (h : ScnAt B g s w) (hlen : b.length ≤ 9223372036854775807)
    (hs : s.b.length + 56 + s.l.length ≤ 140737488355) (ha : 0 ≤ s.at_ ∧ s.at_ ≤ 140737488355)
    (hno : s.take b = none → ∀ w', Below B w w' → ScnAt B g s w' → k (.bool false) w') (hyes : ∀ s', s.take b = some s' → ∀ w', Below B w w' → ScnAt B g s' w' → k (.bool true) w') :
    Calls Tryz.prog 33 #[.pointer (some ⟨g, 0, none⟩), .string (bs b)] w (rt k) := by
  apply frame_scan_take_run
  simp only [frame_scan_take]
  refine Get_from hlen fun w1 hw1 => ?_
  have hb1 : Below B w w1 := hw1.mono hB
  cases hx : secGet b with
  | none =>
    simp only [secOut, iw_add, iw_sub, iw_mul, iw_lss, iw_leq, iw_gtr, iw_geq, iw_eql, iw_neq, iw_quo, iw_rem, un_not, len_s, len_l, nck_p, fld_p, cv_i, unc_c, ex_0, ex_1, ex_2, st_eq, st_ne, brV_true, brV_false, brV_b, brV_not, one_one, nil_p, nil_pn, nil_n, nil_nn, decide_eq_true_eq, true_and, nb_ite, bs_size, Nat.zero_add, Bool.not_true, Bool.not_false, Bool.false_eq_true, eq_self, if_true, if_false, jn]
    refine al_lit fun g5 w2 hw2 h5 h5s => ?_
    have hb2 : Below B w w2 := hb1.trans (hw2.mono (Nat.le_trans hB hw1.size))
    obtain ⟨v, hg, hrow, hnv, hBg⟩ := h
    have hgl : g < w1.heap.size := lt_of_heap (hw1.heap hg)
    refine stN_heap h5 rfl rfl (by simp [isCell]) fun w3 _ h33 h34 h35 => ?_
    simp only [frame_scan_take_J3]
    have hsize : B ≤ g5 := by have := hw1.size; omega
    refine hno (by simp [Scn.take, hx]) _ ((hb2.trans (h34 B hsize)).trans (Below.drew (Below.refl B w3))) ⟨v, ?_, ?_, hnv, hBg⟩
    · show w3.heap[g]? = _
      rw [h35 g (by omega)]; exact hw2.heap (hw1.heap hg)
    · exact (Later.dr w3).row (ownsRow_block (hw2.row (hw1.row hrow)) fun q hq => h35 q (by have := (hrow.lt q hq).2; have := hw1.size; omega))
  | some x =>
    obtain ⟨hxs, hok, hput, h64⟩ := secGet_spec hx
    simp only [secOut, iw_add, iw_sub, iw_mul, iw_lss, iw_leq, iw_gtr, iw_geq, iw_eql, iw_neq, iw_quo, iw_rem, un_not, len_s, len_l, nck_p, fld_p, cv_i, unc_c, ex_0, ex_1, ex_2, st_eq, st_ne, brV_true, brV_false, brV_b, brV_not, one_one, nil_p, nil_pn, nil_n, nil_nn, decide_eq_true_eq, true_and, nb_ite, bs_size, Nat.zero_add, Bool.not_true, Bool.not_false, Bool.false_eq_true, eq_self, if_true, if_false, jn]
    refine al_lit fun g5 w2 hw2 h5 h5s => ?_
    have hb2 : Below B w w2 := hb1.trans (hw2.mono (Nat.le_trans hB hw1.size))
    obtain ⟨v, hg, hrow, hnv, hBg⟩ := h
    have hgl : g < w1.heap.size := lt_of_heap (hw1.heap hg)
    refine stN_heap h5 rfl rfl (by simp [isCell, Sec.cells]) fun w3 h53 h33 h34 h35 => ?_
    have hsize : B ≤ g5 := by have := hw1.size; omega
    have hb3 : Below B w w3 := hb2.trans (h34 B hsize)
    have hne : g5 ≠ g := by omega
    have hg3 : w3.heap[g]? = some (.cells (s.cells v) 68 (0, 0)) := by rw [h35 g (by omega)]; exact hw2.heap (hw1.heap hg)
    have hrow3 : w3.ownsRow B 9 1 v s.l.length (tx s.l) := ownsRow_block (hw2.row (hw1.row hrow)) fun q hq => h35 q (by have := (hrow.lt q hq).2; have := hw1.size; omega)
    have hgd : w3.drew.heap[g]? = some (.cells (s.cells v) 68 (0, 0)) := hg3
    have h5d : w3.drew.heap[g5]? = some (.cells x.cells 23 (0, 0)) := h53
    have hb4 : Below B w w3.drew := hb3.trans (Below.drew (Below.refl B w3))
    have hat : ScnAt B g s w3.drew := ⟨v, hgd, (Later.dr w3).row hrow3, hnv, hBg⟩
    have hbad : ¬ takeOk s x → frame_scan_take_J3 k [] w3.drew := fun hn => hno (by simp [Scn.take, hx, hn]) _ hb4 hat
    have hgood : takeOk s x → frame_scan_take_J4 k [.pointer (some ⟨g, 0, none⟩), .pointer (some ⟨g5, 0, none⟩)] w3.drew := fun ho => by
      have hy := hyes _ (by simp only [Scn.take, hx, if_pos ho]; rfl)
      simp only [frame_scan_take_J4, iw_add, iw_sub, iw_mul, iw_lss, iw_leq, iw_gtr, iw_geq, iw_eql, iw_neq, iw_quo, iw_rem, un_not, len_s, len_l, nck_p, fld_p, cv_i, unc_c, ex_0, ex_1, ex_2, st_eq, st_ne, brV_true, brV_false, brV_b, brV_not, one_one, nil_p, nil_pn, nil_n, nil_nn, decide_eq_true_eq, true_and, nb_ite, bs_size, Nat.zero_add, Bool.not_true, Bool.not_false, Bool.false_eq_true, eq_self, if_true, if_false, jn]
      refine ldC_heap h5d (v := .bool x.fresh) rfl ?_
      simp only [iw_add, iw_sub, iw_mul, iw_lss, iw_leq, iw_gtr, iw_geq, iw_eql, iw_neq, iw_quo, iw_rem, un_not, len_s, len_l, nck_p, fld_p, cv_i, unc_c, ex_0, ex_1, ex_2, st_eq, st_ne, brV_true, brV_false, brV_b, brV_not, one_one, nil_p, nil_pn, nil_n, nil_nn, decide_eq_true_eq, true_and, nb_ite, bs_size, Nat.zero_add, Bool.not_true, Bool.not_false, Bool.false_eq_true, eq_self, if_true, if_false, jn]
      have hp := hok.2.2.2.2.2
      by_cases hf : x.fresh = true
      · rw [if_pos hf]
        refine stC_heap hgd (by simp [Scn.cells]) rfl fun w4 hg4 ho4 => ?_
        refine stC_heap hg4 (by simp [Scn.cells]) rfl fun w5 hg5 ho5 => ?_
        have hb5 : Below B w w5 := hb4.trans ((ho4.below B hBg).trans (ho5.below B hBg))
        have h55 : w5.heap[g5]? = some (.cells x.cells 23 (0, 0)) := by rw [ho5.other g5 hne, ho4.other g5 hne]; exact h5d
        refine take_J6 (s := { s with b := [], op := true }) (Nat.le_trans hB hb5.size) ⟨v, hg5, ho5.row (ho4.row ((Later.dr w3).row hrow3) hnv) hnv, hnv, hBg⟩ h55 hne (by simp; omega) ha fun w' hw' hs' => ?_
        refine hy w' (hb5.trans hw') ?_
        simp only [Scn.laid, hf, if_true]
        exact hs'
      · rw [if_neg hf]
        refine take_J6 (s := s) (Nat.le_trans hB hb4.size) hat h5d hne (by omega) ha fun w' hw' hs' => ?_
        refine hy w' (hb4.trans hw') ?_
        simp only [Scn.laid, hf, if_false]
        exact hs'
    simp only [iw_add, iw_sub, iw_mul, iw_lss, iw_leq, iw_gtr, iw_geq, iw_eql, iw_neq, iw_quo, iw_rem, un_not, len_s, len_l, nck_p, fld_p, cv_i, unc_c, ex_0, ex_1, ex_2, st_eq, st_ne, brV_true, brV_false, brV_b, brV_not, one_one, nil_p, nil_pn, nil_n, nil_nn, decide_eq_true_eq, true_and, nb_ite, bs_size, Nat.zero_add, Bool.not_true, Bool.not_false, Bool.false_eq_true, eq_self, if_true, if_false, jn]
    refine ldC_heap h5d (v := .int .i64 x.index) rfl ?_
    refine ldC_heap hgd (v := .int .i64 s.at_) rfl ?_
    simp only [iw_add, iw_sub, iw_mul, iw_lss, iw_leq, iw_gtr, iw_geq, iw_eql, iw_neq, iw_quo, iw_rem, un_not, len_s, len_l, nck_p, fld_p, cv_i, unc_c, ex_0, ex_1, ex_2, st_eq, st_ne, brV_true, brV_false, brV_b, brV_not, one_one, nil_p, nil_pn, nil_n, nil_nn, decide_eq_true_eq, true_and, nb_ite, bs_size, Nat.zero_add, Bool.not_true, Bool.not_false, Bool.false_eq_true, eq_self, if_true, if_false, jn]
    by_cases c1 : x.index = s.at_
    rotate_left
    · rw [if_neg c1]; exact hbad fun ho => c1 ho.1
    rw [if_pos c1]
    refine ldC_heap h5d (v := .int .i64 x.epoch) rfl ?_
    refine ldC_heap hgd (v := .int .i64 s.ep) rfl ?_
    simp only [iw_add, iw_sub, iw_mul, iw_lss, iw_leq, iw_gtr, iw_geq, iw_eql, iw_neq, iw_quo, iw_rem, un_not, len_s, len_l, nck_p, fld_p, cv_i, unc_c, ex_0, ex_1, ex_2, st_eq, st_ne, brV_true, brV_false, brV_b, brV_not, one_one, nil_p, nil_pn, nil_n, nil_nn, decide_eq_true_eq, true_and, nb_ite, bs_size, Nat.zero_add, Bool.not_true, Bool.not_false, Bool.false_eq_true, eq_self, if_true, if_false, jn]
    by_cases c2 : x.epoch < s.ep
    · rw [if_pos c2]; exact hbad fun ho => ho.2.1 c2
    rw [if_neg c2]
    refine ldC_heap h5d (v := .int .i64 x.epoch) rfl ?_
    refine ldC_heap hgd (v := .int .i64 s.ep) rfl ?_
    simp only [iw_add, iw_sub, iw_mul, iw_lss, iw_leq, iw_gtr, iw_geq, iw_eql, iw_neq, iw_quo, iw_rem, un_not, len_s, len_l, nck_p, fld_p, cv_i, unc_c, ex_0, ex_1, ex_2, st_eq, st_ne, brV_true, brV_false, brV_b, brV_not, one_one, nil_p, nil_pn, nil_n, nil_nn, decide_eq_true_eq, true_and, nb_ite, bs_size, Nat.zero_add, Bool.not_true, Bool.not_false, Bool.false_eq_true, eq_self, if_true, if_false, jn]
    by_cases c3 : x.epoch = s.ep
    · rw [if_pos c3]; exact hgood ⟨c1, c2, .inl c3⟩
    rw [if_neg c3]
    refine ldC_heap h5d (v := .bool x.fresh) rfl ?_
    simp only [iw_add, iw_sub, iw_mul, iw_lss, iw_leq, iw_gtr, iw_geq, iw_eql, iw_neq, iw_quo, iw_rem, un_not, len_s, len_l, nck_p, fld_p, cv_i, unc_c, ex_0, ex_1, ex_2, st_eq, st_ne, brV_true, brV_false, brV_b, brV_not, one_one, nil_p, nil_pn, nil_n, nil_nn, decide_eq_true_eq, true_and, nb_ite, bs_size, Nat.zero_add, Bool.not_true, Bool.not_false, Bool.false_eq_true, eq_self, if_true, if_false, jn]
    by_cases c4 : x.fresh = true
    · rw [if_pos c4]; exact hgood ⟨c1, c2, .inr c4⟩
    · rw [if_neg c4]; exact hbad fun ho => ho.2.2.elim c3 c4
theorem eat_size : ∀ (n : Nat) (s : Scn), (eat n s).b.length + (eat n s).l.length ≤ s.b.length + s.l.length ∧ (eat n s).at_ = s.at_
  | 0, s => ⟨Nat.le_refl _, rfl⟩
  | n + 1, s => by
    unfold eat
    split
    · rename_i h
      split
      · exact ⟨Nat.le_refl _, rfl⟩
      · split
        · exact ⟨Nat.le_refl _, rfl⟩
        · have := eat_size n s.one
          refine ⟨Nat.le_trans this.1 ?_, this.2⟩
          simp only [Scn.one, List.length_drop, List.length_append, List.length_cons, List.length_nil]
          omega
    · exact ⟨Nat.le_refl _, rfl⟩
theorem take_size {s s' : Scn} {b : List UInt8} (h : s.take b = some s') : s'.b.length + s'.l.length ≤ s.b.length + 56 + s.l.length ∧ s'.at_ = s.at_ + 1 := by
  unfold Scn.take at h
  split at h
  · cases h
  · rename_i x hx
    split at h
    · injection h with h
      have hp := (secGet_spec hx).2.1.2.2.2.2.2
      have := eat_size (s.laid x).b.length (s.laid x)
      rw [h] at this
      have hl : (s.laid x).b.length ≤ s.b.length + x.pay.length := by
        simp only [Scn.laid, List.length_append]
        split <;> simp
      refine ⟨?_, this.2⟩
      have h1 := this.1
      simp only [show (s.laid x).l = s.l from rfl] at h1
      omega
    · cases h
theorem Scan_J8 {B g : Nat} {w : World} {s : Scn} {k : Value → World → Prop} (h : ScnAt B g s w) (hk : ∀ v', w.drew.ownsRow B 9 1 v' s.l.length (tx s.l) → k (.tuple #[v', .int .i64 s.en, .int .i64 s.la]) w.drew) :
    frame_Scan_J8 k [.pointer (some ⟨g, 0, none⟩)] w := by
  obtain ⟨v, hg, hrow, hnv, hBg⟩ := h
  simp only [frame_Scan_J8, iw_add, iw_sub, iw_mul, iw_lss, iw_leq, iw_gtr, iw_geq, iw_eql, iw_neq, iw_quo, iw_rem, un_not, len_s, len_l, nck_p, fld_p, cv_i, unc_c, ex_0, ex_1, ex_2, st_eq, st_ne, brV_true, brV_false, brV_b, brV_not, one_one, nil_p, nil_pn, nil_n, nil_nn, decide_eq_true_eq, true_and, nb_ite, bs_size, Nat.zero_add, Bool.not_true, Bool.not_false, Bool.false_eq_true, eq_self, if_true, if_false, jn]
  have hgd : w.drew.heap[g]? = some (.cells (s.cells v) 68 (0, 0)) := hg
  refine ldC_heap hgd (v := v) rfl ?_
  refine ldC_heap hgd (v := .int .i64 s.en) rfl ?_
  refine ldC_heap hgd (v := .int .i64 s.la) rfl ?_
  exact hk v ((Later.dr w).row hrow)
theorem Scan_spec {l : List (List UInt8)} {v : Value} {w : World} {k : Value → World → Prop} (hv : Lst w v l.length (tx l)) (hlen : ∀ b ∈ l, b.length ≤ 9223372036854775807) (hn : l.length ≤ 1000000000)
    (hk : ∀ v' w', Later w w' → w'.ownsRow w.heap.size 9 1 v' (scnGo scn0 l).l.length (tx (scnGo scn0 l).l) → k (.tuple #[v', .int .i64 (scnGo scn0 l).en, .int .i64 (scnGo scn0 l).la]) w') :
    Calls Tryz.prog 14 #[v] w (rt k) := by
  apply frame_Scan_run
  simp only [frame_Scan]
  refine al_lit fun g W hL hg hgs => ?_
  refine hv.len ?_
  have h0 : ScnAt w.heap.size g scn0 W := ⟨_, hg, World.ownsRow_nil _ _ _ _, by simp [Value.ownBlock], by omega⟩
  refine lp_ind _ (fun (m : Nat) r w1 => ∃ s, r = [.pointer (some ⟨g, 0, none⟩), .func (.func 33) #[.pointer (some ⟨g, 0, none⟩)] #[], v, .int .i64 l.length, .int .i64 ((l.length - m : Nat) : Int)] ∧ m ≤ l.length ∧ ScnAt w.heap.size g s w1 ∧ Later w w1 ∧
      s.b.length + s.l.length ≤ 56 * (l.length - m) ∧ 0 ≤ s.at_ ∧ s.at_ ≤ ((l.length - m : Nat) : Int) ∧ scnGo s (l.drop (l.length - m)) = scnGo scn0 l) id ?_ (i := l.length)
    ⟨scn0, by simp, Nat.le_refl _, h0, hL, by simp [scn0], by decide, by simp [scn0], by simp⟩
  rintro m r w1 rec ⟨s, rfl, hm, hat, hL1, hsz, ha0, ha1, hgo⟩ ih
  simp only [frame_Scan_L4, iw_add, iw_sub, iw_mul, iw_lss, iw_leq, iw_gtr, iw_geq, iw_eql, iw_neq, iw_quo, iw_rem, un_not, len_s, len_l, nck_p, fld_p, cv_i, unc_c, ex_0, ex_1, ex_2, st_eq, st_ne, brV_true, brV_false, brV_b, brV_not, one_one, nil_p, nil_pn, nil_n, nil_nn, decide_eq_true_eq, true_and, nb_ite, bs_size, Nat.zero_add, Bool.not_true, Bool.not_false, Bool.false_eq_true, eq_self, if_true, if_false, jn]
  by_cases hm0 : m = 0
  · subst hm0
    rw [if_neg (by omega)]
    refine Scan_J8 hat fun v' hr => ?_
    have : s = scnGo scn0 l := by rw [← hgo]; simp [scnGo]
    subst this
    exact hk v' _ (hL1.tr (Later.dr w1)) hr
  obtain ⟨m, rfl⟩ : ∃ q, m = q + 1 := ⟨m - 1, by omega⟩
  rw [if_pos (by omega)]
  have hlt : l.length - (m + 1) < l.length := by omega
  have hmi : l.length - m = l.length - (m + 1) + 1 := by omega
  generalize hi : l.length - (m + 1) = i at *
  refine (hL1.lst hv).at1 (tx_get hlt) hlt fun a ha _ => ?_
  refine ⟨_, ha, ?_⟩
  have hdrop : l.drop i = l[i] :: l.drop (i + 1) := List.drop_eq_getElem_cons hlt
  rw [hdrop, scnGo] at hgo
  refine ⟨frame_scan_take_body, ?_⟩
  refine take_spec hL1.size hat (hlen _ (List.getElem_mem hlt)) (by omega) ⟨ha0, by omega⟩ (fun hno w2 hw2 hat2 => ?_) (fun s' hy w2 hw2 hat2 => ?_)
  · simp only [iw_add, iw_sub, iw_mul, iw_lss, iw_leq, iw_gtr, iw_geq, iw_eql, iw_neq, iw_quo, iw_rem, un_not, len_s, len_l, nck_p, fld_p, cv_i, unc_c, ex_0, ex_1, ex_2, st_eq, st_ne, brV_true, brV_false, brV_b, brV_not, one_one, nil_p, nil_pn, nil_n, nil_nn, decide_eq_true_eq, true_and, nb_ite, bs_size, Nat.zero_add, Bool.not_true, Bool.not_false, Bool.false_eq_true, eq_self, if_true, if_false, jn]
    rw [hno] at hgo
    simp only [] at hgo
    subst hgo
    refine Scan_J8 hat2 fun v' hr => ?_
    exact hk v' _ (Later.tr (hL1.trans hw2) (Later.dr w2)) hr
  · simp only [iw_add, iw_sub, iw_mul, iw_lss, iw_leq, iw_gtr, iw_geq, iw_eql, iw_neq, iw_quo, iw_rem, un_not, len_s, len_l, nck_p, fld_p, cv_i, unc_c, ex_0, ex_1, ex_2, st_eq, st_ne, brV_true, brV_false, brV_b, brV_not, one_one, nil_p, nil_pn, nil_n, nil_nn, decide_eq_true_eq, true_and, nb_ite, bs_size, Nat.zero_add, Bool.not_true, Bool.not_false, Bool.false_eq_true, eq_self, if_true, if_false, jn]
    rw [hy] at hgo
    simp only [] at hgo
    have hts := take_size hy
    rw [wrap64 (by omega) (by omega)]
    refine ih m _ _ (by simp) ⟨s', by rw [hmi]; rfl, by omega, hat2, hL1.trans hw2, by omega, by omega, by omega, by rw [hmi]; exact hgo⟩
end Go.Proofs.YtlicdhdpngahgaaGreat
