/- Numbers and texts written: pack.Writer. -/
import Derived.Test.YtlicdhdpngahgaaDoorRightB
import Derived.Test.YtlicdhdpngahgaaDoorNum
set_option linter.unusedVariables false
set_option linter.unusedSimpArgs false
namespace Go.Proofs.YtlicdhdpngahgaaDoor
open Go.Eng Go.RowKit
/-- The writer lies in block g, its bytes in v; what lay in W1 is as it was, but block g. -/
structure Wr (W1 w : World) (g : Nat) (v : Value) (l : List UInt8) : Prop where
  os : w.os = W1.os
  tape : w.tape = W1.tape
  output : w.output = W1.output
  size : W1.heap.size ≤ w.heap.size
  far : ∀ q : Nat, q < W1.heap.size → q ≠ g → w.heap[q]? = W1.heap[q]?
  glt : g < W1.heap.size
  at_ : w.heap[g]? = some (.cells #[v, .bool false] 77 (0, 0))
  row : w.ownsRow W1.heap.size 5 1 v l.length (bc l)
/-- What a step of the writer leaves. -/
structure Stp (w w' : World) (g : Nat) (v v' : Value) : Prop where
  size : w.heap.size ≤ w'.heap.size
  far : ∀ q : Nat, q < w.heap.size → q ≠ g → v.ownBlock ≠ some q → w'.heap[q]? = w.heap[q]?
  blk : ∀ q : Nat, q < w.heap.size → v.ownBlock ≠ some q → v'.ownBlock ≠ some q
theorem Stp.refl (w : World) (g : Nat) (v : Value) : Stp w w g v v := ⟨Nat.le_refl _, fun _ _ _ _ => rfl, fun _ _ h => h⟩
theorem Stp.trans {a b c : World} {g : Nat} {u v x : Value} (h : Stp a b g u v) (k : Stp b c g v x) : Stp a c g u x :=
  ⟨Nat.le_trans h.size k.size, fun q hq h1 h2 => (k.far q (Nat.lt_of_lt_of_le hq h.size) h1 (h.blk q hq h2)).trans (h.far q hq h1 h2), fun q hq h2 => k.blk q (Nat.lt_of_lt_of_le hq h.size) (h.blk q hq h2)⟩
theorem Stp.heap {w w' : World} {g : Nat} {v v' : Value} (h : Stp w w' g v v') {q : Nat} {o : Obj} (ho : w.heap[q]? = some o) (h1 : q ≠ g) (h2 : v.ownBlock ≠ some q) : w'.heap[q]? = some o := by
  rw [h.far q (lt_of_heap ho) h1 h2]; exact ho
theorem Wr.old {W1 w : World} {g : Nat} {v : Value} {l : List UInt8} (h : Wr W1 w g v l) {q : Nat} {o : Obj} (ho : W1.heap[q]? = some o) (h1 : q ≠ g) : w.heap[q]? = some o := by
  rw [h.far q (lt_of_heap ho) h1]; exact ho
theorem Wr.later {W1 w w' : World} {g : Nat} {v : Value} {l : List UInt8} (h : Wr W1 w g v l) (hL : Later w w') : Wr W1 w' g v l where
  os := hL.os.trans h.os
  tape := hL.tape.trans h.tape
  output := hL.output.trans h.output
  size := Nat.le_trans h.size hL.size
  far := fun q hq h1 => (hL.block q (Nat.lt_of_lt_of_le hq h.size)).trans (h.far q hq h1)
  glt := h.glt
  at_ := hL.heap h.at_
  row := hL.row h.row
theorem Wr.below {W1 w : World} {g B : Nat} {v : Value} {l : List UInt8} (h : Wr W1 w g v l) (hB : B ≤ g) : Below B W1 w :=
  ⟨h.os, h.tape, h.output, h.size, fun k hk => h.far k (Nat.lt_of_lt_of_le hk (Nat.le_trans hB (Nat.le_of_lt h.glt))) (by omega)⟩
theorem two_pow (n : Nat) : (2 : Nat) ^ (8 * n) = 256 ^ n := by rw [Nat.pow_mul]
theorem wput_from {W1 w : World} {g n : Nat} {x : Int} {v : Value} {l : List UInt8} {k : Value → World → Prop} (h : Wr W1 w g v l) (hn : n = 2 ∨ n = 4) (h0 : 0 ≤ x) (hx : x < 256 ^ n) (hl : l.length ≤ 10000000)
    (hk : ∀ v' w', Wr W1 w' g v' (l ++ be n x.toNat) → Stp w w' g v v' → k (.pointer (some ⟨g, 0, none⟩)) w') :
    callW Tryd.prog (.func (.func 81) #[] #[]) [.pointer (some ⟨g, 0, none⟩), .int .i64 x, .int .i64 n] w k := by
  apply pack_Writer_put_call
  apply pack_Writer_put_run
  obtain ⟨y, rfl⟩ : ∃ y : Nat, x = (y : Int) := ⟨x.toNat, by omega⟩
  have hp : ((256 ^ n : Nat) = 65536 ∧ n = 2) ∨ ((256 ^ n : Nat) = 4294967296 ∧ n = 4) := by
    rcases hn with rfl | rfl
    · exact .inl ⟨rfl, rfl⟩
    · exact .inr ⟨rfl, rfl⟩
  have hy : y < 256 ^ n := by
    have : ((256 : Int) ^ n) = ((256 ^ n : Nat) : Int) := by simp
    rw [this] at hx
    omega
  have hn4 : n ≤ 4 := by omega
  have hlit : ∀ k : Value → Prop, shW .shl (.int .i64 1) (.int .i64 (8 * (n : Int))) k = k (.int .i64 ((256 ^ n : Nat) : Int)) := fun k => by
    rcases hn with rfl | rfl
    · simp only [shW, IntKind.bits]
      have e1 : IntKind.i64.wrap (1 * 2 ^ min ((8 * ((2 : Nat) : Int)).toNat) 64) = ((256 ^ 2 : Nat) : Int) := by decide
      rw [e1]; simp
    · simp only [shW, IntKind.bits]
      have e1 : IntKind.i64.wrap (1 * 2 ^ min ((8 * ((4 : Nat) : Int)).toNat) 64) = ((256 ^ 4 : Nat) : Int) := by decide
      rw [e1]; simp
  simp only [pack_Writer_put, iw_add, iw_sub, iw_mul, iw_lss, iw_leq, iw_gtr, iw_geq, iw_eql, iw_neq, iw_quo, iw_rem, un_not, len_s, len_l, nck_p, fld_p, cv_i, unc_c, ex_0, ex_1, ex_2, st_eq, st_ne, brV_true, brV_false, brV_b, brV_not, one_one, nil_p, nil_pn, nil_n, nil_nn, decide_eq_true_eq, true_and, nb_ite, bs_size, Nat.zero_add, Bool.not_true, Bool.not_false, Bool.false_eq_true, eq_self, if_true, if_false, jn]
  refine ldC_heap h.at_ (v := .bool false) rfl ?_
  simp only [iw_add, iw_sub, iw_mul, iw_lss, iw_leq, iw_gtr, iw_geq, iw_eql, iw_neq, iw_quo, iw_rem, un_not, len_s, len_l, nck_p, fld_p, cv_i, unc_c, ex_0, ex_1, ex_2, st_eq, st_ne, brV_true, brV_false, brV_b, brV_not, one_one, nil_p, nil_pn, nil_n, nil_nn, decide_eq_true_eq, true_and, nb_ite, bs_size, Nat.zero_add, Bool.not_true, Bool.not_false, Bool.false_eq_true, eq_self, if_true, if_false, jn]
  rw [if_neg (by omega), wrap64 (by omega) (by omega), hlit]
  simp only [iw_add, iw_sub, iw_mul, iw_lss, iw_leq, iw_gtr, iw_geq, iw_eql, iw_neq, iw_quo, iw_rem, un_not, len_s, len_l, nck_p, fld_p, cv_i, unc_c, ex_0, ex_1, ex_2, st_eq, st_ne, brV_true, brV_false, brV_b, brV_not, one_one, nil_p, nil_pn, nil_n, nil_nn, decide_eq_true_eq, true_and, nb_ite, bs_size, Nat.zero_add, Bool.not_true, Bool.not_false, Bool.false_eq_true, eq_self, if_true, if_false, jn]
  rw [if_neg (by omega), wrap64 (by omega) (by omega)]
  simp only [Int.toNat_natCast] at hk
  refine lp_ind _ (fun (m : Nat) r w1 => ∃ (v1 : Value) (out : List UInt8), r = [.pointer (some ⟨g, 0, none⟩), .int .i64 y, .int .i64 ((m : Int) - 1)] ∧ m ≤ n ∧ out ++ be m y = be n y ∧ Wr W1 w1 g v1 (l ++ out) ∧ Stp w w1 g v v1) id ?_ (i := n) ⟨v, [], rfl, Nat.le_refl _, rfl, by rwa [List.append_nil], Stp.refl _ _ _⟩
  rintro m r w1 rec ⟨v1, out, rfl, hm, hout, hw1, hst⟩ ih
  simp only [pack_Writer_put_L7, iw_add, iw_sub, iw_mul, iw_lss, iw_leq, iw_gtr, iw_geq, iw_eql, iw_neq, iw_quo, iw_rem, un_not, len_s, len_l, nck_p, fld_p, cv_i, unc_c, ex_0, ex_1, ex_2, st_eq, st_ne, brV_true, brV_false, brV_b, brV_not, one_one, nil_p, nil_pn, nil_n, nil_nn, decide_eq_true_eq, true_and, nb_ite, bs_size, Nat.zero_add, Bool.not_true, Bool.not_false, Bool.false_eq_true, eq_self, if_true, if_false, jn]
  by_cases h0 : m = 0
  · subst h0
    rw [if_neg (by omega)]
    have : out = be n y := by simpa [be] using hout
    subst this
    exact hk v1 w1 hw1 hst
  obtain ⟨m, rfl⟩ : ∃ q, m = q + 1 := ⟨m - 1, by omega⟩
  rw [if_pos (by omega)]
  have e1 : IntKind.i64.wrap (8 * (((m + 1 : Nat) : Int) - 1)) = ((8 * m : Nat) : Int) := by rw [wrap64 (by omega) (by omega)]; omega
  rw [e1]
  simp only [shW, Int.toNat_natCast, IntKind.bits, shr_nat _ _ (show 8 * m ≤ 64 by omega), two_pow, cvI, wrap8, u8_ofNat]
  refine ⟨by omega, ?_⟩
  have hwd : Wr W1 w1.drew g v1 (l ++ out) := hw1.later (Later.dr w1)
  refine ldC_heap hwd.at_ (v := v1) rfl ?_
  refine blS_one rfl ?_
  have hol : out.length + m + 1 = n := by have := congrArg List.length hout; simp at this; omega
  have hs1 := hw1.size
  have hv1 : ∀ q, v1.ownBlock = some q → W1.heap.size ≤ q ∧ q < w1.heap.size := fun q hq => hw1.row.lt q hq
  have hgl := hw1.glt
  refine held_cons (w := w1.drew) (Later.al _ _) (holds1 (by rw [heap_cell hwd.at_]; rfl)) (held_nil ?_)
  refine app T_bytes (hwd.row.alloc _) (Src.ofSlice (e' := 5) _ U_bytes _ 1 1 (bc [UInt8.ofNat (y / 256 ^ m)]) rfl (cell_one_new _ _ _) (by simp [bc, Value.oneCell'])) (by simp only [maxLen]; simp; omega) (by simp; omega) (by simp; omega) fun v2 w2 hr2 hg2 hat2 _ => ?_
  have hs2 : w1.heap.size + 1 ≤ w2.heap.size := by have := hg2.size; simpa using this
  have far2 : ∀ q : Nat, q < w1.heap.size → v1.ownBlock ≠ some q → w2.heap[q]? = w1.heap[q]? := fun q hq hne => by
    rw [hg2.block q (by simp; omega) (fun e => hne e.symm)]
    exact Below.heap_alloc w1.drew _ q hq
  have at2 : w2.heap[g]? = _ := (far2 g (by omega) (fun e => by have := (hv1 g e).1; omega)).trans hw1.at_
  refine stC_heap at2 (by simp) (row_cell' hr2) fun w3 at3 ho3 => ?_
  have hb2 : ∀ q, v2.ownBlock = some q → q ≠ g ∧ (v1.ownBlock = some q ∨ w1.heap.size ≤ q) := fun q hq => by
    rcases hat2 with e | e
    · rw [e] at hq
      exact ⟨fun e2 => by have := (hv1 q hq).1; omega, .inl hq⟩
    · rw [hq] at e; injection e with e; simp at e; exact ⟨by omega, .inr (by omega)⟩
  have hs3 := ho3.size
  have at3' : w3.heap[g]? = some (.cells #[v2, .bool false] 77 (0, 0)) := by simpa using at3
  rw [wrap64 (by omega) (by omega)]
  refine ih m _ _ (by simp) ⟨v2, out ++ [UInt8.ofNat (y / 256 ^ m)], by congr 4; omega, by omega, by rw [← hout]; simp [be], ?_, ?_⟩
  · refine ⟨ho3.below 0 (Nat.zero_le _) |>.os.trans (hg2.os.trans hw1.os), (ho3.below 0 (Nat.zero_le _)).tape.trans (hg2.tape.trans hw1.tape), (ho3.below 0 (Nat.zero_le _)).output.trans (hg2.output.trans hw1.output), by omega, fun q hq hne => ?_, hgl, at3', ?_⟩
    · rw [ho3.other q hne, far2 q (by omega) (fun e => by have := (hv1 q e).1; omega)]
      exact hw1.far q hq hne
    · refine ownsRow_block (w := w2) ?_ fun q hq => ho3.other q (hb2 q hq).1
      rw [← List.append_assoc, bc_append, List.length_append]
      exact hr2
  · refine hst.trans ⟨by omega, fun q hq hne hv => ?_, fun q hq hne e => ?_⟩
    · rw [ho3.other q hne]
      exact far2 q hq hv
    · rcases (hb2 q e).2 with h5 | h5
      · exact hne h5
      · omega
end Go.Proofs.YtlicdhdpngahgaaDoor
