/- pack.Writer's numbers and texts, as values that are called. -/
import Derived.Test.YtlicdhdpngahgaaDoorPack
set_option linter.unusedVariables false
set_option linter.unusedSimpArgs false
namespace Go.Proofs.YtlicdhdpngahgaaDoor
open Go.Eng Go.RowKit
def n2 (x : Int) : List UInt8 := be 2 x.toNat
def n4 (x : Int) : List UInt8 := be 4 x.toNat
def txt (s : List UInt8) : List UInt8 := n2 s.length ++ s
abbrev fNum (g : Nat) : Value := .func (.func 45) #[.pointer (some ⟨g, 0, none⟩)] #[]
abbrev fLong (g : Nat) : Value := .func (.func 46) #[.pointer (some ⟨g, 0, none⟩)] #[]
abbrev fText (g : Nat) : Value := .func (.func 47) #[.pointer (some ⟨g, 0, none⟩)] #[]
theorem num_from {W1 w : World} {g : Nat} {x : Int} {v : Value} {l : List UInt8} {k : Value → World → Prop} (h : Wr W1 w g v l) (hx : in2 x) (hl : l.length ≤ 10000000)
    (hk : ∀ v' w' u, Wr W1 w' g v' (l ++ n2 x) → Stp w w' g v v' → k u w') : callW Tryd.prog (fNum g) [.int .i64 x] w k := by
  refine ⟨by kernel_rfl, ?_⟩
  show Calls Tryd.prog 45 #[.pointer (some ⟨g, 0, none⟩), .int .i64 x] w (rt k)
  apply pack_Writer_Num_run
  simp only [pack_Writer_Num]
  exact wput_from (n := 2) h (.inl rfl) hx.1 (by have := hx.2; show x < 65536; omega) hl fun v' w' h' hs' => hk v' w' _ h' hs'
theorem long_from {W1 w : World} {g : Nat} {x : Int} {v : Value} {l : List UInt8} {k : Value → World → Prop} (h : Wr W1 w g v l) (hx : in4 x) (hl : l.length ≤ 10000000)
    (hk : ∀ v' w' u, Wr W1 w' g v' (l ++ n4 x) → Stp w w' g v v' → k u w') : callW Tryd.prog (fLong g) [.int .i64 x] w k := by
  refine ⟨by kernel_rfl, ?_⟩
  show Calls Tryd.prog 46 #[.pointer (some ⟨g, 0, none⟩), .int .i64 x] w (rt k)
  apply pack_Writer_Long_run
  simp only [pack_Writer_Long]
  exact wput_from (n := 4) h (.inr rfl) hx.1 (by have := hx.2; show x < 4294967296; omega) hl fun v' w' h' hs' => hk v' w' _ h' hs'
theorem U_bytes' : Tryd.prog.underlying 44 = some (.slice 5) := U_bytes
theorem src_str {s : List UInt8} (w : World) : Src Tryd.prog 1 9 (.string (bs s)) s.length (bc s) w := by
  have := Src.ofString (P := Tryd.prog) w U_string (bs s)
  simpa [byteCells_bs] using this
theorem text_from {W1 w : World} {g : Nat} {s : List UInt8} {v : Value} {l : List UInt8} {k : Value → World → Prop} (h : Wr W1 w g v l) (hs : s.length ≤ 65535) (hl : l.length ≤ 1000000)
    (hk : ∀ v' w' u, Wr W1 w' g v' (l ++ txt s) → Stp w w' g v v' → k u w') : callW Tryd.prog (fText g) [.string (bs s)] w k := by
  refine ⟨by kernel_rfl, ?_⟩
  show Calls Tryd.prog 47 #[.pointer (some ⟨g, 0, none⟩), .string (bs s)] w (rt k)
  apply pack_Writer_Text_run
  simp only [pack_Writer_Text, iw_add, iw_sub, iw_mul, iw_lss, iw_leq, iw_gtr, iw_geq, iw_eql, iw_neq, iw_quo, iw_rem, un_not, len_s, len_l, nck_p, fld_p, cv_i, unc_c, ex_0, ex_1, ex_2, st_eq, st_ne, brV_true, brV_false, brV_b, brV_not, one_one, nil_p, nil_pn, nil_n, nil_nn, decide_eq_true_eq, true_and, nb_ite, bs_size, Nat.zero_add, Bool.not_true, Bool.not_false, Bool.false_eq_true, eq_self, if_true, if_false, jn]
  refine num_from (x := (s.length : Int)) h ⟨by omega, by omega⟩ (by omega) fun v1 w1 u h1 hst1 => ?_
  simp only [iw_add, iw_sub, iw_mul, iw_lss, iw_leq, iw_gtr, iw_geq, iw_eql, iw_neq, iw_quo, iw_rem, un_not, len_s, len_l, nck_p, fld_p, cv_i, unc_c, ex_0, ex_1, ex_2, st_eq, st_ne, brV_true, brV_false, brV_b, brV_not, one_one, nil_p, nil_pn, nil_n, nil_nn, decide_eq_true_eq, true_and, nb_ite, bs_size, Nat.zero_add, Bool.not_true, Bool.not_false, Bool.false_eq_true, eq_self, if_true, if_false, jn, jn, pack_Writer_Text_J5]
  refine ldC_heap h1.at_ (v := .bool false) rfl ?_
  simp only [iw_add, iw_sub, iw_mul, iw_lss, iw_leq, iw_gtr, iw_geq, iw_eql, iw_neq, iw_quo, iw_rem, un_not, len_s, len_l, nck_p, fld_p, cv_i, unc_c, ex_0, ex_1, ex_2, st_eq, st_ne, brV_true, brV_false, brV_b, brV_not, one_one, nil_p, nil_pn, nil_n, nil_nn, decide_eq_true_eq, true_and, nb_ite, bs_size, Nat.zero_add, Bool.not_true, Bool.not_false, Bool.false_eq_true, eq_self, if_true, if_false, jn]
  refine ldC_heap h1.at_ (v := v1) rfl ?_
  have hs1 := h1.size
  have hgl := h1.glt
  have hv1 : ∀ q, v1.ownBlock = some q → W1.heap.size ≤ q ∧ q < w1.heap.size := fun q hq => h1.row.lt q hq
  have hln : (n2 (s.length : Int)).length = 2 := be_length _ _
  refine app T_bytes h1.row (src_str w1) (by simp only [maxLen]; simp; omega) (by simp; omega) (by omega) fun v2 w2 hr2 hg2 hat2 _ => ?_
  have hs2 := hg2.size
  have far2 : ∀ q : Nat, q < w1.heap.size → v1.ownBlock ≠ some q → w2.heap[q]? = w1.heap[q]? := fun q hq hne => hg2.block q hq (fun e => hne e.symm)
  have at2 : w2.heap[g]? = _ := (far2 g (by omega) (fun e => by have := (hv1 g e).1; omega)).trans h1.at_
  refine stC_heap at2 (by simp) (row_cell' hr2) fun w3 at3 ho3 => ?_
  have hb2 : ∀ q, v2.ownBlock = some q → q ≠ g ∧ (v1.ownBlock = some q ∨ w1.heap.size ≤ q) := fun q hq => by
    rcases hat2 with e | e
    · rw [e] at hq
      exact ⟨fun e2 => by have := (hv1 q hq).1; omega, .inl hq⟩
    · rw [hq] at e; injection e with e; exact ⟨by omega, .inr (by omega)⟩
  have hs3 := ho3.size
  have at3' : w3.heap[g]? = some (.cells #[v2, .bool false] 77 (0, 0)) := by simpa using at3
  refine hk v2 w3 _ ⟨(ho3.below 0 (Nat.zero_le _)).os.trans (hg2.os.trans h1.os), (ho3.below 0 (Nat.zero_le _)).tape.trans (hg2.tape.trans h1.tape), (ho3.below 0 (Nat.zero_le _)).output.trans (hg2.output.trans h1.output), by omega, fun q hq hne => ?_, hgl, at3', ?_⟩ (hst1.trans ⟨by omega, fun q hq hne hv => ?_, fun q hq hne e => ?_⟩)
  · rw [ho3.other q hne, far2 q (by omega) (fun e => by have := (hv1 q e).1; omega)]
    exact h1.far q hq hne
  · refine ownsRow_block (w := w2) ?_ fun q hq => ho3.other q (hb2 q hq).1
    rw [txt, ← List.append_assoc, bc_append, List.length_append]
    exact hr2
  · rw [ho3.other q hne]
    exact far2 q hq hv
  · rcases (hb2 q e).2 with h5 | h5
    · exact hne h5
    · omega
theorem wdone_from {W1 w : World} {g : Nat} {v : Value} {l : List UInt8} {k : Value → World → Prop} (h : Wr W1 w g v l)
    (hk : k (.tuple #[.string (bs l), .bool true]) w) : callW Tryd.prog (.func (.func 50) #[] #[]) [.pointer (some ⟨g, 0, none⟩)] w k := by
  apply pack_Writer_Done_call
  apply pack_Writer_Done_run
  simp only [pack_Writer_Done, iw_add, iw_sub, iw_mul, iw_lss, iw_leq, iw_gtr, iw_geq, iw_eql, iw_neq, iw_quo, iw_rem, un_not, len_s, len_l, nck_p, fld_p, cv_i, unc_c, ex_0, ex_1, ex_2, st_eq, st_ne, brV_true, brV_false, brV_b, brV_not, one_one, nil_p, nil_pn, nil_n, nil_nn, decide_eq_true_eq, true_and, nb_ite, bs_size, Nat.zero_add, Bool.not_true, Bool.not_false, Bool.false_eq_true, eq_self, if_true, if_false, jn]
  refine ldC_heap h.at_ (v := .bool false) rfl ?_
  simp only [iw_add, iw_sub, iw_mul, iw_lss, iw_leq, iw_gtr, iw_geq, iw_eql, iw_neq, iw_quo, iw_rem, un_not, len_s, len_l, nck_p, fld_p, cv_i, unc_c, ex_0, ex_1, ex_2, st_eq, st_ne, brV_true, brV_false, brV_b, brV_not, one_one, nil_p, nil_pn, nil_n, nil_nn, decide_eq_true_eq, true_and, nb_ite, bs_size, Nat.zero_add, Bool.not_true, Bool.not_false, Bool.false_eq_true, eq_self, if_true, if_false, jn]
  refine ldC_heap h.at_ (v := v) rfl ?_
  exact to_string U_bytes U_byte U_string h.row hk
end Go.Proofs.YtlicdhdpngahgaaDoor
