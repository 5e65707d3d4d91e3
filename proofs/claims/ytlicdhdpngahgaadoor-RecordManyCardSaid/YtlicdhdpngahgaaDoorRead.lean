/- Numbers and texts read: pack.Reader. -/
import Derived.Test.YtlicdhdpngahgaaDoorRPutB
set_option linter.unusedVariables false
set_option linter.unusedSimpArgs false
namespace Go.Proofs.YtlicdhdpngahgaaDoor
open Go.Eng Go.RowKit
/-- What is left, and whether something was not all there. -/
structure Rd where
  b : List UInt8
  bad : Bool
def Rd.take (s : Rd) (n : Nat) : List UInt8 × Rd := if s.bad = true ∨ s.b.length < n then ([], ⟨s.b, true⟩) else (s.b.take n, ⟨s.b.drop n, false⟩)
def Rd.num (s : Rd) : Int × Rd := ((ofB (s.take 2).1 : Nat), (s.take 2).2)
def Rd.long (s : Rd) : Int × Rd := ((ofB (s.take 4).1 : Nat), (s.take 4).2)
def Rd.text (s : Rd) : List UInt8 × Rd := s.num.2.take s.num.1.toNat
theorem Rd.take_len (s : Rd) (n : Nat) : (s.take n).1.length ≤ n := by
  unfold Rd.take
  split
  · simp
  · simp only [List.length_take]; omega
theorem Rd.take_le (s : Rd) (n : Nat) : (s.take n).2.b.length ≤ s.b.length := by
  unfold Rd.take
  split
  · simp
  · simp
theorem Rd.num_lt (s : Rd) : 0 ≤ s.num.1 ∧ s.num.1 < 65536 := by
  have h1 := ofB_lt (s.take 2).1
  have h2 : 256 ^ (s.take 2).1.length ≤ 256 ^ 2 := Nat.pow_le_pow_right (by decide) (s.take_len 2)
  have h3 : (256 : Nat) ^ 2 = 65536 := rfl
  constructor
  · exact Int.natCast_nonneg _
  · show ((ofB (s.take 2).1 : Nat) : Int) < 65536
    omega
theorem Rd.long_lt (s : Rd) : 0 ≤ s.long.1 ∧ s.long.1 < 4294967296 := by
  have h1 := ofB_lt (s.take 4).1
  have h2 : 256 ^ (s.take 4).1.length ≤ 256 ^ 4 := Nat.pow_le_pow_right (by decide) (s.take_len 4)
  have h3 : (256 : Nat) ^ 4 = 4294967296 := rfl
  constructor
  · exact Int.natCast_nonneg _
  · show ((ofB (s.take 4).1 : Nat) : Int) < 4294967296
    omega
def RdAt (w : World) (g : Nat) (s : Rd) : Prop := w.heap[g]? = some (.cells #[.string (bs s.b), .bool s.bad] 114 (0, 0))
theorem take_from {w : World} {g n : Nat} {s : Rd} {k : Value → World → Prop} (h : RdAt w g s) (hn : n ≤ 1000000) (hl : s.b.length ≤ 1000000000)
    (hk : ∀ w', RdAt w' g (s.take n).2 → Only g w w' → k (.string (bs (s.take n).1)) w') :
    callW Tryd.prog (.func (.func 80) #[] #[]) [.pointer (some ⟨g, 0, none⟩), .int .i64 n] w k := by
  apply pack_Reader_take_call
  apply pack_Reader_take_run
  have hno : (s.bad = true ∨ s.b.length < n) → pack_Reader_take_J2 k [.pointer (some ⟨g, 0, none⟩)] w := fun hc => by
    simp only [pack_Reader_take_J2, iw_add, iw_sub, iw_mul, iw_lss, iw_leq, iw_gtr, iw_geq, iw_eql, iw_neq, iw_quo, iw_rem, un_not, len_s, len_l, nck_p, fld_p, cv_i, unc_c, ex_0, ex_1, ex_2, st_eq, st_ne, brV_true, brV_false, brV_b, brV_not, one_one, nil_p, nil_pn, nil_n, nil_nn, decide_eq_true_eq, true_and, nb_ite, bs_size, Nat.zero_add, Bool.not_true, Bool.not_false, Bool.false_eq_true, eq_self, if_true, if_false, jn, jn, pack_Reader_take_J4]
    refine stC_heap h (by simp) rfl fun w' h' ho => ?_
    have := hk w' (by unfold RdAt Rd.take; rw [if_pos hc]; simpa using h') ho
    rw [Rd.take, if_pos hc] at this
    exact this
  simp only [pack_Reader_take, iw_add, iw_sub, iw_mul, iw_lss, iw_leq, iw_gtr, iw_geq, iw_eql, iw_neq, iw_quo, iw_rem, un_not, len_s, len_l, nck_p, fld_p, cv_i, unc_c, ex_0, ex_1, ex_2, st_eq, st_ne, brV_true, brV_false, brV_b, brV_not, one_one, nil_p, nil_pn, nil_n, nil_nn, decide_eq_true_eq, true_and, nb_ite, bs_size, Nat.zero_add, Bool.not_true, Bool.not_false, Bool.false_eq_true, eq_self, if_true, if_false, jn, jn]
  refine ldC_heap h (v := .bool s.bad) rfl ?_
  simp only [iw_add, iw_sub, iw_mul, iw_lss, iw_leq, iw_gtr, iw_geq, iw_eql, iw_neq, iw_quo, iw_rem, un_not, len_s, len_l, nck_p, fld_p, cv_i, unc_c, ex_0, ex_1, ex_2, st_eq, st_ne, brV_true, brV_false, brV_b, brV_not, one_one, nil_p, nil_pn, nil_n, nil_nn, decide_eq_true_eq, true_and, nb_ite, bs_size, Nat.zero_add, Bool.not_true, Bool.not_false, Bool.false_eq_true, eq_self, if_true, if_false, jn]
  by_cases hb : s.bad = true
  · rw [if_pos hb]; exact hno (.inl hb)
  rw [if_neg hb]
  refine ldC_heap h (v := .string (bs s.b)) rfl ?_
  simp only [iw_add, iw_sub, iw_mul, iw_lss, iw_leq, iw_gtr, iw_geq, iw_eql, iw_neq, iw_quo, iw_rem, un_not, len_s, len_l, nck_p, fld_p, cv_i, unc_c, ex_0, ex_1, ex_2, st_eq, st_ne, brV_true, brV_false, brV_b, brV_not, one_one, nil_p, nil_pn, nil_n, nil_nn, decide_eq_true_eq, true_and, nb_ite, bs_size, Nat.zero_add, Bool.not_true, Bool.not_false, Bool.false_eq_true, eq_self, if_true, if_false, jn]
  by_cases hl2 : (s.b.length : Int) < (n : Int)
  · rw [if_pos hl2]; exact hno (.inr (by omega))
  rw [if_neg hl2]
  have hc : ¬ (s.bad = true ∨ s.b.length < n) := fun h => h.elim hb (fun h => by omega)
  refine ldC_heap h (v := .string (bs s.b)) rfl ?_
  simp only [slStr, natO, bs_size, Int.toNat_natCast, bs_extract]
  refine ⟨by omega, by omega, by omega, ?_⟩
  refine ldC_heap h (v := .string (bs s.b)) rfl ?_
  refine ⟨by omega, by rw [bs_size]; omega, Nat.le_refl _, ?_⟩
  simp only [bs_size, bs_extract]
  refine stC_heap h (by simp) rfl fun w' h' ho => ?_
  have hbf : s.bad = false := by simpa using hb
  have := hk w' (by unfold RdAt Rd.take; rw [if_neg hc]; simpa [hbf] using h') ho
  rw [Rd.take, if_neg hc] at this
  simpa using this
theorem get_from {w : World} {g n : Nat} {s : Rd} {k : Value → World → Prop} (h : RdAt w g s) (hn : n = 2 ∨ n = 4) (hl : s.b.length ≤ 1000000000)
    (hk : ∀ w', RdAt w' g (s.take n).2 → Only g w w' → k (.int .i64 (ofB (s.take n).1 : Nat)) w') :
    callW Tryd.prog (.func (.func 79) #[] #[]) [.pointer (some ⟨g, 0, none⟩), .int .i64 n] w k := by
  apply pack_Reader_get_call
  apply pack_Reader_get_run
  simp only [pack_Reader_get]
  refine take_from h (by omega) hl fun w1 h1 ho1 => ?_
  have hlen := s.take_len n
  have hk := hk w1 h1 ho1
  generalize (s.take n).1 = l at *
  simp only [iw_add, iw_sub, iw_mul, iw_lss, iw_leq, iw_gtr, iw_geq, iw_eql, iw_neq, iw_quo, iw_rem, un_not, len_s, len_l, nck_p, fld_p, cv_i, unc_c, ex_0, ex_1, ex_2, st_eq, st_ne, brV_true, brV_false, brV_b, brV_not, one_one, nil_p, nil_pn, nil_n, nil_nn, decide_eq_true_eq, true_and, nb_ite, bs_size, Nat.zero_add, Bool.not_true, Bool.not_false, Bool.false_eq_true, eq_self, if_true, if_false, jn]
  refine lp_ind _ (fun (m : Nat) r w2 => r = [.int .i64 (ofB (l.take (l.length - m)) : Nat), .string (bs l), .int .i64 l.length, .int .i64 ((l.length - m : Nat) : Int)] ∧ m ≤ l.length ∧ w2 = w1) id ?_ (i := l.length) ⟨by simp [ofB], Nat.le_refl _, rfl⟩
  rintro m r w2 rec ⟨rfl, hm, rfl⟩ ih
  simp only [pack_Reader_get_L4, unc, intW, true_and, brV_dec]
  by_cases h0 : m = 0
  · subst h0
    rw [if_neg (by omega)]
    simpa using hk
  obtain ⟨m, rfl⟩ : ∃ q, m = q + 1 := ⟨m - 1, by omega⟩
  rw [if_pos (by omega)]
  have hlt : l.length - (m + 1) < l.length := by omega
  have hb := ofB_lt (l.take (l.length - (m + 1)))
  have hb2 : ofB (l.take (l.length - (m + 1))) < 256 ^ 6 := Nat.lt_of_lt_of_le hb (Nat.pow_le_pow_right (by decide) (by simp; omega))
  have hx := (l[l.length - (m + 1)]).toNat_lt
  have e0 : ((ofB (l.take (l.length - (m + 1))) : Nat) : Int) * 2 ^ (min (Int.toNat 8) 64) = ((ofB (l.take (l.length - (m + 1))) * 256 : Nat) : Int) := by
    rw [show min (Int.toNat 8) 64 = 8 from rfl]; omega
  simp only [shW, IntKind.bits, e0, wrap64 (show -9223372036854775808 ≤ ((ofB (l.take (l.length - (m + 1))) * 256 : Nat) : Int) by omega) (by omega)]
  refine ⟨by decide, ?_⟩
  simp only [ixStr, bs_get, Int.toNat_natCast, List.getElem?_eq_getElem hlt, Option.some.injEq]
  refine ⟨_, by omega, rfl, ?_⟩
  simp only [cvI, true_and, wrap64 (show -9223372036854775808 ≤ ((l[l.length - (m + 1)]).toNat : Int) by omega) (by omega), or_nat _ _ (show ofB (l.take (l.length - (m + 1))) * 256 < 9223372036854775808 by omega) hx]
  rw [wrap64 (by omega) (by omega)]
  refine ih m _ _ (by simp) ⟨?_, by omega, rfl⟩
  have e3 : l.length - m = l.length - (m + 1) + 1 := by omega
  rw [e3, List.take_add_one, List.getElem?_eq_getElem hlt]
  simp only [Option.toList_some, ofB_append]
  congr 4
abbrev rNum (g : Nat) : Value := .func (.func 40) #[.pointer (some ⟨g, 0, none⟩)] #[]
abbrev rLong (g : Nat) : Value := .func (.func 41) #[.pointer (some ⟨g, 0, none⟩)] #[]
abbrev rText (g : Nat) : Value := .func (.func 42) #[.pointer (some ⟨g, 0, none⟩)] #[]
theorem rnum_calls {w : World} {g : Nat} {s : Rd} {k : Value → World → Prop} (h : RdAt w g s) (hl : s.b.length ≤ 1000000000) (hk : ∀ w', RdAt w' g s.num.2 → Only g w w' → k (.int .i64 s.num.1) w') :
    Calls Tryd.prog 40 #[.pointer (some ⟨g, 0, none⟩)] w (rt k) := by
  apply pack_Reader_Num_run
  simp only [pack_Reader_Num]
  exact get_from (n := 2) h (.inl rfl) hl hk
theorem rnum_from {w : World} {g : Nat} {s : Rd} {k : Value → World → Prop} (h : RdAt w g s) (hl : s.b.length ≤ 1000000000) (hk : ∀ w', RdAt w' g s.num.2 → Only g w w' → k (.int .i64 s.num.1) w') :
    callW Tryd.prog (rNum g) [] w k := ⟨by kernel_rfl, rnum_calls h hl hk⟩
theorem rlong_from {w : World} {g : Nat} {s : Rd} {k : Value → World → Prop} (h : RdAt w g s) (hl : s.b.length ≤ 1000000000) (hk : ∀ w', RdAt w' g s.long.2 → Only g w w' → k (.int .i64 s.long.1) w') :
    callW Tryd.prog (rLong g) [] w k := by
  refine ⟨by kernel_rfl, ?_⟩
  show Calls Tryd.prog 41 #[.pointer (some ⟨g, 0, none⟩)] w (rt k)
  apply pack_Reader_Long_run
  simp only [pack_Reader_Long]
  exact get_from (n := 4) h (.inr rfl) hl hk
theorem rtext_from {w : World} {g : Nat} {s : Rd} {k : Value → World → Prop} (h : RdAt w g s) (hl : s.b.length ≤ 1000000000) (hk : ∀ w', RdAt w' g s.text.2 → Only g w w' → k (.string (bs s.text.1)) w') :
    callW Tryd.prog (rText g) [] w k := by
  refine ⟨by kernel_rfl, ?_⟩
  show Calls Tryd.prog 42 #[.pointer (some ⟨g, 0, none⟩)] w (rt k)
  apply pack_Reader_Text_run
  simp only [pack_Reader_Text]
  refine pack_Reader_Num_call (rnum_calls h hl fun w1 h1 ho1 => ?_)
  have hn := s.num_lt
  have hle : s.num.2.b.length ≤ s.b.length := s.take_le 2
  have := take_from (n := s.num.1.toNat) (k := fun v w => k v w) h1 (by omega) (by omega) fun w2 h2 ho2 => hk w2 h2 (ho1.tr ho2)
  rwa [Int.toNat_of_nonneg hn.1] at this
theorem rbad_from {w : World} {g : Nat} {s : Rd} {k : Value → World → Prop} (h : RdAt w g s) (hk : k (.bool s.bad) w) :
    callW Tryd.prog (.func (.func 44) #[] #[]) [.pointer (some ⟨g, 0, none⟩)] w k := by
  apply pack_Reader_Bad_call
  apply pack_Reader_Bad_run
  simp only [pack_Reader_Bad, iw_add, iw_sub, iw_mul, iw_lss, iw_leq, iw_gtr, iw_geq, iw_eql, iw_neq, iw_quo, iw_rem, un_not, len_s, len_l, nck_p, fld_p, cv_i, unc_c, ex_0, ex_1, ex_2, st_eq, st_ne, brV_true, brV_false, brV_b, brV_not, one_one, nil_p, nil_pn, nil_n, nil_nn, decide_eq_true_eq, true_and, nb_ite, bs_size, Nat.zero_add, Bool.not_true, Bool.not_false, Bool.false_eq_true, eq_self, if_true, if_false, jn]
  exact ldC_heap h (v := .bool s.bad) rfl hk
theorem From_from {w : World} {b : List UInt8} {k : Value → World → Prop} (hk : ∀ g w', Later w w' → g = w.heap.size → RdAt w' g ⟨b, false⟩ → k (.pointer (some ⟨g, 0, none⟩)) w') :
    callW Tryd.prog (.func (.func 39) #[] #[]) [.string (bs b)] w k := by
  apply pack_From_call
  apply pack_From_run
  simp only [pack_From, fillL, Instr.fill, Value.cells]
  refine al_lit fun g W hL hg hs => hk g W hL hs ?_
  exact hg
end Go.Proofs.YtlicdhdpngahgaaDoor
