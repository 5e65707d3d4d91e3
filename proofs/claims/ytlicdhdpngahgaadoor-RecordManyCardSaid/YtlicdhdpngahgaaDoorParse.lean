/- Bytes as a record: what is meant; record.Get's state; its lists of numbers. -/
import Derived.Test.YtlicdhdpngahgaaDoorRead
set_option linter.unusedVariables false
set_option linter.unusedSimpArgs false
namespace Go.Proofs.YtlicdhdpngahgaaDoor
open Go.Eng Go.RowKit
def rep {α : Type} (f : Rd → α × Rd) : Nat → Rd → List α × Rd
  | 0, s => ([], s)
  | n + 1, s => if s.bad = true then ([], s) else ((f s).1 :: (rep f n (f s).2).1, (rep f n (f s).2).2)
theorem rep_ok {α : Type} {f : Rd → α × Rd} {n : Nat} {s : Rd} (h : ¬ s.bad = true) : rep f (n + 1) s = ((f s).1 :: (rep f n (f s).2).1, (rep f n (f s).2).2) := by
  rw [rep, if_neg h]
theorem rep_bad {α : Type} {f : Rd → α × Rd} {n : Nat} {s : Rd} (h : s.bad = true) : rep f n s = ([], s) := by
  cases n with
  | zero => rfl
  | succ n => rw [rep, if_pos h]
def Rd.nums (s : Rd) : List Int × Rd := rep Rd.num s.num.1.toNat s.num.2
def Rd.pat (s : Rd) : Pat × Rd := (⟨s.num.1, s.num.2.num.1, s.num.2.num.2.text.1⟩, s.num.2.num.2.text.2)
def Rd.txi (s : Rd) : Txi × Rd := (⟨s.num.1, s.num.2.long.1, decide (s.num.2.long.2.num.1 = 1), s.num.2.long.2.num.2.nums.1⟩, s.num.2.long.2.num.2.nums.2)
def Rd.dirt (s : Rd) : (Int × Int) × Rd := ((s.num.1, s.num.2.long.1), s.num.2.long.2)
def Rd.rep2 {α : Type} (s : Rd) (f : Rd → α × Rd) : List α × Rd := rep f s.num.1.toNat s.num.2
/-- The states ahead of each list. -/
def hd1 (b : List UInt8) : Rd := ⟨b, false⟩
def hd2 (b : List UInt8) : Rd := (hd1 b).num.2
def hd3 (b : List UInt8) : Rd := (hd2 b).num.2
def hd4 (b : List UInt8) : Rd := (hd3 b).long.2
def hd5 (b : List UInt8) : Rd := (hd4 b).long.2
def hd6 (b : List UInt8) : Rd := (hd5 b).text.2
def hd7 (b : List UInt8) : Rd := (hd6 b).num.2
def hd8 (b : List UInt8) : Rd := (hd7 b).text.2
def hd9 (b : List UInt8) : Rd := (hd8 b).text.2
def hd10 (b : List UInt8) : Rd := (hd9 b).num.2
def hd11 (b : List UInt8) : Rd := (hd10 b).num.2
def ps1 (b : List UInt8) : Rd := (hd11 b).nums.2
def ps2 (b : List UInt8) : Rd := ((ps1 b).rep2 Rd.pat).2
def ps3 (b : List UInt8) : Rd := ((ps2 b).rep2 Rd.txi).2
def ps4 (b : List UInt8) : Rd := ((ps3 b).rep2 Rd.dirt).2
def parse (b : List UInt8) : Rec := ⟨(hd1 b).num.1, (hd2 b).num.1, (hd3 b).long.1, (hd4 b).long.1, (hd5 b).text.1, decide ((hd6 b).num.1 = 1), (hd7 b).text.1, (hd8 b).text.1, (hd9 b).num.1, (hd10 b).num.1, (hd11 b).nums.1, ((ps1 b).rep2 Rd.pat).1, ((ps2 b).rep2 Rd.txi).1, ((ps3 b).rep2 Rd.dirt).1⟩
def getOk (b : List UInt8) : Prop := (ps4 b).bad = false ∧ (parse b).ok ∧ putB (parse b) = b
instance (b : List UInt8) : Decidable (getOk b) := by unfold getOk; exact inferInstance
theorem num_le (s : Rd) : s.num.2.b.length ≤ s.b.length := s.take_le 2
theorem long_le (s : Rd) : s.long.2.b.length ≤ s.b.length := s.take_le 4
theorem text_le (s : Rd) : s.text.2.b.length ≤ s.b.length := Nat.le_trans (s.num.2.take_le _) (num_le s)
theorem rep_le {α : Type} {f : Rd → α × Rd} (hf : ∀ s, (f s).2.b.length ≤ s.b.length) : ∀ (n : Nat) (s : Rd), (rep f n s).2.b.length ≤ s.b.length
  | 0, s => Nat.le_refl _
  | n + 1, s => by
    unfold rep
    split
    · exact Nat.le_refl _
    · exact Nat.le_trans (rep_le hf n _) (hf s)
theorem rep_len {α : Type} {f : Rd → α × Rd} : ∀ (n : Nat) (s : Rd), (rep f n s).1.length ≤ n
  | 0, s => Nat.le_refl _
  | n + 1, s => by
    unfold rep
    split
    · exact Nat.zero_le _
    · have := rep_len (f := f) n (f s).2
      simp only [List.length_cons]
      omega
theorem nums_le (s : Rd) : s.nums.2.b.length ≤ s.b.length := Nat.le_trans (rep_le num_le _ _) (num_le s)
theorem nums_cnt (s : Rd) : s.nums.1.length ≤ 65535 := Nat.le_trans (rep_len _ _) (by have := s.num_lt; omega)
theorem pat_le (s : Rd) : s.pat.2.b.length ≤ s.b.length := Nat.le_trans (text_le _) (Nat.le_trans (num_le _) (num_le s))
theorem txi_le (s : Rd) : s.txi.2.b.length ≤ s.b.length := Nat.le_trans (nums_le _) (Nat.le_trans (num_le _) (Nat.le_trans (long_le _) (num_le s)))
theorem dirt_le (s : Rd) : s.dirt.2.b.length ≤ s.b.length := Nat.le_trans (long_le _) (num_le s)
/-- The state of record.Get: its blocks, all ahead of a0. -/
structure Gt (w0 w : World) (a0 t2 g t4 t5 t9 : Nat) (s : Rd) (cs : Array Value) : Prop where
  below : Below w0.heap.size w0 w
  z2 : ∃ c2 : Array Value, c2.size = 14 ∧ w.heap[t2]? = some (.cells c2 29 (0, 0))
  rd : RdAt w g s
  b4 : w.heap[t4]? = some (.cells #[.pointer (some ⟨g, 0, none⟩)] 69 (0, 0))
  b5 : w.heap[t5]? = some (.cells #[rNum g] 56 (0, 0))
  b9 : w.heap[t9]? = some (.cells cs 29 (0, 0))
  size : cs.size = 14
  lo2 : w0.heap.size ≤ t2
  log : t2 < g
  lo4 : g < t4
  lo5 : t4 < t5
  lo9 : t5 < t9
  lo0 : t9 < a0
  a0le : a0 ≤ w.heap.size
theorem Gt.far {w0 w w' : World} {a0 t2 g t4 t5 t9 : Nat} {s : Rd} {cs : Array Value} (h : Gt w0 w a0 t2 g t4 t5 t9 s cs) (hb : Below w0.heap.size w w') (hs : ∀ (q : Nat) (o : Obj), q < a0 → w.heap[q]? = some o → w'.heap[q]? = some o) : Gt w0 w' a0 t2 g t4 t5 t9 s cs := by
  have h1 := h.log
  have h2 := h.lo4
  have h3 := h.lo5
  have h4 := h.lo9
  have h5 := h.lo0
  refine ⟨h.below.trans hb, ?_, hs _ _ (by omega) h.rd, hs _ _ (by omega) h.b4, hs _ _ (by omega) h.b5, hs _ _ (by omega) h.b9, h.size, h.lo2, h.log, h.lo4, h.lo5, h.lo9, h.lo0, Nat.le_trans h.a0le hb.size⟩
  obtain ⟨c2, e1, e2⟩ := h.z2
  exact ⟨c2, e1, hs _ _ (by omega) e2⟩
theorem Gt.later {w0 w w' : World} {a0 t2 g t4 t5 t9 : Nat} {s : Rd} {cs : Array Value} (h : Gt w0 w a0 t2 g t4 t5 t9 s cs) (hL : Later w w') : Gt w0 w' a0 t2 g t4 t5 t9 s cs :=
  h.far (hL.mono h.below.size) fun q o _ ho => hL.heap ho
theorem Gt.rdr {w0 w w' : World} {a0 t2 g t4 t5 t9 : Nat} {s s' : Rd} {cs : Array Value} (h : Gt w0 w a0 t2 g t4 t5 t9 s cs) (hr : RdAt w' g s') (ho : Only g w w') : Gt w0 w' a0 t2 g t4 t5 t9 s' cs := by
  have h1 := h.log
  have h2 := h.lo4
  have h3 := h.lo5
  have h4 := h.lo9
  have h0 := h.lo2
  refine ⟨h.below.trans (ho.below _ (by omega)), ?_, hr, by rw [ho.other _ (by omega)]; exact h.b4, by rw [ho.other _ (by omega)]; exact h.b5, by rw [ho.other _ (by omega)]; exact h.b9, h.size, h.lo2, h.log, h.lo4, h.lo5, h.lo9, h.lo0, by rw [ho.size]; exact h.a0le⟩
  obtain ⟨c2, e1, e2⟩ := h.z2
  exact ⟨c2, e1, by rw [ho.other _ (by omega)]; exact e2⟩
/-- A field of the record is set. -/
theorem Gt.set {w0 w : World} {a0 t2 g t4 t5 t9 i : Nat} {s : Rd} {cs : Array Value} {u : Value} {k : World → Prop} (h : Gt w0 w a0 t2 g t4 t5 t9 s cs) (hi : i < 14) (hu : isCell u = true)
    (hk : ∀ w', Gt w0 w' a0 t2 g t4 t5 t9 s (cs.setIfInBounds i u) → Only t9 w w' → k w') : stC (.pointer (some ⟨t9, i, none⟩)) u w k := by
  have h1 := h.log
  have h2 := h.lo4
  have h3 := h.lo5
  have h4 := h.lo9
  have h0 := h.lo2
  refine stC_heap h.b9 (by rw [h.size]; exact hi) hu fun w' hw' ho => hk w' ⟨h.below.trans (ho.below _ (by omega)), ?_, (ho.other _ (by omega)).trans h.rd, by rw [ho.other _ (by omega)]; exact h.b4, by rw [ho.other _ (by omega)]; exact h.b5, hw', by simpa using h.size, h.lo2, h.log, h.lo4, h.lo5, h.lo9, h.lo0, by rw [ho.size]; exact h.a0le⟩ ho
  obtain ⟨c2, e1, e2⟩ := h.z2
  exact ⟨c2, e1, by rw [ho.other _ (by omega)]; exact e2⟩
theorem Gt.num {w0 w : World} {a0 t2 g t4 t5 t9 : Nat} {s : Rd} {cs : Array Value} {k : Value → World → Prop} (h : Gt w0 w a0 t2 g t4 t5 t9 s cs) (hl : s.b.length ≤ 1000000000) (hk : ∀ w', Gt w0 w' a0 t2 g t4 t5 t9 s.num.2 cs → Only g w w' → k (.int .i64 s.num.1) w') : callW Tryd.prog (rNum g) [] w k :=
  rnum_from h.rd hl fun w' hr ho => hk w' (h.rdr hr ho) ho
theorem Gt.long {w0 w : World} {a0 t2 g t4 t5 t9 : Nat} {s : Rd} {cs : Array Value} {k : Value → World → Prop} (h : Gt w0 w a0 t2 g t4 t5 t9 s cs) (hl : s.b.length ≤ 1000000000) (hk : ∀ w', Gt w0 w' a0 t2 g t4 t5 t9 s.long.2 cs → Only g w w' → k (.int .i64 s.long.1) w') : callW Tryd.prog (rLong g) [] w k :=
  rlong_from h.rd hl fun w' hr ho => hk w' (h.rdr hr ho) ho
theorem Gt.text {w0 w : World} {a0 t2 g t4 t5 t9 : Nat} {s : Rd} {cs : Array Value} {k : Value → World → Prop} (h : Gt w0 w a0 t2 g t4 t5 t9 s cs) (hl : s.b.length ≤ 1000000000) (hk : ∀ w', Gt w0 w' a0 t2 g t4 t5 t9 s.text.2 cs → Only g w w' → k (.string (bs s.text.1)) w') : callW Tryd.prog (rText g) [] w k :=
  rtext_from h.rd hl fun w' hr ho => hk w' (h.rdr hr ho) ho
abbrev rNums (t5 t4 : Nat) : Value := .func (.func 43) #[] #[.pointer (some ⟨t5, 0, none⟩), .pointer (some ⟨t4, 0, none⟩)]
/-- Nothing behind a0 that was there has turned. -/
def Tail (a0 : Nat) (w w' : World) : Prop := w.heap.size ≤ w'.heap.size ∧ ∀ q, a0 ≤ q → q < w.heap.size → w'.heap[q]? = w.heap[q]?
theorem Tail.refl (a0 : Nat) (w : World) : Tail a0 w w := ⟨Nat.le_refl _, fun _ _ _ => rfl⟩
theorem Tail.tr {a0 : Nat} {a b c : World} (h : Tail a0 a b) (k : Tail a0 b c) : Tail a0 a c := ⟨Nat.le_trans h.1 k.1, fun q h1 h2 => (k.2 q h1 (Nat.lt_of_lt_of_le h2 h.1)).trans (h.2 q h1 h2)⟩
theorem Tail.only {a0 g : Nat} {w w' : World} (h : Only g w w') (hg : g < a0) : Tail a0 w w' := ⟨by rw [h.size]; exact Nat.le_refl _, fun q h1 _ => h.other q (by omega)⟩
theorem Tail.later {a0 : Nat} {w w' : World} (h : Later w w') : Tail a0 w w' := ⟨h.size, fun q _ h2 => h.block q h2⟩
theorem Tail.row {a0 B e sz n : Nat} {w w' : World} {v : Value} {xs : List Value} (h : Tail a0 w w') (hr : w.ownsRow B e sz v n xs) (hB : a0 ≤ B) : w'.ownsRow B e sz v n xs :=
  ownsRow_block hr fun q hq => h.2 q (by have := (hr.lt q hq).1; omega) (hr.lt q hq).2
theorem Gt.nums {w0 w : World} {a0 t2 g t4 t5 t9 : Nat} {s : Rd} {cs : Array Value} {k : Value → World → Prop} (h : Gt w0 w a0 t2 g t4 t5 t9 s cs) (hl : s.b.length ≤ 1000000000)
    (hk : ∀ v w', Gt w0 w' a0 t2 g t4 t5 t9 s.nums.2 cs → Tail a0 w w' → w'.ownsRow w.heap.size 3 1 v s.nums.1.length (ix s.nums.1) → k v w') : callW Tryd.prog (rNums t5 t4) [] w k := by
  refine ⟨by kernel_rfl, ?_⟩
  show Calls Tryd.prog 43 #[.pointer (some ⟨t5, 0, none⟩), .pointer (some ⟨t4, 0, none⟩)] w (rt k)
  apply record_Get_1_run
  simp only [record_Get_1]
  have hg0 : g < a0 := by have := h.lo4; have := h.lo5; have := h.lo9; have := h.lo0; omega
  refine ldC_heap h.b5 (v := rNum g) rfl (h.num hl fun w1 h1 ho1 => ?_)
  have hn := s.num_lt
  obtain ⟨n, hn'⟩ : ∃ n : Nat, s.num.1 = (n : Int) := ⟨s.num.1.toNat, by omega⟩
  have hsn : s.nums = rep Rd.num n s.num.2 := by unfold Rd.nums; rw [hn', Int.toNat_natCast]
  rw [hn']
  have hle := num_le s
  refine lp_ind _ (fun (m : Nat) x w2 => ∃ (o : Value) (out : List Int) (s2 : Rd), x = [.pointer (some ⟨t5, 0, none⟩), .pointer (some ⟨t4, 0, none⟩), o, .int .i64 (m : Int)] ∧ m ≤ n ∧ s2.b.length ≤ s.b.length ∧ s.nums = (out ++ (rep Rd.num m s2).1, (rep Rd.num m s2).2) ∧ out.length + m ≤ 65535 ∧ Gt w0 w2 a0 t2 g t4 t5 t9 s2 cs ∧ Tail a0 w w2 ∧ w2.ownsRow w.heap.size 3 1 o out.length (ix out)) id ?_ (i := n)
    ⟨.slice none 0 0, [], s.num.2, rfl, Nat.le_refl _, hle, by rw [hsn]; simp, by simp; omega, h1, Tail.only ho1 hg0, by simpa [ix] using World.ownsRow_nil w1 w.heap.size 3 1⟩
  rintro m x w2 rec ⟨o, out, s2, rfl, hm, hs2, heq, hlen, h2, htl, hrow⟩ ih
  simp only [record_Get_1_L3, iw_add, iw_sub, iw_mul, iw_lss, iw_leq, iw_gtr, iw_geq, iw_eql, iw_neq, iw_quo, iw_rem, un_not, len_s, len_l, nck_p, fld_p, cv_i, unc_c, ex_0, ex_1, ex_2, st_eq, st_ne, brV_true, brV_false, brV_b, brV_not, one_one, nil_p, nil_pn, nil_n, nil_nn, decide_eq_true_eq, true_and, nb_ite, bs_size, Nat.zero_add, Bool.not_true, Bool.not_false, Bool.false_eq_true, eq_self, if_true, if_false, jn, jn, record_Get_1_J6]
  by_cases h0 : m = 0
  · subst h0
    rw [if_neg (by decide)]
    have : s.nums = (out, s2) := by rw [heq]; simp [rep]
    rw [this] at hk
    exact hk o w2 h2 htl hrow
  obtain ⟨m, rfl⟩ : ∃ q, m = q + 1 := ⟨m - 1, by omega⟩
  rw [if_pos (by omega)]
  refine ldC_heap h2.b4 (v := .pointer (some ⟨g, 0, none⟩)) rfl (rbad_from h2.rd ?_)
  simp only [iw_add, iw_sub, iw_mul, iw_lss, iw_leq, iw_gtr, iw_geq, iw_eql, iw_neq, iw_quo, iw_rem, un_not, len_s, len_l, nck_p, fld_p, cv_i, unc_c, ex_0, ex_1, ex_2, st_eq, st_ne, brV_true, brV_false, brV_b, brV_not, one_one, nil_p, nil_pn, nil_n, nil_nn, decide_eq_true_eq, true_and, nb_ite, bs_size, Nat.zero_add, Bool.not_true, Bool.not_false, Bool.false_eq_true, eq_self, if_true, if_false, jn]
  by_cases hb : s2.bad = true
  · have : s.nums = (out, s2) := by rw [heq]; unfold rep; rw [if_pos hb]; simp
    rw [if_pos hb]
    rw [this] at hk
    exact hk o w2 h2 htl hrow
  rw [if_neg hb]
  refine ldC_heap h2.b5 (v := rNum g) rfl (h2.num (by omega) fun w3 h3 ho3 => ?_)
  have ht3 := htl.tr (Tail.only ho3 hg0)
  have hr3 : w3.ownsRow w.heap.size 3 1 o out.length (ix out) := (Tail.only ho3 hg0).row hrow h.a0le
  have hs3 := ho3.size
  have hs2w := htl.1
  refine blS_one rfl ?_
  refine app T_ints (hr3.alloc _) (one_int _ _) (by simp only [maxLen]; omega) (by omega) (by simp; omega) fun v4 w4 hr4 hg4 hat4 _ => ?_
  have hs4 : w3.heap.size + 1 ≤ w4.heap.size := by have := hg4.size; simpa using this
  rw [wrap64 (by omega) (by omega)]
  have hob : ∀ q, o.ownBlock = some q → w.heap.size ≤ q := fun q hq => (hr3.lt q hq).1
  have ha0 := h.a0le
  have far4 : ∀ q : Nat, q < w3.heap.size → o.ownBlock ≠ some q → w4.heap[q]? = w3.heap[q]? := fun q hq hne => by
    rw [hg4.block q (by simp; omega) (fun e => hne e.symm)]
    exact Below.heap_alloc w3 _ q hq
  have hw0 := h.below.size
  have hb34 : Below w0.heap.size w3 w4 := ((Below.refl _ w3).alloc (by omega) _).grown hg4 (by simp; omega) (fun q hq => by have := hob q hq; omega)
  refine ih m _ _ (by simp) ⟨v4, out ++ [s2.num.1], s2.num.2, by rw [show ((m + 1 : Nat) : Int) - 1 = (m : Int) by omega], by omega, Nat.le_trans (num_le s2) hs2, ?_, by simp; omega, h3.far hb34 (fun q o' hq ho' => ?_), ⟨by omega, fun q h1' h2' => ?_⟩, ?_⟩
  · rw [heq, rep_ok hb]
    simp
  · rw [far4 q (lt_of_heap ho') (fun e => by have := hob q e; omega)]; exact ho'
  · rw [far4 q (by omega) (fun e => by have := hob q e; omega)]
    exact ht3.2 q h1' h2'
  · rw [List.length_append, ix_append]; exact hr4
end Go.Proofs.YtlicdhdpngahgaaDoor
