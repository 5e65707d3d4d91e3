/- frame.bytes: records, each behind its length. -/
import Derived.Test.YtlicdhdpngahgaaGreatFr
import Derived.Test.YtlicdhdpngahgaaGreatBuild
set_option linter.unusedVariables false
set_option linter.unusedSimpArgs false
namespace Go.Proofs.YtlicdhdpngahgaaGreat
open Go.Eng Go.RowKit
abbrev BuiltAt (B b : Nat) (p : Value) (l : List UInt8) (w : World) : Prop := Lib.BuilderAt 94 5 B b p (bc l) w
abbrev Built (B b : Nat) (l : List UInt8) (w : World) : Prop := Lib.IsBuilder 94 5 B b (bc l) w
theorem bc_length (l : List UInt8) : (bc l).length = l.length := by simp [bc]
theorem WriteString_spec {B b : Nat} {l s : List UInt8} {w : World} {k : Value → World → Prop} (h : Built B b l w) (hlen : l.length + s.length ≤ 140737488355328) (hB : B ≤ w.heap.size)
    (hk : ∀ w', Below B w w' → Built B b (l ++ s) w' → k (.tuple #[.int .i64 s.length, .nilIface]) w') : Calls Tryz.prog 73 #[.pointer (some ⟨b, 0, none⟩), .string (bs s)] w (rt k) := by
  apply strings_Builder_WriteString_run
  simp only [strings_Builder_WriteString]
  refine ⟨by kernel_rfl, ?_⟩
  refine calls_rt (copyCheck_spec B b (bc l) w h) ?_
  rintro e W ⟨rfl, hat, hW⟩
  refine ⟨_, rfl, ?_⟩
  obtain ⟨hBb, v, hb, hown, hne⟩ := hat
  rw [bc_length] at hown
  have c1 : W.cell? ⟨b, 1, none⟩ = some v := by rw [heap_cell hb]; rfl
  simp only [intW, true_and, brV_true, brV_false, brV_b, brV_not, decide_eq_true_eq, beq_iff_eq, bne_iff_ne, nckW, fld, cvI, lenStr, lenSl, exW, unW, bs_size, addA, Nat.zero_add, Nat.add_zero, unc, jn, ldC, c1, Option.some.injEq, exists_eq_left']
  have hsrc : Src Tryz.prog 1 9 (.string (bs s)) s.length (bc s) W := by
    have := Src.ofString W U_string (bs s)
    rwa [byteCells_bs, bs_size] at this
  refine app T_bytes hown hsrc (by simp only [maxLen]; omega) (by omega) (Nat.le_trans hB hW.size) fun v' W' hown' hg hat' hnn => ?_
  have hbl : b < W.heap.size := lt_of_heap hb
  have hb' : W'.heap[b]? = some (.cells #[.pointer (some ⟨b, 0, none⟩), v] 94 (0, 0)) := by
    rw [hg.block b hbl (fun e => hne e.symm)]; exact hb
  simp only [stC, st1, addA, Nat.add_zero]
  have hcell : v'.oneCell' = true ∧ isCell v' = true := by
    rcases hown'.2 with ⟨rfl, _⟩ | ⟨g, cap, cur, rfl, _⟩ <;> exact ⟨rfl, rfl⟩
  refine ⟨⟨v, by rw [heap_cell hb']; rfl⟩, heap_frozen hb', hcell.2, ?_⟩
  have hne' : v'.ownBlock ≠ some b := by
    rcases hat' with e | e
    · rw [e]; exact hne
    · rw [e]; intro e2; injection e2 with e2; omega
  have hbel : Below B W W' := (Below.refl B W).grown hg (Nat.le_trans hB hW.size) (fun k hk => (hown.lt k hk).1)
  refine hk _ ((hW.trans hbel).setCell (p := ⟨b, 1, none⟩) hBb _) (.inr ⟨hBb, v', ?_, ?_, hne'⟩)
  · rw [setCell_heap hb']; rfl
  · rw [bc_length, List.length_append]
    refine ownsRow_block (bc_append _ _ ▸ hown') fun g hg' => Below.heap_setCell _ _ _ _ ?_
    intro e
    exact hne' (by rw [hg', e])
theorem String_from {B b : Nat} {l : List UInt8} {w : World} {k : Value → World → Prop} (h : Built B b l w) (hB : B ≤ w.heap.size) (hk : ∀ w', Below B w w' → k (.string (bs l)) w') :
    callW Tryz.prog (.func (.func 75) #[] #[]) [.pointer (some ⟨b, 0, none⟩)] w k := by
  refine ⟨by kernel_rfl, ?_⟩
  refine calls_rt (Tryz.Builder_String_any B b l w h hB) ?_
  rintro e W ⟨rfl, hW⟩
  exact ⟨_, rfl, hk _ hW⟩

/-- The bytes of records; none: one may not be. -/
def recOk (r : List UInt8) : Prop := r ≠ [] ∧ r.length ≤ 65535
instance (r : List UInt8) : Decidable (recOk r) := by unfold recOk; exact inferInstance
def flat (l : List (List UInt8)) : List UInt8 := (l.map fun r => be 2 r.length ++ r).flatten
def strm (l : List (List UInt8)) : List UInt8 := if ∀ r ∈ l, recOk r then flat l else []
def lens (l : List (List UInt8)) : Nat := (l.map fun r => 2 + r.length).sum
theorem flat_length (l : List (List UInt8)) : (flat l).length = lens l := by
  induction l with
  | nil => rfl
  | cons r l ih => simp only [flat, lens, List.map_cons, List.flatten_cons, List.sum_cons, List.length_append, be_length] at ih ⊢; omega
theorem flat_append (a b : List (List UInt8)) : flat (a ++ b) = flat a ++ flat b := by simp [flat]
/-- A list of texts, as cells. -/
def tx (l : List (List UInt8)) : List Value := l.map fun r => .string (bs r)
@[simp] theorem tx_length (l : List (List UInt8)) : (tx l).length = l.length := by simp [tx]
theorem tx_get {l : List (List UInt8)} {i : Nat} (h : i < l.length) : (tx l)[i]? = some (.string (bs l[i])) := by simp [tx, h]
theorem lens_take {l : List (List UInt8)} {i : Nat} (h : i < l.length) : lens (l.take i) + (2 + l[i].length) = lens (l.take (i + 1)) := by
  simp only [lens, List.take_add_one, List.getElem?_eq_getElem h, List.map_append, List.sum_append, Option.toList_some, List.map_cons, List.map_nil, List.sum_cons, List.sum_nil]
  omega
theorem lens_ge (l : List (List UInt8)) : 2 * l.length ≤ lens l := by
  induction l with
  | nil => exact Nat.le_refl _
  | cons r l ih => simp only [lens, List.map_cons, List.sum_cons, List.length_cons] at ih ⊢; omega
theorem lens_le (l : List (List UInt8)) (i : Nat) : lens (l.take i) ≤ lens l := by
  have : lens l = lens (l.take i) + lens (l.drop i) := by rw [lens, lens, lens, ← List.sum_append, ← List.map_append, List.take_append_drop]
  omega

theorem bytes_spec {l : List (List UInt8)} {v : Value} {w : World} {k : Value → World → Prop} (hv : Lst w v l.length (tx l)) (hsum : lens l ≤ 140737488355328) (hk : ∀ w', Later w w' → k (.string (bs (strm l))) w') :
    Calls Tryz.prog 31 #[v] w (rt k) := by
  apply frame_bytes_run
  simp only [frame_bytes]
  refine al_lit fun b W hL hb hbs => ?_
  refine hv.len ?_
  refine lp_ind _ (fun (m : Nat) r w1 => r = [.pointer (some ⟨b, 0, none⟩), v, .int .i64 l.length, .int .i64 ((l.length - m : Nat) : Int)] ∧ m ≤ l.length ∧ (∀ r ∈ l.take (l.length - m), recOk r) ∧ Built w.heap.size b (flat (l.take (l.length - m))) w1 ∧ Later w w1) id ?_ (i := l.length)
    ⟨by simp, Nat.le_refl _, by simp, by rw [show l.take (l.length - l.length) = [] by simp]; exact Or.inl ⟨by omega, _, hb, World.ownsRow_nil _ _ _ _, by simp [Value.ownBlock]⟩, hL⟩
  rintro m r w1 rec ⟨rfl, hm, hok, hbu, hL1⟩ ih
  simp only [frame_bytes_L3, unc, intW, true_and, brV_b, decide_eq_true_eq]
  have hs1 := hL1.size
  by_cases h0 : m = 0
  · subst h0
    rw [if_neg (by omega)]
    refine String_from hbu hs1 fun w' hw' => ?_
    have := hk w' (hL1.trans hw')
    rw [strm, if_pos (by simpa using hok)] at this
    simpa using this
  · obtain ⟨m, rfl⟩ : ∃ q, m = q + 1 := ⟨m - 1, by omega⟩
    rw [if_pos (by omega)]
    have hlt : l.length - (m + 1) < l.length := by omega
    generalize hi : l.length - (m + 1) = i at *
    have hmi : l.length - m = i + 1 := by omega
    refine (hL1.lst hv).at1 (tx_get hlt) hlt fun a ha _ => ?_
    simp only [ldC, ha, Option.some.injEq, exists_eq_left', strW, show (⟨#[]⟩ : ByteArray) = bs [] from rfl, bs_beq, brV_b, decide_eq_true_eq, lenStr, bs_size, intW, true_and]
    have hbad : ¬ recOk l[i] → jn (frame_bytes_J6 k rec) [] w1 := fun hn => by
      have := hk w1 hL1
      rw [strm, if_neg (fun h => hn (h _ (List.getElem_mem hlt)))] at this
      exact this
    by_cases h1 : l[i] = []
    · rw [if_pos h1]; exact hbad fun h => h.1 h1
    rw [if_neg h1]
    by_cases h2 : (l[i].length : Int) > 65535
    · rw [if_pos h2]; exact hbad fun h => by have := h.2; omega
    rw [if_neg h2]
    refine number_from (by omega) (by omega) (by decide) (by decide) fun w2 hw2 => ?_
    simp only [Int.toNat_natCast, show Int.toNat 2 = 2 from rfl, bs_append, bs_size, List.length_append, be_length]
    refine ⟨by omega, ?_⟩
    have hbu2 : Built w.heap.size b (flat (l.take i)) w2 := by
      rcases hbu with ⟨h1, v1, h2, h3, h4⟩ | ⟨h1, v1, h2, h3, h4⟩
      · exact .inl ⟨h1, v1, hw2.heap h2, hw2.row h3, h4⟩
      · exact .inr ⟨h1, v1, hw2.heap h2, hw2.row h3, h4⟩
    have e1 := lens_take hlt
    have e3 := lens_ge l
    have e2 := lens_le l (i + 1)
    refine strings_Builder_WriteString_call (WriteString_spec hbu2 (by rw [flat_length]; simp; omega) (Nat.le_trans hs1 hw2.size) fun w3 hw3 hbu3 => ?_)
    rw [wrap64 (by omega) (by omega)]
    refine ih m _ _ (by simp) ⟨by rw [hmi]; congr 4, by omega, ?_, ?_, (hL1.tr hw2).trans hw3⟩
    · rw [hmi, List.take_add_one, List.getElem?_eq_getElem hlt]
      intro r hr
      rcases List.mem_append.1 hr with hr | hr
      · exact hok r hr
      · simp at hr; subst hr; exact ⟨h1, by omega⟩
    · rw [hmi, List.take_add_one, List.getElem?_eq_getElem hlt, flat_append]
      simpa [flat] using hbu3
theorem bytes_from {l : List (List UInt8)} {v : Value} {w : World} {k : Value → World → Prop} (hv : Lst w v l.length (tx l)) (hsum : lens l ≤ 140737488355328) (hk : ∀ w', Later w w' → k (.string (bs (strm l))) w') :
    callW Tryz.prog (.func (.func 31) #[] #[]) [v] w k := frame_bytes_call (bytes_spec hv hsum hk)
/-- How many sectors bytes take. -/
def secs (n : Nat) : Nat := (n + 55) / 56
theorem Count_spec {l : List (List UInt8)} {v : Value} {w : World} {k : Value → World → Prop} (hv : Lst w v l.length (tx l)) (hsum : lens l ≤ 140737488355328) (hk : ∀ w', Later w w' → k (.int .i64 (secs (strm l).length)) w') :
    Calls Tryz.prog 17 #[v] w (rt k) := by
  apply frame_Count_run
  simp only [frame_Count]
  refine bytes_from hv hsum fun w' hw' => ?_
  have hle : (strm l).length ≤ lens l := by
    unfold strm
    split
    · rw [flat_length]; exact Nat.le_refl _
    · exact Nat.zero_le _
  simp only [lenStr, bs_size, intW, true_and]
  rw [wrap64 (show -9223372036854775808 ≤ ((strm l).length : Int) + 56 by omega) (by omega), wrap64 (show -9223372036854775808 ≤ ((strm l).length : Int) + 56 - 1 by omega) (by omega)]
  refine ⟨by decide, ?_⟩
  have e1 : (((strm l).length : Int) + 56 - 1).tdiv 56 = ((secs (strm l).length : Nat) : Int) := by
    rw [Int.tdiv_eq_ediv_of_nonneg (by omega)]
    unfold secs
    omega
  rw [e1, wrap64 (by unfold secs; omega) (by unfold secs; omega)]
  exact hk _ hw'
end Go.Proofs.YtlicdhdpngahgaaGreat
