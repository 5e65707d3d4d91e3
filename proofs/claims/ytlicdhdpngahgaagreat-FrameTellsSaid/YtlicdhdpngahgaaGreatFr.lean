/- frame.Put, frame.Get. -/
import Derived.Test.YtlicdhdpngahgaaGreatPut
set_option linter.unusedVariables false
set_option linter.unusedSimpArgs false
namespace Go.Proofs.YtlicdhdpngahgaaGreat
open Go.Eng Go.RowKit
theorem Put_spec {s : Sec} {w : World} {k : Value → World → Prop} (hk : ∀ w', Later w w' → k s.out w') : Calls Tryz.prog 6 #[.agg s.cells] w (rt k) := by
  apply frame_Put_run
  simp only [frame_Put, Value.cells]
  refine al_lit fun g W hL hg _ => ?_
  have c0 : W.cell? ⟨g, 0, none⟩ = some (.int .i64 s.epoch) := by rw [heap_cell hg]; rfl
  have c1 : W.cell? ⟨g, 1, none⟩ = some (.int .i64 s.index) := by rw [heap_cell hg]; rfl
  have c2 : W.cell? ⟨g, 2, none⟩ = some (.bool s.fresh) := by rw [heap_cell hg]; rfl
  have c3 : W.cell? ⟨g, 3, none⟩ = some (.string (bs s.pay)) := by rw [heap_cell hg]; rfl
  have hbad : ¬ s.ok → jn (frame_Put_J2 k) [] W := fun hn => by
    have := hk _ hL
    rw [Sec.out, if_neg hn] at this
    exact this
  have hgood : s.ok → ∀ w', Later w w' → k (.tuple #[.string (bs s.put), .bool true]) w' := fun ho w' hw' => by
    have := hk _ hw'
    rwa [Sec.out, if_pos ho] at this
  have e0 : (⟨#[]⟩ : ByteArray) = bs [] := rfl
  simp only [intW, true_and, brV_b, decide_eq_true_eq, fld, lenStr, bs_size, addA, Nat.zero_add, Nat.add_zero, ldC, c0, c1, c2, c3, Option.some.injEq, exists_eq_left', strW, e0, bs_beq]
  by_cases h1 : s.epoch < 1
  · rw [if_pos h1]; exact hbad fun ho => by have := ho.1; omega
  rw [if_neg h1]
  by_cases h2 : s.epoch > 4294967295
  · rw [if_pos h2]; exact hbad fun ho => by have := ho.2.1; omega
  rw [if_neg h2]
  by_cases h3 : s.index < 0
  · rw [if_pos h3]; exact hbad fun ho => by have := ho.2.2.1; omega
  rw [if_neg h3]
  by_cases h4 : s.index > 65535
  · rw [if_pos h4]; exact hbad fun ho => by have := ho.2.2.2.1; omega
  rw [if_neg h4]
  by_cases h5 : s.pay = []
  · rw [if_pos h5]; exact hbad fun ho => ho.2.2.2.2.1 h5
  rw [if_neg h5]
  by_cases h6 : (s.pay.length : Int) > 56
  · rw [if_pos h6]; exact hbad fun ho => by have := ho.2.2.2.2.2; omega
  rw [if_neg h6]
  have ho : s.ok := ⟨by omega, by omega, by omega, by omega, h5, by omega⟩
  by_cases h7 : s.fresh = true
  · rw [if_pos h7]; exact Put_J6 ho (by rw [if_pos h7]) (by decide) hL hg (hgood ho)
  · rw [if_neg h7]; exact Put_J6 ho (by rw [if_neg h7]) (by decide) hL hg (hgood ho)
theorem Put_from {s : Sec} {v : Value} {w : World} {k : Value → World → Prop} (hv : v = .agg s.cells) (hk : ∀ w', Later w w' → k s.out w') : callW Tryz.prog (.func (.func 6) #[] #[]) [v] w k := by
  subst hv
  exact frame_Put_call (Put_spec hk)
theorem value_from {l : List UInt8} {w : World} {k : Value → World → Prop} (hl : l.length ≤ 7) (hk : k (.int .i64 (ofB l)) w) : callW Tryz.prog (.func (.func 28) #[] #[]) [.string (bs l)] w k :=
  frame_value_call (value_spec hl hk)

/-- What bytes are read as, ahead of the look whether they are its own. -/
def secOf (b : List UInt8) : Sec := ⟨ofB (b.take 4), ofB ((b.take 6).drop 4), decide ((b[6]?.getD 0).toNat = 2), (b.take (8 + (b[7]?.getD 0).toNat)).drop 8⟩
/-- The sector of bytes. -/
def secGet (b : List UInt8) : Option Sec :=
  if b.length = 64 ∧ (b[7]?.getD 0).toNat ≤ 56 ∧ (secOf b).ok ∧ (secOf b).put = b then some (secOf b) else none
def secOut : Option Sec → Value
  | some s => .tuple #[.agg s.cells, .bool true]
  | none => .tuple #[.agg #[.int .i64 0, .int .i64 0, .bool false, .string (bs [])], .bool false]
theorem fill_sec {a b : Int} {c : Bool} {d : ByteArray} {k : Value → Prop} (hk : k (.agg #[.int .i64 a, .int .i64 b, .bool c, .string d])) :
    fillL [(0, 1), (1, 1), (2, 1), (3, 1)] #[.int .i64 0, .int .i64 0, .bool false, .string ⟨#[]⟩] [(0, .int .i64 a), (1, .int .i64 b), (2, .bool c), (3, .string d)] k := by
  simpa [fillL, Instr.fill, Value.cells] using hk
theorem fill_zero {k : Value → Prop} (hk : k (.agg #[.int .i64 0, .int .i64 0, .bool false, .string (bs [])])) :
    fillL [(0, 1), (1, 1), (2, 1), (3, 1)] #[.int .i64 0, .int .i64 0, .bool false, .string ⟨#[]⟩] [] k := hk
/-- The result's variable is set, and handed back. -/
theorem ret_sec {g : Nat} {w W : World} {cs new : Array Value} {T : TypeId} {b : Bool} {k : Value → World → Prop} (hb : Below w.heap.size w W) (hg : W.heap[g]? = some (.cells cs T (0, 0))) (hle : w.heap.size ≤ g) (hn : cs.size = 4) (hm : new.size = 4) (hone : ∀ u ∈ new.toList, isCell u = true)
    (hk : ∀ w', Later w w' → k (.tuple #[.agg new, .bool b]) w') : stN 4 (.pointer (some ⟨g, 0, none⟩)) (.agg new) W fun w => ldN 4 (.pointer (some ⟨g, 0, none⟩)) w fun v _ => k (.tuple #[v, .bool b]) w := by
  refine stN_heap hg hn hm hone fun w' h1 _ h3 _ => ?_
  exact ldN_heap h1 hm (hk _ (hb.trans (h3 _ hle)))
theorem Get_J4 {g2 g4 : Nat} {b : List UInt8} {w W : World} {k : Value → World → Prop} (hb : Below w.heap.size w W) (h2 : W.heap[g2]? = some (.cells #[.int .i64 0, .int .i64 0, .bool false, .string (bs [])] 23 (0, 0)))
    (h4 : W.heap[g4]? = some (.cells (secOf b).cells 23 (0, 0))) (hle : w.heap.size ≤ g2) (h64 : b.length = 64) (h56 : (b[7]?.getD 0).toNat ≤ 56) (hk : ∀ w', Later w w' → k (secOut (secGet b)) w') :
    frame_Get_J4 k [.string (bs b), .pointer (some ⟨g2, 0, none⟩), .pointer (some ⟨g4, 0, none⟩)] W := by
  simp only [frame_Get_J4, unc]
  refine ldN_heap h4 rfl ?_
  refine Put_from rfl fun W1 hW1 => ?_
  have hb1 : Below w.heap.size w W1 := hb.trans (hW1.mono hb.size)
  unfold Sec.out
  have hbad : ¬ ((secOf b).ok ∧ (secOf b).put = b) → jn (frame_Get_J6 k) [.pointer (some ⟨g2, 0, none⟩)] W1 := fun hn => by
    simp only [jn, frame_Get_J6, unc]
    refine fill_zero (ret_sec hb1 (hW1.heap h2) hle rfl rfl (by simp [isCell]) fun w' hw' => ?_)
    have := hk _ hw'
    rwa [secGet, if_neg (fun h => hn ⟨h.2.2.1, h.2.2.2⟩)] at this
  by_cases ho : (secOf b).ok
  · rw [if_pos ho]
    simp only [exW, unW, brV_b, strW, bs_beq, List.getElem?_toArray, List.getElem?_cons_zero, List.getElem?_cons_succ, Bool.not_true, Bool.false_eq_true, if_false, Bool.not_eq_eq_eq_not, decide_eq_true_eq, decide_eq_false_iff_not]
    by_cases he : (secOf b).put = b
    · simp only [he, not_true_eq_false, if_false]
      refine ldN_heap (hW1.heap h4) rfl ?_
      refine ret_sec hb1 (hW1.heap h2) hle rfl rfl (by simp [isCell, Sec.cells]) fun w' hw' => ?_
      have := hk _ hw'
      rwa [secGet, if_pos ⟨h64, h56, ho, he⟩] at this
    · simp only [he, not_false_eq_true, if_true]
      exact hbad fun h => he h.2
  · rw [if_neg ho]
    simp only [exW, unW, brV_b, strW, bs_beq, List.getElem?_toArray, List.getElem?_cons_zero, List.getElem?_cons_succ, Bool.not_false, if_true]
    exact hbad fun h => ho h.1
theorem secOf_lt (b : List UInt8) (h : (b[7]?.getD 0).toNat ≤ 56) : (secOf b).epoch < 4294967296 ∧ (secOf b).index < 4294967296 := by
  constructor
  · show ((ofB (b.take 4) : Nat) : Int) < _
    have := ofB_lt (b.take 4)
    have h2 : 256 ^ (b.take 4).length ≤ 256 ^ 4 := Nat.pow_le_pow_right (by decide) (by simp; omega)
    omega
  · show ((ofB ((b.take 6).drop 4) : Nat) : Int) < _
    have := ofB_lt ((b.take 6).drop 4)
    have h2 : 256 ^ ((b.take 6).drop 4).length ≤ 256 ^ 4 := Nat.pow_le_pow_right (by decide) (by simp; omega)
    omega
theorem Get_spec {b : List UInt8} {w : World} {k : Value → World → Prop} (hlen : b.length ≤ 9223372036854775807) (hk : ∀ w', Later w w' → k (secOut (secGet b)) w') : Calls Tryz.prog 8 #[.string (bs b)] w (rt k) := by
  apply frame_Get_run
  simp only [frame_Get]
  refine al_lit fun g2 W hL h2 hgs => ?_
  have hle : w.heap.size ≤ g2 := by omega
  have hbad : ¬ (b.length = 64 ∧ (b[7]?.getD 0).toNat ≤ 56) → jn (frame_Get_J2 k) [.pointer (some ⟨g2, 0, none⟩)] W := fun hn => by
    simp only [jn, frame_Get_J2, unc]
    refine fill_zero (ret_sec hL h2 hle rfl rfl (by simp [isCell]) fun w' hw' => ?_)
    have := hk _ hw'
    rwa [secGet, if_neg (fun h => hn ⟨h.1, h.2.1⟩)] at this
  simp only [lenStr, bs_size, intW, true_and, brV_b, bne_iff_ne, ne_eq, decide_eq_true_eq]
  by_cases h64 : b.length = 64
  · rw [if_neg (by omega)]
    obtain ⟨x7, g7⟩ : ∃ x, b[7]? = some x := ⟨b[7]'(by omega), List.getElem?_eq_getElem _⟩
    obtain ⟨x6, g6⟩ : ∃ x, b[6]? = some x := ⟨b[6]'(by omega), List.getElem?_eq_getElem _⟩
    have e7 : (b[7]?.getD 0) = x7 := by rw [g7]; rfl
    have e6 : (b[6]?.getD 0) = x6 := by rw [g6]; rfl
    have hx7 := x7.toNat_lt
    have hx6 := x6.toNat_lt
    have i7 : (Int.toNat 7) = 7 := rfl
    have i6 : (Int.toNat 6) = 6 := rfl
    have i8 : (Int.toNat 8) = 8 := rfl
    have i4 : (Int.toNat 4) = 4 := rfl
    simp only [ixStr, bs_get, i7, g7, i6, g6, Option.some.injEq, exists_and_left, exists_eq_left', cvI, intW, true_and, brV_b, decide_eq_true_eq]
    refine ⟨by decide, ?_⟩
    rw [wrap64 (show -9223372036854775808 ≤ (x7.toNat : Int) by omega) (by omega)]
    by_cases h56 : (x7.toNat : Int) > 56
    · rw [if_pos h56]
      exact hbad fun h => by rw [e7] at h; omega
    · rw [if_neg h56]
      rw [wrap64 (show -9223372036854775808 ≤ (8 : Int) + (x7.toNat : Int) by omega) (by omega)]
      have it : ((8 : Int) + (x7.toNat : Int)).toNat = 8 + x7.toNat := by omega
      simp only [slStr, natO, bs_size, i4, i6, i8, it, h64, bs_extract]
      simp only [show (0 : Int) ≤ 4 from by decide, show (0 : Int) ≤ 6 from by decide, show (0 : Int) ≤ 8 from by decide, show (0 : Nat) ≤ 4 from by decide, show (4 : Nat) ≤ 64 from by decide, show (4 : Nat) ≤ 6 from by decide, show (6 : Nat) ≤ 64 from by decide, true_and]
      refine ⟨by omega, by omega, by omega, by omega, ?_⟩
      have hsec : (#[.int .i64 ((ofB ((b.take 4).drop 0) : Nat) : Int), .int .i64 ((ofB ((b.take 6).drop 4) : Nat) : Int), .bool ((x6.toNat : Int) == 2), .string (bs ((b.take (8 + x7.toNat)).drop 8))] : Array Value) = (secOf b).cells := by
        unfold secOf Sec.cells
        rw [e7, e6]
        congr 4
        by_cases h : x6.toNat = 2
        · rw [h]; rfl
        · have : ¬ ((x6.toNat : Int) = 2) := by omega
          simp [h, this]
      have h56' : (b[7]?.getD 0).toNat ≤ 56 := by rw [e7]; omega
      have fin : ∀ g4 V, Below w.heap.size w V → V.heap[g2]? = some (.cells #[.int .i64 0, .int .i64 0, .bool false, .string (bs [])] 23 (0, 0)) → V.heap[g4]? = some (.cells #[.int .i64 0, .int .i64 0, .bool false, .string ⟨#[]⟩] 23 (0, 0)) → g2 < g4 →
          stN 4 (.pointer (some ⟨g4, 0, none⟩)) (.agg (secOf b).cells) V fun w => jn (frame_Get_J4 k) [.string (bs b), .pointer (some ⟨g2, 0, none⟩), .pointer (some ⟨g4, 0, none⟩)] w := fun g4 V hb hv2 hv4 hlt => by
        refine stN_heap hv4 rfl rfl (by simp [isCell, Sec.cells]) fun w' h1 _ h3 h5 => ?_
        exact Get_J4 (hb.trans (h3 _ (by omega))) (by rw [h5 g2 (by omega)]; exact hv2) h1 hle h64 h56' hk
      have hLd : Later W W.drew := Later.dr W
      generalize W.drew = V at *
      refine ⟨?_, ?_⟩
      · refine value_from (by simp; omega) ?_
        refine ⟨?_, ?_⟩
        · refine value_from (by simp; omega) (fill_sec ?_)
          rw [hsec]
          refine al_lit fun g4 V' hV' h4 hs => ?_
          exact fin g4 V' (hL.trans ((hLd.tr hV').mono hL.size)) ((hLd.tr hV').heap h2) h4 (by have := lt_of_heap (hLd.heap h2); omega)
        · refine al_lit fun g4 V' hV' h4 hs => ?_
          refine value_from (by simp; omega) (fill_sec ?_)
          rw [hsec]
          exact fin g4 V' (hL.trans ((hLd.tr hV').mono hL.size)) ((hLd.tr hV').heap h2) h4 (by have := lt_of_heap (hLd.heap h2); omega)
      · refine al_lit fun g4 V' hV' h4 hs => ?_
        refine value_from (by simp; omega) ?_
        refine value_from (by simp; omega) (fill_sec ?_)
        rw [hsec]
        exact fin g4 V' (hL.trans ((hLd.tr hV').mono hL.size)) ((hLd.tr hV').heap h2) h4 (by have := lt_of_heap (hLd.heap h2); omega)
  · rw [if_pos (by omega)]
    exact hbad fun h => h64 h.1
theorem Get_from {b : List UInt8} {w : World} {k : Value → World → Prop} (hlen : b.length ≤ 9223372036854775807) (hk : ∀ w', Later w w' → k (secOut (secGet b)) w') : callW Tryz.prog (.func (.func 8) #[] #[]) [.string (bs b)] w k :=
  frame_Get_call (Get_spec hlen hk)
end Go.Proofs.YtlicdhdpngahgaaGreat
