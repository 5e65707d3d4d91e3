/- frame.Batch: the sectors of records. -/
import Derived.Test.YtlicdhdpngahgaaGreatStr
set_option linter.unusedVariables false
set_option linter.unusedSimpArgs false
namespace Go.Proofs.YtlicdhdpngahgaaGreat
open Go.Eng Go.RowKit
theorem T_strs : SlT Tryz.prog 24 9 (.string ⟨#[]⟩) 1 16 := ⟨by kernel_rfl, by kernel_rfl, rfl, by decide⟩
theorem U_strs : Tryz.prog.underlying 24 = some (.slice 9) := by kernel_rfl
/-- The sectors of bytes; none: one may not be. -/
def cuts : Nat → Int → Int → Bool → List UInt8 → Option (List (List UInt8))
  | 0, _, _, _, _ => some []
  | n + 1, e, i, f, b => if b = [] then some [] else
      if (⟨e, i, f, b.take 56⟩ : Sec).ok then (cuts n e (i + 1) false (b.drop 56)).map ((⟨e, i, f, b.take 56⟩ : Sec).put :: ·) else none
def batch (e i : Int) (l : List (List UInt8)) : Option (List (List UInt8)) := if strm l = [] then none else cuts (strm l).length e i true (strm l)
theorem min_yl {P : Program} {ts : Array TypeId} {t : TypeId} {a b : Int} {k : Value → Prop} (hk : k (.int .i64 (if b < a then b else a))) : yl P (Builtin.min_ ts t [.int .i64 a, .int .i64 b].toArray) k :=
  ⟨_, fun w => by simp [Builtin.min_, Builtin.min2], hk⟩
theorem one_string {s : List UInt8} (w : World) (e : TypeId) : Src Tryz.prog 1 24 (.slice (some ⟨w.heap.size, 0, none⟩) 1 1) 1 (tx [s]) (w.alloc (.cells #[.string (bs s)] e)) :=
  Src.ofSlice (e' := 9) _ U_strs _ 1 1 (tx [s]) rfl (cell_one_new _ _ _) (by simp [tx, Value.oneCell'])
theorem tx_append (a b : List (List UInt8)) : tx (a ++ b) = tx a ++ tx b := by simp [tx]
theorem strm_le (l : List (List UInt8)) : (strm l).length ≤ lens l := by
  unfold strm
  split
  · rw [flat_length]; exact Nat.le_refl _
  · exact Nat.zero_le _
theorem Batch_spec {e i : Int} {l : List (List UInt8)} {v : Value} {w : World} {k : Value → World → Prop} (hv : Lst w v l.length (tx l)) (hsum : lens l ≤ 140737488355)
    (hno : batch e i l = none → ∀ w', Later w w' → k (.tuple #[.slice none 0 0, .bool false]) w')
    (hyes : ∀ out, batch e i l = some out → ∀ v' w', Later w w' → w'.ownsRow w.heap.size 9 1 v' out.length (tx out) → k (.tuple #[v', .bool true]) w') :
    Calls Tryz.prog 11 #[.int .i64 e, .int .i64 i, v] w (rt k) := by
  apply frame_Batch_run
  simp only [frame_Batch]
  refine bytes_from hv (by omega) fun W hW => ?_
  have hle := strm_le l
  simp only [strW, show (⟨#[]⟩ : ByteArray) = bs [] from rfl, bs_beq, brV_b, decide_eq_true_eq]
  by_cases h0 : strm l = []
  · rw [if_pos h0]
    exact hno (by rw [batch, if_pos h0]) _ hW
  rw [if_neg h0]
  have hb : batch e i l = cuts (strm l).length e i true (strm l) := by rw [batch, if_neg h0]
  rw [hb] at hno hyes
  refine lp_ind _ (fun (n : Nat) r w1 => ∃ idx b o first done, r = [.int .i64 e, .int .i64 idx, .string (bs b), o, .bool first] ∧ b.length ≤ n ∧ n ≤ (strm l).length ∧ done.length + n ≤ (strm l).length ∧ w1.ownsRow w.heap.size 9 1 o done.length (tx done) ∧ Later w w1 ∧
      (cuts n e idx first b).map (done ++ ·) = cuts (strm l).length e i true (strm l)) id ?_ (i := (strm l).length) ⟨i, strm l, _, true, [], rfl, Nat.le_refl _, Nat.le_refl _, by simp, World.ownsRow_nil _ _ _ _, hW, by simp⟩
  rintro n r w1 rec ⟨idx, b, o, first, done, rfl, hbn, hnl, hdn, hown, hL, hc⟩ ih
  simp only [frame_Batch_L6, unc, strW, show (⟨#[]⟩ : ByteArray) = bs [] from rfl, bs_beq, brV_not, decide_eq_true_eq]
  by_cases hb0 : b = []
  · rw [if_pos hb0]
    have : cuts n e idx first b = some [] := by cases n <;> simp [cuts, hb0]
    rw [this] at hc
    exact hyes done (by rw [← hc]; simp) _ _ hL hown
  rw [if_neg hb0]
  obtain ⟨n, rfl⟩ : ∃ q, n = q + 1 := ⟨n - 1, by cases n with
    | zero => exact absurd (List.eq_nil_of_length_eq_zero (Nat.le_zero.1 hbn)) hb0
    | succ n => rfl⟩
  have hpos : 0 < b.length := List.length_pos_iff.2 hb0
  simp only [lenStr, bs_size]
  refine min_yl ?_
  have emin : (if (56 : Int) < (b.length : Int) then (56 : Int) else (b.length : Int)) = ((min 56 b.length : Nat) : Int) := by
    split <;> omega
  have etake : (b.take (min 56 b.length)).drop 0 = b.take 56 := by
    rw [List.drop_zero, ← List.take_take]; simp
  have edrop : (b.take b.length).drop (min 56 b.length) = b.drop 56 := by
    rw [List.take_length]
    by_cases h : 56 ≤ b.length
    · rw [Nat.min_eq_left h]
    · rw [Nat.min_eq_right (by omega), List.drop_length, List.drop_of_length_le (by omega)]
  rw [emin]
  simp only [slStr, natO, Int.toNat_natCast, bs_size, bs_extract, etake, edrop]
  refine ⟨by omega, by omega, by omega, ?_⟩
  refine fill_sec ?_
  refine Put_from (s := ⟨e, idx, first, b.take 56⟩) rfl fun w2 hw2 => ?_
  rw [cuts, if_neg hb0] at hc
  unfold Sec.out
  by_cases hok : (⟨e, idx, first, b.take 56⟩ : Sec).ok
  · rw [if_pos hok] at hc ⊢
    simp only [exW, List.getElem?_toArray, List.getElem?_cons_zero, List.getElem?_cons_succ, unW, brV_b, Bool.not_true, Bool.false_eq_true, if_false]
    refine blS_one rfl ?_
    have hlen2 : n + 1 ≤ 140737488355 := by omega
    refine app T_strs ((hw2.row hown).alloc _) (one_string _ _) (by simp only [maxLen]; omega) (by omega) (by have := hL.size; have := hw2.size; simp; omega) fun v' w4 hown' hg _ _ => ?_
    have hi1 : 0 ≤ idx ∧ idx ≤ 65535 := ⟨hok.2.2.1, hok.2.2.2.1⟩
    refine ⟨by omega, by omega, Nat.le_refl _, ?_⟩
    simp only [intW, true_and]
    rw [wrap64 (by omega) (by omega)]
    refine ih n _ _ (by simp) ⟨idx + 1, b.drop 56, v', false, done ++ [(⟨e, idx, first, b.take 56⟩ : Sec).put], rfl, by simp; omega, by omega, by simp; omega, ?_, ?_, ?_⟩
    · rw [tx_append, List.length_append]; exact hown'
    · exact ((hL.tr hw2).alloc (by have := hL.size; have := hw2.size; omega) _).grown hg (by have := hL.size; have := hw2.size; simp; omega) (fun k hk => (hown.lt k hk).1)
    · rw [← hc, Option.map_map]
      congr 1
      funext x
      simp
  · rw [if_neg hok] at hc ⊢
    simp only [exW, List.getElem?_toArray, List.getElem?_cons_zero, List.getElem?_cons_succ, unW, brV_b, Bool.not_false, if_true]
    exact hno (by rw [← hc]; rfl) _ (hL.tr hw2)
theorem Batch_from {e i : Int} {l : List (List UInt8)} {v : Value} {w : World} {k : Value → World → Prop} (hv : Lst w v l.length (tx l)) (hsum : lens l ≤ 140737488355)
    (hno : batch e i l = none → ∀ w', Later w w' → k (.tuple #[.slice none 0 0, .bool false]) w')
    (hyes : ∀ out, batch e i l = some out → ∀ v' w', Later w w' → w'.ownsRow w.heap.size 9 1 v' out.length (tx out) → k (.tuple #[v', .bool true]) w') :
    callW Tryz.prog (.func (.func 11) #[] #[]) [.int .i64 e, .int .i64 i, v] w k := frame_Batch_call (Batch_spec hv hsum hno hyes)
end Go.Proofs.YtlicdhdpngahgaaGreat
