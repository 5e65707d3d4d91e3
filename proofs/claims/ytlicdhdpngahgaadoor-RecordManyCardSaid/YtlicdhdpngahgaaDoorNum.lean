/- Numbers as bytes: frame's number and value. -/
import Derived.Test.YtlicdhdpngahgaaDoorLib
import Derived.Test.YtlicdhdpngahgaaDoorXF
set_option linter.unusedVariables false
set_option linter.unusedSimpArgs false
namespace Go.Proofs.YtlicdhdpngahgaaDoor
open Go.Eng Go.RowKit
/-- A number in n bytes, the highest first. -/
def be : Nat → Nat → List UInt8
  | 0, _ => []
  | n + 1, v => UInt8.ofNat (v / 256 ^ n) :: be n v
/-- The number of bytes. -/
def ofB (l : List UInt8) : Nat := l.foldl (fun v b => v * 256 + b.toNat) 0
@[simp] theorem be_length (n v : Nat) : (be n v).length = n := by induction n <;> simp_all [be]
theorem ofB_append (a : List UInt8) (b : UInt8) : ofB (a ++ [b]) = ofB a * 256 + b.toNat := by simp [ofB]
theorem ofB_lt (l : List UInt8) : ofB l < 256 ^ l.length := by
  suffices h : ∀ r : List UInt8, ofB r.reverse < 256 ^ r.length by simpa using h l.reverse
  intro r
  induction r with
  | nil => simp [ofB]
  | cons x r ih =>
    rw [List.reverse_cons, ofB_append, List.length_cons, Nat.pow_succ]
    have := x.toNat_lt
    omega
theorem T_bytes : SlT Tryd.prog 44 5 (.int .u8 0) 1 1 := ⟨by kernel_rfl, by kernel_rfl, rfl, by decide⟩
theorem U_bytes : Tryd.prog.underlying 44 = some (.slice 5) := by kernel_rfl
theorem U_byte : Tryd.prog.underlying 5 = some (.int .u8) := by kernel_rfl
theorem U_string : Tryd.prog.underlying 9 = some .string := by kernel_rfl
theorem u8_ofNat (x : Nat) : ((x : Int) % 256) = ((UInt8.ofNat x).toNat : Int) := by
  have : (UInt8.ofNat x).toNat = x % 256 := by simp
  rw [this]; rfl

theorem number_spec {v N : Nat} {w : World} {k : Value → World → Prop} (hv : v ≤ 9223372036854775807) (hN : N ≤ 8) (hk : ∀ w', Below w.heap.size w w' → k (.string (bs (be N v))) w') :
    Calls Tryd.prog 122 #[.int .i64 v, .int .i64 N] w (rt k) := by
  apply frame_number_run
  simp only [frame_number, intW, true_and]
  rw [wrap64 (by omega) (by omega)]
  refine lp_ind _ (fun (m : Nat) l w1 => ∃ o out, l = [.int .i64 v, .int .i64 ((m : Int) - 1), o] ∧ w1.ownsRow w.heap.size 5 1 o (N - m) (bc out) ∧ out ++ be m v = be N v ∧ m ≤ N ∧ Below w.heap.size w w1) id ?_ (i := N) ?_
  · rintro m l w1 rec ⟨o, out, rfl, hown, hout, hm, hb⟩ ih
    simp only [frame_number_L3, unc, intW, true_and, brV_dec]
    by_cases h0 : m = 0
    · subst h0
      rw [if_neg (by omega)]
      refine to_string U_bytes U_byte U_string hown ?_
      simp only [be, List.append_nil] at hout
      rw [hout]
      exact hk _ hb
    · obtain ⟨m, rfl⟩ : ∃ q, m = q + 1 := ⟨m - 1, by omega⟩
      rw [if_pos (by omega)]
      have e1 : IntKind.i64.wrap (8 * (((m + 1 : Nat) : Int) - 1)) = ((8 * m : Nat) : Int) := by rw [wrap64 (by omega) (by omega)]; omega
      have e2 : (2 : Nat) ^ (8 * m) = 256 ^ m := by rw [Nat.pow_mul]
      simp only [e1, shW, Int.toNat_natCast, IntKind.bits, shr_nat _ _ (show 8 * m ≤ 64 by omega), e2, cvI, wrap8, u8_ofNat]
      refine ⟨by omega, ?_⟩
      refine blS_one rfl ?_
      refine app T_bytes (hown.alloc _) (Src.ofSlice (e' := 5) _ U_bytes _ 1 1 (bc [UInt8.ofNat (v / 256 ^ m)]) rfl (cell_one_new _ _ _) (by simp [bc, Value.oneCell'])) (by simp only [maxLen]; omega) (by omega) (by simpa using Nat.le_succ_of_le hb.size) ?_
      intro v' w' hown' hg _ _
      simp only [wrap64 (show -9223372036854775808 ≤ ((m + 1 : Nat) : Int) - 1 - 1 by omega) (by omega)]
      refine ih m _ _ (by simp) ⟨v', out ++ [UInt8.ofNat (v / 256 ^ m)], by congr 3; omega, ?_, ?_, by omega, ?_⟩
      · rw [bc_append]
        have : N - (m + 1) + 1 = N - m := by omega
        rw [← this]; exact hown'
      · simpa [be] using hout
      · exact (hb.alloc (by simpa using hb.size) _).grown hg (by simpa using Nat.le_succ_of_le hb.size) (fun k hk => ((hown.lt k hk).1))
  · exact ⟨_, [], rfl, by simpa [bc] using World.ownsRow_nil w w.heap.size 5 1, by simp, Nat.le_refl _, Below.refl _ _⟩

theorem value_spec {l : List UInt8} {w : World} {k : Value → World → Prop} (hl : l.length ≤ 7) (hk : k (.int .i64 (ofB l)) w) :
    Calls Tryd.prog 121 #[.string (bs l)] w (rt k) := by
  apply frame_value_run
  simp only [frame_value, lenStr, bs_size]
  refine lp_ind _ (fun (m : Nat) r w1 => r = [.string (bs l), .int .i64 (ofB (l.take (l.length - m))), .int .i64 l.length, .int .i64 ((l.length - m : Nat) : Int)] ∧ m ≤ l.length ∧ w1 = w) id ?_ (i := l.length) ⟨by simp [ofB], Nat.le_refl _, rfl⟩
  rintro m r w1 rec ⟨rfl, hm, rfl⟩ ih
  simp only [frame_value_L3, unc, intW, true_and, brV_dec]
  by_cases h0 : m = 0
  · subst h0
    rw [if_neg (by omega)]
    simpa using hk
  · obtain ⟨m, rfl⟩ : ∃ q, m = q + 1 := ⟨m - 1, by omega⟩
    rw [if_pos (by omega)]
    have hlt : l.length - (m + 1) < l.length := by omega
    have hb := ofB_lt (l.take (l.length - (m + 1)))
    have hb2 : ofB (l.take (l.length - (m + 1))) < 256 ^ 6 := Nat.lt_of_lt_of_le hb (Nat.pow_le_pow_right (by decide) (by simp; omega))
    have hx := (l[l.length - (m + 1)]).toNat_lt
    have e0 : ((ofB (l.take (l.length - (m + 1))) : Nat) : Int) * 2 ^ (min (Int.toNat 8) 64) = ((ofB (l.take (l.length - (m + 1))) * 256 : Nat) : Int) := by
      rw [show min (Int.toNat 8) 64 = 8 from rfl]; omega
    simp only [shW, IntKind.bits, e0, wrap64 (show -9223372036854775808 ≤ ((ofB (l.take (l.length - (m + 1))) * 256 : Nat) : Int) by omega) (by omega)]
    refine ⟨by decide, ?_⟩
    simp only [ixStr, bs_get, Int.toNat_natCast, List.getElem?_eq_getElem hlt, Option.some.injEq]
    refine ⟨_, by omega, rfl, ?_⟩
    simp only [cvI, true_and, wrap64 (show -9223372036854775808 ≤ ((l[l.length - (m + 1)]).toNat : Int) by omega) (by omega), or_nat _ _ (show ofB (l.take (l.length - (m + 1))) * 256 < 9223372036854775808 by omega) hx]
    rw [wrap64 (by omega) (by omega)]
    refine ih m _ _ (by simp) ⟨?_, by omega, rfl⟩
    have e3 : l.length - m = l.length - (m + 1) + 1 := by omega
    rw [e3, List.take_add_one, List.getElem?_eq_getElem hlt]
    simp only [Option.toList_some, ofB_append]
    congr 4
end Go.Proofs.YtlicdhdpngahgaaDoor
