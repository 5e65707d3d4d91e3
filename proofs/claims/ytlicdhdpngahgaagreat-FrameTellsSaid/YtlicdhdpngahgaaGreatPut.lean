/- A sector as bytes: frame.Put. -/
import Derived.Test.YtlicdhdpngahgaaGreatLater
import Derived.Test.YtlicdhdpngahgaaGreatNum
import Derived.Test.YtlicdhdpngahgaaGreatShelf
set_option linter.unusedVariables false
set_option linter.unusedSimpArgs false
namespace Go.Proofs.YtlicdhdpngahgaaGreat
open Go.Eng Go.RowKit
/-- A sector. -/
structure Sec where
  epoch : Int
  index : Int
  fresh : Bool
  pay : List UInt8
def Sec.cells (s : Sec) : Array Value := #[.int .i64 s.epoch, .int .i64 s.index, .bool s.fresh, .string (bs s.pay)]
def Sec.ok (s : Sec) : Prop := 1 ≤ s.epoch ∧ s.epoch ≤ 4294967295 ∧ 0 ≤ s.index ∧ s.index ≤ 65535 ∧ s.pay ≠ [] ∧ s.pay.length ≤ 56
instance (s : Sec) : Decidable s.ok := by unfold Sec.ok; exact inferInstance
def Sec.put (s : Sec) : List UInt8 := be 4 s.epoch.toNat ++ be 2 s.index.toNat ++ [if s.fresh then 2 else 1, UInt8.ofNat s.pay.length] ++ s.pay ++ List.replicate (56 - s.pay.length) 0
def Sec.out (s : Sec) : Value := if s.ok then .tuple #[.string (bs s.put), .bool true] else .tuple #[.string (bs []), .bool false]

theorem number_from {v N : Int} {w : World} {k : Value → World → Prop} (h0 : 0 ≤ v) (hv : v ≤ 9223372036854775807) (h1 : 0 ≤ N) (hN : N ≤ 8) (hk : ∀ w', Later w w' → k (.string (bs (be N.toNat v.toNat))) w') :
    callW Tryz.prog (.func (.func 21) #[] #[]) [.int .i64 v, .int .i64 N] w k := by
  apply frame_number_call
  have := number_spec (v := v.toNat) (N := N.toNat) (w := w) (k := k) (by omega) (by omega) hk
  rwa [Int.toNat_of_nonneg h0, Int.toNat_of_nonneg h1] at this
theorem repeatL_one (n : Nat) (x : UInt8) : Lib.repeatL [x] n = List.replicate n x := by
  induction n with
  | zero => rfl
  | succ n ih => simp [Lib.repeatL, ih, List.replicate_succ]
theorem zeros_from {n : Int} {w : World} {k : Value → World → Prop} (h0 : 0 ≤ n) (hn : n ≤ 140737488355328) (hk : ∀ w', Later w w' → k (.string (bs (List.replicate n.toNat 0))) w') :
    callW Tryz.prog (.func (.func 22) #[] #[]) [.string (bs [0]), .int .i64 n] w k := by
  refine ⟨by kernel_rfl, ?_⟩
  have := Tryz.strings_Repeat (bs [0]) n.toNat w (by omega) (by simp; omega)
  rw [Int.toNat_of_nonneg h0] at this
  refine calls_rt this ?_
  rintro e w' ⟨rfl, hb⟩
  refine ⟨_, rfl, ?_⟩
  have e1 : (⟨(Lib.repeatL (bs [0]).data.toList n.toNat).toArray⟩ : ByteArray) = bs (List.replicate n.toNat 0) := by
    rw [← repeatL_one]; rfl
  rw [e1]
  exact hk _ hb
theorem kindlen (a b : UInt8) (p : Int) (x : Int) (h : (a.toNat : Int) = p) (hb : (b.toNat : Int) = x) : #[Value.int .u8 p, Value.int .u8 x].toList = bc [a, b] := by
  subst h; subst hb; rfl
theorem two_from {p x : Int} {w : World} {k : Value → World → Prop}
    (hk : ∀ v W, Later w W → W.ownsRow w.heap.size 5 1 v 2 [.int .u8 p, .int .u8 x] → k v W) : blS 5 1 #[.int .u8 0] 2 [(0, .int .u8 p), (1, .int .u8 x)] w k :=
  blS_lit #[.int .u8 p, .int .u8 x] (by simp [Instr.fill, Value.cells]; apply Array.ext'; simp [List.range, List.range.loop]) rfl (by decide) fun v W h1 h2 _ => hk v W h1 h2
attribute [local irreducible] callW heldC strW sm blS
theorem Put_J6 {s : Sec} {g : Nat} {w W : World} {k : Value → World → Prop} {fr : UInt8} {kd : Int} (hok : s.ok) (hfr : (if s.fresh then 2 else 1) = fr) (hkd : kd = fr.toNat) (hL : Later w W) (hg : W.heap[g]? = some (.cells s.cells 23 (0, 0)))
    (hk : ∀ w', Later w w' → k (.tuple #[.string (bs s.put), .bool true]) w') : frame_Put_J6 k [.pointer (some ⟨g, 0, none⟩), .int .i64 kd] W := by
  obtain ⟨o1, o2, o3, o4, o5, o6⟩ := hok
  have c0 : W.cell? ⟨g, 0, none⟩ = some (.int .i64 s.epoch) := by rw [heap_cell hg]; rfl
  have c1 : W.cell? ⟨g, 1, none⟩ = some (.int .i64 s.index) := by rw [heap_cell hg]; rfl
  have c3 : W.cell? ⟨g, 3, none⟩ = some (.string (bs s.pay)) := by rw [heap_cell hg]; rfl
  have hl1 : (UInt8.ofNat s.pay.length).toNat = s.pay.length := by simp; omega
  simp only [frame_Put_J6, intW, true_and, brV_true, brV_false, brV_b, brV_not, decide_eq_true_eq, beq_iff_eq, bne_iff_ne, nckW, fld, cvI, lenStr, lenSl, exW, unW, bs_size, addA, Nat.zero_add, Nat.add_zero, unc, jn, ldC, World.cell?_drew, c0, c1, c3, Option.some.injEq, exists_eq_left']
  rw [wrap64 (show -9223372036854775808 ≤ (56 : Int) - (s.pay.length : Int) by omega) (by omega)]
  have e1 : kd = ((fr.toNat : Nat) : Int) := hkd
  have hfl := fr.toNat_lt
  have e2 : IntKind.u8.wrap kd = (fr.toNat : Int) := by rw [wrap8]; omega
  have e3 : IntKind.u8.wrap (s.pay.length : Int) = ((UInt8.ofNat s.pay.length).toNat : Int) := by rw [wrap8, hl1]; omega
  rw [e2, e3]
  have hL' : Later w W.drew := hL.tr (Later.dr W)
  have hW : Later W W.drew := Later.dr W
  have hrep : s.put = be 4 s.epoch.toNat ++ be 2 s.index.toNat ++ [fr, UInt8.ofNat s.pay.length] ++ s.pay ++ List.replicate ((56 : Int) - (s.pay.length : Int)).toNat 0 := by
    have : ((56 : Int) - (s.pay.length : Int)).toNat = 56 - s.pay.length := by omega
    rw [this, ← hfr]; rfl
  generalize hl : UInt8.ofNat s.pay.length = lb at *
  generalize W.drew = V at *
  repeat' first
    | refine number_from (by omega) (by omega) (by omega) (by omega) (fun w' hw' => ?_)
    | refine zeros_from (by omega) (by omega) (fun w' hw' => ?_)
    | refine two_from (fun v' w' hw' hr' => ?_)
    | refine str_add (by simp <;> omega) ?_
    | refine to_string U_bytes U_byte U_string (l := [fr, lb]) (by refine Later.row ?_ (by assumption); (repeat (first | assumption | exact Later.refl _ | refine Later.tr ?_ (by assumption)))) ?_
    | refine held_nil ?_
    | refine held_cons (w := W) (by (repeat (first | assumption | exact Later.refl _ | refine Later.tr ?_ (by assumption)))) (holds1 c0) ?_
    | refine held_cons (w := W) (by (repeat (first | assumption | exact Later.refl _ | refine Later.tr ?_ (by assumption)))) (holds1 c1) ?_
    | refine held_cons (w := W) (by (repeat (first | assumption | exact Later.refl _ | refine Later.tr ?_ (by assumption)))) (holds1 c3) ?_
    | (rw [hrep] at hk; refine hk _ ?_; (repeat (first | assumption | exact Later.refl _ | refine Later.tr ?_ (by assumption))))
    | refine And.intro ?_ ?_
end Go.Proofs.YtlicdhdpngahgaaGreat
