/- Maps from whole numbers to bools that hold 'true' alone: sets. -/
import Derived.Test.YtlicdhdpngahgaaInts
import Derived.Maps.RangeWalk
set_option linter.unusedVariables false
set_option linter.unusedSimpArgs false
namespace Go.Proofs.Ytlicdhdpngahgaa
open Go.Eng Go.RowKit
open Go.Maps (Keyed keyOf_int_mk int_keyed)
theorem K_int : Keyed Try.prog 3 := int_keyed U_int
theorem U_set : Try.prog.underlying 50 = some (.map 3 4) := by kernel_rfl
theorem Z_bool (w : World) : (zeroValue 4).run Try.prog w = .ok (.bool false) w := by
  have h : (Try.prog.info? 4).map (·.zero) = some (some (.bool false)) := by kernel_rfl
  obtain ⟨i, hi, hz⟩ := Option.map_eq_some_iff.1 h
  simp [zeroValue, run_ti hi, hz]
theorem inR_wf {x : Int} (h : InR x) : (Lit.int .i64 x).wf = true := by
  show (decide (IntKind.i64.min ≤ x) && decide (x ≤ IntKind.i64.max)) = true
  rw [Bool.and_eq_true]
  exact ⟨decide_eq_true h.1, decide_eq_true h.2⟩
theorem wf_inR {x : Int} (h : (Lit.int .i64 x).wf = true) : InR x := by
  have h : (decide (IntKind.i64.min ≤ x) && decide (x ≤ IntKind.i64.max)) = true := h
  rw [Bool.and_eq_true] at h
  exact ⟨of_decide_eq_true h.1, of_decide_eq_true h.2⟩
theorem key_int {x : Int} (h : InR x) : keyOf Try.prog 3 (.int .i64 x) = some (.int .i64 x) := keyOf_int_mk U_int (inR_wf h)
noncomputable abbrev RB : Value → Option (DataW Unit × List MemPlace) := plainElem Try.prog 4
theorem RB_mk (x : Bool) : RB (.bool x) = some (.lit (.bool x), []) := plainElem_bool U_bool x
theorem RB_inv {v : Value} {d : DataW Unit} {ps : List MemPlace} (h : RB v = some (d, ps)) : ∃ x, v = .bool x ∧ d = .lit (.bool x) := by
  unfold RB plainElem at h
  rw [U_bool] at h
  cases v <;> simp at h
  exact ⟨_, rfl, h.1.symm⟩
structure IsSet (D : DataW Unit) (S : List Int) : Prop where
  has : ∀ x, Maps.has D (.int .i64 x) = decide (x ∈ S)
  tr : ∀ x z, x ∈ S → D.atKey (.int .i64 x) z = .lit (.bool true)
/-- Block b is the set S. -/
def SetM (w : World) (b : Nat) (S : List Int) : Prop := ∃ D, w.ownsMap Try.prog 3 RB b S.length D ∧ IsSet D S
theorem SetM.lt {w : World} {b : Nat} {S : List Int} (h : SetM w b S) : b < w.heap.size := by
  obtain ⟨D, h, _⟩ := h
  exact h.lt
theorem SetM.block {w w' : World} {b : Nat} {S : List Int} (h : SetM w b S) (hs : w'.heap[b]? = w.heap[b]?) : SetM w' b S := by
  obtain ⟨D, ⟨es, clock, hb, rest⟩, hD⟩ := h
  exact ⟨D, ⟨es, clock, by rw [hs]; exact hb, rest⟩, hD⟩
theorem SetM.later {w w' : World} {b : Nat} {S : List Int} (h : SetM w b S) (hL : Later w w') : SetM w' b S := h.block (hL.block b h.lt)
theorem mkM_set {w : World} {k : Value → World → Prop} (hk : ∀ w', Later w w' → SetM w' w.heap.size [] → w'.heap.size = w.heap.size + 1 → k (.map (some w.heap.size)) w') : mkM w k := by
  refine hk _ (Later.al _ _) ⟨.map [], World.ownsMap_made w _ _ _, ⟨fun x => by simp [Maps.has], fun x z h => by cases h⟩⟩ (by simp)
theorem SetM.look {w : World} {b : Nat} {S : List Int} {x : Int} {k : Value → World → Prop} (h : SetM w b S) (hx : InR x) (hk : k (.bool (decide (x ∈ S))) w) :
    sm Try.prog (Instr.lookup 50 (.map (some b)) (.int .i64 x) false) w k := by
  obtain ⟨D, h, hD⟩ := h
  obtain ⟨v, ps, hr, hv⟩ := h.lookup K_int U_set (Z_bool w) (RB_mk false) (key_int hx)
  obtain ⟨y, rfl, hy⟩ := RB_inv hv
  refine ⟨_, _, hr, ?_⟩
  have : y = decide (x ∈ S) := by
    by_cases hm : x ∈ S
    · have hy' : (DataW.lit (Lit.bool true) : DataW Unit) = .lit (.bool y) := (hD.tr x _ hm).symm.trans hy
      cases hy'
      rw [decide_eq_true hm]
    · have h0 : Maps.has D (.int .i64 x) = false := by rw [hD.has]; exact decide_eq_false hm
      have hy' : (DataW.lit (Lit.bool false) : DataW Unit) = .lit (.bool y) := (Maps.atKey_of_not_has h0 _).symm.trans hy
      cases hy'
      rw [decide_eq_false hm]
  rw [this]
  exact hk
theorem SetM.add {w : World} {b : Nat} {S : List Int} {x : Int} {k : World → Prop} (h : SetM w b S) (hx : InR x) (hn : S.length < maxLen) (hk : ∀ w', SetM w' b (S ++ [x]) → w.grownBy w' (some b) → k w') :
    su Try.prog (Instr.mapUpdate 50 (.map (some b)) (.int .i64 x) (.bool true)) w k := by
  obtain ⟨D, h, hD⟩ := h
  obtain ⟨w', hr, h1, h2⟩ := h.update K_int U_set hn (key_int hx) (RB_mk true)
  refine ⟨w', hr, hk w' ⟨_, by rw [List.length_append]; exact h1, ⟨fun y => ?_, fun y z hy => ?_⟩⟩ h2⟩
  · by_cases e : y = x
    · subst e
      rw [Maps.has_put_same h.isMap (K_int.key (key_int hx))]
      simp
    · rw [Maps.has_put_other (fun h' => e (by injection h')), hD.has]
      simp [e]
  · by_cases e : y = x
    · subst e
      exact Maps.atKey_put_same h.isMap (K_int.key (key_int hx)) _ _
    · rw [Maps.atKey_put_other (fun h' => e (by injection h'))]
      exact hD.tr y z (by simpa [e] using hy)
/-- The loop over a set, under way: 'left' are those to come. -/
def RangeM (w : World) (b r : Nat) (S : List Int) (left : Int → Bool) (cnt : Nat) : Prop :=
  ∃ D lf, w.ranges Try.prog 3 RB b r S.length D lf cnt ∧ IsSet D S ∧ ∀ x, lf (.int .i64 x) = left x
theorem RangeM.set {w : World} {b r : Nat} {S : List Int} {left : Int → Bool} {cnt : Nat} (h : RangeM w b r S left cnt) : SetM w b S := by
  obtain ⟨D, lf, h, hD, _⟩ := h
  exact ⟨D, h.owns, hD⟩
theorem RangeM.ltr {w : World} {b r : Nat} {S : List Int} {left : Int → Bool} {cnt : Nat} (h : RangeM w b r S left cnt) : r < w.heap.size := by
  obtain ⟨D, lf, h, hD, _⟩ := h
  exact h.lt
theorem RangeM.block {w w' : World} {b r : Nat} {S : List Int} {left : Int → Bool} {cnt : Nat} (h : RangeM w b r S left cnt) (hb : w'.heap[b]? = w.heap[b]?) (hr : w'.heap[r]? = w.heap[r]?) : RangeM w' b r S left cnt := by
  obtain ⟨D, lf, ⟨es, clock, since, seen, c0, h1, h2, h3, h4, h5, rest⟩, hD, hl⟩ := h
  exact ⟨D, lf, ⟨es, clock, since, seen, c0, by rw [hb]; exact h1, h2, h3, h4, by rw [hr]; exact h5, rest⟩, hD, hl⟩
theorem SetM.range {w : World} {b : Nat} {S : List Int} {k : Value → World → Prop} (h : SetM w b S) (hk : ∀ w' cnt, RangeM w' b w.heap.size S (fun x => decide (x ∈ S)) cnt → Later w w' → w'.heap.size = w.heap.size + 1 → k (.pointer (some ⟨w.heap.size, 0, none⟩)) w') :
    sm Try.prog (Instr.range 50 (.map (some b))) w k := by
  obtain ⟨D, h, hD⟩ := h
  obtain ⟨w', hr, h1, h2, h3⟩ := h.range K_int U_set
  exact ⟨_, _, hr, hk w' _ ⟨D, _, h1, hD, hD.has⟩ (grown_later h2) h3⟩
theorem RangeM.next {w : World} {b r : Nat} {S : List Int} {left : Int → Bool} {cnt : Nat} {ty : TypeId} {k : Value → World → Prop} (h : RangeM w b r S left cnt)
    (h0 : (∀ x, left x = false) → k (.tuple #[.bool false]) w)
    (h1 : ∀ x v w' cnt', InR x → left x = true → x ∈ S → RangeM w' b r S (fun y => left y && !decide (y = x)) cnt' → cnt' < cnt → w.grownBy w' (some r) → w'.heap.size = w.heap.size →
      (Instr.entry (.pointer (some ⟨r, 0, none⟩))).run Try.prog w' = .ok (.tuple #[.int .i64 x, v]) w' → k (.tuple #[.bool true, .int .i64 x, v]) w') :
    sm Try.prog (Instr.next (.pointer (some ⟨r, 0, none⟩)) false ty) w k := by
  obtain ⟨D, lf, h, hD, hl⟩ := h
  rcases h.next K_int ty with ⟨_, hn, hr⟩ | ⟨key, v, kl, y, w', cnt', hkey, hlk, hv, hat, hr, hrg, hlt, hg, hs, hen⟩
  · exact ⟨_, _, hr, h0 fun x => by rw [← hl]; exact hn _⟩
  · obtain ⟨x, rfl, rfl, hw⟩ := Maps.keyOf_int_inv U_int hkey
    have hx := wf_inR hw
    refine ⟨_, _, hr, h1 x v w' cnt' hx (by rw [← hl]; exact hlk) ?_ ⟨D, _, hrg, hD, fun z => ?_⟩ hlt hg hs hen⟩
    · have := Maps.has_true_of_atKey hat
      exact of_decide_eq_true ((hD.has x).symm.trans this)
    · have e1 : (Lit.int .i64 z).sameKey (.int .i64 x) = decide (z = x) := by
        by_cases e : z = x
        · subst e
          rw [decide_eq_true rfl]
          exact WideAt.sameKey_self (K_int.key (key_int hx))
        · rw [decide_eq_false e]
          exact Maps.sameKey_ne (fun h' => e (by injection h'))
      exact (congrArg (fun b => lf (.int .i64 z) && !b) e1).trans (congrArg (fun a => a && !decide (z = x)) (hl z))
end Go.Proofs.Ytlicdhdpngahgaa
