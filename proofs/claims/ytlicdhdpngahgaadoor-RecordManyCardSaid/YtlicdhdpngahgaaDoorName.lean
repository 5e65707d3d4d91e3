/- The kinds' names. -/
import Derived.Test.YtlicdhdpngahgaaDoorRec
import Derived.Test.YtlicdhdpngahgaaDoorShelf
import Derived.Lib.LaidTab
set_option linter.unusedVariables false
set_option linter.unusedSimpArgs false
namespace Go.Proofs.YtlicdhdpngahgaaDoor
open Go.Eng Go.RowKit
/-- The library's table of white space is what its text says. -/
def Tab (w : World) : Prop := ∃ t fr, w.heap[(0 : Nat)]? = some (.cells (Lib.asciiSpaceTab.map fun z => Value.int .u8 z).toArray t fr)
theorem gTab : Tryd.prog.globalNamed "strings.asciiSpace" = some 0 := by kernel_rfl
theorem var_of {P : Program} {w : World} {n : String} {g : Nat} {cs : Array Value} {t : TypeId} {fr : Nat × Nat} (hg : P.globalNamed n = some g) (h : w.heap[g]? = some (.cells cs t fr)) : w.var? P n = some cs := by
  unfold World.var?
  rw [hg]
  simp [h]
theorem heap_of_var {P : Program} {w : World} {n : String} {g : Nat} {cs : Array Value} (hg : P.globalNamed n = some g) (h : w.var? P n = some cs) : ∃ t fr, w.heap[g]? = some (.cells cs t fr) := by
  unfold World.var? at h
  rw [hg] at h
  simp only [Option.bind_some] at h
  split at h
  · rename_i c t fr hc
    injection h with h
    subst h
    exact ⟨t, fr, hc⟩
  · cases h
theorem Tab.is {w : World} (h : Tab w) : Lib.TabIs Tryd.prog w "strings.asciiSpace" .u8 Lib.asciiSpaceTab := by
  obtain ⟨t, fr, h⟩ := h
  exact var_of gTab h
theorem Tab.later {w w' : World} (h : Tab w) (hL : Later w w') : Tab w' := by
  obtain ⟨t, fr, h⟩ := h
  exact ⟨t, fr, hL.heap h⟩
/-- 'update undone struct commit end abort check' -/
def namesText : List UInt8 := [117, 112, 100, 97, 116, 101, 32, 117, 110, 100, 111, 110, 101, 32, 115, 116, 114, 117, 99, 116, 32, 99, 111, 109, 109, 105, 116, 32, 101, 110, 100, 32, 97, 98, 111, 114, 116, 32, 99, 104, 101, 99, 107]
def names : List (List UInt8) := [[117, 112, 100, 97, 116, 101], [117, 110, 100, 111, 110, 101], [115, 116, 114, 117, 99, 116], [99, 111, 109, 109, 105, 116], [101, 110, 100], [97, 98, 111, 114, 116], [99, 104, 101, 99, 107]]
theorem names_fields : Lib.fields namesText = names := by decide +kernel
def nameOf (k : Int) : List UInt8 := if 1 ≤ k ∧ k ≤ 7 then names.getD (k - 1).toNat [] else []
theorem Name_from {kind : Int} {w : World} {k : Value → World → Prop} (hT : Tab w) (hk : ∀ w', Later w w' → k (.string (bs (nameOf kind))) w') :
    callW Tryd.prog (.func (.func 21) #[] #[]) [.int .i64 kind] w k := by
  apply record_Name_call
  apply record_Name_run
  simp only [record_Name]
  refine ⟨by kernel_rfl, calls_rt (Tryd.strings_Fields (bs namesText) w (by decide) (by
    intro j b hb
    have hm : ∀ b ∈ namesText, b.toNat < 128 := by decide
    exact hm b (List.mem_of_getElem? hb)) hT.is) ?_⟩
  rintro e w1 ⟨rfl, rfl⟩
  refine ⟨_, rfl, ?_⟩
  have e1 : Lib.fields (bs namesText).data.toList = names := names_fields
  rw [e1]
  have hL : Later w (w.alloc (.cells (names.map fun l => Value.string ⟨l.toArray⟩).toArray 9)) := Later.al _ _
  have hg : (w.alloc (.cells (names.map fun l => Value.string ⟨l.toArray⟩).toArray 9)).heap[w.heap.size]? = some (.cells (names.map fun l => Value.string ⟨l.toArray⟩).toArray 9 (0, 0)) := heap_alloc_new w _
  generalize w.alloc (.cells (names.map fun l => Value.string ⟨l.toArray⟩).toArray 9) = W at *
  have hno : ¬ (1 ≤ kind ∧ kind ≤ 7) → k (.string ⟨#[]⟩) W := fun h => by
    have := hk W hL
    rwa [nameOf, if_neg h] at this
  simp only [iw_add, iw_sub, iw_mul, iw_lss, iw_leq, iw_gtr, iw_geq, iw_eql, iw_neq, iw_quo, iw_rem, un_not, len_s, len_l, nck_p, fld_p, cv_i, unc_c, ex_0, ex_1, ex_2, st_eq, st_ne, brV_true, brV_false, brV_b, brV_not, one_one, nil_p, nil_pn, nil_n, nil_nn, decide_eq_true_eq, true_and, nb_ite, bs_size, Nat.zero_add, Bool.not_true, Bool.not_false, Bool.false_eq_true, eq_self, if_true, if_false, jn, jn, record_Name_J3]
  by_cases h1 : kind < 1
  · rw [if_pos h1]; exact hno fun h => by omega
  rw [if_neg h1]
  have hl : names.length = 7 := rfl
  rw [hl]
  by_cases h2 : kind > ((7 : Nat) : Int)
  · rw [if_pos h2]; exact hno fun h => by omega
  rw [if_neg h2]
  have hr : 1 ≤ kind ∧ kind ≤ 7 := by omega
  rw [wrap64 (by omega) (by omega)]
  obtain ⟨n, hn⟩ : ∃ n : Nat, kind - 1 = (n : Int) := ⟨(kind - 1).toNat, by omega⟩
  rw [hn]
  have hn7 : n < names.length := by rw [hl]; omega
  refine ⟨by omega, by omega, ?_⟩
  rw [addA]
  simp only [Int.toNat_natCast, Nat.zero_add, Nat.mul_one]
  refine ⟨.string (bs names[n]), ?_, ?_⟩
  · rw [heap_cell hg]
    simp [hn7, bs]
  · have := hk W hL
    rw [nameOf, if_pos hr, hn, Int.toNat_natCast, List.getD_eq_getElem?_getD, List.getElem?_eq_getElem hn7] at this
    exact this
theorem names_ne : ∀ n < 7, names.getD n [] ≠ [] := by decide
theorem name_nil (k : Int) : nameOf k = [] ↔ ¬ (1 ≤ k ∧ k ≤ 7) := by
  unfold nameOf
  split
  · rename_i h
    constructor
    · intro h2; exact absurd h2 (names_ne _ (by omega))
    · intro h2; exact absurd h h2
  · rename_i h; simp [h]
theorem names_inj : ∀ a < 7, ∀ b < 7, names.getD a [] = names.getD b [] → a = b := by decide
theorem name_inj {a b : Int} (ha : 1 ≤ a ∧ a ≤ 7) (h : nameOf a = nameOf b) : a = b := by
  by_cases hb : 1 ≤ b ∧ b ≤ 7
  · rw [nameOf, nameOf, if_pos ha, if_pos hb] at h
    have := names_inj _ (by omega) _ (by omega) h
    omega
  · rw [(name_nil b).2 hb] at h
    exact absurd ha ((name_nil a).1 h)
end Go.Proofs.YtlicdhdpngahgaaDoor
