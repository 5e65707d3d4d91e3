/- What a row's condition gives: the table of white space. -/
import Derived.Test.YtlicdhdpngahgaaDoorCards
import Derived.Test.YtlicdhdpngahgaaDoorTie
import Derived.Test.YtlicdhdpngahgaaDoorName
import Derived.ProofKit
import Derived.OpenShut
import Derived.ShutString
import Derived.ChangeOld
import Derived.Below
import Derived.SliceStrings
import Derived.HandedShaped
import Derived.LaidMore
import Derived.Lay
import Derived.Lib.LaidU8
import Derived.Stop.Joined
import Derived.SevenTiedAt
set_option linter.unusedVariables false
set_option linter.unusedSimpArgs false
namespace Go.Proofs.YtlicdhdpngahgaaDoor
open Go.Eng Go.ChangeShapes Go.WideShapes Go.ChangeAt Go.RowKit
theorem rowOwn : ownKnob Tryd.prog.godebug = none := by kernel_rfl
theorem rowLaid : laidOutB Tryd.prog = true := by kernel_rfl
noncomputable abbrev laidL : List (String × DataW Unit) := [("unicode.White_Space", Rows.laid_unicode_White_Space), ("strings.asciiSpace", Rows.laid_strings_asciiSpace)]
theorem laidL_plain {W : World} : laidMetH Tryd.prog laidL W = laidMet Tryd.prog laidL W := MakeChecks.laidMetH_plain _ _ _ (by kernel_rfl)
theorem tab_data : Rows.laid_strings_asciiSpace (H := Unit) = Lib.tabData .u8 Lib.asciiSpaceTab := by kernel_rfl
theorem tab_type : (Tryd.prog.globals[0]?).map (·.type) = some 121 := by kernel_rfl
theorem tab_cells : Tryd.prog.cellsOf 121 = 256 := by kernel_rfl
theorem tab_cell : Tryd.prog.cellsOf 5 = 1 := by kernel_rfl
theorem U_u8r : Tryd.prog.underlying 5 = some (.int .u8) := by kernel_rfl
theorem U_strr : Tryd.prog.underlying 9 = some .string := by kernel_rfl
theorem wf_u8 {x : Int} (h : (Lit.int .u8 x).wf = true) : 0 ≤ x ∧ x ≤ 255 := by
  have h : (decide (IntKind.u8.min ≤ x) && decide (x ≤ IntKind.u8.max)) = true := h
  rw [Bool.and_eq_true] at h
  exact ⟨of_decide_eq_true h.1, of_decide_eq_true h.2⟩
/-- Over a variable program: the loaded one is too deep for a rewrite. -/
theorem tab_reads {P : Program} {W : World} {l : List (String × DataW Unit)} {name : String} {d : DataW Unit} {k : IntKind} {zs : List Int} {g n : Nat} {t e : TypeId} (hg : P.globalNamed name = some g) (hty : (P.globals[g]?).map (·.type) = some t)
    (ht : P.underlying t = some (.array n e)) (he : P.underlying e = some (.int k)) (hce : P.cellsOf e = 1) (hct : P.cellsOf t = n) (hd : d = Lib.tabData k zs) (hm : (name, d) ∈ l) (h : laidMet P l W) :
    ∃ T fr, W.heap[g]? = some (.cells (zs.map fun z => Value.int k z).toArray T fr) := by
  obtain ⟨g', t', cs, fuel, p, hg', hty', hvar, hd'⟩ := Lib.laidMet.reads h hm
  obtain rfl := Option.some.inj (hg.symm.trans hg')
  obtain rfl := Option.some.inj (hty.symm.trans hty')
  subst hd
  have := Lib.cells_of_tab ht he hce hct hd'
  obtain ⟨T, fr, hh⟩ := heap_of_var hg hvar
  refine ⟨T, fr, ?_⟩
  rw [hh, ← this]
theorem tab_of_laid {W : World} (h : laidMetH Tryd.prog laidL W) : Tab W :=
  tab_reads gTab tab_type (by kernel_rfl) (by kernel_rfl) tab_cell tab_cells tab_data (.tail _ (.head _)) (laidL_plain.mp h)
theorem laid_all (os : Os) : laidMet Tryd.prog laidL ((World.laidAll Tryd.prog os laidL).forCall (fun _ _ => 0) ⟨#[], #[], []⟩).memory := laidMet_laidAll _ (by kernel_rfl) (by kernel_rfl)
end Go.Proofs.YtlicdhdpngahgaaDoor
