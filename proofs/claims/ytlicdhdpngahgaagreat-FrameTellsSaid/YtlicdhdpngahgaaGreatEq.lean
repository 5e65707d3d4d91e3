/- A struct of the log's sectors held against itself. -/
import Derived.Test.YtlicdhdpngahgaaGreatFr
import Derived.Laws.StructEq
set_option linter.unusedVariables false
set_option linter.unusedSimpArgs false
namespace Go.Proofs.YtlicdhdpngahgaaGreat
open Go.Eng Go.RowKit
theorem eqFields_refl {P : Program} {d : Nat} {xs : Array Value} : ∀ (fs : List Field) (w : World), (∀ f ∈ fs, ∃ a, (f.name ≠ "_") ∧ isAggT P f.type = some false ∧ xs[f.offset]? = some a ∧ (∀ w, (Op.equalIn d f.type a a).run P w = .ok true w)) → (Op.eqFields d xs xs fs).run P w = .ok true w
  | [], w, _ => rfl
  | f :: fs, w, h => by
    obtain ⟨a, h1, h2, h3, h4⟩ := h f List.mem_cons_self
    have hp : ∀ w, (part f.type xs f.offset).run P w = .ok a w := fun w => by
      simp [part, run_isAgg h2, h3]
    have ih := eqFields_refl (P := P) (d := d) (xs := xs) fs w (fun g hg => h g (List.mem_cons_of_mem _ hg))
    simp only [Op.eqFields, if_pos h1, Sem.run_bind, hp, Result.andThen_ok, h4, Bool.not_true, Bool.false_eq_true, if_false]
    exact ih
theorem secFields : (Tryz.prog.fieldsOf 23).toList = [{ name := "Epoch", type := 3, offset := 0, embedded := false, tag := "", pkgPath := "", byteOffset := 0 },
        { name := "Index", type := 3, offset := 1, embedded := false, tag := "", pkgPath := "", byteOffset := 8 },
        { name := "Fresh", type := 4, offset := 2, embedded := false, tag := "", pkgPath := "", byteOffset := 16 },
        { name := "Payload", type := 9, offset := 3, embedded := false, tag := "", pkgPath := "", byteOffset := 24 }] := by kernel_rfl
theorem U_int : Tryz.prog.underlying 3 = some (.int .i64) := by kernel_rfl
theorem U_bool : Tryz.prog.underlying 4 = some .bool := by kernel_rfl
theorem agg_int : isAggT Tryz.prog 3 = some false := by kernel_rfl
theorem agg_bool : isAggT Tryz.prog 4 = some false := by kernel_rfl
theorem agg_string : isAggT Tryz.prog 9 = some false := by kernel_rfl
theorem neq_sec {x y : Operand} {s : Sec} {k : Value → Prop} (hk : k (.bool false)) : yl Tryz.prog (semBin .neq 23 x y (.agg s.cells) (.agg s.cells)) k := by
  refine ⟨_, fun w => ?_, hk⟩
  show (do eqGuard .neq 23 x y (.agg s.cells) (.agg s.cells); binOp .neq 23 (.agg s.cells) (.agg s.cells) : Sem Value).run Tryz.prog w = _
  rw [Sem.run_bind, run_eqGuard_agg (P := Tryz.prog) w .neq 23 x y s.cells s.cells (by kernel_rfl), Result.andThen_ok, run_neq_struct,
    run_equalIn_agg (P := Tryz.prog) w 9999 23 s.cells s.cells (by kernel_rfl) (by kernel_rfl), secFields, eqFields_refl]
  · rfl
  · intro f hf
    simp only [List.mem_cons, List.not_mem_nil, or_false] at hf
    rcases hf with rfl | rfl | rfl | rfl
    · exact ⟨.int .i64 s.epoch, by decide, agg_int, rfl, fun w => by rw [run_equalIn_int (P := Tryz.prog) w 9998 3 .i64 .i64 _ _ U_int]; simp⟩
    · exact ⟨.int .i64 s.index, by decide, agg_int, rfl, fun w => by rw [run_equalIn_int (P := Tryz.prog) w 9998 3 .i64 .i64 _ _ U_int]; simp⟩
    · exact ⟨.bool s.fresh, by decide, agg_bool, rfl, fun w => by rw [run_equalIn_bool' (P := Tryz.prog) w 9998 4 _ _ U_bool]; simp⟩
    · exact ⟨.string (bs s.pay), by decide, agg_string, rfl, fun w => by rw [run_equalIn_string (P := Tryz.prog) w 9998 9 _ _ U_string]; simp⟩
end Go.Proofs.YtlicdhdpngahgaaGreat
