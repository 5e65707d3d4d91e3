/- Structs held against each other: cells, patches, pages that were changed. -/
import Derived.Test.YtlicdhdpngahgaaDoorName
import Derived.Test.YtlicdhdpngahgaaDoorNum
import Derived.Laws.StructEq
set_option linter.unusedVariables false
set_option linter.unusedSimpArgs false
namespace Go.Proofs.YtlicdhdpngahgaaDoor
open Go.Eng Go.RowKit
theorem eqFields_all {P : Program} {d : Nat} {xs ys : Array Value} {e : Field → Bool} : ∀ (fs : List Field) (w : World), (∀ f ∈ fs, ∃ a b, (f.name ≠ "_") ∧ isAggT P f.type = some false ∧ xs[f.offset]? = some a ∧ ys[f.offset]? = some b ∧ (∀ w, (Op.equalIn d f.type a b).run P w = .ok (e f) w)) → (Op.eqFields d xs ys fs).run P w = .ok (fs.all e) w
  | [], w, _ => rfl
  | f :: fs, w, h => by
    obtain ⟨a, b, h1, h2, h3, h4, h5⟩ := h f List.mem_cons_self
    have hp : ∀ w, (part f.type xs f.offset).run P w = .ok a w := fun w => by
      simp [part, run_isAgg h2, h3]
    have hq : ∀ w, (part f.type ys f.offset).run P w = .ok b w := fun w => by
      simp [part, run_isAgg h2, h4]
    have ih := eqFields_all (P := P) (d := d) (xs := xs) (ys := ys) (e := e) fs w (fun g hg => h g (List.mem_cons_of_mem _ hg))
    simp only [Op.eqFields, if_pos h1, Sem.run_bind, hp, hq, Result.andThen_ok, h5]
    cases he : e f with
    | true =>
      simp only [Bool.not_true, Bool.false_eq_true, if_false]
      rw [ih]
      simp [he]
    | false => simp [he]
theorem agg_int : isAggT Tryd.prog 3 = some false := by kernel_rfl
theorem agg_string : isAggT Tryd.prog 9 = some false := by kernel_rfl
theorem eq_int (x y : Int) (w : World) : (Op.equalIn 9999 3 (.int .i64 x) (.int .i64 y)).run Tryd.prog w = .ok (decide (x = y)) w := by
  rw [run_equalIn_int (P := Tryd.prog) w 9998 3 .i64 .i64 x y U_int]; rfl
theorem eq_str (x y : List UInt8) (w : World) : (Op.equalIn 9999 9 (.string (bs x)) (.string (bs y))).run Tryd.prog w = .ok (decide (x = y)) w := by
  rw [run_equalIn_string (P := Tryd.prog) w 9998 9 _ _ U_string, bs_beq]
/-- Two structs: equal. -/
theorem eqlS {t : TypeId} {x y : Operand} {xs ys : Array Value} {e : Field → Bool} {b : Bool} {k : Value → Prop} (hg : Tryd.prog.eqGuardType Tryd.prog.depth t = false) (ht : Tryd.prog.underlying t = some (.struct (Tryd.prog.fieldsOf t))) (hs : Tryd.prog.stoodInHeld t = false)
    (he : ∀ w, (Op.eqFields 9999 xs ys (Tryd.prog.fieldsOf t).toList).run Tryd.prog w = .ok b w) (hk : k (.bool b)) : yl Tryd.prog (semBin .eql t x y (.agg xs) (.agg ys)) k := by
  refine ⟨_, fun w => ?_, hk⟩
  show (do eqGuard .eql t x y (.agg xs) (.agg ys); binOp .eql t (.agg xs) (.agg ys) : Sem Value).run Tryd.prog w = _
  rw [Sem.run_bind, run_eqGuard_agg (P := Tryd.prog) w .eql t x y xs ys hg, Result.andThen_ok, run_eql_struct,
    run_equalIn_agg (P := Tryd.prog) w 9999 t xs ys ht hs, he]
  rfl
theorem neqS {t : TypeId} {x y : Operand} {xs ys : Array Value} {b : Bool} {k : Value → Prop} (hg : Tryd.prog.eqGuardType Tryd.prog.depth t = false) (ht : Tryd.prog.underlying t = some (.struct (Tryd.prog.fieldsOf t))) (hs : Tryd.prog.stoodInHeld t = false)
    (he : ∀ w, (Op.eqFields 9999 xs ys (Tryd.prog.fieldsOf t).toList).run Tryd.prog w = .ok b w) (hk : k (.bool !b)) : yl Tryd.prog (semBin .neq t x y (.agg xs) (.agg ys)) k := by
  refine ⟨_, fun w => ?_, hk⟩
  show (do eqGuard .neq t x y (.agg xs) (.agg ys); binOp .neq t (.agg xs) (.agg ys) : Sem Value).run Tryd.prog w = _
  rw [Sem.run_bind, run_eqGuard_agg (P := Tryd.prog) w .neq t x y xs ys hg, Result.andThen_ok, run_neq_struct,
    run_equalIn_agg (P := Tryd.prog) w 9999 t xs ys ht hs, he]
  rfl
theorem cellFields : (Tryd.prog.fieldsOf 23).toList.map (fun f => (f.name, f.type, f.offset)) = [("Key", 9, 0), ("Value", 9, 1), ("Blob", 3, 2), ("Size", 3, 3)] := by kernel_rfl
theorem patFields : (Tryd.prog.fieldsOf 39).toList.map (fun f => (f.name, f.type, f.offset)) = [("Page", 3, 0), ("At", 3, 1), ("Bytes", 9, 2)] := by kernel_rfl
theorem dirtFields : (Tryd.prog.fieldsOf 74).toList.map (fun f => (f.name, f.type, f.offset)) = [("Page", 3, 0), ("Lsn", 3, 1)] := by kernel_rfl
def ccells (key val : List UInt8) (bl sz : Int) : Array Value := #[.string (bs key), .string (bs val), .int .i64 bl, .int .i64 sz]
def fldEq (xs ys : List (Bool)) : Field → Bool := fun f => xs.getD f.offset true
theorem of_fields {fs : List Field} {l : List (String × TypeId × Nat)} (h : fs.map (fun f => (f.name, f.type, f.offset)) = l) {p : Field → Prop} (hp : ∀ n t o, (n, t, o) ∈ l → ∀ f : Field, f.name = n → f.type = t → f.offset = o → p f) : ∀ f ∈ fs, p f := fun f hf =>
  hp f.name f.type f.offset (by rw [← h]; exact List.mem_map.2 ⟨f, hf, rfl⟩) f rfl rfl rfl
theorem all_fields {fs : List Field} {l : List (String × TypeId × Nat)} (h : fs.map (fun f => (f.name, f.type, f.offset)) = l) (e : Nat → Bool) : fs.all (fun f => e f.offset) = l.all fun x => e x.2.2 := by
  rw [← h, List.all_map]; rfl
theorem cell_eqF (k1 v1 k2 v2 : List UInt8) (b1 s1 b2 s2 : Int) (w : World) : (Op.eqFields 9999 (ccells k1 v1 b1 s1) (ccells k2 v2 b2 s2) (Tryd.prog.fieldsOf 23).toList).run Tryd.prog w = .ok (decide (k1 = k2 ∧ v1 = v2 ∧ b1 = b2 ∧ s1 = s2)) w := by
  rw [eqFields_all (e := fun f => [decide (k1 = k2), decide (v1 = v2), decide (b1 = b2), decide (s1 = s2)].getD f.offset true)]
  · rw [all_fields cellFields fun o => [decide (k1 = k2), decide (v1 = v2), decide (b1 = b2), decide (s1 = s2)].getD o true]
    simp
  · refine of_fields cellFields fun n t o hm f h1 h2 h3 => ?_
    simp only [List.mem_cons, List.not_mem_nil, or_false, Prod.mk.injEq] at hm
    rcases hm with ⟨rfl, rfl, rfl⟩ | ⟨rfl, rfl, rfl⟩ | ⟨rfl, rfl, rfl⟩ | ⟨rfl, rfl, rfl⟩
    · exact ⟨.string (bs k1), .string (bs k2), by rw [h1]; decide, by rw [h2]; exact agg_string, by rw [h3]; rfl, by rw [h3]; rfl, fun w => by rw [h2, h3]; exact eq_str k1 k2 w⟩
    · exact ⟨.string (bs v1), .string (bs v2), by rw [h1]; decide, by rw [h2]; exact agg_string, by rw [h3]; rfl, by rw [h3]; rfl, fun w => by rw [h2, h3]; exact eq_str v1 v2 w⟩
    · exact ⟨.int .i64 b1, .int .i64 b2, by rw [h1]; decide, by rw [h2]; exact agg_int, by rw [h3]; rfl, by rw [h3]; rfl, fun w => by rw [h2, h3]; exact eq_int b1 b2 w⟩
    · exact ⟨.int .i64 s1, .int .i64 s2, by rw [h1]; decide, by rw [h2]; exact agg_int, by rw [h3]; rfl, by rw [h3]; rfl, fun w => by rw [h2, h3]; exact eq_int s1 s2 w⟩
theorem cell_eq {k1 v1 k2 v2 : List UInt8} {b1 s1 b2 s2 : Int} {x y : Operand} {k : Value → Prop} (hk : k (.bool (decide (k1 = k2 ∧ v1 = v2 ∧ b1 = b2 ∧ s1 = s2)))) : yl Tryd.prog (semBin .eql 23 x y (.agg (ccells k1 v1 b1 s1)) (.agg (ccells k2 v2 b2 s2))) k :=
  eqlS (e := fun _ => true) (by kernel_rfl) (by kernel_rfl) (by kernel_rfl) (cell_eqF k1 v1 k2 v2 b1 s1 b2 s2) hk
theorem cell_ne {k1 v1 k2 v2 : List UInt8} {b1 s1 b2 s2 : Int} {x y : Operand} {k : Value → Prop} (hk : k (.bool (!decide (k1 = k2 ∧ v1 = v2 ∧ b1 = b2 ∧ s1 = s2)))) : yl Tryd.prog (semBin .neq 23 x y (.agg (ccells k1 v1 b1 s1)) (.agg (ccells k2 v2 b2 s2))) k :=
  neqS (by kernel_rfl) (by kernel_rfl) (by kernel_rfl) (cell_eqF k1 v1 k2 v2 b1 s1 b2 s2) hk
theorem pat_eq {p q : Pat} {x y : Operand} {k : Value → Prop} (hk : k (.bool (decide (p = q)))) : yl Tryd.prog (semBin .eql 39 x y (.agg #[.int .i64 p.page, .int .i64 p.at_, .string (bs p.byt)]) (.agg #[.int .i64 q.page, .int .i64 q.at_, .string (bs q.byt)])) k := by
  refine eqlS (e := fun _ => true) (b := decide (p = q)) (by kernel_rfl) (by kernel_rfl) (by kernel_rfl) (fun w => ?_) hk
  rw [eqFields_all (e := fun f => [decide (p.page = q.page), decide (p.at_ = q.at_), decide (p.byt = q.byt)].getD f.offset true)]
  · rw [all_fields patFields fun o => [decide (p.page = q.page), decide (p.at_ = q.at_), decide (p.byt = q.byt)].getD o true]
    congr 1
    cases p; cases q
    simp [Pat.mk.injEq, Bool.decide_and]
  · refine of_fields patFields fun n t o hm f h1 h2 h3 => ?_
    simp only [List.mem_cons, List.not_mem_nil, or_false, Prod.mk.injEq] at hm
    rcases hm with ⟨rfl, rfl, rfl⟩ | ⟨rfl, rfl, rfl⟩ | ⟨rfl, rfl, rfl⟩
    · exact ⟨.int .i64 p.page, .int .i64 q.page, by rw [h1]; decide, by rw [h2]; exact agg_int, by rw [h3]; rfl, by rw [h3]; rfl, fun w => by rw [h2, h3]; exact eq_int _ _ w⟩
    · exact ⟨.int .i64 p.at_, .int .i64 q.at_, by rw [h1]; decide, by rw [h2]; exact agg_int, by rw [h3]; rfl, by rw [h3]; rfl, fun w => by rw [h2, h3]; exact eq_int _ _ w⟩
    · exact ⟨.string (bs p.byt), .string (bs q.byt), by rw [h1]; decide, by rw [h2]; exact agg_string, by rw [h3]; rfl, by rw [h3]; rfl, fun w => by rw [h2, h3]; exact eq_str _ _ w⟩
theorem dirt_eq {p q : Int × Int} {x y : Operand} {k : Value → Prop} (hk : k (.bool (decide (p = q)))) : yl Tryd.prog (semBin .eql 74 x y (.agg #[.int .i64 p.1, .int .i64 p.2]) (.agg #[.int .i64 q.1, .int .i64 q.2])) k := by
  refine eqlS (e := fun _ => true) (b := decide (p = q)) (by kernel_rfl) (by kernel_rfl) (by kernel_rfl) (fun w => ?_) hk
  rw [eqFields_all (e := fun f => [decide (p.1 = q.1), decide (p.2 = q.2)].getD f.offset true)]
  · rw [all_fields dirtFields fun o => [decide (p.1 = q.1), decide (p.2 = q.2)].getD o true]
    congr 1
    cases p; cases q
    simp [Prod.mk.injEq, Bool.decide_and]
  · refine of_fields dirtFields fun n t o hm f h1 h2 h3 => ?_
    simp only [List.mem_cons, List.not_mem_nil, or_false, Prod.mk.injEq] at hm
    rcases hm with ⟨rfl, rfl, rfl⟩ | ⟨rfl, rfl, rfl⟩
    · exact ⟨.int .i64 p.1, .int .i64 q.1, by rw [h1]; decide, by rw [h2]; exact agg_int, by rw [h3]; rfl, by rw [h3]; rfl, fun w => by rw [h2, h3]; exact eq_int _ _ w⟩
    · exact ⟨.int .i64 p.2, .int .i64 q.2, by rw [h1]; decide, by rw [h2]; exact agg_int, by rw [h3]; rfl, by rw [h3]; rfl, fun w => by rw [h2, h3]; exact eq_int _ _ w⟩
end Go.Proofs.YtlicdhdpngahgaaDoor
