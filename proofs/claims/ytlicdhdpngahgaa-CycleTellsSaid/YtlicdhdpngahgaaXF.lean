/- The texts of functions over the engine's words, each with the theorem that the machine's call does what it tells. Written by eng.py out of Lean's print of the loaded program; Lean's kernel checks them against it. -/
import Derived.Test.YtlicdhdpngahgaaEngD
import Derived.Test.YtlicdhdpngahgaaProg
set_option linter.unusedVariables false
namespace Go.Proofs.Ytlicdhdpngahgaa
open Go.Eng
theorem mixed : Try.prog.follows .mixedOrders = true := by kernel_rfl
def honeycomblaw17_CycleTells_J2 (R : Value → World → Prop) : List Value → World → Prop := fun l w =>
 callW Try.prog (.func (.func 4) #[] #[]) [] w fun t22 w =>
 R t22 w
def honeycomblaw17_CycleTells_J15 (R : Value → World → Prop) (r12 : List Value → World → Prop) : List Value → World → Prop := fun l w =>
 unc l fun t1 l =>
 unc l fun t5 l =>
 unc l fun t6 l =>
 unc l fun t8 l =>
 unc l fun t9 l =>
 unc l fun t10 l =>
 unc l fun t11 l =>
 unc l fun t12 l =>
 unc l fun t48 l =>
 unc l fun t49 l =>
 unc l fun t50 l =>
 intW .add t50 (.int .i64 1) fun t63 =>
 r12 [t1, t5, t6, t8, t9, t10, t11, t12, t48, t49, t63] w
def honeycomblaw17_CycleTells_J17 (R : Value → World → Prop) : List Value → World → Prop := fun l w =>
 R (.bool false) w
def honeycomblaw17_CycleTells_J18 (R : Value → World → Prop) : List Value → World → Prop := fun l w =>
 unc l fun t1 l =>
 unc l fun t5 l =>
 unc l fun t8 l =>
 callW Try.prog (.func (.func 12) #[] #[]) [t5, t1] w fun t104 w =>
 brV t104
 (callW Try.prog (.func (.func 13) #[] #[]) [t8] w fun t107 w =>
 R t107 w)
 (R (.bool false) w)
def honeycomblaw17_CycleTells_L12 (R : Value → World → Prop) : (List Value → World → Prop) → List Value → World → Prop := fun r12 l w =>
 unc l fun t1 l =>
 unc l fun t5 l =>
 unc l fun t6 l =>
 unc l fun t8 l =>
 unc l fun t9 l =>
 unc l fun t10 l =>
 unc l fun t11 l =>
 unc l fun t12 l =>
 unc l fun t48 l =>
 unc l fun t49 l =>
 unc l fun t50 l =>
 intW .lss t50 t49 fun t51 =>
 brV t51
 (ixS 2 t48 t50 fun t52 =>
 ldN 2 t52 w fun t53 _ =>
 alW #[(.int .i64 0), (.int .i64 0)] 43 w fun t14 w =>
 stN 2 t14 t53 w fun w =>
 brV t12
 (jn (honeycomblaw17_CycleTells_J15 R r12) [t1, t5, t6, t8, t9, t10, t11, (.bool true), t48, t49, t50] w)
 (yl Try.prog (Instr.indexAt 43 t14 (.int .i64 0)) fun t56 =>
 ldC t56 w fun t57 _ =>
 callW Try.prog (.func (.func 8) #[] #[]) [t57, t1] w fun t59 w =>
 lenSl t59 fun t60 =>
 intW .gtr t60 (.int .i64 0) fun t61 =>
 jn (honeycomblaw17_CycleTells_J15 R r12) [t1, t5, t6, t8, t9, t10, t11, t61, t48, t49, t50] w))
 (callW Try.prog (.func (.func 10) #[] #[]) [t6, t9] w fun t66 w =>
 unW .not t66 fun t67 =>
 brV t67
 (jn (honeycomblaw17_CycleTells_J17 R) [] w)
 (lenSl t9 fun t71 =>
 intW .gtr t71 (.int .i64 0) fun t72 =>
 nilW 6 .neq t11 t72 fun t73 =>
 brV t73
 (jn (honeycomblaw17_CycleTells_J17 R) [] w)
 (brV t11
 (lenSl t9 fun t81 =>
 intW .sub t81 (.int .i64 1) fun t82 =>
 ixS 1 t9 t82 fun t83 =>
 ldC t83 w fun t84 _ =>
 intW .neq t10 t84 fun t85 =>
 brV t85
 (jn (honeycomblaw17_CycleTells_J17 R) [] w)
 (unW .not t11 fun t90 =>
 brV t90
 (intW .neq t10 (.int .i64 0) fun t93 =>
 brV t93
 (jn (honeycomblaw17_CycleTells_J17 R) [] w)
 (callW Try.prog (.func (.func 11) #[] #[]) [t5] w fun t98 w =>
 nilW 6 .neq t98 t12 fun t100 =>
 brV t100
 (jn (honeycomblaw17_CycleTells_J17 R) [] w)
 (jn (honeycomblaw17_CycleTells_J18 R) [t1, t5, t8] w)))
 (callW Try.prog (.func (.func 11) #[] #[]) [t5] w fun t98 w =>
 nilW 6 .neq t98 t12 fun t100 =>
 brV t100
 (jn (honeycomblaw17_CycleTells_J17 R) [] w)
 (jn (honeycomblaw17_CycleTells_J18 R) [t1, t5, t8] w))))
 (unW .not t11 fun t90 =>
 brV t90
 (intW .neq t10 (.int .i64 0) fun t93 =>
 brV t93
 (jn (honeycomblaw17_CycleTells_J17 R) [] w)
 (callW Try.prog (.func (.func 11) #[] #[]) [t5] w fun t98 w =>
 nilW 6 .neq t98 t12 fun t100 =>
 brV t100
 (jn (honeycomblaw17_CycleTells_J17 R) [] w)
 (jn (honeycomblaw17_CycleTells_J18 R) [t1, t5, t8] w)))
 (callW Try.prog (.func (.func 11) #[] #[]) [t5] w fun t98 w =>
 nilW 6 .neq t98 t12 fun t100 =>
 brV t100
 (jn (honeycomblaw17_CycleTells_J17 R) [] w)
 (jn (honeycomblaw17_CycleTells_J18 R) [t1, t5, t8] w))))))
/-- `honeycomb/honeycomblaw17.CycleTells` -/
def honeycomblaw17_CycleTells (a0 a1 : Value) (R : Value → World → Prop) (w : World) : Prop :=
 lenSl a1 fun t16 =>
 intW .gtr t16 (.int .i64 40) fun t17 =>
 brV t17
 (jn (honeycomblaw17_CycleTells_J2 R) [] w)
 (callW Try.prog (.func (.func 4) #[] #[]) [] w fun t19 w =>
 unW .not t19 fun t20 =>
 brV t20
 (jn (honeycomblaw17_CycleTells_J2 R) [] w)
 (callW Try.prog (.func (.func 5) #[] #[]) [a1] w fun t24 w =>
 callW Try.prog (.func (.func 6) #[] #[]) [a0, t24] w fun t27 w =>
 callW Try.prog (.func (.func 6) #[] #[]) [a0, t24] w fun t30 w =>
 fillL [(0, 1), (1, 1), (2, 1), (3, 1), (4, 1), (5, 1), (6, 1), (7, 1), (8, 1), (9, 1), (10, 1), (11, 1), (12, 1), (13, 1), (14, 1), (15, 1), (16, 1), (17, 1)] #[(.slice none 0 0), (.slice none 0 0), (.slice none 0 0), (.slice none 0 0), (.slice none 0 0), (.slice none 0 0), (.slice none 0 0), (.slice none 0 0), (.slice none 0 0), (.slice none 0 0), (.slice none 0 0), (.slice none 0 0), (.slice none 0 0), (.slice none 0 0), (.slice none 0 0), (.slice none 0 0), (.slice none 0 0), (.slice none 0 0)] [] fun t31 =>
 alW (Value.cells t31) 38 w fun t32 w =>
 callW Try.prog (.func (.func 7) #[] #[]) [t32, t27] w fun t35 w =>
 callW Try.prog (.func (.func 7) #[] #[]) [t32, t30] w fun t38 w =>
 callW Try.prog (.func (.func 8) #[] #[]) [a0, a1] w fun t41 w =>
 callW Try.prog (.func (.func 9) #[] #[]) [a0, t24] w fun t45 w =>
 exW t45 0 fun t46 =>
 exW t45 1 fun t47 =>
 lenSl a1 fun t49 =>
 lp (honeycomblaw17_CycleTells_L12 R) [a1, t24, t27, t32, t41, t46, t47, (.bool false), a1, t49, (.int .i64 0)] w))
theorem honeycomblaw17_CycleTells_den (a0 a1 : Value) (R : Value → World → Prop) (w : World) : denF Try.prog Try.f3 (Try.f3.body.getD .skip) [(2, []), (15, [1, 5, 6, 8, 9, 10, 11, 12, 48, 49, 50]), (17, []), (18, [1, 5, 8])] [(12, [1, 5, 6, 8, 9, 10, 11, 12, 48, 49, 50])] [a0, a1] R w = honeycomblaw17_CycleTells a0 a1 R w := by kernel_rfl
set_option maxRecDepth 100000 in
theorem honeycomblaw17_CycleTells_run {a0 a1 : Value} {R : Value → World → Prop} {w : World} (h : honeycomblaw17_CycleTells a0 a1 R w) : Calls Try.prog 3 #[a0, a1] w (rt R) :=
  run_sound (c := Try.f3.body.getD .skip) (la := [(2, []), (15, [1, 5, 6, 8, 9, 10, 11, 12, 48, 49, 50]), (17, []), (18, [1, 5, 8])]) (lb := [(12, [1, 5, 6, 8, 9, 10, 11, 12, 48, 49, 50])]) (args := [a0, a1]) mixed Try.func3 (by kernel_rfl) (by kernel_rfl) (Nat.le_of_ble_eq_true (by kernel_rfl)) (Eq.mpr (honeycomblaw17_CycleTells_den a0 a1 R w) h)
theorem honeycomblaw17_CycleTells_body : hasBody Try.prog 3 = true := by kernel_rfl
theorem honeycomblaw17_CycleTells_call {a0 a1 : Value} {R : Value → World → Prop} {w : World} (h : Calls Try.prog 3 #[a0, a1] w (rt R)) : callW Try.prog (.func (.func 3) #[] #[]) [a0, a1] w R :=
  ⟨honeycomblaw17_CycleTells_body, h⟩
/-- `honeycomb/honeycomblaw17.alive` -/
def honeycomblaw17_alive (R : Value → World → Prop) (w : World) : Prop :=
 yl Try.prog (Instr.build 43 [(0, (.int .i64 1)), (1, (.int .i64 2))].toArray) fun t6 =>
 yl Try.prog (Instr.build 43 [(0, (.int .i64 2)), (1, (.int .i64 1))].toArray) fun t7 =>
 yl Try.prog (Instr.build 43 [(0, (.int .i64 3)), (1, (.int .i64 1))].toArray) fun t8 =>
 blS 43 2 #[(.int .i64 0), (.int .i64 0)] 3 [(0, t6), (1, t7), (2, t8)] w fun t9 w =>
 callW Try.prog (.func (.func 9) #[] #[]) [(.int .i64 1), t9] w fun t10 w =>
 exW t10 0 fun t11 =>
 exW t10 1 fun t12 =>
 yl Try.prog (Instr.build 43 [(0, (.int .i64 1)), (1, (.int .i64 2))].toArray) fun t14 =>
 yl Try.prog (Instr.build 43 [(0, (.int .i64 2)), (1, (.int .i64 1))].toArray) fun t15 =>
 yl Try.prog (Instr.build 43 [(0, (.int .i64 3)), (1, (.int .i64 1))].toArray) fun t16 =>
 blS 43 2 #[(.int .i64 0), (.int .i64 0)] 3 [(0, t14), (1, t15), (2, t16)] w fun t17 w =>
 callW Try.prog (.func (.func 9) #[] #[]) [(.int .i64 3), t17] w fun t18 w =>
 exW t18 0 fun t19 =>
 exW t18 1 fun t20 =>
 brV t12
 (intW .eql t11 (.int .i64 2) fun t24 =>
 brV t24
 (unW .not t20 fun t28 =>
 brV t28
 (yl Try.prog (Instr.build 43 [(0, (.int .i64 1)), (1, (.int .i64 2))].toArray) fun t31 =>
 yl Try.prog (Instr.build 43 [(0, (.int .i64 2)), (1, (.int .i64 1))].toArray) fun t32 =>
 blS 43 2 #[(.int .i64 0), (.int .i64 0)] 2 [(0, t31), (1, t32)] w fun t33 w =>
 callW Try.prog (.func (.func 6) #[] #[]) [(.int .i64 1), t33] w fun t34 w =>
 blS 3 1 #[(.int .i64 0)] 2 [(0, (.int .i64 1)), (1, (.int .i64 2))] w fun t35 w =>
 callW Try.prog (.func (.func 10) #[] #[]) [t34, t35] w fun t36 w =>
 brV t36
 (yl Try.prog (Instr.build 43 [(0, (.int .i64 5)), (1, (.int .i64 5))].toArray) fun t39 =>
 blS 43 2 #[(.int .i64 0), (.int .i64 0)] 1 [(0, t39)] w fun t40 w =>
 callW Try.prog (.func (.func 11) #[] #[]) [t40] w fun t41 w =>
 brV t41
 (yl Try.prog (Instr.build 43 [(0, (.int .i64 1)), (1, (.int .i64 2))].toArray) fun t44 =>
 blS 43 2 #[(.int .i64 0), (.int .i64 0)] 1 [(0, t44)] w fun t45 w =>
 callW Try.prog (.func (.func 11) #[] #[]) [t45] w fun t46 w =>
 unW .not t46 fun t47 =>
 R t47 w)
 (R (.bool false) w))
 (R (.bool false) w))
 (R (.bool false) w))
 (R (.bool false) w))
 (R (.bool false) w)
theorem honeycomblaw17_alive_den (R : Value → World → Prop) (w : World) : denF Try.prog Try.f4 (Try.f4.body.getD .skip) [] [] [] R w = honeycomblaw17_alive  R w := by kernel_rfl
set_option maxRecDepth 100000 in
theorem honeycomblaw17_alive_run {R : Value → World → Prop} {w : World} (h : honeycomblaw17_alive  R w) : Calls Try.prog 4 #[] w (rt R) :=
  run_sound (c := Try.f4.body.getD .skip) (la := []) (lb := []) (args := []) mixed Try.func4 (by kernel_rfl) (by kernel_rfl) (Nat.le_of_ble_eq_true (by kernel_rfl)) (Eq.mpr (honeycomblaw17_alive_den  R w) h)
theorem honeycomblaw17_alive_body : hasBody Try.prog 4 = true := by kernel_rfl
theorem honeycomblaw17_alive_call {R : Value → World → Prop} {w : World} (h : Calls Try.prog 4 #[] w (rt R)) : callW Try.prog (.func (.func 4) #[] #[]) [] w R :=
  ⟨honeycomblaw17_alive_body, h⟩
/-- `honeycomb/honeycombbook.LentPairs` -/
def honeycombbook_LentPairs (a0 : Value) (R : Value → World → Prop) (w : World) : Prop :=
 callW Try.prog (.func (.func 14) #[] #[]) [a0] w fun t4 w =>
 yl Try.prog (Instr.build 43 [(0, (.int .i64 (-77)))].toArray) fun t5 =>
 blS 43 2 #[(.int .i64 0), (.int .i64 0)] 1 [(0, t5)] w fun t6 w =>
 sm Try.prog (bi .append #[22, 22] 22 [t4, t6]) w fun t7 w =>
 lenSl a0 fun t9 =>
 slSl 2 t7 none (some t9) none fun t10 =>
 R t10 w
theorem honeycombbook_LentPairs_den (a0 : Value) (R : Value → World → Prop) (w : World) : denF Try.prog Try.f5 (Try.f5.body.getD .skip) [] [] [a0] R w = honeycombbook_LentPairs a0 R w := by kernel_rfl
set_option maxRecDepth 100000 in
theorem honeycombbook_LentPairs_run {a0 : Value} {R : Value → World → Prop} {w : World} (h : honeycombbook_LentPairs a0 R w) : Calls Try.prog 5 #[a0] w (rt R) :=
  run_sound (c := Try.f5.body.getD .skip) (la := []) (lb := []) (args := [a0]) mixed Try.func5 (by kernel_rfl) (by kernel_rfl) (Nat.le_of_ble_eq_true (by kernel_rfl)) (Eq.mpr (honeycombbook_LentPairs_den a0 R w) h)
theorem honeycombbook_LentPairs_body : hasBody Try.prog 5 = true := by kernel_rfl
theorem honeycombbook_LentPairs_call {a0 : Value} {R : Value → World → Prop} {w : World} (h : Calls Try.prog 5 #[a0] w (rt R)) : callW Try.prog (.func (.func 5) #[] #[]) [a0] w R :=
  ⟨honeycombbook_LentPairs_body, h⟩
def cycle_On_L5 (R : Value → World → Prop) : (List Value → World → Prop) → List Value → World → Prop := fun r5 l w =>
 unc l fun t0 l =>
 unc l fun t6 l =>
 unc l fun t7 l =>
 unc l fun t8 l =>
 unc l fun t21 l =>
 sm Try.prog (Instr.next t21 false 0) w fun t22 w =>
 exW t22 0 fun t23 =>
 brV t23
 (sm Try.prog (Instr.entry t21) w fun t24 w =>
 exW t24 0 fun t25 =>
 sm Try.prog (Instr.lookup 50 t6 t0 false) w fun t28 w =>
 brV t28
 (sm Try.prog (Instr.lookup 50 t7 t25 false) w fun t32 w =>
 brV t32
 (blS 3 1 #[(.int .i64 0)] 1 [(0, t25)] w fun t36 w =>
 sm Try.prog (bi .append #[25, 25] 25 [t8, t36]) w fun t37 w =>
 r5 [t0, t6, t7, t37, t21] w)
 (r5 [t0, t6, t7, t8, t21] w))
 (r5 [t0, t6, t7, t8, t21] w))
 (callW Try.prog (.func (.func 18) #[] #[]) [t8] w fun t39 w =>
 R t8 w)
/-- `honeycomb/cycle.On` -/
def cycle_On (a0 a1 : Value) (R : Value → World → Prop) (w : World) : Prop :=
 fillL [(0, 1)] #[(.slice none 0 0)] [(0, a1)] fun t11 =>
 alW #[(.slice none 0 0)] 49 w fun t5 w =>
 stN 1 t5 t11 w fun w =>
 ldN 1 t5 w.drew fun t13 c1 =>
 ldN 1 t5 w.drew fun t17 c5 =>
 callW Try.prog (.func (.func 15) #[] #[]) [a0, (.func (.func 16) #[t13] #[])] w.drew fun t15 w =>
 heldC [(5, c5), (1, c1)] w (callW Try.prog (.func (.func 15) #[] #[]) [a0, (.func (.func 17) #[t17] #[])] w fun t19 w =>
 heldC [(5, c5), (1, c1)] w (sm Try.prog (Instr.range 50 t15) w fun t21 w =>
 lp (cycle_On_L5 R) [a0, t15, t19, (.slice none 0 0), t21] w))
theorem cycle_On_den (a0 a1 : Value) (R : Value → World → Prop) (w : World) : denF Try.prog Try.f6 (Try.f6.body.getD .skip) [] [(5, [0, 6, 7, 8, 21])] [a0, a1] R w = cycle_On a0 a1 R w := by kernel_rfl
set_option maxRecDepth 100000 in
theorem cycle_On_run {a0 a1 : Value} {R : Value → World → Prop} {w : World} (h : cycle_On a0 a1 R w) : Calls Try.prog 6 #[a0, a1] w (rt R) :=
  run_sound (c := Try.f6.body.getD .skip) (la := []) (lb := [(5, [0, 6, 7, 8, 21])]) (args := [a0, a1]) mixed Try.func6 (by kernel_rfl) (by kernel_rfl) (Nat.le_of_ble_eq_true (by kernel_rfl)) (Eq.mpr (cycle_On_den a0 a1 R w) h)
theorem cycle_On_body : hasBody Try.prog 6 = true := by kernel_rfl
theorem cycle_On_call {a0 a1 : Value} {R : Value → World → Prop} {w : World} (h : Calls Try.prog 6 #[a0, a1] w (rt R)) : callW Try.prog (.func (.func 6) #[] #[]) [a0, a1] w R :=
  ⟨cycle_On_body, h⟩
/-- `(*honeycomb/honeycombbook.Book).Ints` -/
def honeycombbook_Book_Ints (a0 a1 : Value) (R : Value → World → Prop) (w : World) : Prop :=
 nckW a0 fun t5 =>
 fld 0 t5 fun t6 =>
 ldC t6 w fun t7 _ =>
 lenSl t7 fun t8 =>
 intW .lss t8 (.int .i64 250) fun t9 =>
 brV t9
 (nckW a0 fun t12 =>
 fld 0 t12 fun t13 =>
 ldC t13 w fun t14 _ =>
 blS 25 1 #[(.slice none 0 0)] 1 [(0, a1)] w fun t16 w =>
 sm Try.prog (bi .append #[28, 28] 28 [t14, t16]) w fun t17 w =>
 nckW a0 fun t18 =>
 fld 0 t18 fun t19 =>
 1 = 1 ∧ stC t19 t17 w fun w =>
 nckW a0 fun t22 =>
 fld 1 t22 fun t23 =>
 ldC t23 w.drew fun t24 c4 =>
 callW Try.prog (.func (.func 19) #[] #[]) [a1] w.drew fun t26 w =>
 heldC [(4, c4)] w (blS 25 1 #[(.slice none 0 0)] 1 [(0, t26)] w fun t27 w =>
 heldC [(4, c4)] w (sm Try.prog (bi .append #[28, 28] 28 [t24, t27]) w fun t28 w =>
 nckW a0 fun t29 =>
 fld 1 t29 fun t30 =>
 1 = 1 ∧ stC t30 t28 w fun w =>
 R (.tuple #[]) w)))
 (R (.tuple #[]) w)
theorem honeycombbook_Book_Ints_den (a0 a1 : Value) (R : Value → World → Prop) (w : World) : denF Try.prog Try.f7 (Try.f7.body.getD .skip) [] [] [a0, a1] R w = honeycombbook_Book_Ints a0 a1 R w := by kernel_rfl
set_option maxRecDepth 100000 in
theorem honeycombbook_Book_Ints_run {a0 a1 : Value} {R : Value → World → Prop} {w : World} (h : honeycombbook_Book_Ints a0 a1 R w) : Calls Try.prog 7 #[a0, a1] w (rt R) :=
  run_sound (c := Try.f7.body.getD .skip) (la := []) (lb := []) (args := [a0, a1]) mixed Try.func7 (by kernel_rfl) (by kernel_rfl) (Nat.le_of_ble_eq_true (by kernel_rfl)) (Eq.mpr (honeycombbook_Book_Ints_den a0 a1 R w) h)
theorem honeycombbook_Book_Ints_body : hasBody Try.prog 7 = true := by kernel_rfl
theorem honeycombbook_Book_Ints_call {a0 a1 : Value} {R : Value → World → Prop} {w : World} (h : Calls Try.prog 7 #[a0, a1] w (rt R)) : callW Try.prog (.func (.func 7) #[] #[]) [a0, a1] w R :=
  ⟨honeycombbook_Book_Ints_body, h⟩
def honeycombref1_On_J8 (R : Value → World → Prop) (r4 : List Value → World → Prop) (r7 : List Value → World → Prop) : List Value → World → Prop := fun l w =>
 unc l fun t5 l =>
 unc l fun t6 l =>
 unc l fun t7 l =>
 unc l fun t8 l =>
 unc l fun t9 l =>
 intW .add t9 (.int .i64 1) fun t27 =>
 r7 [t5, t6, t7, t8, t27] w
def honeycombref1_On_L7 (R : Value → World → Prop) (r4 : List Value → World → Prop) : (List Value → World → Prop) → List Value → World → Prop := fun r7 l w =>
 unc l fun t5 l =>
 unc l fun t6 l =>
 unc l fun t7 l =>
 unc l fun t8 l =>
 unc l fun t9 l =>
 lenSl t6 fun t24 =>
 intW .lss t9 t24 fun t25 =>
 brV t25
 (ixS 1 t5 t8 fun t30 =>
 ixS 1 t6 t9 fun t34 =>
 ldC t30 w.drew fun t31 c3 =>
 ldC t34 w.drew fun t35 c7 =>
 intW .eql t31 t35 fun t36 =>
 brV t36
 (ixS 1 t5 t8 fun t40 =>
 ldC t40 w.drew fun t41 _ =>
 blS 3 1 #[(.int .i64 0)] 1 [(0, t41)] w.drew fun t42 w =>
 sm Try.prog (bi .append #[25, 25] 25 [t7, t42]) w fun t43 w =>
 jn (honeycombref1_On_J8 R r4 r7) [t5, t6, t43, t8, t9] w)
 (jn (honeycombref1_On_J8 R r4 r7) [t5, t6, t7, t8, t9] w.drew))
 (intW .add t8 (.int .i64 1) fun t21 =>
 r4 [t5, t6, t7, t21] w)
def honeycombref1_On_L4 (R : Value → World → Prop) : (List Value → World → Prop) → List Value → World → Prop := fun r4 l w =>
 unc l fun t5 l =>
 unc l fun t6 l =>
 unc l fun t7 l =>
 unc l fun t8 l =>
 lenSl t5 fun t18 =>
 intW .lss t8 t18 fun t19 =>
 brV t19
 (lp (honeycombref1_On_L7 R r4) [t5, t6, t7, t8, (.int .i64 0)] w)
 (callW Try.prog (.func (.func 21) #[] #[]) [t7] w fun t45 w =>
 R t45 w)
/-- `honeycomb/honeycombref1.On` -/
def honeycombref1_On (a0 a1 : Value) (R : Value → World → Prop) (w : World) : Prop :=
 callW Try.prog (.func (.func 20) #[] #[]) [a0, a1, (.bool false)] w fun t12 w =>
 callW Try.prog (.func (.func 20) #[] #[]) [a0, a1, (.bool true)] w fun t15 w =>
 lp (honeycombref1_On_L4 R) [t12, t15, (.slice none 0 0), (.int .i64 0)] w
theorem honeycombref1_On_den (a0 a1 : Value) (R : Value → World → Prop) (w : World) : denF Try.prog Try.f8 (Try.f8.body.getD .skip) [(8, [5, 6, 7, 8, 9])] [(4, [5, 6, 7, 8]), (7, [5, 6, 7, 8, 9])] [a0, a1] R w = honeycombref1_On a0 a1 R w := by kernel_rfl
set_option maxRecDepth 100000 in
theorem honeycombref1_On_run {a0 a1 : Value} {R : Value → World → Prop} {w : World} (h : honeycombref1_On a0 a1 R w) : Calls Try.prog 8 #[a0, a1] w (rt R) :=
  run_sound (c := Try.f8.body.getD .skip) (la := [(8, [5, 6, 7, 8, 9])]) (lb := [(4, [5, 6, 7, 8]), (7, [5, 6, 7, 8, 9])]) (args := [a0, a1]) mixed Try.func8 (by kernel_rfl) (by kernel_rfl) (Nat.le_of_ble_eq_true (by kernel_rfl)) (Eq.mpr (honeycombref1_On_den a0 a1 R w) h)
theorem honeycombref1_On_body : hasBody Try.prog 8 = true := by kernel_rfl
theorem honeycombref1_On_call {a0 a1 : Value} {R : Value → World → Prop} {w : World} (h : Calls Try.prog 8 #[a0, a1] w (rt R)) : callW Try.prog (.func (.func 8) #[] #[]) [a0, a1] w R :=
  ⟨honeycombref1_On_body, h⟩
/-- `honeycomb/cycle.Victim` -/
def cycle_Victim (a0 a1 : Value) (R : Value → World → Prop) (w : World) : Prop :=
 callW Try.prog (.func (.func 6) #[] #[]) [a0, a1] w fun t9 w =>
 lenSl t9 fun t11 =>
 intW .eql t11 (.int .i64 0) fun t12 =>
 brV t12
 (R (.tuple #[(.int .i64 0), (.bool false)]) w)
 (lenSl t9 fun t15 =>
 intW .sub t15 (.int .i64 1) fun t16 =>
 ixS 1 t9 t16 fun t17 =>
 ldC t17 w fun t18 _ =>
 R (.tuple #[t18, (.bool true)]) w)
theorem cycle_Victim_den (a0 a1 : Value) (R : Value → World → Prop) (w : World) : denF Try.prog Try.f9 (Try.f9.body.getD .skip) [] [] [a0, a1] R w = cycle_Victim a0 a1 R w := by kernel_rfl
set_option maxRecDepth 100000 in
theorem cycle_Victim_run {a0 a1 : Value} {R : Value → World → Prop} {w : World} (h : cycle_Victim a0 a1 R w) : Calls Try.prog 9 #[a0, a1] w (rt R) :=
  run_sound (c := Try.f9.body.getD .skip) (la := []) (lb := []) (args := [a0, a1]) mixed Try.func9 (by kernel_rfl) (by kernel_rfl) (Nat.le_of_ble_eq_true (by kernel_rfl)) (Eq.mpr (cycle_Victim_den a0 a1 R w) h)
theorem cycle_Victim_body : hasBody Try.prog 9 = true := by kernel_rfl
theorem cycle_Victim_call {a0 a1 : Value} {R : Value → World → Prop} {w : World} (h : Calls Try.prog 9 #[a0, a1] w (rt R)) : callW Try.prog (.func (.func 9) #[] #[]) [a0, a1] w R :=
  ⟨cycle_Victim_body, h⟩
def honeycombbook_SameInts_L4 (R : Value → World → Prop) : (List Value → World → Prop) → List Value → World → Prop := fun r4 l w =>
 unc l fun t0 l =>
 unc l fun t1 l =>
 unc l fun t5 l =>
 lenSl t0 fun t13 =>
 intW .lss t5 t13 fun t14 =>
 brV t14
 (ixS 1 t0 t5 fun t19 =>
 ixS 1 t1 t5 fun t23 =>
 ldC t19 w.drew fun t20 c3 =>
 ldC t23 w.drew fun t24 c7 =>
 intW .eql t20 t24 fun t25 =>
 unW .not t25 fun t26 =>
 brV t26
 (R (.bool false) w.drew)
 (intW .add t5 (.int .i64 1) fun t16 =>
 r4 [t0, t1, t16] w.drew))
 (R (.bool true) w)
/-- `honeycomb/honeycombbook.SameInts` -/
def honeycombbook_SameInts (a0 a1 : Value) (R : Value → World → Prop) (w : World) : Prop :=
 lenSl a0 fun t7 =>
 lenSl a1 fun t9 =>
 intW .neq t7 t9 fun t10 =>
 brV t10
 (R (.bool false) w)
 (lp (honeycombbook_SameInts_L4 R) [a0, a1, (.int .i64 0)] w)
theorem honeycombbook_SameInts_den (a0 a1 : Value) (R : Value → World → Prop) (w : World) : denF Try.prog Try.f10 (Try.f10.body.getD .skip) [] [(4, [0, 1, 5])] [a0, a1] R w = honeycombbook_SameInts a0 a1 R w := by kernel_rfl
set_option maxRecDepth 100000 in
theorem honeycombbook_SameInts_run {a0 a1 : Value} {R : Value → World → Prop} {w : World} (h : honeycombbook_SameInts a0 a1 R w) : Calls Try.prog 10 #[a0, a1] w (rt R) :=
  run_sound (c := Try.f10.body.getD .skip) (la := []) (lb := [(4, [0, 1, 5])]) (args := [a0, a1]) mixed Try.func10 (by kernel_rfl) (by kernel_rfl) (Nat.le_of_ble_eq_true (by kernel_rfl)) (Eq.mpr (honeycombbook_SameInts_den a0 a1 R w) h)
theorem honeycombbook_SameInts_body : hasBody Try.prog 10 = true := by kernel_rfl
theorem honeycombbook_SameInts_call {a0 a1 : Value} {R : Value → World → Prop} {w : World} (h : Calls Try.prog 10 #[a0, a1] w (rt R)) : callW Try.prog (.func (.func 10) #[] #[]) [a0, a1] w R :=
  ⟨honeycombbook_SameInts_body, h⟩
/-- `honeycomb/cycle.Any` -/
def cycle_Any (a0 : Value) (R : Value → World → Prop) (w : World) : Prop :=
 alW (Value.cells a0) 22 w fun t1 w =>
 ldC t1 w fun t3 _ =>
 callW Try.prog (.func (.func 22) #[] #[]) [t3, (.func (.func 23) #[] #[t1])] w fun t5 w =>
 R t5 w
theorem cycle_Any_den (a0 : Value) (R : Value → World → Prop) (w : World) : denF Try.prog Try.f11 (Try.f11.body.getD .skip) [] [] [a0] R w = cycle_Any a0 R w := by kernel_rfl
set_option maxRecDepth 100000 in
theorem cycle_Any_run {a0 : Value} {R : Value → World → Prop} {w : World} (h : cycle_Any a0 R w) : Calls Try.prog 11 #[a0] w (rt R) :=
  run_sound (c := Try.f11.body.getD .skip) (la := []) (lb := []) (args := [a0]) mixed Try.func11 (by kernel_rfl) (by kernel_rfl) (Nat.le_of_ble_eq_true (by kernel_rfl)) (Eq.mpr (cycle_Any_den a0 R w) h)
theorem cycle_Any_body : hasBody Try.prog 11 = true := by kernel_rfl
theorem cycle_Any_call {a0 : Value} {R : Value → World → Prop} {w : World} (h : Calls Try.prog 11 #[a0] w (rt R)) : callW Try.prog (.func (.func 11) #[] #[]) [a0] w R :=
  ⟨cycle_Any_body, h⟩
/-- `honeycomb/honeycombbook.StaysPairs` -/
def honeycombbook_StaysPairs (a0 a1 : Value) (R : Value → World → Prop) (w : World) : Prop :=
 callW Try.prog (.func (.func 24) #[] #[]) [a0, a1] w fun t7 w =>
 brV t7
 (lenSl a0 fun t11 =>
 intW .add t11 (.int .i64 1) fun t12 =>
 slSl 2 a0 none (some t12) none fun t13 =>
 lenSl a0 fun t15 =>
 ixS 2 t13 t15 fun t16 =>
 yl Try.prog (Instr.indexAt 43 t16 (.int .i64 0)) fun t17 =>
 ldC t17 w fun t18 _ =>
 intW .eql t18 (.int .i64 (-77)) fun t19 =>
 R t19 w)
 (R (.bool false) w)
theorem honeycombbook_StaysPairs_den (a0 a1 : Value) (R : Value → World → Prop) (w : World) : denF Try.prog Try.f12 (Try.f12.body.getD .skip) [] [] [a0, a1] R w = honeycombbook_StaysPairs a0 a1 R w := by kernel_rfl
set_option maxRecDepth 100000 in
theorem honeycombbook_StaysPairs_run {a0 a1 : Value} {R : Value → World → Prop} {w : World} (h : honeycombbook_StaysPairs a0 a1 R w) : Calls Try.prog 12 #[a0, a1] w (rt R) :=
  run_sound (c := Try.f12.body.getD .skip) (la := []) (lb := []) (args := [a0, a1]) mixed Try.func12 (by kernel_rfl) (by kernel_rfl) (Nat.le_of_ble_eq_true (by kernel_rfl)) (Eq.mpr (honeycombbook_StaysPairs_den a0 a1 R w) h)
theorem honeycombbook_StaysPairs_body : hasBody Try.prog 12 = true := by kernel_rfl
theorem honeycombbook_StaysPairs_call {a0 a1 : Value} {R : Value → World → Prop} {w : World} (h : Calls Try.prog 12 #[a0, a1] w (rt R)) : callW Try.prog (.func (.func 12) #[] #[]) [a0, a1] w R :=
  ⟨honeycombbook_StaysPairs_body, h⟩
/-- `(*honeycomb/honeycombbook.Book).Apart` -/
def honeycombbook_Book_Apart (a0 : Value) (R : Value → World → Prop) (w : World) : Prop :=
 callW Try.prog (.func (.func 25) #[] #[]) [a0] w fun t13 w =>
 unW .not t13 fun t14 =>
 brV t14
 (R (.bool false) w)
 (callW Try.prog (.func (.func 26) #[] #[]) [a0] w fun t16 w =>
 unW .not t16 fun t17 =>
 brV t17
 (R (.bool false) w)
 (callW Try.prog (.func (.func 27) #[] #[]) [a0] w fun t19 w =>
 unW .not t19 fun t20 =>
 brV t20
 (R (.bool false) w)
 (callW Try.prog (.func (.func 28) #[] #[]) [a0] w fun t22 w =>
 unW .not t22 fun t23 =>
 brV t23
 (R (.bool false) w)
 (callW Try.prog (.func (.func 29) #[] #[]) [a0] w fun t25 w =>
 unW .not t25 fun t26 =>
 brV t26
 (R (.bool false) w)
 (callW Try.prog (.func (.func 30) #[] #[]) [a0] w fun t28 w =>
 unW .not t28 fun t29 =>
 brV t29
 (R (.bool false) w)
 (callW Try.prog (.func (.func 31) #[] #[]) [a0] w fun t31 w =>
 unW .not t31 fun t32 =>
 brV t32
 (R (.bool false) w)
 (callW Try.prog (.func (.func 32) #[] #[]) [a0] w fun t34 w =>
 unW .not t34 fun t35 =>
 brV t35
 (R (.bool false) w)
 (callW Try.prog (.func (.func 33) #[] #[]) [a0] w fun t37 w =>
 unW .not t37 fun t38 =>
 brV t38
 (R (.bool false) w)
 (callW Try.prog (.func (.func 34) #[] #[]) [a0] w fun t40 w =>
 callW Try.prog (.func (.func 35) #[] #[]) [a0] w fun t42 w =>
 callW Try.prog (.func (.func 36) #[] #[]) [a0] w fun t44 w =>
 callW Try.prog (.func (.func 37) #[] #[]) [a0] w fun t46 w =>
 callW Try.prog (.func (.func 38) #[] #[]) [a0] w fun t48 w =>
 callW Try.prog (.func (.func 39) #[] #[]) [a0] w fun t50 w =>
 callW Try.prog (.func (.func 40) #[] #[]) [a0] w fun t52 w =>
 callW Try.prog (.func (.func 41) #[] #[]) [a0] w fun t54 w =>
 callW Try.prog (.func (.func 42) #[] #[]) [a0] w fun t56 w =>
 callW Try.prog (.func (.func 43) #[] #[]) [a0] w fun t58 w =>
 callW Try.prog (.func (.func 44) #[] #[]) [a0] w fun t60 w =>
 callW Try.prog (.func (.func 45) #[] #[]) [a0] w fun t62 w =>
 callW Try.prog (.func (.func 46) #[] #[]) [a0] w fun t64 w =>
 callW Try.prog (.func (.func 47) #[] #[]) [a0] w fun t66 w =>
 callW Try.prog (.func (.func 48) #[] #[]) [a0] w fun t68 w =>
 callW Try.prog (.func (.func 49) #[] #[]) [a0] w fun t70 w =>
 callW Try.prog (.func (.func 50) #[] #[]) [a0] w fun t72 w =>
 callW Try.prog (.func (.func 51) #[] #[]) [a0] w fun t74 w =>
 callW Try.prog (.func (.func 52) #[] #[]) [t58] w fun t76 w =>
 brV t76
 (nckW a0 fun t79 =>
 fld 0 t79 fun t80 =>
 ldC t80 w fun t81 _ =>
 callW Try.prog (.func (.func 52) #[] #[]) [t81] w fun t82 w =>
 brV t82
 (callW Try.prog (.func (.func 53) #[] #[]) [t60] w fun t86 w =>
 brV t86
 (nckW a0 fun t90 =>
 fld 2 t90 fun t91 =>
 ldC t91 w fun t92 _ =>
 callW Try.prog (.func (.func 53) #[] #[]) [t92] w fun t93 w =>
 brV t93
 (callW Try.prog (.func (.func 54) #[] #[]) [t62] w fun t97 w =>
 brV t97
 (nckW a0 fun t101 =>
 fld 4 t101 fun t102 =>
 ldC t102 w fun t103 _ =>
 callW Try.prog (.func (.func 54) #[] #[]) [t103] w fun t104 w =>
 brV t104
 (callW Try.prog (.func (.func 55) #[] #[]) [t64] w fun t108 w =>
 brV t108
 (nckW a0 fun t112 =>
 fld 6 t112 fun t113 =>
 ldC t113 w fun t114 _ =>
 callW Try.prog (.func (.func 55) #[] #[]) [t114] w fun t115 w =>
 brV t115
 (callW Try.prog (.func (.func 56) #[] #[]) [t66] w fun t119 w =>
 brV t119
 (nckW a0 fun t123 =>
 fld 8 t123 fun t124 =>
 ldC t124 w fun t125 _ =>
 callW Try.prog (.func (.func 56) #[] #[]) [t125] w fun t126 w =>
 brV t126
 (callW Try.prog (.func (.func 57) #[] #[]) [t68] w fun t130 w =>
 brV t130
 (nckW a0 fun t134 =>
 fld 10 t134 fun t135 =>
 ldC t135 w fun t136 _ =>
 callW Try.prog (.func (.func 57) #[] #[]) [t136] w fun t137 w =>
 brV t137
 (callW Try.prog (.func (.func 58) #[] #[]) [t70] w fun t141 w =>
 brV t141
 (nckW a0 fun t145 =>
 fld 12 t145 fun t146 =>
 ldC t146 w fun t147 _ =>
 callW Try.prog (.func (.func 58) #[] #[]) [t147] w fun t148 w =>
 brV t148
 (callW Try.prog (.func (.func 59) #[] #[]) [t72] w fun t152 w =>
 brV t152
 (nckW a0 fun t156 =>
 fld 14 t156 fun t157 =>
 ldC t157 w fun t158 _ =>
 callW Try.prog (.func (.func 59) #[] #[]) [t158] w fun t159 w =>
 brV t159
 (callW Try.prog (.func (.func 60) #[] #[]) [t74] w fun t163 w =>
 brV t163
 (nckW a0 fun t167 =>
 fld 16 t167 fun t168 =>
 ldC t168 w fun t169 _ =>
 callW Try.prog (.func (.func 60) #[] #[]) [t169] w fun t170 w =>
 R t170 w)
 (R (.bool false) w))
 (R (.bool false) w))
 (R (.bool false) w))
 (R (.bool false) w))
 (R (.bool false) w))
 (R (.bool false) w))
 (R (.bool false) w))
 (R (.bool false) w))
 (R (.bool false) w))
 (R (.bool false) w))
 (R (.bool false) w))
 (R (.bool false) w))
 (R (.bool false) w))
 (R (.bool false) w))
 (R (.bool false) w))
 (R (.bool false) w))
 (R (.bool false) w))))))))))
theorem honeycombbook_Book_Apart_den (a0 : Value) (R : Value → World → Prop) (w : World) : denF Try.prog Try.f13 (Try.f13.body.getD .skip) [] [] [a0] R w = honeycombbook_Book_Apart a0 R w := by kernel_rfl
set_option maxRecDepth 100000 in
theorem honeycombbook_Book_Apart_run {a0 : Value} {R : Value → World → Prop} {w : World} (h : honeycombbook_Book_Apart a0 R w) : Calls Try.prog 13 #[a0] w (rt R) :=
  run_sound (c := Try.f13.body.getD .skip) (la := []) (lb := []) (args := [a0]) mixed Try.func13 (by kernel_rfl) (by kernel_rfl) (Nat.le_of_ble_eq_true (by kernel_rfl)) (Eq.mpr (honeycombbook_Book_Apart_den a0 R w) h)
theorem honeycombbook_Book_Apart_body : hasBody Try.prog 13 = true := by kernel_rfl
theorem honeycombbook_Book_Apart_call {a0 : Value} {R : Value → World → Prop} {w : World} (h : Calls Try.prog 13 #[a0] w (rt R)) : callW Try.prog (.func (.func 13) #[] #[]) [a0] w R :=
  ⟨honeycombbook_Book_Apart_body, h⟩
/-- `honeycomb/honeycombbook.copyPairs` -/
def honeycombbook_copyPairs (a0 : Value) (R : Value → World → Prop) (w : World) : Prop :=
 sm Try.prog (bi .append #[22, 22] 22 [(.slice none 0 0), a0]) w fun t4 w =>
 R t4 w
theorem honeycombbook_copyPairs_den (a0 : Value) (R : Value → World → Prop) (w : World) : denF Try.prog Try.f14 (Try.f14.body.getD .skip) [] [] [a0] R w = honeycombbook_copyPairs a0 R w := by kernel_rfl
set_option maxRecDepth 100000 in
theorem honeycombbook_copyPairs_run {a0 : Value} {R : Value → World → Prop} {w : World} (h : honeycombbook_copyPairs a0 R w) : Calls Try.prog 14 #[a0] w (rt R) :=
  run_sound (c := Try.f14.body.getD .skip) (la := []) (lb := []) (args := [a0]) mixed Try.func14 (by kernel_rfl) (by kernel_rfl) (Nat.le_of_ble_eq_true (by kernel_rfl)) (Eq.mpr (honeycombbook_copyPairs_den a0 R w) h)
theorem honeycombbook_copyPairs_body : hasBody Try.prog 14 = true := by kernel_rfl
theorem honeycombbook_copyPairs_call {a0 : Value} {R : Value → World → Prop} {w : World} (h : Calls Try.prog 14 #[a0] w (rt R)) : callW Try.prog (.func (.func 14) #[] #[]) [a0] w R :=
  ⟨honeycombbook_copyPairs_body, h⟩
def cycle_reach_J12 (R : Value → World → Prop) (r3 : List Value → World → Prop) (r7 : List Value → World → Prop) : List Value → World → Prop := fun l w =>
 unc l fun t1 l =>
 unc l fun t5 l =>
 unc l fun t6 l =>
 unc l fun t29 l =>
 unc l fun t30 l =>
 unc l fun t31 l =>
 intW .add t31 (.int .i64 1) fun t45 =>
 r7 [t1, t5, t6, t29, t30, t45] w
def cycle_reach_L7 (R : Value → World → Prop) (r3 : List Value → World → Prop) : (List Value → World → Prop) → List Value → World → Prop := fun r7 l w =>
 unc l fun t1 l =>
 unc l fun t5 l =>
 unc l fun t6 l =>
 unc l fun t29 l =>
 unc l fun t30 l =>
 unc l fun t31 l =>
 intW .lss t31 t30 fun t32 =>
 brV t32
 (ixS 1 t29 t31 fun t33 =>
 ldC t33 w fun t34 _ =>
 sm Try.prog (Instr.lookup 50 t5 t34 false) w fun t37 w =>
 unW .not t37 fun t38 =>
 brV t38
 (su Try.prog (Instr.mapUpdate 50 t5 t34 (.bool true)) w fun w =>
 blS 3 1 #[(.int .i64 0)] 1 [(0, t34)] w fun t43 w =>
 sm Try.prog (bi .append #[25, 25] 25 [t6, t43]) w fun t44 w =>
 jn (cycle_reach_J12 R r3 r7) [t1, t5, t44, t29, t30, t31] w)
 (jn (cycle_reach_J12 R r3 r7) [t1, t5, t6, t29, t30, t31] w))
 (r3 [t1, t5, t6] w)
def cycle_reach_L3 (R : Value → World → Prop) : (List Value → World → Prop) → List Value → World → Prop := fun r3 l w =>
 unc l fun t1 l =>
 unc l fun t5 l =>
 unc l fun t6 l =>
 lenSl t6 fun t14 =>
 intW .gtr t14 (.int .i64 0) fun t15 =>
 brV t15
 (lenSl t6 fun t18 =>
 intW .sub t18 (.int .i64 1) fun t19 =>
 ixS 1 t6 t19 fun t20 =>
 ldC t20 w fun t21 _ =>
 lenSl t6 fun t24 =>
 intW .sub t24 (.int .i64 1) fun t25 =>
 slSl 1 t6 none (some t25) none fun t26 =>
 callW Try.prog t1 [t21] w fun t29 w =>
 lenSl t29 fun t30 =>
 lp (cycle_reach_L7 R r3) [t1, t5, t26, t29, t30, (.int .i64 0)] w)
 (R t5 w)
/-- `honeycomb/cycle.reach` -/
def cycle_reach (a0 a1 : Value) (R : Value → World → Prop) (w : World) : Prop :=
 mkM w fun t10 w =>
 blS 3 1 #[(.int .i64 0)] 1 [(0, a0)] w fun t12 w =>
 lp (cycle_reach_L3 R) [a1, t10, t12] w
theorem cycle_reach_den (a0 a1 : Value) (R : Value → World → Prop) (w : World) : denF Try.prog Try.f15 (Try.f15.body.getD .skip) [(12, [1, 5, 6, 29, 30, 31])] [(3, [1, 5, 6]), (7, [1, 5, 6, 29, 30, 31])] [a0, a1] R w = cycle_reach a0 a1 R w := by kernel_rfl
set_option maxRecDepth 100000 in
theorem cycle_reach_run {a0 a1 : Value} {R : Value → World → Prop} {w : World} (h : cycle_reach a0 a1 R w) : Calls Try.prog 15 #[a0, a1] w (rt R) :=
  run_sound (c := Try.f15.body.getD .skip) (la := [(12, [1, 5, 6, 29, 30, 31])]) (lb := [(3, [1, 5, 6]), (7, [1, 5, 6, 29, 30, 31])]) (args := [a0, a1]) mixed Try.func15 (by kernel_rfl) (by kernel_rfl) (Nat.le_of_ble_eq_true (by kernel_rfl)) (Eq.mpr (cycle_reach_den a0 a1 R w) h)
theorem cycle_reach_body : hasBody Try.prog 15 = true := by kernel_rfl
theorem cycle_reach_call {a0 a1 : Value} {R : Value → World → Prop} {w : World} (h : Calls Try.prog 15 #[a0, a1] w (rt R)) : callW Try.prog (.func (.func 15) #[] #[]) [a0, a1] w R :=
  ⟨cycle_reach_body, h⟩
/-- `(honeycomb/cycle.graph).ahead` -/
def cycle_graph_ahead (a0 a1 : Value) (R : Value → World → Prop) (w : World) : Prop :=
 alW (Value.cells a0) 49 w fun t2 w =>
 ldN 1 t2 w fun t5 _ =>
 callW Try.prog (.func (.func 61) #[] #[]) [t5, a1, (.int .i64 0)] w fun t7 w =>
 R t7 w
theorem cycle_graph_ahead_den (a0 a1 : Value) (R : Value → World → Prop) (w : World) : denF Try.prog Try.f16 (Try.f16.body.getD .skip) [] [] [a0, a1] R w = cycle_graph_ahead a0 a1 R w := by kernel_rfl
set_option maxRecDepth 100000 in
theorem cycle_graph_ahead_run {a0 a1 : Value} {R : Value → World → Prop} {w : World} (h : cycle_graph_ahead a0 a1 R w) : Calls Try.prog 16 #[a0, a1] w (rt R) :=
  run_sound (c := Try.f16.body.getD .skip) (la := []) (lb := []) (args := [a0, a1]) mixed Try.func16 (by kernel_rfl) (by kernel_rfl) (Nat.le_of_ble_eq_true (by kernel_rfl)) (Eq.mpr (cycle_graph_ahead_den a0 a1 R w) h)
theorem cycle_graph_ahead_body : hasBody Try.prog 16 = true := by kernel_rfl
theorem cycle_graph_ahead_call {a0 a1 : Value} {R : Value → World → Prop} {w : World} (h : Calls Try.prog 16 #[a0, a1] w (rt R)) : callW Try.prog (.func (.func 16) #[] #[]) [a0, a1] w R :=
  ⟨cycle_graph_ahead_body, h⟩
/-- `(honeycomb/cycle.graph).behind` -/
def cycle_graph_behind (a0 a1 : Value) (R : Value → World → Prop) (w : World) : Prop :=
 alW (Value.cells a0) 49 w fun t2 w =>
 ldN 1 t2 w fun t5 _ =>
 callW Try.prog (.func (.func 61) #[] #[]) [t5, a1, (.int .i64 1)] w fun t7 w =>
 R t7 w
theorem cycle_graph_behind_den (a0 a1 : Value) (R : Value → World → Prop) (w : World) : denF Try.prog Try.f17 (Try.f17.body.getD .skip) [] [] [a0, a1] R w = cycle_graph_behind a0 a1 R w := by kernel_rfl
set_option maxRecDepth 100000 in
theorem cycle_graph_behind_run {a0 a1 : Value} {R : Value → World → Prop} {w : World} (h : cycle_graph_behind a0 a1 R w) : Calls Try.prog 17 #[a0, a1] w (rt R) :=
  run_sound (c := Try.f17.body.getD .skip) (la := []) (lb := []) (args := [a0, a1]) mixed Try.func17 (by kernel_rfl) (by kernel_rfl) (Nat.le_of_ble_eq_true (by kernel_rfl)) (Eq.mpr (cycle_graph_behind_den a0 a1 R w) h)
theorem cycle_graph_behind_body : hasBody Try.prog 17 = true := by kernel_rfl
theorem cycle_graph_behind_call {a0 a1 : Value} {R : Value → World → Prop} {w : World} (h : Calls Try.prog 17 #[a0, a1] w (rt R)) : callW Try.prog (.func (.func 17) #[] #[]) [a0, a1] w R :=
  ⟨cycle_graph_behind_body, h⟩
/-- `honeycomb/honeycombbook.copyInts` -/
def honeycombbook_copyInts (a0 : Value) (R : Value → World → Prop) (w : World) : Prop :=
 sm Try.prog (bi .append #[25, 25] 25 [(.slice none 0 0), a0]) w fun t4 w =>
 R t4 w
theorem honeycombbook_copyInts_den (a0 : Value) (R : Value → World → Prop) (w : World) : denF Try.prog Try.f19 (Try.f19.body.getD .skip) [] [] [a0] R w = honeycombbook_copyInts a0 R w := by kernel_rfl
set_option maxRecDepth 100000 in
theorem honeycombbook_copyInts_run {a0 : Value} {R : Value → World → Prop} {w : World} (h : honeycombbook_copyInts a0 R w) : Calls Try.prog 19 #[a0] w (rt R) :=
  run_sound (c := Try.f19.body.getD .skip) (la := []) (lb := []) (args := [a0]) mixed Try.func19 (by kernel_rfl) (by kernel_rfl) (Nat.le_of_ble_eq_true (by kernel_rfl)) (Eq.mpr (honeycombbook_copyInts_den a0 R w) h)
theorem honeycombbook_copyInts_body : hasBody Try.prog 19 = true := by kernel_rfl
theorem honeycombbook_copyInts_call {a0 : Value} {R : Value → World → Prop} {w : World} (h : Calls Try.prog 19 #[a0] w (rt R)) : callW Try.prog (.func (.func 19) #[] #[]) [a0] w R :=
  ⟨honeycombbook_copyInts_body, h⟩
def honeycombref1_reach_J8 (R : Value → World → Prop) (r3 : List Value → World → Prop) (r7 : List Value → World → Prop) : List Value → World → Prop := fun l w =>
 unc l fun t1 l =>
 unc l fun t2 l =>
 unc l fun t7 l =>
 unc l fun t8 l =>
 unc l fun t9 l =>
 unc l fun t10 l =>
 intW .add t10 (.int .i64 1) fun t30 =>
 r7 [t1, t2, t7, t8, t9, t30] w
def honeycombref1_reach_J16 (R : Value → World → Prop) (r3 : List Value → World → Prop) (r7 : List Value → World → Prop) (r15 : List Value → World → Prop) : List Value → World → Prop := fun l w =>
 unc l fun t1 l =>
 unc l fun t2 l =>
 unc l fun t7 l =>
 unc l fun t8 l =>
 unc l fun t9 l =>
 unc l fun t10 l =>
 unc l fun t12 l =>
 unc l fun t13 l =>
 unc l fun t14 l =>
 intW .add t14 (.int .i64 1) fun t52 =>
 r15 [t1, t2, t7, t8, t9, t10, t12, t13, t52] w
def honeycombref1_reach_L15 (R : Value → World → Prop) (r3 : List Value → World → Prop) (r7 : List Value → World → Prop) : (List Value → World → Prop) → List Value → World → Prop := fun r15 l w =>
 unc l fun t1 l =>
 unc l fun t2 l =>
 unc l fun t7 l =>
 unc l fun t8 l =>
 unc l fun t9 l =>
 unc l fun t10 l =>
 unc l fun t12 l =>
 unc l fun t13 l =>
 unc l fun t14 l =>
 lenSl t7 fun t49 =>
 intW .lss t14 t49 fun t50 =>
 brV t50
 (brV t13
 (jn (honeycombref1_reach_J16 R r3 r7 r15) [t1, t2, t7, t8, t9, t10, t12, (.bool true), t14] w)
 (ixS 1 t7 t14 fun t57 =>
 ldC t57 w fun t58 _ =>
 intW .eql t58 t12 fun t60 =>
 jn (honeycombref1_reach_J16 R r3 r7 r15) [t1, t2, t7, t8, t9, t10, t12, t60, t14] w))
 (unW .not t13 fun t63 =>
 brV t63
 (blS 3 1 #[(.int .i64 0)] 1 [(0, t12)] w fun t66 w =>
 sm Try.prog (bi .append #[25, 25] 25 [t7, t66]) w fun t67 w =>
 blS 3 1 #[(.int .i64 0)] 1 [(0, t12)] w fun t70 w =>
 sm Try.prog (bi .append #[25, 25] 25 [t8, t70]) w fun t71 w =>
 jn (honeycombref1_reach_J8 R r3 r7) [t1, t2, t67, t71, t9, t10] w)
 (jn (honeycombref1_reach_J8 R r3 r7) [t1, t2, t7, t8, t9, t10] w))
def honeycombref1_reach_J12 (R : Value → World → Prop) (r3 : List Value → World → Prop) (r7 : List Value → World → Prop) : List Value → World → Prop := fun l w =>
 unc l fun t1 l =>
 unc l fun t2 l =>
 unc l fun t7 l =>
 unc l fun t8 l =>
 unc l fun t9 l =>
 unc l fun t10 l =>
 unc l fun t11 l =>
 unc l fun t12 l =>
 intW .neq t11 t9 fun t46 =>
 brV t46
 (jn (honeycombref1_reach_J8 R r3 r7) [t1, t2, t7, t8, t9, t10] w)
 (lp (honeycombref1_reach_L15 R r3 r7) [t1, t2, t7, t8, t9, t10, t12, (.bool false), (.int .i64 0)] w)
def honeycombref1_reach_L7 (R : Value → World → Prop) (r3 : List Value → World → Prop) : (List Value → World → Prop) → List Value → World → Prop := fun r7 l w =>
 unc l fun t1 l =>
 unc l fun t2 l =>
 unc l fun t7 l =>
 unc l fun t8 l =>
 unc l fun t9 l =>
 unc l fun t10 l =>
 lenSl t1 fun t27 =>
 intW .lss t10 t27 fun t28 =>
 brV t28
 (ixS 2 t1 t10 fun t33 =>
 yl Try.prog (Instr.indexAt 43 t33 (.int .i64 0)) fun t34 =>
 ixS 2 t1 t10 fun t38 =>
 yl Try.prog (Instr.indexAt 43 t38 (.int .i64 1)) fun t39 =>
 ldC t34 w.drew fun t35 c4 =>
 ldC t39 w.drew fun t40 c9 =>
 brV t2
 (jn (honeycombref1_reach_J12 R r3 r7) [t1, t2, t7, t8, t9, t10, t40, t35] w.drew)
 (jn (honeycombref1_reach_J12 R r3 r7) [t1, t2, t7, t8, t9, t10, t35, t40] w.drew))
 (r3 [t1, t2, t7, t8] w)
def honeycombref1_reach_L3 (R : Value → World → Prop) : (List Value → World → Prop) → List Value → World → Prop := fun r3 l w =>
 unc l fun t1 l =>
 unc l fun t2 l =>
 unc l fun t7 l =>
 unc l fun t8 l =>
 lenSl t8 fun t18 =>
 intW .gtr t18 (.int .i64 0) fun t19 =>
 brV t19
 (ixS 1 t8 (.int .i64 0) fun t21 =>
 ldC t21 w fun t22 _ =>
 slSl 1 t8 (some (.int .i64 1)) none none fun t24 =>
 lp (honeycombref1_reach_L7 R r3) [t1, t2, t7, t24, t22, (.int .i64 0)] w)
 (R t7 w)
/-- `honeycomb/honeycombref1.reach` -/
def honeycombref1_reach (a0 a1 a2 : Value) (R : Value → World → Prop) (w : World) : Prop :=
 blS 3 1 #[(.int .i64 0)] 1 [(0, a0)] w fun t16 w =>
 lp (honeycombref1_reach_L3 R) [a1, a2, (.slice none 0 0), t16] w
theorem honeycombref1_reach_den (a0 a1 a2 : Value) (R : Value → World → Prop) (w : World) : denF Try.prog Try.f20 (Try.f20.body.getD .skip) [(8, [1, 2, 7, 8, 9, 10]), (12, [1, 2, 7, 8, 9, 10, 11, 12]), (16, [1, 2, 7, 8, 9, 10, 12, 13, 14])] [(3, [1, 2, 7, 8]), (7, [1, 2, 7, 8, 9, 10]), (15, [1, 2, 7, 8, 9, 10, 12, 13, 14])] [a0, a1, a2] R w = honeycombref1_reach a0 a1 a2 R w := by kernel_rfl
set_option maxRecDepth 100000 in
theorem honeycombref1_reach_run {a0 a1 a2 : Value} {R : Value → World → Prop} {w : World} (h : honeycombref1_reach a0 a1 a2 R w) : Calls Try.prog 20 #[a0, a1, a2] w (rt R) :=
  run_sound (c := Try.f20.body.getD .skip) (la := [(8, [1, 2, 7, 8, 9, 10]), (12, [1, 2, 7, 8, 9, 10, 11, 12]), (16, [1, 2, 7, 8, 9, 10, 12, 13, 14])]) (lb := [(3, [1, 2, 7, 8]), (7, [1, 2, 7, 8, 9, 10]), (15, [1, 2, 7, 8, 9, 10, 12, 13, 14])]) (args := [a0, a1, a2]) mixed Try.func20 (by kernel_rfl) (by kernel_rfl) (Nat.le_of_ble_eq_true (by kernel_rfl)) (Eq.mpr (honeycombref1_reach_den a0 a1 a2 R w) h)
theorem honeycombref1_reach_body : hasBody Try.prog 20 = true := by kernel_rfl
theorem honeycombref1_reach_call {a0 a1 a2 : Value} {R : Value → World → Prop} {w : World} (h : Calls Try.prog 20 #[a0, a1, a2] w (rt R)) : callW Try.prog (.func (.func 20) #[] #[]) [a0, a1, a2] w R :=
  ⟨honeycombref1_reach_body, h⟩
def honeycombref1_Rising_J5 (R : Value → World → Prop) (r4 : List Value → World → Prop) : List Value → World → Prop := fun l w =>
 unc l fun t3 l =>
 unc l fun t4 l =>
 unc l fun t5 l =>
 intW .sub t5 (.int .i64 1) fun t14 =>
 r4 [t3, t4, t14] w
def honeycombref1_Rising_J7 (R : Value → World → Prop) (r4 : List Value → World → Prop) : List Value → World → Prop := fun l w =>
 unc l fun t3 l =>
 unc l fun t4 l =>
 unc l fun t5 l =>
 ixS 1 t3 t5 fun t34 =>
 ldC t34 w fun t35 _ =>
 blS 3 1 #[(.int .i64 0)] 1 [(0, t35)] w fun t36 w =>
 sm Try.prog (bi .append #[25, 25] 25 [t4, t36]) w fun t37 w =>
 jn (honeycombref1_Rising_J5 R r4) [t3, t37, t5] w
def honeycombref1_Rising_L4 (R : Value → World → Prop) : (List Value → World → Prop) → List Value → World → Prop := fun r4 l w =>
 unc l fun t3 l =>
 unc l fun t4 l =>
 unc l fun t5 l =>
 intW .geq t5 (.int .i64 0) fun t12 =>
 brV t12
 (lenSl t4 fun t16 =>
 intW .eql t16 (.int .i64 0) fun t17 =>
 brV t17
 (jn (honeycombref1_Rising_J7 R r4) [t3, t4, t5] w.drew)
 (lenSl t4 fun t21 =>
 intW .sub t21 (.int .i64 1) fun t22 =>
 ixS 1 t4 t22 fun t23 =>
 ixS 1 t3 t5 fun t27 =>
 ldC t23 w.drew fun t24 c9 =>
 ldC t27 w.drew fun t28 c13 =>
 intW .neq t24 t28 fun t29 =>
 brV t29
 (jn (honeycombref1_Rising_J7 R r4) [t3, t4, t5] w.drew)
 (jn (honeycombref1_Rising_J5 R r4) [t3, t4, t5] w.drew)))
 (R t4 w)
/-- `honeycomb/honeycombref1.Rising` -/
def honeycombref1_Rising (a0 : Value) (R : Value → World → Prop) (w : World) : Prop :=
 callW Try.prog (.func (.func 64) #[] #[]) [a0] w fun t7 w =>
 lenSl t7 fun t9 =>
 intW .sub t9 (.int .i64 1) fun t10 =>
 lp (honeycombref1_Rising_L4 R) [t7, (.slice none 0 0), t10] w
theorem honeycombref1_Rising_den (a0 : Value) (R : Value → World → Prop) (w : World) : denF Try.prog Try.f21 (Try.f21.body.getD .skip) [(5, [3, 4, 5]), (7, [3, 4, 5])] [(4, [3, 4, 5])] [a0] R w = honeycombref1_Rising a0 R w := by kernel_rfl
set_option maxRecDepth 100000 in
theorem honeycombref1_Rising_run {a0 : Value} {R : Value → World → Prop} {w : World} (h : honeycombref1_Rising a0 R w) : Calls Try.prog 21 #[a0] w (rt R) :=
  run_sound (c := Try.f21.body.getD .skip) (la := [(5, [3, 4, 5]), (7, [3, 4, 5])]) (lb := [(4, [3, 4, 5])]) (args := [a0]) mixed Try.func21 (by kernel_rfl) (by kernel_rfl) (Nat.le_of_ble_eq_true (by kernel_rfl)) (Eq.mpr (honeycombref1_Rising_den a0 R w) h)
theorem honeycombref1_Rising_body : hasBody Try.prog 21 = true := by kernel_rfl
theorem honeycombref1_Rising_call {a0 : Value} {R : Value → World → Prop} {w : World} (h : Calls Try.prog 21 #[a0] w (rt R)) : callW Try.prog (.func (.func 21) #[] #[]) [a0] w R :=
  ⟨honeycombref1_Rising_body, h⟩
/-- `slices.ContainsFunc[[][2]int,[2]int]` -/
def slices_ContainsFunc_2_int_2_int (a0 a1 : Value) (R : Value → World → Prop) (w : World) : Prop :=
 callW Try.prog (.func (.func 65) #[] #[]) [a0, a1] w fun t7 w =>
 intW .geq t7 (.int .i64 0) fun t8 =>
 R t8 w
theorem slices_ContainsFunc_2_int_2_int_den (a0 a1 : Value) (R : Value → World → Prop) (w : World) : denF Try.prog Try.f22 (Try.f22.body.getD .skip) [] [] [a0, a1] R w = slices_ContainsFunc_2_int_2_int a0 a1 R w := by kernel_rfl
set_option maxRecDepth 100000 in
theorem slices_ContainsFunc_2_int_2_int_run {a0 a1 : Value} {R : Value → World → Prop} {w : World} (h : slices_ContainsFunc_2_int_2_int a0 a1 R w) : Calls Try.prog 22 #[a0, a1] w (rt R) :=
  run_sound (c := Try.f22.body.getD .skip) (la := []) (lb := []) (args := [a0, a1]) mixed Try.func22 (by kernel_rfl) (by kernel_rfl) (Nat.le_of_ble_eq_true (by kernel_rfl)) (Eq.mpr (slices_ContainsFunc_2_int_2_int_den a0 a1 R w) h)
theorem slices_ContainsFunc_2_int_2_int_body : hasBody Try.prog 22 = true := by kernel_rfl
theorem slices_ContainsFunc_2_int_2_int_call {a0 a1 : Value} {R : Value → World → Prop} {w : World} (h : Calls Try.prog 22 #[a0, a1] w (rt R)) : callW Try.prog (.func (.func 22) #[] #[]) [a0, a1] w R :=
  ⟨slices_ContainsFunc_2_int_2_int_body, h⟩
/-- `honeycomb/cycle.Any$1` -/
def cycle_Any_1 (a0 a1 : Value) (R : Value → World → Prop) (w : World) : Prop :=
 alW (Value.cells a0) 43 w fun t2 w =>
 yl Try.prog (Instr.indexAt 43 t2 (.int .i64 0)) fun t4 =>
 ldC t4 w fun t5 _ =>
 ldC a1 w fun t6 _ =>
 callW Try.prog (.func (.func 6) #[] #[]) [t5, t6] w fun t7 w =>
 lenSl t7 fun t8 =>
 intW .gtr t8 (.int .i64 0) fun t9 =>
 R t9 w
theorem cycle_Any_1_den (a0 a1 : Value) (R : Value → World → Prop) (w : World) : denF Try.prog Try.f23 (Try.f23.body.getD .skip) [] [] [a0, a1] R w = cycle_Any_1 a0 a1 R w := by kernel_rfl
set_option maxRecDepth 100000 in
theorem cycle_Any_1_run {a0 a1 : Value} {R : Value → World → Prop} {w : World} (h : cycle_Any_1 a0 a1 R w) : Calls Try.prog 23 #[a0, a1] w (rt R) :=
  run_sound (c := Try.f23.body.getD .skip) (la := []) (lb := []) (args := [a0, a1]) mixed Try.func23 (by kernel_rfl) (by kernel_rfl) (Nat.le_of_ble_eq_true (by kernel_rfl)) (Eq.mpr (cycle_Any_1_den a0 a1 R w) h)
theorem cycle_Any_1_body : hasBody Try.prog 23 = true := by kernel_rfl
theorem cycle_Any_1_call {a0 a1 : Value} {R : Value → World → Prop} {w : World} (h : Calls Try.prog 23 #[a0, a1] w (rt R)) : callW Try.prog (.func (.func 23) #[] #[]) [a0, a1] w R :=
  ⟨cycle_Any_1_body, h⟩
def honeycombbook_SamePairs_L4 (R : Value → World → Prop) : (List Value → World → Prop) → List Value → World → Prop := fun r4 l w =>
 unc l fun t0 l =>
 unc l fun t1 l =>
 unc l fun t5 l =>
 lenSl t0 fun t13 =>
 intW .lss t5 t13 fun t14 =>
 brV t14
 (ixS 2 t0 t5 fun t19 =>
 ixS 2 t1 t5 fun t23 =>
 ldN 2 t19 w.drew fun t20 c3 =>
 ldN 2 t23 w.drew fun t24 c7 =>
 yl Try.prog (semBin .eql 43 (.tmp 20) (.tmp 24) t20 t24) fun t25 =>
 unW .not t25 fun t26 =>
 brV t26
 (R (.bool false) w.drew)
 (intW .add t5 (.int .i64 1) fun t16 =>
 r4 [t0, t1, t16] w.drew))
 (R (.bool true) w)
/-- `honeycomb/honeycombbook.SamePairs` -/
def honeycombbook_SamePairs (a0 a1 : Value) (R : Value → World → Prop) (w : World) : Prop :=
 lenSl a0 fun t7 =>
 lenSl a1 fun t9 =>
 intW .neq t7 t9 fun t10 =>
 brV t10
 (R (.bool false) w)
 (lp (honeycombbook_SamePairs_L4 R) [a0, a1, (.int .i64 0)] w)
theorem honeycombbook_SamePairs_den (a0 a1 : Value) (R : Value → World → Prop) (w : World) : denF Try.prog Try.f24 (Try.f24.body.getD .skip) [] [(4, [0, 1, 5])] [a0, a1] R w = honeycombbook_SamePairs a0 a1 R w := by kernel_rfl
set_option maxRecDepth 100000 in
theorem honeycombbook_SamePairs_run {a0 a1 : Value} {R : Value → World → Prop} {w : World} (h : honeycombbook_SamePairs a0 a1 R w) : Calls Try.prog 24 #[a0, a1] w (rt R) :=
  run_sound (c := Try.f24.body.getD .skip) (la := []) (lb := [(4, [0, 1, 5])]) (args := [a0, a1]) mixed Try.func24 (by kernel_rfl) (by kernel_rfl) (Nat.le_of_ble_eq_true (by kernel_rfl)) (Eq.mpr (honeycombbook_SamePairs_den a0 a1 R w) h)
theorem honeycombbook_SamePairs_body : hasBody Try.prog 24 = true := by kernel_rfl
theorem honeycombbook_SamePairs_call {a0 a1 : Value} {R : Value → World → Prop} {w : World} (h : Calls Try.prog 24 #[a0, a1] w (rt R)) : callW Try.prog (.func (.func 24) #[] #[]) [a0, a1] w R :=
  ⟨honeycombbook_SamePairs_body, h⟩
def honeycombbook_Book_stillInts_L2 (R : Value → World → Prop) : (List Value → World → Prop) → List Value → World → Prop := fun r2 l w =>
 unc l fun t0 l =>
 unc l fun t3 l =>
 nckW t0 fun t6 =>
 fld 0 t6 fun t7 =>
 ldC t7 w fun t8 _ =>
 lenSl t8 fun t9 =>
 intW .lss t3 t9 fun t10 =>
 brV t10
 (nckW t0 fun t14 =>
 fld 0 t14 fun t15 =>
 nckW t0 fun t21 =>
 fld 1 t21 fun t22 =>
 ldC t15 w.drew fun t16 c3 =>
 ixS 1 t16 t3 fun t18 =>
 ldC t18 w.drew fun t19 c6 =>
 ldC t22 w.drew fun t23 c10 =>
 ixS 1 t23 t3 fun t25 =>
 ldC t25 w.drew fun t26 c13 =>
 callW Try.prog (.func (.func 10) #[] #[]) [t19, t26] w.drew fun t27 w =>
 heldC [(10, c10), (3, c3)] w (unW .not t27 fun t28 =>
 brV t28
 (R (.bool false) w)
 (intW .add t3 (.int .i64 1) fun t12 =>
 r2 [t0, t12] w)))
 (R (.bool true) w)
/-- `(*honeycomb/honeycombbook.Book).stillInts` -/
def honeycombbook_Book_stillInts (a0 : Value) (R : Value → World → Prop) (w : World) : Prop :=
 lp (honeycombbook_Book_stillInts_L2 R) [a0, (.int .i64 0)] w
theorem honeycombbook_Book_stillInts_den (a0 : Value) (R : Value → World → Prop) (w : World) : denF Try.prog Try.f25 (Try.f25.body.getD .skip) [] [(2, [0, 3])] [a0] R w = honeycombbook_Book_stillInts a0 R w := by kernel_rfl
set_option maxRecDepth 100000 in
theorem honeycombbook_Book_stillInts_run {a0 : Value} {R : Value → World → Prop} {w : World} (h : honeycombbook_Book_stillInts a0 R w) : Calls Try.prog 25 #[a0] w (rt R) :=
  run_sound (c := Try.f25.body.getD .skip) (la := []) (lb := [(2, [0, 3])]) (args := [a0]) mixed Try.func25 (by kernel_rfl) (by kernel_rfl) (Nat.le_of_ble_eq_true (by kernel_rfl)) (Eq.mpr (honeycombbook_Book_stillInts_den a0 R w) h)
theorem honeycombbook_Book_stillInts_body : hasBody Try.prog 25 = true := by kernel_rfl
theorem honeycombbook_Book_stillInts_call {a0 : Value} {R : Value → World → Prop} {w : World} (h : Calls Try.prog 25 #[a0] w (rt R)) : callW Try.prog (.func (.func 25) #[] #[]) [a0] w R :=
  ⟨honeycombbook_Book_stillInts_body, h⟩
def honeycombbook_Book_stillTexts_L2 (R : Value → World → Prop) : (List Value → World → Prop) → List Value → World → Prop := fun r2 l w =>
 unc l fun t0 l =>
 unc l fun t3 l =>
 nckW t0 fun t6 =>
 fld 2 t6 fun t7 =>
 ldC t7 w fun t8 _ =>
 lenSl t8 fun t9 =>
 intW .lss t3 t9 fun t10 =>
 brV t10
 (nckW t0 fun t14 =>
 fld 2 t14 fun t15 =>
 nckW t0 fun t21 =>
 fld 3 t21 fun t22 =>
 ldC t15 w.drew fun t16 c3 =>
 ixS 1 t16 t3 fun t18 =>
 ldC t18 w.drew fun t19 c6 =>
 ldC t22 w.drew fun t23 c10 =>
 ixS 1 t23 t3 fun t25 =>
 ldC t25 w.drew fun t26 c13 =>
 callW Try.prog (.func (.func 66) #[] #[]) [t19, t26] w.drew fun t27 w =>
 heldC [(10, c10), (3, c3)] w (unW .not t27 fun t28 =>
 brV t28
 (R (.bool false) w)
 (intW .add t3 (.int .i64 1) fun t12 =>
 r2 [t0, t12] w)))
 (R (.bool true) w)
/-- `(*honeycomb/honeycombbook.Book).stillTexts` -/
def honeycombbook_Book_stillTexts (a0 : Value) (R : Value → World → Prop) (w : World) : Prop :=
 lp (honeycombbook_Book_stillTexts_L2 R) [a0, (.int .i64 0)] w
theorem honeycombbook_Book_stillTexts_den (a0 : Value) (R : Value → World → Prop) (w : World) : denF Try.prog Try.f26 (Try.f26.body.getD .skip) [] [(2, [0, 3])] [a0] R w = honeycombbook_Book_stillTexts a0 R w := by kernel_rfl
set_option maxRecDepth 100000 in
theorem honeycombbook_Book_stillTexts_run {a0 : Value} {R : Value → World → Prop} {w : World} (h : honeycombbook_Book_stillTexts a0 R w) : Calls Try.prog 26 #[a0] w (rt R) :=
  run_sound (c := Try.f26.body.getD .skip) (la := []) (lb := [(2, [0, 3])]) (args := [a0]) mixed Try.func26 (by kernel_rfl) (by kernel_rfl) (Nat.le_of_ble_eq_true (by kernel_rfl)) (Eq.mpr (honeycombbook_Book_stillTexts_den a0 R w) h)
theorem honeycombbook_Book_stillTexts_body : hasBody Try.prog 26 = true := by kernel_rfl
theorem honeycombbook_Book_stillTexts_call {a0 : Value} {R : Value → World → Prop} {w : World} (h : Calls Try.prog 26 #[a0] w (rt R)) : callW Try.prog (.func (.func 26) #[] #[]) [a0] w R :=
  ⟨honeycombbook_Book_stillTexts_body, h⟩
def honeycombbook_Book_stillCells_L2 (R : Value → World → Prop) : (List Value → World → Prop) → List Value → World → Prop := fun r2 l w =>
 unc l fun t0 l =>
 unc l fun t3 l =>
 nckW t0 fun t6 =>
 fld 4 t6 fun t7 =>
 ldC t7 w fun t8 _ =>
 lenSl t8 fun t9 =>
 intW .lss t3 t9 fun t10 =>
 brV t10
 (nckW t0 fun t14 =>
 fld 4 t14 fun t15 =>
 nckW t0 fun t21 =>
 fld 5 t21 fun t22 =>
 ldC t15 w.drew fun t16 c3 =>
 ixS 1 t16 t3 fun t18 =>
 ldC t18 w.drew fun t19 c6 =>
 ldC t22 w.drew fun t23 c10 =>
 ixS 1 t23 t3 fun t25 =>
 ldC t25 w.drew fun t26 c13 =>
 callW Try.prog (.func (.func 67) #[] #[]) [t19, t26] w.drew fun t27 w =>
 heldC [(10, c10), (3, c3)] w (unW .not t27 fun t28 =>
 brV t28
 (R (.bool false) w)
 (intW .add t3 (.int .i64 1) fun t12 =>
 r2 [t0, t12] w)))
 (R (.bool true) w)
/-- `(*honeycomb/honeycombbook.Book).stillCells` -/
def honeycombbook_Book_stillCells (a0 : Value) (R : Value → World → Prop) (w : World) : Prop :=
 lp (honeycombbook_Book_stillCells_L2 R) [a0, (.int .i64 0)] w
theorem honeycombbook_Book_stillCells_den (a0 : Value) (R : Value → World → Prop) (w : World) : denF Try.prog Try.f27 (Try.f27.body.getD .skip) [] [(2, [0, 3])] [a0] R w = honeycombbook_Book_stillCells a0 R w := by kernel_rfl
set_option maxRecDepth 100000 in
theorem honeycombbook_Book_stillCells_run {a0 : Value} {R : Value → World → Prop} {w : World} (h : honeycombbook_Book_stillCells a0 R w) : Calls Try.prog 27 #[a0] w (rt R) :=
  run_sound (c := Try.f27.body.getD .skip) (la := []) (lb := [(2, [0, 3])]) (args := [a0]) mixed Try.func27 (by kernel_rfl) (by kernel_rfl) (Nat.le_of_ble_eq_true (by kernel_rfl)) (Eq.mpr (honeycombbook_Book_stillCells_den a0 R w) h)
theorem honeycombbook_Book_stillCells_body : hasBody Try.prog 27 = true := by kernel_rfl
theorem honeycombbook_Book_stillCells_call {a0 : Value} {R : Value → World → Prop} {w : World} (h : Calls Try.prog 27 #[a0] w (rt R)) : callW Try.prog (.func (.func 27) #[] #[]) [a0] w R :=
  ⟨honeycombbook_Book_stillCells_body, h⟩
def honeycombbook_Book_stillPages_L2 (R : Value → World → Prop) : (List Value → World → Prop) → List Value → World → Prop := fun r2 l w =>
 unc l fun t0 l =>
 unc l fun t3 l =>
 nckW t0 fun t6 =>
 fld 6 t6 fun t7 =>
 ldC t7 w fun t8 _ =>
 lenSl t8 fun t9 =>
 intW .lss t3 t9 fun t10 =>
 brV t10
 (nckW t0 fun t14 =>
 fld 6 t14 fun t15 =>
 nckW t0 fun t21 =>
 fld 7 t21 fun t22 =>
 ldC t15 w.drew fun t16 c3 =>
 ixS 1 t16 t3 fun t18 =>
 ldC t18 w.drew fun t19 c6 =>
 ldC t22 w.drew fun t23 c10 =>
 ixS 1 t23 t3 fun t25 =>
 ldC t25 w.drew fun t26 c13 =>
 callW Try.prog (.func (.func 68) #[] #[]) [t19, t26] w.drew fun t27 w =>
 heldC [(10, c10), (3, c3)] w (unW .not t27 fun t28 =>
 brV t28
 (R (.bool false) w)
 (intW .add t3 (.int .i64 1) fun t12 =>
 r2 [t0, t12] w)))
 (R (.bool true) w)
/-- `(*honeycomb/honeycombbook.Book).stillPages` -/
def honeycombbook_Book_stillPages (a0 : Value) (R : Value → World → Prop) (w : World) : Prop :=
 lp (honeycombbook_Book_stillPages_L2 R) [a0, (.int .i64 0)] w
theorem honeycombbook_Book_stillPages_den (a0 : Value) (R : Value → World → Prop) (w : World) : denF Try.prog Try.f28 (Try.f28.body.getD .skip) [] [(2, [0, 3])] [a0] R w = honeycombbook_Book_stillPages a0 R w := by kernel_rfl
set_option maxRecDepth 100000 in
theorem honeycombbook_Book_stillPages_run {a0 : Value} {R : Value → World → Prop} {w : World} (h : honeycombbook_Book_stillPages a0 R w) : Calls Try.prog 28 #[a0] w (rt R) :=
  run_sound (c := Try.f28.body.getD .skip) (la := []) (lb := [(2, [0, 3])]) (args := [a0]) mixed Try.func28 (by kernel_rfl) (by kernel_rfl) (Nat.le_of_ble_eq_true (by kernel_rfl)) (Eq.mpr (honeycombbook_Book_stillPages_den a0 R w) h)
theorem honeycombbook_Book_stillPages_body : hasBody Try.prog 28 = true := by kernel_rfl
theorem honeycombbook_Book_stillPages_call {a0 : Value} {R : Value → World → Prop} {w : World} (h : Calls Try.prog 28 #[a0] w (rt R)) : callW Try.prog (.func (.func 28) #[] #[]) [a0] w R :=
  ⟨honeycombbook_Book_stillPages_body, h⟩
def honeycombbook_Book_stillPatches_L2 (R : Value → World → Prop) : (List Value → World → Prop) → List Value → World → Prop := fun r2 l w =>
 unc l fun t0 l =>
 unc l fun t3 l =>
 nckW t0 fun t6 =>
 fld 8 t6 fun t7 =>
 ldC t7 w fun t8 _ =>
 lenSl t8 fun t9 =>
 intW .lss t3 t9 fun t10 =>
 brV t10
 (nckW t0 fun t14 =>
 fld 8 t14 fun t15 =>
 nckW t0 fun t21 =>
 fld 9 t21 fun t22 =>
 ldC t15 w.drew fun t16 c3 =>
 ixS 1 t16 t3 fun t18 =>
 ldC t18 w.drew fun t19 c6 =>
 ldC t22 w.drew fun t23 c10 =>
 ixS 1 t23 t3 fun t25 =>
 ldC t25 w.drew fun t26 c13 =>
 callW Try.prog (.func (.func 69) #[] #[]) [t19, t26] w.drew fun t27 w =>
 heldC [(10, c10), (3, c3)] w (unW .not t27 fun t28 =>
 brV t28
 (R (.bool false) w)
 (intW .add t3 (.int .i64 1) fun t12 =>
 r2 [t0, t12] w)))
 (R (.bool true) w)
/-- `(*honeycomb/honeycombbook.Book).stillPatches` -/
def honeycombbook_Book_stillPatches (a0 : Value) (R : Value → World → Prop) (w : World) : Prop :=
 lp (honeycombbook_Book_stillPatches_L2 R) [a0, (.int .i64 0)] w
theorem honeycombbook_Book_stillPatches_den (a0 : Value) (R : Value → World → Prop) (w : World) : denF Try.prog Try.f29 (Try.f29.body.getD .skip) [] [(2, [0, 3])] [a0] R w = honeycombbook_Book_stillPatches a0 R w := by kernel_rfl
set_option maxRecDepth 100000 in
theorem honeycombbook_Book_stillPatches_run {a0 : Value} {R : Value → World → Prop} {w : World} (h : honeycombbook_Book_stillPatches a0 R w) : Calls Try.prog 29 #[a0] w (rt R) :=
  run_sound (c := Try.f29.body.getD .skip) (la := []) (lb := [(2, [0, 3])]) (args := [a0]) mixed Try.func29 (by kernel_rfl) (by kernel_rfl) (Nat.le_of_ble_eq_true (by kernel_rfl)) (Eq.mpr (honeycombbook_Book_stillPatches_den a0 R w) h)
theorem honeycombbook_Book_stillPatches_body : hasBody Try.prog 29 = true := by kernel_rfl
theorem honeycombbook_Book_stillPatches_call {a0 : Value} {R : Value → World → Prop} {w : World} (h : Calls Try.prog 29 #[a0] w (rt R)) : callW Try.prog (.func (.func 29) #[] #[]) [a0] w R :=
  ⟨honeycombbook_Book_stillPatches_body, h⟩
def honeycombbook_Book_stillDirty_L2 (R : Value → World → Prop) : (List Value → World → Prop) → List Value → World → Prop := fun r2 l w =>
 unc l fun t0 l =>
 unc l fun t3 l =>
 nckW t0 fun t6 =>
 fld 10 t6 fun t7 =>
 ldC t7 w fun t8 _ =>
 lenSl t8 fun t9 =>
 intW .lss t3 t9 fun t10 =>
 brV t10
 (nckW t0 fun t14 =>
 fld 10 t14 fun t15 =>
 nckW t0 fun t21 =>
 fld 11 t21 fun t22 =>
 ldC t15 w.drew fun t16 c3 =>
 ixS 1 t16 t3 fun t18 =>
 ldC t18 w.drew fun t19 c6 =>
 ldC t22 w.drew fun t23 c10 =>
 ixS 1 t23 t3 fun t25 =>
 ldC t25 w.drew fun t26 c13 =>
 callW Try.prog (.func (.func 70) #[] #[]) [t19, t26] w.drew fun t27 w =>
 heldC [(10, c10), (3, c3)] w (unW .not t27 fun t28 =>
 brV t28
 (R (.bool false) w)
 (intW .add t3 (.int .i64 1) fun t12 =>
 r2 [t0, t12] w)))
 (R (.bool true) w)
/-- `(*honeycomb/honeycombbook.Book).stillDirty` -/
def honeycombbook_Book_stillDirty (a0 : Value) (R : Value → World → Prop) (w : World) : Prop :=
 lp (honeycombbook_Book_stillDirty_L2 R) [a0, (.int .i64 0)] w
theorem honeycombbook_Book_stillDirty_den (a0 : Value) (R : Value → World → Prop) (w : World) : denF Try.prog Try.f30 (Try.f30.body.getD .skip) [] [(2, [0, 3])] [a0] R w = honeycombbook_Book_stillDirty a0 R w := by kernel_rfl
set_option maxRecDepth 100000 in
theorem honeycombbook_Book_stillDirty_run {a0 : Value} {R : Value → World → Prop} {w : World} (h : honeycombbook_Book_stillDirty a0 R w) : Calls Try.prog 30 #[a0] w (rt R) :=
  run_sound (c := Try.f30.body.getD .skip) (la := []) (lb := [(2, [0, 3])]) (args := [a0]) mixed Try.func30 (by kernel_rfl) (by kernel_rfl) (Nat.le_of_ble_eq_true (by kernel_rfl)) (Eq.mpr (honeycombbook_Book_stillDirty_den a0 R w) h)
theorem honeycombbook_Book_stillDirty_body : hasBody Try.prog 30 = true := by kernel_rfl
theorem honeycombbook_Book_stillDirty_call {a0 : Value} {R : Value → World → Prop} {w : World} (h : Calls Try.prog 30 #[a0] w (rt R)) : callW Try.prog (.func (.func 30) #[] #[]) [a0] w R :=
  ⟨honeycombbook_Book_stillDirty_body, h⟩
def honeycombbook_Book_stillEntries_L2 (R : Value → World → Prop) : (List Value → World → Prop) → List Value → World → Prop := fun r2 l w =>
 unc l fun t0 l =>
 unc l fun t3 l =>
 nckW t0 fun t6 =>
 fld 12 t6 fun t7 =>
 ldC t7 w fun t8 _ =>
 lenSl t8 fun t9 =>
 intW .lss t3 t9 fun t10 =>
 brV t10
 (nckW t0 fun t14 =>
 fld 12 t14 fun t15 =>
 nckW t0 fun t21 =>
 fld 13 t21 fun t22 =>
 ldC t15 w.drew fun t16 c3 =>
 ixS 1 t16 t3 fun t18 =>
 ldC t18 w.drew fun t19 c6 =>
 ldC t22 w.drew fun t23 c10 =>
 ixS 1 t23 t3 fun t25 =>
 ldC t25 w.drew fun t26 c13 =>
 callW Try.prog (.func (.func 71) #[] #[]) [t19, t26] w.drew fun t27 w =>
 heldC [(10, c10), (3, c3)] w (unW .not t27 fun t28 =>
 brV t28
 (R (.bool false) w)
 (intW .add t3 (.int .i64 1) fun t12 =>
 r2 [t0, t12] w)))
 (R (.bool true) w)
/-- `(*honeycomb/honeycombbook.Book).stillEntries` -/
def honeycombbook_Book_stillEntries (a0 : Value) (R : Value → World → Prop) (w : World) : Prop :=
 lp (honeycombbook_Book_stillEntries_L2 R) [a0, (.int .i64 0)] w
theorem honeycombbook_Book_stillEntries_den (a0 : Value) (R : Value → World → Prop) (w : World) : denF Try.prog Try.f31 (Try.f31.body.getD .skip) [] [(2, [0, 3])] [a0] R w = honeycombbook_Book_stillEntries a0 R w := by kernel_rfl
set_option maxRecDepth 100000 in
theorem honeycombbook_Book_stillEntries_run {a0 : Value} {R : Value → World → Prop} {w : World} (h : honeycombbook_Book_stillEntries a0 R w) : Calls Try.prog 31 #[a0] w (rt R) :=
  run_sound (c := Try.f31.body.getD .skip) (la := []) (lb := [(2, [0, 3])]) (args := [a0]) mixed Try.func31 (by kernel_rfl) (by kernel_rfl) (Nat.le_of_ble_eq_true (by kernel_rfl)) (Eq.mpr (honeycombbook_Book_stillEntries_den a0 R w) h)
theorem honeycombbook_Book_stillEntries_body : hasBody Try.prog 31 = true := by kernel_rfl
theorem honeycombbook_Book_stillEntries_call {a0 : Value} {R : Value → World → Prop} {w : World} (h : Calls Try.prog 31 #[a0] w (rt R)) : callW Try.prog (.func (.func 31) #[] #[]) [a0] w R :=
  ⟨honeycombbook_Book_stillEntries_body, h⟩
def honeycombbook_Book_stillPairs_L2 (R : Value → World → Prop) : (List Value → World → Prop) → List Value → World → Prop := fun r2 l w =>
 unc l fun t0 l =>
 unc l fun t3 l =>
 nckW t0 fun t6 =>
 fld 14 t6 fun t7 =>
 ldC t7 w fun t8 _ =>
 lenSl t8 fun t9 =>
 intW .lss t3 t9 fun t10 =>
 brV t10
 (nckW t0 fun t14 =>
 fld 14 t14 fun t15 =>
 nckW t0 fun t21 =>
 fld 15 t21 fun t22 =>
 ldC t15 w.drew fun t16 c3 =>
 ixS 1 t16 t3 fun t18 =>
 ldC t18 w.drew fun t19 c6 =>
 ldC t22 w.drew fun t23 c10 =>
 ixS 1 t23 t3 fun t25 =>
 ldC t25 w.drew fun t26 c13 =>
 callW Try.prog (.func (.func 24) #[] #[]) [t19, t26] w.drew fun t27 w =>
 heldC [(10, c10), (3, c3)] w (unW .not t27 fun t28 =>
 brV t28
 (R (.bool false) w)
 (intW .add t3 (.int .i64 1) fun t12 =>
 r2 [t0, t12] w)))
 (R (.bool true) w)
/-- `(*honeycomb/honeycombbook.Book).stillPairs` -/
def honeycombbook_Book_stillPairs (a0 : Value) (R : Value → World → Prop) (w : World) : Prop :=
 lp (honeycombbook_Book_stillPairs_L2 R) [a0, (.int .i64 0)] w
theorem honeycombbook_Book_stillPairs_den (a0 : Value) (R : Value → World → Prop) (w : World) : denF Try.prog Try.f32 (Try.f32.body.getD .skip) [] [(2, [0, 3])] [a0] R w = honeycombbook_Book_stillPairs a0 R w := by kernel_rfl
set_option maxRecDepth 100000 in
theorem honeycombbook_Book_stillPairs_run {a0 : Value} {R : Value → World → Prop} {w : World} (h : honeycombbook_Book_stillPairs a0 R w) : Calls Try.prog 32 #[a0] w (rt R) :=
  run_sound (c := Try.f32.body.getD .skip) (la := []) (lb := [(2, [0, 3])]) (args := [a0]) mixed Try.func32 (by kernel_rfl) (by kernel_rfl) (Nat.le_of_ble_eq_true (by kernel_rfl)) (Eq.mpr (honeycombbook_Book_stillPairs_den a0 R w) h)
theorem honeycombbook_Book_stillPairs_body : hasBody Try.prog 32 = true := by kernel_rfl
theorem honeycombbook_Book_stillPairs_call {a0 : Value} {R : Value → World → Prop} {w : World} (h : Calls Try.prog 32 #[a0] w (rt R)) : callW Try.prog (.func (.func 32) #[] #[]) [a0] w R :=
  ⟨honeycombbook_Book_stillPairs_body, h⟩
def honeycombbook_Book_stillTxs_L2 (R : Value → World → Prop) : (List Value → World → Prop) → List Value → World → Prop := fun r2 l w =>
 unc l fun t0 l =>
 unc l fun t3 l =>
 nckW t0 fun t6 =>
 fld 16 t6 fun t7 =>
 ldC t7 w fun t8 _ =>
 lenSl t8 fun t9 =>
 intW .lss t3 t9 fun t10 =>
 brV t10
 (nckW t0 fun t14 =>
 fld 16 t14 fun t15 =>
 nckW t0 fun t21 =>
 fld 17 t21 fun t22 =>
 ldC t15 w.drew fun t16 c3 =>
 ixS 1 t16 t3 fun t18 =>
 ldC t18 w.drew fun t19 c6 =>
 ldC t22 w.drew fun t23 c10 =>
 ixS 1 t23 t3 fun t25 =>
 ldC t25 w.drew fun t26 c13 =>
 callW Try.prog (.func (.func 72) #[] #[]) [t19, t26] w.drew fun t27 w =>
 heldC [(10, c10), (3, c3)] w (unW .not t27 fun t28 =>
 brV t28
 (R (.bool false) w)
 (intW .add t3 (.int .i64 1) fun t12 =>
 r2 [t0, t12] w)))
 (R (.bool true) w)
/-- `(*honeycomb/honeycombbook.Book).stillTxs` -/
def honeycombbook_Book_stillTxs (a0 : Value) (R : Value → World → Prop) (w : World) : Prop :=
 lp (honeycombbook_Book_stillTxs_L2 R) [a0, (.int .i64 0)] w
theorem honeycombbook_Book_stillTxs_den (a0 : Value) (R : Value → World → Prop) (w : World) : denF Try.prog Try.f33 (Try.f33.body.getD .skip) [] [(2, [0, 3])] [a0] R w = honeycombbook_Book_stillTxs a0 R w := by kernel_rfl
set_option maxRecDepth 100000 in
theorem honeycombbook_Book_stillTxs_run {a0 : Value} {R : Value → World → Prop} {w : World} (h : honeycombbook_Book_stillTxs a0 R w) : Calls Try.prog 33 #[a0] w (rt R) :=
  run_sound (c := Try.f33.body.getD .skip) (la := []) (lb := [(2, [0, 3])]) (args := [a0]) mixed Try.func33 (by kernel_rfl) (by kernel_rfl) (Nat.le_of_ble_eq_true (by kernel_rfl)) (Eq.mpr (honeycombbook_Book_stillTxs_den a0 R w) h)
theorem honeycombbook_Book_stillTxs_body : hasBody Try.prog 33 = true := by kernel_rfl
theorem honeycombbook_Book_stillTxs_call {a0 : Value} {R : Value → World → Prop} {w : World} (h : Calls Try.prog 33 #[a0] w (rt R)) : callW Try.prog (.func (.func 33) #[] #[]) [a0] w R :=
  ⟨honeycombbook_Book_stillTxs_body, h⟩
def honeycombbook_Book_putTxs_L5 (R : Value → World → Prop) (r1 : List Value → World → Prop) : (List Value → World → Prop) → List Value → World → Prop := fun r5 l w =>
 unc l fun t0 l =>
 unc l fun t2 l =>
 unc l fun t3 l =>
 unc l fun t4 l =>
 lenSl t3 fun t26 =>
 intW .lss t4 t26 fun t27 =>
 brV t27
 (nckW t0 fun t31 =>
 fld 16 t31 fun t32 =>
 ixS 4 t3 t4 fun t40 =>
 ldC t32 w.drew fun t33 c3 =>
 ixS 1 t33 t2 fun t35 =>
 ldC t35 w.drew fun t36 c6 =>
 ldN 4 t40 w.drew fun t41 c11 =>
 ixS 4 t36 t4 fun t42 =>
 stN 4 t42 t41 w.drew fun w =>
 intW .add t4 (.int .i64 1) fun t29 =>
 r5 [t0, t2, t3, t29] w)
 (intW .add t2 (.int .i64 1) fun t13 =>
 r1 [t0, t13] w)
def honeycombbook_Book_putTxs_L1 (R : Value → World → Prop) : (List Value → World → Prop) → List Value → World → Prop := fun r1 l w =>
 unc l fun t0 l =>
 unc l fun t2 l =>
 nckW t0 fun t7 =>
 fld 16 t7 fun t8 =>
 ldC t8 w fun t9 _ =>
 lenSl t9 fun t10 =>
 intW .lss t2 t10 fun t11 =>
 brV t11
 (nckW t0 fun t16 =>
 fld 16 t16 fun t17 =>
 ldC t17 w fun t18 _ =>
 ixS 1 t18 t2 fun t20 =>
 ldC t20 w fun t21 _ =>
 lenSl t21 fun t22 =>
 callW Try.prog (.func (.func 73) #[] #[]) [t2, (.int .i64 0), t22] w fun t23 w =>
 lp (honeycombbook_Book_putTxs_L5 R r1) [t0, t2, t23, (.int .i64 0)] w)
 (R (.tuple #[]) w)
/-- `(*honeycomb/honeycombbook.Book).putTxs` -/
def honeycombbook_Book_putTxs (a0 : Value) (R : Value → World → Prop) (w : World) : Prop :=
 lp (honeycombbook_Book_putTxs_L1 R) [a0, (.int .i64 0)] w
theorem honeycombbook_Book_putTxs_den (a0 : Value) (R : Value → World → Prop) (w : World) : denF Try.prog Try.f34 (Try.f34.body.getD .skip) [] [(1, [0, 2]), (5, [0, 2, 3, 4])] [a0] R w = honeycombbook_Book_putTxs a0 R w := by kernel_rfl
set_option maxRecDepth 100000 in
theorem honeycombbook_Book_putTxs_run {a0 : Value} {R : Value → World → Prop} {w : World} (h : honeycombbook_Book_putTxs a0 R w) : Calls Try.prog 34 #[a0] w (rt R) :=
  run_sound (c := Try.f34.body.getD .skip) (la := []) (lb := [(1, [0, 2]), (5, [0, 2, 3, 4])]) (args := [a0]) mixed Try.func34 (by kernel_rfl) (by kernel_rfl) (Nat.le_of_ble_eq_true (by kernel_rfl)) (Eq.mpr (honeycombbook_Book_putTxs_den a0 R w) h)
theorem honeycombbook_Book_putTxs_body : hasBody Try.prog 34 = true := by kernel_rfl
theorem honeycombbook_Book_putTxs_call {a0 : Value} {R : Value → World → Prop} {w : World} (h : Calls Try.prog 34 #[a0] w (rt R)) : callW Try.prog (.func (.func 34) #[] #[]) [a0] w R :=
  ⟨honeycombbook_Book_putTxs_body, h⟩
def honeycombbook_Book_putInts_L5 (R : Value → World → Prop) (r1 : List Value → World → Prop) : (List Value → World → Prop) → List Value → World → Prop := fun r5 l w =>
 unc l fun t0 l =>
 unc l fun t2 l =>
 unc l fun t3 l =>
 unc l fun t4 l =>
 lenSl t3 fun t26 =>
 intW .lss t4 t26 fun t27 =>
 brV t27
 (nckW t0 fun t31 =>
 fld 0 t31 fun t32 =>
 ixS 1 t3 t4 fun t40 =>
 ldC t32 w.drew fun t33 c3 =>
 ixS 1 t33 t2 fun t35 =>
 ldC t35 w.drew fun t36 c6 =>
 ldC t40 w.drew fun t41 c11 =>
 ixS 1 t36 t4 fun t42 =>
 1 = 1 ∧ stC t42 t41 w.drew fun w =>
 intW .add t4 (.int .i64 1) fun t29 =>
 r5 [t0, t2, t3, t29] w)
 (intW .add t2 (.int .i64 1) fun t13 =>
 r1 [t0, t13] w)
def honeycombbook_Book_putInts_L1 (R : Value → World → Prop) : (List Value → World → Prop) → List Value → World → Prop := fun r1 l w =>
 unc l fun t0 l =>
 unc l fun t2 l =>
 nckW t0 fun t7 =>
 fld 0 t7 fun t8 =>
 ldC t8 w fun t9 _ =>
 lenSl t9 fun t10 =>
 intW .lss t2 t10 fun t11 =>
 brV t11
 (nckW t0 fun t16 =>
 fld 0 t16 fun t17 =>
 ldC t17 w fun t18 _ =>
 ixS 1 t18 t2 fun t20 =>
 ldC t20 w fun t21 _ =>
 lenSl t21 fun t22 =>
 callW Try.prog (.func (.func 74) #[] #[]) [t2, (.int .i64 0), t22] w fun t23 w =>
 lp (honeycombbook_Book_putInts_L5 R r1) [t0, t2, t23, (.int .i64 0)] w)
 (R (.tuple #[]) w)
/-- `(*honeycomb/honeycombbook.Book).putInts` -/
def honeycombbook_Book_putInts (a0 : Value) (R : Value → World → Prop) (w : World) : Prop :=
 lp (honeycombbook_Book_putInts_L1 R) [a0, (.int .i64 0)] w
theorem honeycombbook_Book_putInts_den (a0 : Value) (R : Value → World → Prop) (w : World) : denF Try.prog Try.f35 (Try.f35.body.getD .skip) [] [(1, [0, 2]), (5, [0, 2, 3, 4])] [a0] R w = honeycombbook_Book_putInts a0 R w := by kernel_rfl
set_option maxRecDepth 100000 in
theorem honeycombbook_Book_putInts_run {a0 : Value} {R : Value → World → Prop} {w : World} (h : honeycombbook_Book_putInts a0 R w) : Calls Try.prog 35 #[a0] w (rt R) :=
  run_sound (c := Try.f35.body.getD .skip) (la := []) (lb := [(1, [0, 2]), (5, [0, 2, 3, 4])]) (args := [a0]) mixed Try.func35 (by kernel_rfl) (by kernel_rfl) (Nat.le_of_ble_eq_true (by kernel_rfl)) (Eq.mpr (honeycombbook_Book_putInts_den a0 R w) h)
theorem honeycombbook_Book_putInts_body : hasBody Try.prog 35 = true := by kernel_rfl
theorem honeycombbook_Book_putInts_call {a0 : Value} {R : Value → World → Prop} {w : World} (h : Calls Try.prog 35 #[a0] w (rt R)) : callW Try.prog (.func (.func 35) #[] #[]) [a0] w R :=
  ⟨honeycombbook_Book_putInts_body, h⟩
def honeycombbook_Book_putTexts_L5 (R : Value → World → Prop) (r1 : List Value → World → Prop) : (List Value → World → Prop) → List Value → World → Prop := fun r5 l w =>
 unc l fun t0 l =>
 unc l fun t2 l =>
 unc l fun t3 l =>
 unc l fun t4 l =>
 lenSl t3 fun t26 =>
 intW .lss t4 t26 fun t27 =>
 brV t27
 (nckW t0 fun t31 =>
 fld 2 t31 fun t32 =>
 ixS 1 t3 t4 fun t40 =>
 ldC t32 w.drew fun t33 c3 =>
 ixS 1 t33 t2 fun t35 =>
 ldC t35 w.drew fun t36 c6 =>
 ldC t40 w.drew fun t41 c11 =>
 ixS 1 t36 t4 fun t42 =>
 1 = 1 ∧ stC t42 t41 w.drew fun w =>
 intW .add t4 (.int .i64 1) fun t29 =>
 r5 [t0, t2, t3, t29] w)
 (intW .add t2 (.int .i64 1) fun t13 =>
 r1 [t0, t13] w)
def honeycombbook_Book_putTexts_L1 (R : Value → World → Prop) : (List Value → World → Prop) → List Value → World → Prop := fun r1 l w =>
 unc l fun t0 l =>
 unc l fun t2 l =>
 nckW t0 fun t7 =>
 fld 2 t7 fun t8 =>
 ldC t8 w fun t9 _ =>
 lenSl t9 fun t10 =>
 intW .lss t2 t10 fun t11 =>
 brV t11
 (nckW t0 fun t16 =>
 fld 2 t16 fun t17 =>
 ldC t17 w fun t18 _ =>
 ixS 1 t18 t2 fun t20 =>
 ldC t20 w fun t21 _ =>
 lenSl t21 fun t22 =>
 callW Try.prog (.func (.func 75) #[] #[]) [t2, (.int .i64 0), t22] w fun t23 w =>
 lp (honeycombbook_Book_putTexts_L5 R r1) [t0, t2, t23, (.int .i64 0)] w)
 (R (.tuple #[]) w)
/-- `(*honeycomb/honeycombbook.Book).putTexts` -/
def honeycombbook_Book_putTexts (a0 : Value) (R : Value → World → Prop) (w : World) : Prop :=
 lp (honeycombbook_Book_putTexts_L1 R) [a0, (.int .i64 0)] w
theorem honeycombbook_Book_putTexts_den (a0 : Value) (R : Value → World → Prop) (w : World) : denF Try.prog Try.f36 (Try.f36.body.getD .skip) [] [(1, [0, 2]), (5, [0, 2, 3, 4])] [a0] R w = honeycombbook_Book_putTexts a0 R w := by kernel_rfl
set_option maxRecDepth 100000 in
theorem honeycombbook_Book_putTexts_run {a0 : Value} {R : Value → World → Prop} {w : World} (h : honeycombbook_Book_putTexts a0 R w) : Calls Try.prog 36 #[a0] w (rt R) :=
  run_sound (c := Try.f36.body.getD .skip) (la := []) (lb := [(1, [0, 2]), (5, [0, 2, 3, 4])]) (args := [a0]) mixed Try.func36 (by kernel_rfl) (by kernel_rfl) (Nat.le_of_ble_eq_true (by kernel_rfl)) (Eq.mpr (honeycombbook_Book_putTexts_den a0 R w) h)
theorem honeycombbook_Book_putTexts_body : hasBody Try.prog 36 = true := by kernel_rfl
theorem honeycombbook_Book_putTexts_call {a0 : Value} {R : Value → World → Prop} {w : World} (h : Calls Try.prog 36 #[a0] w (rt R)) : callW Try.prog (.func (.func 36) #[] #[]) [a0] w R :=
  ⟨honeycombbook_Book_putTexts_body, h⟩
def honeycombbook_Book_putCells_L5 (R : Value → World → Prop) (r1 : List Value → World → Prop) : (List Value → World → Prop) → List Value → World → Prop := fun r5 l w =>
 unc l fun t0 l =>
 unc l fun t2 l =>
 unc l fun t3 l =>
 unc l fun t4 l =>
 lenSl t3 fun t26 =>
 intW .lss t4 t26 fun t27 =>
 brV t27
 (nckW t0 fun t31 =>
 fld 4 t31 fun t32 =>
 ixS 4 t3 t4 fun t40 =>
 ldC t32 w.drew fun t33 c3 =>
 ixS 1 t33 t2 fun t35 =>
 ldC t35 w.drew fun t36 c6 =>
 ldN 4 t40 w.drew fun t41 c11 =>
 ixS 4 t36 t4 fun t42 =>
 stN 4 t42 t41 w.drew fun w =>
 intW .add t4 (.int .i64 1) fun t29 =>
 r5 [t0, t2, t3, t29] w)
 (intW .add t2 (.int .i64 1) fun t13 =>
 r1 [t0, t13] w)
def honeycombbook_Book_putCells_L1 (R : Value → World → Prop) : (List Value → World → Prop) → List Value → World → Prop := fun r1 l w =>
 unc l fun t0 l =>
 unc l fun t2 l =>
 nckW t0 fun t7 =>
 fld 4 t7 fun t8 =>
 ldC t8 w fun t9 _ =>
 lenSl t9 fun t10 =>
 intW .lss t2 t10 fun t11 =>
 brV t11
 (nckW t0 fun t16 =>
 fld 4 t16 fun t17 =>
 ldC t17 w fun t18 _ =>
 ixS 1 t18 t2 fun t20 =>
 ldC t20 w fun t21 _ =>
 lenSl t21 fun t22 =>
 callW Try.prog (.func (.func 76) #[] #[]) [t2, (.int .i64 0), t22] w fun t23 w =>
 lp (honeycombbook_Book_putCells_L5 R r1) [t0, t2, t23, (.int .i64 0)] w)
 (R (.tuple #[]) w)
/-- `(*honeycomb/honeycombbook.Book).putCells` -/
def honeycombbook_Book_putCells (a0 : Value) (R : Value → World → Prop) (w : World) : Prop :=
 lp (honeycombbook_Book_putCells_L1 R) [a0, (.int .i64 0)] w
theorem honeycombbook_Book_putCells_den (a0 : Value) (R : Value → World → Prop) (w : World) : denF Try.prog Try.f37 (Try.f37.body.getD .skip) [] [(1, [0, 2]), (5, [0, 2, 3, 4])] [a0] R w = honeycombbook_Book_putCells a0 R w := by kernel_rfl
set_option maxRecDepth 100000 in
theorem honeycombbook_Book_putCells_run {a0 : Value} {R : Value → World → Prop} {w : World} (h : honeycombbook_Book_putCells a0 R w) : Calls Try.prog 37 #[a0] w (rt R) :=
  run_sound (c := Try.f37.body.getD .skip) (la := []) (lb := [(1, [0, 2]), (5, [0, 2, 3, 4])]) (args := [a0]) mixed Try.func37 (by kernel_rfl) (by kernel_rfl) (Nat.le_of_ble_eq_true (by kernel_rfl)) (Eq.mpr (honeycombbook_Book_putCells_den a0 R w) h)
theorem honeycombbook_Book_putCells_body : hasBody Try.prog 37 = true := by kernel_rfl
theorem honeycombbook_Book_putCells_call {a0 : Value} {R : Value → World → Prop} {w : World} (h : Calls Try.prog 37 #[a0] w (rt R)) : callW Try.prog (.func (.func 37) #[] #[]) [a0] w R :=
  ⟨honeycombbook_Book_putCells_body, h⟩
def honeycombbook_Book_putPages_L5 (R : Value → World → Prop) (r1 : List Value → World → Prop) : (List Value → World → Prop) → List Value → World → Prop := fun r5 l w =>
 unc l fun t0 l =>
 unc l fun t2 l =>
 unc l fun t3 l =>
 unc l fun t4 l =>
 lenSl t3 fun t26 =>
 intW .lss t4 t26 fun t27 =>
 brV t27
 (nckW t0 fun t31 =>
 fld 6 t31 fun t32 =>
 ixS 4 t3 t4 fun t40 =>
 ldC t32 w.drew fun t33 c3 =>
 ixS 1 t33 t2 fun t35 =>
 ldC t35 w.drew fun t36 c6 =>
 ldN 4 t40 w.drew fun t41 c11 =>
 ixS 4 t36 t4 fun t42 =>
 stN 4 t42 t41 w.drew fun w =>
 intW .add t4 (.int .i64 1) fun t29 =>
 r5 [t0, t2, t3, t29] w)
 (intW .add t2 (.int .i64 1) fun t13 =>
 r1 [t0, t13] w)
def honeycombbook_Book_putPages_L1 (R : Value → World → Prop) : (List Value → World → Prop) → List Value → World → Prop := fun r1 l w =>
 unc l fun t0 l =>
 unc l fun t2 l =>
 nckW t0 fun t7 =>
 fld 6 t7 fun t8 =>
 ldC t8 w fun t9 _ =>
 lenSl t9 fun t10 =>
 intW .lss t2 t10 fun t11 =>
 brV t11
 (nckW t0 fun t16 =>
 fld 6 t16 fun t17 =>
 ldC t17 w fun t18 _ =>
 ixS 1 t18 t2 fun t20 =>
 ldC t20 w fun t21 _ =>
 lenSl t21 fun t22 =>
 callW Try.prog (.func (.func 77) #[] #[]) [t2, (.int .i64 0), t22] w fun t23 w =>
 lp (honeycombbook_Book_putPages_L5 R r1) [t0, t2, t23, (.int .i64 0)] w)
 (R (.tuple #[]) w)
/-- `(*honeycomb/honeycombbook.Book).putPages` -/
def honeycombbook_Book_putPages (a0 : Value) (R : Value → World → Prop) (w : World) : Prop :=
 lp (honeycombbook_Book_putPages_L1 R) [a0, (.int .i64 0)] w
theorem honeycombbook_Book_putPages_den (a0 : Value) (R : Value → World → Prop) (w : World) : denF Try.prog Try.f38 (Try.f38.body.getD .skip) [] [(1, [0, 2]), (5, [0, 2, 3, 4])] [a0] R w = honeycombbook_Book_putPages a0 R w := by kernel_rfl
set_option maxRecDepth 100000 in
theorem honeycombbook_Book_putPages_run {a0 : Value} {R : Value → World → Prop} {w : World} (h : honeycombbook_Book_putPages a0 R w) : Calls Try.prog 38 #[a0] w (rt R) :=
  run_sound (c := Try.f38.body.getD .skip) (la := []) (lb := [(1, [0, 2]), (5, [0, 2, 3, 4])]) (args := [a0]) mixed Try.func38 (by kernel_rfl) (by kernel_rfl) (Nat.le_of_ble_eq_true (by kernel_rfl)) (Eq.mpr (honeycombbook_Book_putPages_den a0 R w) h)
theorem honeycombbook_Book_putPages_body : hasBody Try.prog 38 = true := by kernel_rfl
theorem honeycombbook_Book_putPages_call {a0 : Value} {R : Value → World → Prop} {w : World} (h : Calls Try.prog 38 #[a0] w (rt R)) : callW Try.prog (.func (.func 38) #[] #[]) [a0] w R :=
  ⟨honeycombbook_Book_putPages_body, h⟩
def honeycombbook_Book_putPatches_L5 (R : Value → World → Prop) (r1 : List Value → World → Prop) : (List Value → World → Prop) → List Value → World → Prop := fun r5 l w =>
 unc l fun t0 l =>
 unc l fun t2 l =>
 unc l fun t3 l =>
 unc l fun t4 l =>
 lenSl t3 fun t26 =>
 intW .lss t4 t26 fun t27 =>
 brV t27
 (nckW t0 fun t31 =>
 fld 8 t31 fun t32 =>
 ixS 3 t3 t4 fun t40 =>
 ldC t32 w.drew fun t33 c3 =>
 ixS 1 t33 t2 fun t35 =>
 ldC t35 w.drew fun t36 c6 =>
 ldN 3 t40 w.drew fun t41 c11 =>
 ixS 3 t36 t4 fun t42 =>
 stN 3 t42 t41 w.drew fun w =>
 intW .add t4 (.int .i64 1) fun t29 =>
 r5 [t0, t2, t3, t29] w)
 (intW .add t2 (.int .i64 1) fun t13 =>
 r1 [t0, t13] w)
def honeycombbook_Book_putPatches_L1 (R : Value → World → Prop) : (List Value → World → Prop) → List Value → World → Prop := fun r1 l w =>
 unc l fun t0 l =>
 unc l fun t2 l =>
 nckW t0 fun t7 =>
 fld 8 t7 fun t8 =>
 ldC t8 w fun t9 _ =>
 lenSl t9 fun t10 =>
 intW .lss t2 t10 fun t11 =>
 brV t11
 (nckW t0 fun t16 =>
 fld 8 t16 fun t17 =>
 ldC t17 w fun t18 _ =>
 ixS 1 t18 t2 fun t20 =>
 ldC t20 w fun t21 _ =>
 lenSl t21 fun t22 =>
 callW Try.prog (.func (.func 78) #[] #[]) [t2, (.int .i64 0), t22] w fun t23 w =>
 lp (honeycombbook_Book_putPatches_L5 R r1) [t0, t2, t23, (.int .i64 0)] w)
 (R (.tuple #[]) w)
/-- `(*honeycomb/honeycombbook.Book).putPatches` -/
def honeycombbook_Book_putPatches (a0 : Value) (R : Value → World → Prop) (w : World) : Prop :=
 lp (honeycombbook_Book_putPatches_L1 R) [a0, (.int .i64 0)] w
theorem honeycombbook_Book_putPatches_den (a0 : Value) (R : Value → World → Prop) (w : World) : denF Try.prog Try.f39 (Try.f39.body.getD .skip) [] [(1, [0, 2]), (5, [0, 2, 3, 4])] [a0] R w = honeycombbook_Book_putPatches a0 R w := by kernel_rfl
set_option maxRecDepth 100000 in
theorem honeycombbook_Book_putPatches_run {a0 : Value} {R : Value → World → Prop} {w : World} (h : honeycombbook_Book_putPatches a0 R w) : Calls Try.prog 39 #[a0] w (rt R) :=
  run_sound (c := Try.f39.body.getD .skip) (la := []) (lb := [(1, [0, 2]), (5, [0, 2, 3, 4])]) (args := [a0]) mixed Try.func39 (by kernel_rfl) (by kernel_rfl) (Nat.le_of_ble_eq_true (by kernel_rfl)) (Eq.mpr (honeycombbook_Book_putPatches_den a0 R w) h)
theorem honeycombbook_Book_putPatches_body : hasBody Try.prog 39 = true := by kernel_rfl
theorem honeycombbook_Book_putPatches_call {a0 : Value} {R : Value → World → Prop} {w : World} (h : Calls Try.prog 39 #[a0] w (rt R)) : callW Try.prog (.func (.func 39) #[] #[]) [a0] w R :=
  ⟨honeycombbook_Book_putPatches_body, h⟩
def honeycombbook_Book_putDirty_L5 (R : Value → World → Prop) (r1 : List Value → World → Prop) : (List Value → World → Prop) → List Value → World → Prop := fun r5 l w =>
 unc l fun t0 l =>
 unc l fun t2 l =>
 unc l fun t3 l =>
 unc l fun t4 l =>
 lenSl t3 fun t26 =>
 intW .lss t4 t26 fun t27 =>
 brV t27
 (nckW t0 fun t31 =>
 fld 10 t31 fun t32 =>
 ixS 2 t3 t4 fun t40 =>
 ldC t32 w.drew fun t33 c3 =>
 ixS 1 t33 t2 fun t35 =>
 ldC t35 w.drew fun t36 c6 =>
 ldN 2 t40 w.drew fun t41 c11 =>
 ixS 2 t36 t4 fun t42 =>
 stN 2 t42 t41 w.drew fun w =>
 intW .add t4 (.int .i64 1) fun t29 =>
 r5 [t0, t2, t3, t29] w)
 (intW .add t2 (.int .i64 1) fun t13 =>
 r1 [t0, t13] w)
def honeycombbook_Book_putDirty_L1 (R : Value → World → Prop) : (List Value → World → Prop) → List Value → World → Prop := fun r1 l w =>
 unc l fun t0 l =>
 unc l fun t2 l =>
 nckW t0 fun t7 =>
 fld 10 t7 fun t8 =>
 ldC t8 w fun t9 _ =>
 lenSl t9 fun t10 =>
 intW .lss t2 t10 fun t11 =>
 brV t11
 (nckW t0 fun t16 =>
 fld 10 t16 fun t17 =>
 ldC t17 w fun t18 _ =>
 ixS 1 t18 t2 fun t20 =>
 ldC t20 w fun t21 _ =>
 lenSl t21 fun t22 =>
 callW Try.prog (.func (.func 79) #[] #[]) [t2, (.int .i64 0), t22] w fun t23 w =>
 lp (honeycombbook_Book_putDirty_L5 R r1) [t0, t2, t23, (.int .i64 0)] w)
 (R (.tuple #[]) w)
/-- `(*honeycomb/honeycombbook.Book).putDirty` -/
def honeycombbook_Book_putDirty (a0 : Value) (R : Value → World → Prop) (w : World) : Prop :=
 lp (honeycombbook_Book_putDirty_L1 R) [a0, (.int .i64 0)] w
theorem honeycombbook_Book_putDirty_den (a0 : Value) (R : Value → World → Prop) (w : World) : denF Try.prog Try.f40 (Try.f40.body.getD .skip) [] [(1, [0, 2]), (5, [0, 2, 3, 4])] [a0] R w = honeycombbook_Book_putDirty a0 R w := by kernel_rfl
set_option maxRecDepth 100000 in
theorem honeycombbook_Book_putDirty_run {a0 : Value} {R : Value → World → Prop} {w : World} (h : honeycombbook_Book_putDirty a0 R w) : Calls Try.prog 40 #[a0] w (rt R) :=
  run_sound (c := Try.f40.body.getD .skip) (la := []) (lb := [(1, [0, 2]), (5, [0, 2, 3, 4])]) (args := [a0]) mixed Try.func40 (by kernel_rfl) (by kernel_rfl) (Nat.le_of_ble_eq_true (by kernel_rfl)) (Eq.mpr (honeycombbook_Book_putDirty_den a0 R w) h)
theorem honeycombbook_Book_putDirty_body : hasBody Try.prog 40 = true := by kernel_rfl
theorem honeycombbook_Book_putDirty_call {a0 : Value} {R : Value → World → Prop} {w : World} (h : Calls Try.prog 40 #[a0] w (rt R)) : callW Try.prog (.func (.func 40) #[] #[]) [a0] w R :=
  ⟨honeycombbook_Book_putDirty_body, h⟩
def honeycombbook_Book_putEntries_L5 (R : Value → World → Prop) (r1 : List Value → World → Prop) : (List Value → World → Prop) → List Value → World → Prop := fun r5 l w =>
 unc l fun t0 l =>
 unc l fun t2 l =>
 unc l fun t3 l =>
 unc l fun t4 l =>
 lenSl t3 fun t26 =>
 intW .lss t4 t26 fun t27 =>
 brV t27
 (nckW t0 fun t31 =>
 fld 12 t31 fun t32 =>
 ixS 2 t3 t4 fun t40 =>
 ldC t32 w.drew fun t33 c3 =>
 ixS 1 t33 t2 fun t35 =>
 ldC t35 w.drew fun t36 c6 =>
 ldN 2 t40 w.drew fun t41 c11 =>
 ixS 2 t36 t4 fun t42 =>
 stN 2 t42 t41 w.drew fun w =>
 intW .add t4 (.int .i64 1) fun t29 =>
 r5 [t0, t2, t3, t29] w)
 (intW .add t2 (.int .i64 1) fun t13 =>
 r1 [t0, t13] w)
def honeycombbook_Book_putEntries_L1 (R : Value → World → Prop) : (List Value → World → Prop) → List Value → World → Prop := fun r1 l w =>
 unc l fun t0 l =>
 unc l fun t2 l =>
 nckW t0 fun t7 =>
 fld 12 t7 fun t8 =>
 ldC t8 w fun t9 _ =>
 lenSl t9 fun t10 =>
 intW .lss t2 t10 fun t11 =>
 brV t11
 (nckW t0 fun t16 =>
 fld 12 t16 fun t17 =>
 ldC t17 w fun t18 _ =>
 ixS 1 t18 t2 fun t20 =>
 ldC t20 w fun t21 _ =>
 lenSl t21 fun t22 =>
 callW Try.prog (.func (.func 80) #[] #[]) [t2, (.int .i64 0), t22] w fun t23 w =>
 lp (honeycombbook_Book_putEntries_L5 R r1) [t0, t2, t23, (.int .i64 0)] w)
 (R (.tuple #[]) w)
/-- `(*honeycomb/honeycombbook.Book).putEntries` -/
def honeycombbook_Book_putEntries (a0 : Value) (R : Value → World → Prop) (w : World) : Prop :=
 lp (honeycombbook_Book_putEntries_L1 R) [a0, (.int .i64 0)] w
theorem honeycombbook_Book_putEntries_den (a0 : Value) (R : Value → World → Prop) (w : World) : denF Try.prog Try.f41 (Try.f41.body.getD .skip) [] [(1, [0, 2]), (5, [0, 2, 3, 4])] [a0] R w = honeycombbook_Book_putEntries a0 R w := by kernel_rfl
set_option maxRecDepth 100000 in
theorem honeycombbook_Book_putEntries_run {a0 : Value} {R : Value → World → Prop} {w : World} (h : honeycombbook_Book_putEntries a0 R w) : Calls Try.prog 41 #[a0] w (rt R) :=
  run_sound (c := Try.f41.body.getD .skip) (la := []) (lb := [(1, [0, 2]), (5, [0, 2, 3, 4])]) (args := [a0]) mixed Try.func41 (by kernel_rfl) (by kernel_rfl) (Nat.le_of_ble_eq_true (by kernel_rfl)) (Eq.mpr (honeycombbook_Book_putEntries_den a0 R w) h)
theorem honeycombbook_Book_putEntries_body : hasBody Try.prog 41 = true := by kernel_rfl
theorem honeycombbook_Book_putEntries_call {a0 : Value} {R : Value → World → Prop} {w : World} (h : Calls Try.prog 41 #[a0] w (rt R)) : callW Try.prog (.func (.func 41) #[] #[]) [a0] w R :=
  ⟨honeycombbook_Book_putEntries_body, h⟩
def honeycombbook_Book_putPairs_L5 (R : Value → World → Prop) (r1 : List Value → World → Prop) : (List Value → World → Prop) → List Value → World → Prop := fun r5 l w =>
 unc l fun t0 l =>
 unc l fun t2 l =>
 unc l fun t3 l =>
 unc l fun t4 l =>
 lenSl t3 fun t26 =>
 intW .lss t4 t26 fun t27 =>
 brV t27
 (nckW t0 fun t31 =>
 fld 14 t31 fun t32 =>
 ixS 2 t3 t4 fun t40 =>
 ldC t32 w.drew fun t33 c3 =>
 ixS 1 t33 t2 fun t35 =>
 ldC t35 w.drew fun t36 c6 =>
 ldN 2 t40 w.drew fun t41 c11 =>
 ixS 2 t36 t4 fun t42 =>
 stN 2 t42 t41 w.drew fun w =>
 intW .add t4 (.int .i64 1) fun t29 =>
 r5 [t0, t2, t3, t29] w)
 (intW .add t2 (.int .i64 1) fun t13 =>
 r1 [t0, t13] w)
def honeycombbook_Book_putPairs_L1 (R : Value → World → Prop) : (List Value → World → Prop) → List Value → World → Prop := fun r1 l w =>
 unc l fun t0 l =>
 unc l fun t2 l =>
 nckW t0 fun t7 =>
 fld 14 t7 fun t8 =>
 ldC t8 w fun t9 _ =>
 lenSl t9 fun t10 =>
 intW .lss t2 t10 fun t11 =>
 brV t11
 (nckW t0 fun t16 =>
 fld 14 t16 fun t17 =>
 ldC t17 w fun t18 _ =>
 ixS 1 t18 t2 fun t20 =>
 ldC t20 w fun t21 _ =>
 lenSl t21 fun t22 =>
 callW Try.prog (.func (.func 81) #[] #[]) [t2, (.int .i64 0), t22] w fun t23 w =>
 lp (honeycombbook_Book_putPairs_L5 R r1) [t0, t2, t23, (.int .i64 0)] w)
 (R (.tuple #[]) w)
/-- `(*honeycomb/honeycombbook.Book).putPairs` -/
def honeycombbook_Book_putPairs (a0 : Value) (R : Value → World → Prop) (w : World) : Prop :=
 lp (honeycombbook_Book_putPairs_L1 R) [a0, (.int .i64 0)] w
theorem honeycombbook_Book_putPairs_den (a0 : Value) (R : Value → World → Prop) (w : World) : denF Try.prog Try.f42 (Try.f42.body.getD .skip) [] [(1, [0, 2]), (5, [0, 2, 3, 4])] [a0] R w = honeycombbook_Book_putPairs a0 R w := by kernel_rfl
set_option maxRecDepth 100000 in
theorem honeycombbook_Book_putPairs_run {a0 : Value} {R : Value → World → Prop} {w : World} (h : honeycombbook_Book_putPairs a0 R w) : Calls Try.prog 42 #[a0] w (rt R) :=
  run_sound (c := Try.f42.body.getD .skip) (la := []) (lb := [(1, [0, 2]), (5, [0, 2, 3, 4])]) (args := [a0]) mixed Try.func42 (by kernel_rfl) (by kernel_rfl) (Nat.le_of_ble_eq_true (by kernel_rfl)) (Eq.mpr (honeycombbook_Book_putPairs_den a0 R w) h)
theorem honeycombbook_Book_putPairs_body : hasBody Try.prog 42 = true := by kernel_rfl
theorem honeycombbook_Book_putPairs_call {a0 : Value} {R : Value → World → Prop} {w : World} (h : Calls Try.prog 42 #[a0] w (rt R)) : callW Try.prog (.func (.func 42) #[] #[]) [a0] w R :=
  ⟨honeycombbook_Book_putPairs_body, h⟩
def honeycombbook_Book_growInts_L7 (R : Value → World → Prop) (r3 : List Value → World → Prop) : (List Value → World → Prop) → List Value → World → Prop := fun r7 l w =>
 unc l fun t0 l =>
 unc l fun t3 l =>
 unc l fun t4 l =>
 unc l fun t5 l =>
 unc l fun t6 l =>
 intW .lss t6 (.int .i64 12) fun t24 =>
 brV t24
 (lenSl t5 fun t30 =>
 callW Try.prog (.func (.func 74) #[] #[]) [t4, t30, (.int .i64 1)] w fun t31 w =>
 sm Try.prog (bi .append #[25, 25] 25 [t5, t31]) w fun t32 w =>
 intW .add t6 (.int .i64 1) fun t26 =>
 r7 [t0, t3, t4, t32, t26] w)
 (lenSl t5 fun t37 =>
 callW Try.prog (.func (.func 74) #[] #[]) [t4, t37, (.int .i64 60)] w fun t38 w =>
 sm Try.prog (bi .append #[25, 25] 25 [t5, t38]) w fun t39 w =>
 blS 25 1 #[(.slice none 0 0)] 1 [(0, t39)] w fun t40 w =>
 sm Try.prog (bi .append #[28, 28] 28 [t3, t40]) w fun t41 w =>
 intW .add t4 (.int .i64 1) fun t15 =>
 r3 [t0, t41, t15] w)
def honeycombbook_Book_growInts_L3 (R : Value → World → Prop) : (List Value → World → Prop) → List Value → World → Prop := fun r3 l w =>
 unc l fun t0 l =>
 unc l fun t3 l =>
 unc l fun t4 l =>
 nckW t0 fun t9 =>
 fld 0 t9 fun t10 =>
 ldC t10 w fun t11 _ =>
 lenSl t11 fun t12 =>
 intW .lss t4 t12 fun t13 =>
 brV t13
 (nckW t0 fun t17 =>
 fld 0 t17 fun t18 =>
 ldC t18 w fun t19 _ =>
 ixS 1 t19 t4 fun t21 =>
 ldC t21 w fun t22 _ =>
 lp (honeycombbook_Book_growInts_L7 R r3) [t0, t3, t4, t22, (.int .i64 0)] w)
 (R t3 w)
/-- `(*honeycomb/honeycombbook.Book).growInts` -/
def honeycombbook_Book_growInts (a0 : Value) (R : Value → World → Prop) (w : World) : Prop :=
 lp (honeycombbook_Book_growInts_L3 R) [a0, (.slice none 0 0), (.int .i64 0)] w
theorem honeycombbook_Book_growInts_den (a0 : Value) (R : Value → World → Prop) (w : World) : denF Try.prog Try.f43 (Try.f43.body.getD .skip) [] [(3, [0, 3, 4]), (7, [0, 3, 4, 5, 6])] [a0] R w = honeycombbook_Book_growInts a0 R w := by kernel_rfl
set_option maxRecDepth 100000 in
theorem honeycombbook_Book_growInts_run {a0 : Value} {R : Value → World → Prop} {w : World} (h : honeycombbook_Book_growInts a0 R w) : Calls Try.prog 43 #[a0] w (rt R) :=
  run_sound (c := Try.f43.body.getD .skip) (la := []) (lb := [(3, [0, 3, 4]), (7, [0, 3, 4, 5, 6])]) (args := [a0]) mixed Try.func43 (by kernel_rfl) (by kernel_rfl) (Nat.le_of_ble_eq_true (by kernel_rfl)) (Eq.mpr (honeycombbook_Book_growInts_den a0 R w) h)
theorem honeycombbook_Book_growInts_body : hasBody Try.prog 43 = true := by kernel_rfl
theorem honeycombbook_Book_growInts_call {a0 : Value} {R : Value → World → Prop} {w : World} (h : Calls Try.prog 43 #[a0] w (rt R)) : callW Try.prog (.func (.func 43) #[] #[]) [a0] w R :=
  ⟨honeycombbook_Book_growInts_body, h⟩
def honeycombbook_Book_growTexts_L7 (R : Value → World → Prop) (r3 : List Value → World → Prop) : (List Value → World → Prop) → List Value → World → Prop := fun r7 l w =>
 unc l fun t0 l =>
 unc l fun t3 l =>
 unc l fun t4 l =>
 unc l fun t5 l =>
 unc l fun t6 l =>
 intW .lss t6 (.int .i64 12) fun t24 =>
 brV t24
 (lenSl t5 fun t30 =>
 callW Try.prog (.func (.func 75) #[] #[]) [t4, t30, (.int .i64 1)] w fun t31 w =>
 sm Try.prog (bi .append #[81, 81] 81 [t5, t31]) w fun t32 w =>
 intW .add t6 (.int .i64 1) fun t26 =>
 r7 [t0, t3, t4, t32, t26] w)
 (lenSl t5 fun t37 =>
 callW Try.prog (.func (.func 75) #[] #[]) [t4, t37, (.int .i64 60)] w fun t38 w =>
 sm Try.prog (bi .append #[81, 81] 81 [t5, t38]) w fun t39 w =>
 blS 81 1 #[(.slice none 0 0)] 1 [(0, t39)] w fun t40 w =>
 sm Try.prog (bi .append #[29, 29] 29 [t3, t40]) w fun t41 w =>
 intW .add t4 (.int .i64 1) fun t15 =>
 r3 [t0, t41, t15] w)
def honeycombbook_Book_growTexts_L3 (R : Value → World → Prop) : (List Value → World → Prop) → List Value → World → Prop := fun r3 l w =>
 unc l fun t0 l =>
 unc l fun t3 l =>
 unc l fun t4 l =>
 nckW t0 fun t9 =>
 fld 2 t9 fun t10 =>
 ldC t10 w fun t11 _ =>
 lenSl t11 fun t12 =>
 intW .lss t4 t12 fun t13 =>
 brV t13
 (nckW t0 fun t17 =>
 fld 2 t17 fun t18 =>
 ldC t18 w fun t19 _ =>
 ixS 1 t19 t4 fun t21 =>
 ldC t21 w fun t22 _ =>
 lp (honeycombbook_Book_growTexts_L7 R r3) [t0, t3, t4, t22, (.int .i64 0)] w)
 (R t3 w)
/-- `(*honeycomb/honeycombbook.Book).growTexts` -/
def honeycombbook_Book_growTexts (a0 : Value) (R : Value → World → Prop) (w : World) : Prop :=
 lp (honeycombbook_Book_growTexts_L3 R) [a0, (.slice none 0 0), (.int .i64 0)] w
theorem honeycombbook_Book_growTexts_den (a0 : Value) (R : Value → World → Prop) (w : World) : denF Try.prog Try.f44 (Try.f44.body.getD .skip) [] [(3, [0, 3, 4]), (7, [0, 3, 4, 5, 6])] [a0] R w = honeycombbook_Book_growTexts a0 R w := by kernel_rfl
set_option maxRecDepth 100000 in
theorem honeycombbook_Book_growTexts_run {a0 : Value} {R : Value → World → Prop} {w : World} (h : honeycombbook_Book_growTexts a0 R w) : Calls Try.prog 44 #[a0] w (rt R) :=
  run_sound (c := Try.f44.body.getD .skip) (la := []) (lb := [(3, [0, 3, 4]), (7, [0, 3, 4, 5, 6])]) (args := [a0]) mixed Try.func44 (by kernel_rfl) (by kernel_rfl) (Nat.le_of_ble_eq_true (by kernel_rfl)) (Eq.mpr (honeycombbook_Book_growTexts_den a0 R w) h)
theorem honeycombbook_Book_growTexts_body : hasBody Try.prog 44 = true := by kernel_rfl
theorem honeycombbook_Book_growTexts_call {a0 : Value} {R : Value → World → Prop} {w : World} (h : Calls Try.prog 44 #[a0] w (rt R)) : callW Try.prog (.func (.func 44) #[] #[]) [a0] w R :=
  ⟨honeycombbook_Book_growTexts_body, h⟩
def honeycombbook_Book_growCells_L7 (R : Value → World → Prop) (r3 : List Value → World → Prop) : (List Value → World → Prop) → List Value → World → Prop := fun r7 l w =>
 unc l fun t0 l =>
 unc l fun t3 l =>
 unc l fun t4 l =>
 unc l fun t5 l =>
 unc l fun t6 l =>
 intW .lss t6 (.int .i64 12) fun t24 =>
 brV t24
 (lenSl t5 fun t30 =>
 callW Try.prog (.func (.func 76) #[] #[]) [t4, t30, (.int .i64 1)] w fun t31 w =>
 sm Try.prog (bi .append #[83, 83] 83 [t5, t31]) w fun t32 w =>
 intW .add t6 (.int .i64 1) fun t26 =>
 r7 [t0, t3, t4, t32, t26] w)
 (lenSl t5 fun t37 =>
 callW Try.prog (.func (.func 76) #[] #[]) [t4, t37, (.int .i64 60)] w fun t38 w =>
 sm Try.prog (bi .append #[83, 83] 83 [t5, t38]) w fun t39 w =>
 blS 83 1 #[(.slice none 0 0)] 1 [(0, t39)] w fun t40 w =>
 sm Try.prog (bi .append #[30, 30] 30 [t3, t40]) w fun t41 w =>
 intW .add t4 (.int .i64 1) fun t15 =>
 r3 [t0, t41, t15] w)
def honeycombbook_Book_growCells_L3 (R : Value → World → Prop) : (List Value → World → Prop) → List Value → World → Prop := fun r3 l w =>
 unc l fun t0 l =>
 unc l fun t3 l =>
 unc l fun t4 l =>
 nckW t0 fun t9 =>
 fld 4 t9 fun t10 =>
 ldC t10 w fun t11 _ =>
 lenSl t11 fun t12 =>
 intW .lss t4 t12 fun t13 =>
 brV t13
 (nckW t0 fun t17 =>
 fld 4 t17 fun t18 =>
 ldC t18 w fun t19 _ =>
 ixS 1 t19 t4 fun t21 =>
 ldC t21 w fun t22 _ =>
 lp (honeycombbook_Book_growCells_L7 R r3) [t0, t3, t4, t22, (.int .i64 0)] w)
 (R t3 w)
/-- `(*honeycomb/honeycombbook.Book).growCells` -/
def honeycombbook_Book_growCells (a0 : Value) (R : Value → World → Prop) (w : World) : Prop :=
 lp (honeycombbook_Book_growCells_L3 R) [a0, (.slice none 0 0), (.int .i64 0)] w
theorem honeycombbook_Book_growCells_den (a0 : Value) (R : Value → World → Prop) (w : World) : denF Try.prog Try.f45 (Try.f45.body.getD .skip) [] [(3, [0, 3, 4]), (7, [0, 3, 4, 5, 6])] [a0] R w = honeycombbook_Book_growCells a0 R w := by kernel_rfl
set_option maxRecDepth 100000 in
theorem honeycombbook_Book_growCells_run {a0 : Value} {R : Value → World → Prop} {w : World} (h : honeycombbook_Book_growCells a0 R w) : Calls Try.prog 45 #[a0] w (rt R) :=
  run_sound (c := Try.f45.body.getD .skip) (la := []) (lb := [(3, [0, 3, 4]), (7, [0, 3, 4, 5, 6])]) (args := [a0]) mixed Try.func45 (by kernel_rfl) (by kernel_rfl) (Nat.le_of_ble_eq_true (by kernel_rfl)) (Eq.mpr (honeycombbook_Book_growCells_den a0 R w) h)
theorem honeycombbook_Book_growCells_body : hasBody Try.prog 45 = true := by kernel_rfl
theorem honeycombbook_Book_growCells_call {a0 : Value} {R : Value → World → Prop} {w : World} (h : Calls Try.prog 45 #[a0] w (rt R)) : callW Try.prog (.func (.func 45) #[] #[]) [a0] w R :=
  ⟨honeycombbook_Book_growCells_body, h⟩
def honeycombbook_Book_growPages_L7 (R : Value → World → Prop) (r3 : List Value → World → Prop) : (List Value → World → Prop) → List Value → World → Prop := fun r7 l w =>
 unc l fun t0 l =>
 unc l fun t3 l =>
 unc l fun t4 l =>
 unc l fun t5 l =>
 unc l fun t6 l =>
 intW .lss t6 (.int .i64 12) fun t24 =>
 brV t24
 (lenSl t5 fun t30 =>
 callW Try.prog (.func (.func 77) #[] #[]) [t4, t30, (.int .i64 1)] w fun t31 w =>
 sm Try.prog (bi .append #[85, 85] 85 [t5, t31]) w fun t32 w =>
 intW .add t6 (.int .i64 1) fun t26 =>
 r7 [t0, t3, t4, t32, t26] w)
 (lenSl t5 fun t37 =>
 callW Try.prog (.func (.func 77) #[] #[]) [t4, t37, (.int .i64 60)] w fun t38 w =>
 sm Try.prog (bi .append #[85, 85] 85 [t5, t38]) w fun t39 w =>
 blS 85 1 #[(.slice none 0 0)] 1 [(0, t39)] w fun t40 w =>
 sm Try.prog (bi .append #[31, 31] 31 [t3, t40]) w fun t41 w =>
 intW .add t4 (.int .i64 1) fun t15 =>
 r3 [t0, t41, t15] w)
def honeycombbook_Book_growPages_L3 (R : Value → World → Prop) : (List Value → World → Prop) → List Value → World → Prop := fun r3 l w =>
 unc l fun t0 l =>
 unc l fun t3 l =>
 unc l fun t4 l =>
 nckW t0 fun t9 =>
 fld 6 t9 fun t10 =>
 ldC t10 w fun t11 _ =>
 lenSl t11 fun t12 =>
 intW .lss t4 t12 fun t13 =>
 brV t13
 (nckW t0 fun t17 =>
 fld 6 t17 fun t18 =>
 ldC t18 w fun t19 _ =>
 ixS 1 t19 t4 fun t21 =>
 ldC t21 w fun t22 _ =>
 lp (honeycombbook_Book_growPages_L7 R r3) [t0, t3, t4, t22, (.int .i64 0)] w)
 (R t3 w)
/-- `(*honeycomb/honeycombbook.Book).growPages` -/
def honeycombbook_Book_growPages (a0 : Value) (R : Value → World → Prop) (w : World) : Prop :=
 lp (honeycombbook_Book_growPages_L3 R) [a0, (.slice none 0 0), (.int .i64 0)] w
theorem honeycombbook_Book_growPages_den (a0 : Value) (R : Value → World → Prop) (w : World) : denF Try.prog Try.f46 (Try.f46.body.getD .skip) [] [(3, [0, 3, 4]), (7, [0, 3, 4, 5, 6])] [a0] R w = honeycombbook_Book_growPages a0 R w := by kernel_rfl
set_option maxRecDepth 100000 in
theorem honeycombbook_Book_growPages_run {a0 : Value} {R : Value → World → Prop} {w : World} (h : honeycombbook_Book_growPages a0 R w) : Calls Try.prog 46 #[a0] w (rt R) :=
  run_sound (c := Try.f46.body.getD .skip) (la := []) (lb := [(3, [0, 3, 4]), (7, [0, 3, 4, 5, 6])]) (args := [a0]) mixed Try.func46 (by kernel_rfl) (by kernel_rfl) (Nat.le_of_ble_eq_true (by kernel_rfl)) (Eq.mpr (honeycombbook_Book_growPages_den a0 R w) h)
theorem honeycombbook_Book_growPages_body : hasBody Try.prog 46 = true := by kernel_rfl
theorem honeycombbook_Book_growPages_call {a0 : Value} {R : Value → World → Prop} {w : World} (h : Calls Try.prog 46 #[a0] w (rt R)) : callW Try.prog (.func (.func 46) #[] #[]) [a0] w R :=
  ⟨honeycombbook_Book_growPages_body, h⟩
def honeycombbook_Book_growPatches_L7 (R : Value → World → Prop) (r3 : List Value → World → Prop) : (List Value → World → Prop) → List Value → World → Prop := fun r7 l w =>
 unc l fun t0 l =>
 unc l fun t3 l =>
 unc l fun t4 l =>
 unc l fun t5 l =>
 unc l fun t6 l =>
 intW .lss t6 (.int .i64 12) fun t24 =>
 brV t24
 (lenSl t5 fun t30 =>
 callW Try.prog (.func (.func 78) #[] #[]) [t4, t30, (.int .i64 1)] w fun t31 w =>
 sm Try.prog (bi .append #[87, 87] 87 [t5, t31]) w fun t32 w =>
 intW .add t6 (.int .i64 1) fun t26 =>
 r7 [t0, t3, t4, t32, t26] w)
 (lenSl t5 fun t37 =>
 callW Try.prog (.func (.func 78) #[] #[]) [t4, t37, (.int .i64 60)] w fun t38 w =>
 sm Try.prog (bi .append #[87, 87] 87 [t5, t38]) w fun t39 w =>
 blS 87 1 #[(.slice none 0 0)] 1 [(0, t39)] w fun t40 w =>
 sm Try.prog (bi .append #[32, 32] 32 [t3, t40]) w fun t41 w =>
 intW .add t4 (.int .i64 1) fun t15 =>
 r3 [t0, t41, t15] w)
def honeycombbook_Book_growPatches_L3 (R : Value → World → Prop) : (List Value → World → Prop) → List Value → World → Prop := fun r3 l w =>
 unc l fun t0 l =>
 unc l fun t3 l =>
 unc l fun t4 l =>
 nckW t0 fun t9 =>
 fld 8 t9 fun t10 =>
 ldC t10 w fun t11 _ =>
 lenSl t11 fun t12 =>
 intW .lss t4 t12 fun t13 =>
 brV t13
 (nckW t0 fun t17 =>
 fld 8 t17 fun t18 =>
 ldC t18 w fun t19 _ =>
 ixS 1 t19 t4 fun t21 =>
 ldC t21 w fun t22 _ =>
 lp (honeycombbook_Book_growPatches_L7 R r3) [t0, t3, t4, t22, (.int .i64 0)] w)
 (R t3 w)
/-- `(*honeycomb/honeycombbook.Book).growPatches` -/
def honeycombbook_Book_growPatches (a0 : Value) (R : Value → World → Prop) (w : World) : Prop :=
 lp (honeycombbook_Book_growPatches_L3 R) [a0, (.slice none 0 0), (.int .i64 0)] w
theorem honeycombbook_Book_growPatches_den (a0 : Value) (R : Value → World → Prop) (w : World) : denF Try.prog Try.f47 (Try.f47.body.getD .skip) [] [(3, [0, 3, 4]), (7, [0, 3, 4, 5, 6])] [a0] R w = honeycombbook_Book_growPatches a0 R w := by kernel_rfl
set_option maxRecDepth 100000 in
theorem honeycombbook_Book_growPatches_run {a0 : Value} {R : Value → World → Prop} {w : World} (h : honeycombbook_Book_growPatches a0 R w) : Calls Try.prog 47 #[a0] w (rt R) :=
  run_sound (c := Try.f47.body.getD .skip) (la := []) (lb := [(3, [0, 3, 4]), (7, [0, 3, 4, 5, 6])]) (args := [a0]) mixed Try.func47 (by kernel_rfl) (by kernel_rfl) (Nat.le_of_ble_eq_true (by kernel_rfl)) (Eq.mpr (honeycombbook_Book_growPatches_den a0 R w) h)
theorem honeycombbook_Book_growPatches_body : hasBody Try.prog 47 = true := by kernel_rfl
theorem honeycombbook_Book_growPatches_call {a0 : Value} {R : Value → World → Prop} {w : World} (h : Calls Try.prog 47 #[a0] w (rt R)) : callW Try.prog (.func (.func 47) #[] #[]) [a0] w R :=
  ⟨honeycombbook_Book_growPatches_body, h⟩
def honeycombbook_Book_growDirty_L7 (R : Value → World → Prop) (r3 : List Value → World → Prop) : (List Value → World → Prop) → List Value → World → Prop := fun r7 l w =>
 unc l fun t0 l =>
 unc l fun t3 l =>
 unc l fun t4 l =>
 unc l fun t5 l =>
 unc l fun t6 l =>
 intW .lss t6 (.int .i64 12) fun t24 =>
 brV t24
 (lenSl t5 fun t30 =>
 callW Try.prog (.func (.func 79) #[] #[]) [t4, t30, (.int .i64 1)] w fun t31 w =>
 sm Try.prog (bi .append #[89, 89] 89 [t5, t31]) w fun t32 w =>
 intW .add t6 (.int .i64 1) fun t26 =>
 r7 [t0, t3, t4, t32, t26] w)
 (lenSl t5 fun t37 =>
 callW Try.prog (.func (.func 79) #[] #[]) [t4, t37, (.int .i64 60)] w fun t38 w =>
 sm Try.prog (bi .append #[89, 89] 89 [t5, t38]) w fun t39 w =>
 blS 89 1 #[(.slice none 0 0)] 1 [(0, t39)] w fun t40 w =>
 sm Try.prog (bi .append #[33, 33] 33 [t3, t40]) w fun t41 w =>
 intW .add t4 (.int .i64 1) fun t15 =>
 r3 [t0, t41, t15] w)
def honeycombbook_Book_growDirty_L3 (R : Value → World → Prop) : (List Value → World → Prop) → List Value → World → Prop := fun r3 l w =>
 unc l fun t0 l =>
 unc l fun t3 l =>
 unc l fun t4 l =>
 nckW t0 fun t9 =>
 fld 10 t9 fun t10 =>
 ldC t10 w fun t11 _ =>
 lenSl t11 fun t12 =>
 intW .lss t4 t12 fun t13 =>
 brV t13
 (nckW t0 fun t17 =>
 fld 10 t17 fun t18 =>
 ldC t18 w fun t19 _ =>
 ixS 1 t19 t4 fun t21 =>
 ldC t21 w fun t22 _ =>
 lp (honeycombbook_Book_growDirty_L7 R r3) [t0, t3, t4, t22, (.int .i64 0)] w)
 (R t3 w)
/-- `(*honeycomb/honeycombbook.Book).growDirty` -/
def honeycombbook_Book_growDirty (a0 : Value) (R : Value → World → Prop) (w : World) : Prop :=
 lp (honeycombbook_Book_growDirty_L3 R) [a0, (.slice none 0 0), (.int .i64 0)] w
theorem honeycombbook_Book_growDirty_den (a0 : Value) (R : Value → World → Prop) (w : World) : denF Try.prog Try.f48 (Try.f48.body.getD .skip) [] [(3, [0, 3, 4]), (7, [0, 3, 4, 5, 6])] [a0] R w = honeycombbook_Book_growDirty a0 R w := by kernel_rfl
set_option maxRecDepth 100000 in
theorem honeycombbook_Book_growDirty_run {a0 : Value} {R : Value → World → Prop} {w : World} (h : honeycombbook_Book_growDirty a0 R w) : Calls Try.prog 48 #[a0] w (rt R) :=
  run_sound (c := Try.f48.body.getD .skip) (la := []) (lb := [(3, [0, 3, 4]), (7, [0, 3, 4, 5, 6])]) (args := [a0]) mixed Try.func48 (by kernel_rfl) (by kernel_rfl) (Nat.le_of_ble_eq_true (by kernel_rfl)) (Eq.mpr (honeycombbook_Book_growDirty_den a0 R w) h)
theorem honeycombbook_Book_growDirty_body : hasBody Try.prog 48 = true := by kernel_rfl
theorem honeycombbook_Book_growDirty_call {a0 : Value} {R : Value → World → Prop} {w : World} (h : Calls Try.prog 48 #[a0] w (rt R)) : callW Try.prog (.func (.func 48) #[] #[]) [a0] w R :=
  ⟨honeycombbook_Book_growDirty_body, h⟩
def honeycombbook_Book_growEntries_L7 (R : Value → World → Prop) (r3 : List Value → World → Prop) : (List Value → World → Prop) → List Value → World → Prop := fun r7 l w =>
 unc l fun t0 l =>
 unc l fun t3 l =>
 unc l fun t4 l =>
 unc l fun t5 l =>
 unc l fun t6 l =>
 intW .lss t6 (.int .i64 12) fun t24 =>
 brV t24
 (lenSl t5 fun t30 =>
 callW Try.prog (.func (.func 80) #[] #[]) [t4, t30, (.int .i64 1)] w fun t31 w =>
 sm Try.prog (bi .append #[91, 91] 91 [t5, t31]) w fun t32 w =>
 intW .add t6 (.int .i64 1) fun t26 =>
 r7 [t0, t3, t4, t32, t26] w)
 (lenSl t5 fun t37 =>
 callW Try.prog (.func (.func 80) #[] #[]) [t4, t37, (.int .i64 60)] w fun t38 w =>
 sm Try.prog (bi .append #[91, 91] 91 [t5, t38]) w fun t39 w =>
 blS 91 1 #[(.slice none 0 0)] 1 [(0, t39)] w fun t40 w =>
 sm Try.prog (bi .append #[34, 34] 34 [t3, t40]) w fun t41 w =>
 intW .add t4 (.int .i64 1) fun t15 =>
 r3 [t0, t41, t15] w)
def honeycombbook_Book_growEntries_L3 (R : Value → World → Prop) : (List Value → World → Prop) → List Value → World → Prop := fun r3 l w =>
 unc l fun t0 l =>
 unc l fun t3 l =>
 unc l fun t4 l =>
 nckW t0 fun t9 =>
 fld 12 t9 fun t10 =>
 ldC t10 w fun t11 _ =>
 lenSl t11 fun t12 =>
 intW .lss t4 t12 fun t13 =>
 brV t13
 (nckW t0 fun t17 =>
 fld 12 t17 fun t18 =>
 ldC t18 w fun t19 _ =>
 ixS 1 t19 t4 fun t21 =>
 ldC t21 w fun t22 _ =>
 lp (honeycombbook_Book_growEntries_L7 R r3) [t0, t3, t4, t22, (.int .i64 0)] w)
 (R t3 w)
/-- `(*honeycomb/honeycombbook.Book).growEntries` -/
def honeycombbook_Book_growEntries (a0 : Value) (R : Value → World → Prop) (w : World) : Prop :=
 lp (honeycombbook_Book_growEntries_L3 R) [a0, (.slice none 0 0), (.int .i64 0)] w
theorem honeycombbook_Book_growEntries_den (a0 : Value) (R : Value → World → Prop) (w : World) : denF Try.prog Try.f49 (Try.f49.body.getD .skip) [] [(3, [0, 3, 4]), (7, [0, 3, 4, 5, 6])] [a0] R w = honeycombbook_Book_growEntries a0 R w := by kernel_rfl
set_option maxRecDepth 100000 in
theorem honeycombbook_Book_growEntries_run {a0 : Value} {R : Value → World → Prop} {w : World} (h : honeycombbook_Book_growEntries a0 R w) : Calls Try.prog 49 #[a0] w (rt R) :=
  run_sound (c := Try.f49.body.getD .skip) (la := []) (lb := [(3, [0, 3, 4]), (7, [0, 3, 4, 5, 6])]) (args := [a0]) mixed Try.func49 (by kernel_rfl) (by kernel_rfl) (Nat.le_of_ble_eq_true (by kernel_rfl)) (Eq.mpr (honeycombbook_Book_growEntries_den a0 R w) h)
theorem honeycombbook_Book_growEntries_body : hasBody Try.prog 49 = true := by kernel_rfl
theorem honeycombbook_Book_growEntries_call {a0 : Value} {R : Value → World → Prop} {w : World} (h : Calls Try.prog 49 #[a0] w (rt R)) : callW Try.prog (.func (.func 49) #[] #[]) [a0] w R :=
  ⟨honeycombbook_Book_growEntries_body, h⟩
def honeycombbook_Book_growPairs_L7 (R : Value → World → Prop) (r3 : List Value → World → Prop) : (List Value → World → Prop) → List Value → World → Prop := fun r7 l w =>
 unc l fun t0 l =>
 unc l fun t3 l =>
 unc l fun t4 l =>
 unc l fun t5 l =>
 unc l fun t6 l =>
 intW .lss t6 (.int .i64 12) fun t24 =>
 brV t24
 (lenSl t5 fun t30 =>
 callW Try.prog (.func (.func 81) #[] #[]) [t4, t30, (.int .i64 1)] w fun t31 w =>
 sm Try.prog (bi .append #[22, 22] 22 [t5, t31]) w fun t32 w =>
 intW .add t6 (.int .i64 1) fun t26 =>
 r7 [t0, t3, t4, t32, t26] w)
 (lenSl t5 fun t37 =>
 callW Try.prog (.func (.func 81) #[] #[]) [t4, t37, (.int .i64 60)] w fun t38 w =>
 sm Try.prog (bi .append #[22, 22] 22 [t5, t38]) w fun t39 w =>
 blS 22 1 #[(.slice none 0 0)] 1 [(0, t39)] w fun t40 w =>
 sm Try.prog (bi .append #[35, 35] 35 [t3, t40]) w fun t41 w =>
 intW .add t4 (.int .i64 1) fun t15 =>
 r3 [t0, t41, t15] w)
def honeycombbook_Book_growPairs_L3 (R : Value → World → Prop) : (List Value → World → Prop) → List Value → World → Prop := fun r3 l w =>
 unc l fun t0 l =>
 unc l fun t3 l =>
 unc l fun t4 l =>
 nckW t0 fun t9 =>
 fld 14 t9 fun t10 =>
 ldC t10 w fun t11 _ =>
 lenSl t11 fun t12 =>
 intW .lss t4 t12 fun t13 =>
 brV t13
 (nckW t0 fun t17 =>
 fld 14 t17 fun t18 =>
 ldC t18 w fun t19 _ =>
 ixS 1 t19 t4 fun t21 =>
 ldC t21 w fun t22 _ =>
 lp (honeycombbook_Book_growPairs_L7 R r3) [t0, t3, t4, t22, (.int .i64 0)] w)
 (R t3 w)
/-- `(*honeycomb/honeycombbook.Book).growPairs` -/
def honeycombbook_Book_growPairs (a0 : Value) (R : Value → World → Prop) (w : World) : Prop :=
 lp (honeycombbook_Book_growPairs_L3 R) [a0, (.slice none 0 0), (.int .i64 0)] w
theorem honeycombbook_Book_growPairs_den (a0 : Value) (R : Value → World → Prop) (w : World) : denF Try.prog Try.f50 (Try.f50.body.getD .skip) [] [(3, [0, 3, 4]), (7, [0, 3, 4, 5, 6])] [a0] R w = honeycombbook_Book_growPairs a0 R w := by kernel_rfl
set_option maxRecDepth 100000 in
theorem honeycombbook_Book_growPairs_run {a0 : Value} {R : Value → World → Prop} {w : World} (h : honeycombbook_Book_growPairs a0 R w) : Calls Try.prog 50 #[a0] w (rt R) :=
  run_sound (c := Try.f50.body.getD .skip) (la := []) (lb := [(3, [0, 3, 4]), (7, [0, 3, 4, 5, 6])]) (args := [a0]) mixed Try.func50 (by kernel_rfl) (by kernel_rfl) (Nat.le_of_ble_eq_true (by kernel_rfl)) (Eq.mpr (honeycombbook_Book_growPairs_den a0 R w) h)
theorem honeycombbook_Book_growPairs_body : hasBody Try.prog 50 = true := by kernel_rfl
theorem honeycombbook_Book_growPairs_call {a0 : Value} {R : Value → World → Prop} {w : World} (h : Calls Try.prog 50 #[a0] w (rt R)) : callW Try.prog (.func (.func 50) #[] #[]) [a0] w R :=
  ⟨honeycombbook_Book_growPairs_body, h⟩
def honeycombbook_Book_growTxs_L7 (R : Value → World → Prop) (r3 : List Value → World → Prop) : (List Value → World → Prop) → List Value → World → Prop := fun r7 l w =>
 unc l fun t0 l =>
 unc l fun t3 l =>
 unc l fun t4 l =>
 unc l fun t5 l =>
 unc l fun t6 l =>
 intW .lss t6 (.int .i64 12) fun t24 =>
 brV t24
 (lenSl t5 fun t30 =>
 callW Try.prog (.func (.func 73) #[] #[]) [t4, t30, (.int .i64 1)] w fun t31 w =>
 sm Try.prog (bi .append #[93, 93] 93 [t5, t31]) w fun t32 w =>
 intW .add t6 (.int .i64 1) fun t26 =>
 r7 [t0, t3, t4, t32, t26] w)
 (lenSl t5 fun t37 =>
 callW Try.prog (.func (.func 73) #[] #[]) [t4, t37, (.int .i64 60)] w fun t38 w =>
 sm Try.prog (bi .append #[93, 93] 93 [t5, t38]) w fun t39 w =>
 blS 93 1 #[(.slice none 0 0)] 1 [(0, t39)] w fun t40 w =>
 sm Try.prog (bi .append #[36, 36] 36 [t3, t40]) w fun t41 w =>
 intW .add t4 (.int .i64 1) fun t15 =>
 r3 [t0, t41, t15] w)
def honeycombbook_Book_growTxs_L3 (R : Value → World → Prop) : (List Value → World → Prop) → List Value → World → Prop := fun r3 l w =>
 unc l fun t0 l =>
 unc l fun t3 l =>
 unc l fun t4 l =>
 nckW t0 fun t9 =>
 fld 16 t9 fun t10 =>
 ldC t10 w fun t11 _ =>
 lenSl t11 fun t12 =>
 intW .lss t4 t12 fun t13 =>
 brV t13
 (nckW t0 fun t17 =>
 fld 16 t17 fun t18 =>
 ldC t18 w fun t19 _ =>
 ixS 1 t19 t4 fun t21 =>
 ldC t21 w fun t22 _ =>
 lp (honeycombbook_Book_growTxs_L7 R r3) [t0, t3, t4, t22, (.int .i64 0)] w)
 (R t3 w)
/-- `(*honeycomb/honeycombbook.Book).growTxs` -/
def honeycombbook_Book_growTxs (a0 : Value) (R : Value → World → Prop) (w : World) : Prop :=
 lp (honeycombbook_Book_growTxs_L3 R) [a0, (.slice none 0 0), (.int .i64 0)] w
theorem honeycombbook_Book_growTxs_den (a0 : Value) (R : Value → World → Prop) (w : World) : denF Try.prog Try.f51 (Try.f51.body.getD .skip) [] [(3, [0, 3, 4]), (7, [0, 3, 4, 5, 6])] [a0] R w = honeycombbook_Book_growTxs a0 R w := by kernel_rfl
set_option maxRecDepth 100000 in
theorem honeycombbook_Book_growTxs_run {a0 : Value} {R : Value → World → Prop} {w : World} (h : honeycombbook_Book_growTxs a0 R w) : Calls Try.prog 51 #[a0] w (rt R) :=
  run_sound (c := Try.f51.body.getD .skip) (la := []) (lb := [(3, [0, 3, 4]), (7, [0, 3, 4, 5, 6])]) (args := [a0]) mixed Try.func51 (by kernel_rfl) (by kernel_rfl) (Nat.le_of_ble_eq_true (by kernel_rfl)) (Eq.mpr (honeycombbook_Book_growTxs_den a0 R w) h)
theorem honeycombbook_Book_growTxs_body : hasBody Try.prog 51 = true := by kernel_rfl
theorem honeycombbook_Book_growTxs_call {a0 : Value} {R : Value → World → Prop} {w : World} (h : Calls Try.prog 51 #[a0] w (rt R)) : callW Try.prog (.func (.func 51) #[] #[]) [a0] w R :=
  ⟨honeycombbook_Book_growTxs_body, h⟩
def honeycombbook_markedInts_L2 (R : Value → World → Prop) : (List Value → World → Prop) → List Value → World → Prop := fun r2 l w =>
 unc l fun t0 l =>
 unc l fun t3 l =>
 lenSl t0 fun t6 =>
 intW .lss t3 t6 fun t7 =>
 brV t7
 (ixS 1 t0 t3 fun t12 =>
 ixS 1 t0 t3 fun t17 =>
 ldC t12 w.drew fun t13 c3 =>
 ldC t17 w.drew fun t18 c8 =>
 lenSl t18 fun t19 =>
 callW Try.prog (.func (.func 74) #[] #[]) [t3, (.int .i64 0), t19] w.drew fun t20 w =>
 heldC [(8, c8), (3, c3)] w (callW Try.prog (.func (.func 10) #[] #[]) [t13, t20] w fun t21 w =>
 heldC [(8, c8)] w (unW .not t21 fun t22 =>
 brV t22
 (R (.bool false) w)
 (intW .add t3 (.int .i64 1) fun t9 =>
 r2 [t0, t9] w))))
 (R (.bool true) w)
/-- `honeycomb/honeycombbook.markedInts` -/
def honeycombbook_markedInts (a0 : Value) (R : Value → World → Prop) (w : World) : Prop :=
 lp (honeycombbook_markedInts_L2 R) [a0, (.int .i64 0)] w
theorem honeycombbook_markedInts_den (a0 : Value) (R : Value → World → Prop) (w : World) : denF Try.prog Try.f52 (Try.f52.body.getD .skip) [] [(2, [0, 3])] [a0] R w = honeycombbook_markedInts a0 R w := by kernel_rfl
set_option maxRecDepth 100000 in
theorem honeycombbook_markedInts_run {a0 : Value} {R : Value → World → Prop} {w : World} (h : honeycombbook_markedInts a0 R w) : Calls Try.prog 52 #[a0] w (rt R) :=
  run_sound (c := Try.f52.body.getD .skip) (la := []) (lb := [(2, [0, 3])]) (args := [a0]) mixed Try.func52 (by kernel_rfl) (by kernel_rfl) (Nat.le_of_ble_eq_true (by kernel_rfl)) (Eq.mpr (honeycombbook_markedInts_den a0 R w) h)
theorem honeycombbook_markedInts_body : hasBody Try.prog 52 = true := by kernel_rfl
theorem honeycombbook_markedInts_call {a0 : Value} {R : Value → World → Prop} {w : World} (h : Calls Try.prog 52 #[a0] w (rt R)) : callW Try.prog (.func (.func 52) #[] #[]) [a0] w R :=
  ⟨honeycombbook_markedInts_body, h⟩
def honeycombbook_markedTexts_L2 (R : Value → World → Prop) : (List Value → World → Prop) → List Value → World → Prop := fun r2 l w =>
 unc l fun t0 l =>
 unc l fun t3 l =>
 lenSl t0 fun t6 =>
 intW .lss t3 t6 fun t7 =>
 brV t7
 (ixS 1 t0 t3 fun t12 =>
 ixS 1 t0 t3 fun t17 =>
 ldC t12 w.drew fun t13 c3 =>
 ldC t17 w.drew fun t18 c8 =>
 lenSl t18 fun t19 =>
 callW Try.prog (.func (.func 75) #[] #[]) [t3, (.int .i64 0), t19] w.drew fun t20 w =>
 heldC [(8, c8), (3, c3)] w (callW Try.prog (.func (.func 66) #[] #[]) [t13, t20] w fun t21 w =>
 heldC [(8, c8)] w (unW .not t21 fun t22 =>
 brV t22
 (R (.bool false) w)
 (intW .add t3 (.int .i64 1) fun t9 =>
 r2 [t0, t9] w))))
 (R (.bool true) w)
/-- `honeycomb/honeycombbook.markedTexts` -/
def honeycombbook_markedTexts (a0 : Value) (R : Value → World → Prop) (w : World) : Prop :=
 lp (honeycombbook_markedTexts_L2 R) [a0, (.int .i64 0)] w
theorem honeycombbook_markedTexts_den (a0 : Value) (R : Value → World → Prop) (w : World) : denF Try.prog Try.f53 (Try.f53.body.getD .skip) [] [(2, [0, 3])] [a0] R w = honeycombbook_markedTexts a0 R w := by kernel_rfl
set_option maxRecDepth 100000 in
theorem honeycombbook_markedTexts_run {a0 : Value} {R : Value → World → Prop} {w : World} (h : honeycombbook_markedTexts a0 R w) : Calls Try.prog 53 #[a0] w (rt R) :=
  run_sound (c := Try.f53.body.getD .skip) (la := []) (lb := [(2, [0, 3])]) (args := [a0]) mixed Try.func53 (by kernel_rfl) (by kernel_rfl) (Nat.le_of_ble_eq_true (by kernel_rfl)) (Eq.mpr (honeycombbook_markedTexts_den a0 R w) h)
theorem honeycombbook_markedTexts_body : hasBody Try.prog 53 = true := by kernel_rfl
theorem honeycombbook_markedTexts_call {a0 : Value} {R : Value → World → Prop} {w : World} (h : Calls Try.prog 53 #[a0] w (rt R)) : callW Try.prog (.func (.func 53) #[] #[]) [a0] w R :=
  ⟨honeycombbook_markedTexts_body, h⟩
def honeycombbook_markedCells_L2 (R : Value → World → Prop) : (List Value → World → Prop) → List Value → World → Prop := fun r2 l w =>
 unc l fun t0 l =>
 unc l fun t3 l =>
 lenSl t0 fun t6 =>
 intW .lss t3 t6 fun t7 =>
 brV t7
 (ixS 1 t0 t3 fun t12 =>
 ixS 1 t0 t3 fun t17 =>
 ldC t12 w.drew fun t13 c3 =>
 ldC t17 w.drew fun t18 c8 =>
 lenSl t18 fun t19 =>
 callW Try.prog (.func (.func 76) #[] #[]) [t3, (.int .i64 0), t19] w.drew fun t20 w =>
 heldC [(8, c8), (3, c3)] w (callW Try.prog (.func (.func 67) #[] #[]) [t13, t20] w fun t21 w =>
 heldC [(8, c8)] w (unW .not t21 fun t22 =>
 brV t22
 (R (.bool false) w)
 (intW .add t3 (.int .i64 1) fun t9 =>
 r2 [t0, t9] w))))
 (R (.bool true) w)
/-- `honeycomb/honeycombbook.markedCells` -/
def honeycombbook_markedCells (a0 : Value) (R : Value → World → Prop) (w : World) : Prop :=
 lp (honeycombbook_markedCells_L2 R) [a0, (.int .i64 0)] w
theorem honeycombbook_markedCells_den (a0 : Value) (R : Value → World → Prop) (w : World) : denF Try.prog Try.f54 (Try.f54.body.getD .skip) [] [(2, [0, 3])] [a0] R w = honeycombbook_markedCells a0 R w := by kernel_rfl
set_option maxRecDepth 100000 in
theorem honeycombbook_markedCells_run {a0 : Value} {R : Value → World → Prop} {w : World} (h : honeycombbook_markedCells a0 R w) : Calls Try.prog 54 #[a0] w (rt R) :=
  run_sound (c := Try.f54.body.getD .skip) (la := []) (lb := [(2, [0, 3])]) (args := [a0]) mixed Try.func54 (by kernel_rfl) (by kernel_rfl) (Nat.le_of_ble_eq_true (by kernel_rfl)) (Eq.mpr (honeycombbook_markedCells_den a0 R w) h)
theorem honeycombbook_markedCells_body : hasBody Try.prog 54 = true := by kernel_rfl
theorem honeycombbook_markedCells_call {a0 : Value} {R : Value → World → Prop} {w : World} (h : Calls Try.prog 54 #[a0] w (rt R)) : callW Try.prog (.func (.func 54) #[] #[]) [a0] w R :=
  ⟨honeycombbook_markedCells_body, h⟩
def honeycombbook_markedPages_L2 (R : Value → World → Prop) : (List Value → World → Prop) → List Value → World → Prop := fun r2 l w =>
 unc l fun t0 l =>
 unc l fun t3 l =>
 lenSl t0 fun t6 =>
 intW .lss t3 t6 fun t7 =>
 brV t7
 (ixS 1 t0 t3 fun t12 =>
 ixS 1 t0 t3 fun t17 =>
 ldC t12 w.drew fun t13 c3 =>
 ldC t17 w.drew fun t18 c8 =>
 lenSl t18 fun t19 =>
 callW Try.prog (.func (.func 77) #[] #[]) [t3, (.int .i64 0), t19] w.drew fun t20 w =>
 heldC [(8, c8), (3, c3)] w (callW Try.prog (.func (.func 68) #[] #[]) [t13, t20] w fun t21 w =>
 heldC [(8, c8)] w (unW .not t21 fun t22 =>
 brV t22
 (R (.bool false) w)
 (intW .add t3 (.int .i64 1) fun t9 =>
 r2 [t0, t9] w))))
 (R (.bool true) w)
/-- `honeycomb/honeycombbook.markedPages` -/
def honeycombbook_markedPages (a0 : Value) (R : Value → World → Prop) (w : World) : Prop :=
 lp (honeycombbook_markedPages_L2 R) [a0, (.int .i64 0)] w
theorem honeycombbook_markedPages_den (a0 : Value) (R : Value → World → Prop) (w : World) : denF Try.prog Try.f55 (Try.f55.body.getD .skip) [] [(2, [0, 3])] [a0] R w = honeycombbook_markedPages a0 R w := by kernel_rfl
set_option maxRecDepth 100000 in
theorem honeycombbook_markedPages_run {a0 : Value} {R : Value → World → Prop} {w : World} (h : honeycombbook_markedPages a0 R w) : Calls Try.prog 55 #[a0] w (rt R) :=
  run_sound (c := Try.f55.body.getD .skip) (la := []) (lb := [(2, [0, 3])]) (args := [a0]) mixed Try.func55 (by kernel_rfl) (by kernel_rfl) (Nat.le_of_ble_eq_true (by kernel_rfl)) (Eq.mpr (honeycombbook_markedPages_den a0 R w) h)
theorem honeycombbook_markedPages_body : hasBody Try.prog 55 = true := by kernel_rfl
theorem honeycombbook_markedPages_call {a0 : Value} {R : Value → World → Prop} {w : World} (h : Calls Try.prog 55 #[a0] w (rt R)) : callW Try.prog (.func (.func 55) #[] #[]) [a0] w R :=
  ⟨honeycombbook_markedPages_body, h⟩
def honeycombbook_markedPatches_L2 (R : Value → World → Prop) : (List Value → World → Prop) → List Value → World → Prop := fun r2 l w =>
 unc l fun t0 l =>
 unc l fun t3 l =>
 lenSl t0 fun t6 =>
 intW .lss t3 t6 fun t7 =>
 brV t7
 (ixS 1 t0 t3 fun t12 =>
 ixS 1 t0 t3 fun t17 =>
 ldC t12 w.drew fun t13 c3 =>
 ldC t17 w.drew fun t18 c8 =>
 lenSl t18 fun t19 =>
 callW Try.prog (.func (.func 78) #[] #[]) [t3, (.int .i64 0), t19] w.drew fun t20 w =>
 heldC [(8, c8), (3, c3)] w (callW Try.prog (.func (.func 69) #[] #[]) [t13, t20] w fun t21 w =>
 heldC [(8, c8)] w (unW .not t21 fun t22 =>
 brV t22
 (R (.bool false) w)
 (intW .add t3 (.int .i64 1) fun t9 =>
 r2 [t0, t9] w))))
 (R (.bool true) w)
/-- `honeycomb/honeycombbook.markedPatches` -/
def honeycombbook_markedPatches (a0 : Value) (R : Value → World → Prop) (w : World) : Prop :=
 lp (honeycombbook_markedPatches_L2 R) [a0, (.int .i64 0)] w
theorem honeycombbook_markedPatches_den (a0 : Value) (R : Value → World → Prop) (w : World) : denF Try.prog Try.f56 (Try.f56.body.getD .skip) [] [(2, [0, 3])] [a0] R w = honeycombbook_markedPatches a0 R w := by kernel_rfl
set_option maxRecDepth 100000 in
theorem honeycombbook_markedPatches_run {a0 : Value} {R : Value → World → Prop} {w : World} (h : honeycombbook_markedPatches a0 R w) : Calls Try.prog 56 #[a0] w (rt R) :=
  run_sound (c := Try.f56.body.getD .skip) (la := []) (lb := [(2, [0, 3])]) (args := [a0]) mixed Try.func56 (by kernel_rfl) (by kernel_rfl) (Nat.le_of_ble_eq_true (by kernel_rfl)) (Eq.mpr (honeycombbook_markedPatches_den a0 R w) h)
theorem honeycombbook_markedPatches_body : hasBody Try.prog 56 = true := by kernel_rfl
theorem honeycombbook_markedPatches_call {a0 : Value} {R : Value → World → Prop} {w : World} (h : Calls Try.prog 56 #[a0] w (rt R)) : callW Try.prog (.func (.func 56) #[] #[]) [a0] w R :=
  ⟨honeycombbook_markedPatches_body, h⟩
def honeycombbook_markedDirty_L2 (R : Value → World → Prop) : (List Value → World → Prop) → List Value → World → Prop := fun r2 l w =>
 unc l fun t0 l =>
 unc l fun t3 l =>
 lenSl t0 fun t6 =>
 intW .lss t3 t6 fun t7 =>
 brV t7
 (ixS 1 t0 t3 fun t12 =>
 ixS 1 t0 t3 fun t17 =>
 ldC t12 w.drew fun t13 c3 =>
 ldC t17 w.drew fun t18 c8 =>
 lenSl t18 fun t19 =>
 callW Try.prog (.func (.func 79) #[] #[]) [t3, (.int .i64 0), t19] w.drew fun t20 w =>
 heldC [(8, c8), (3, c3)] w (callW Try.prog (.func (.func 70) #[] #[]) [t13, t20] w fun t21 w =>
 heldC [(8, c8)] w (unW .not t21 fun t22 =>
 brV t22
 (R (.bool false) w)
 (intW .add t3 (.int .i64 1) fun t9 =>
 r2 [t0, t9] w))))
 (R (.bool true) w)
/-- `honeycomb/honeycombbook.markedDirty` -/
def honeycombbook_markedDirty (a0 : Value) (R : Value → World → Prop) (w : World) : Prop :=
 lp (honeycombbook_markedDirty_L2 R) [a0, (.int .i64 0)] w
theorem honeycombbook_markedDirty_den (a0 : Value) (R : Value → World → Prop) (w : World) : denF Try.prog Try.f57 (Try.f57.body.getD .skip) [] [(2, [0, 3])] [a0] R w = honeycombbook_markedDirty a0 R w := by kernel_rfl
set_option maxRecDepth 100000 in
theorem honeycombbook_markedDirty_run {a0 : Value} {R : Value → World → Prop} {w : World} (h : honeycombbook_markedDirty a0 R w) : Calls Try.prog 57 #[a0] w (rt R) :=
  run_sound (c := Try.f57.body.getD .skip) (la := []) (lb := [(2, [0, 3])]) (args := [a0]) mixed Try.func57 (by kernel_rfl) (by kernel_rfl) (Nat.le_of_ble_eq_true (by kernel_rfl)) (Eq.mpr (honeycombbook_markedDirty_den a0 R w) h)
theorem honeycombbook_markedDirty_body : hasBody Try.prog 57 = true := by kernel_rfl
theorem honeycombbook_markedDirty_call {a0 : Value} {R : Value → World → Prop} {w : World} (h : Calls Try.prog 57 #[a0] w (rt R)) : callW Try.prog (.func (.func 57) #[] #[]) [a0] w R :=
  ⟨honeycombbook_markedDirty_body, h⟩
def honeycombbook_markedEntries_L2 (R : Value → World → Prop) : (List Value → World → Prop) → List Value → World → Prop := fun r2 l w =>
 unc l fun t0 l =>
 unc l fun t3 l =>
 lenSl t0 fun t6 =>
 intW .lss t3 t6 fun t7 =>
 brV t7
 (ixS 1 t0 t3 fun t12 =>
 ixS 1 t0 t3 fun t17 =>
 ldC t12 w.drew fun t13 c3 =>
 ldC t17 w.drew fun t18 c8 =>
 lenSl t18 fun t19 =>
 callW Try.prog (.func (.func 80) #[] #[]) [t3, (.int .i64 0), t19] w.drew fun t20 w =>
 heldC [(8, c8), (3, c3)] w (callW Try.prog (.func (.func 71) #[] #[]) [t13, t20] w fun t21 w =>
 heldC [(8, c8)] w (unW .not t21 fun t22 =>
 brV t22
 (R (.bool false) w)
 (intW .add t3 (.int .i64 1) fun t9 =>
 r2 [t0, t9] w))))
 (R (.bool true) w)
/-- `honeycomb/honeycombbook.markedEntries` -/
def honeycombbook_markedEntries (a0 : Value) (R : Value → World → Prop) (w : World) : Prop :=
 lp (honeycombbook_markedEntries_L2 R) [a0, (.int .i64 0)] w
theorem honeycombbook_markedEntries_den (a0 : Value) (R : Value → World → Prop) (w : World) : denF Try.prog Try.f58 (Try.f58.body.getD .skip) [] [(2, [0, 3])] [a0] R w = honeycombbook_markedEntries a0 R w := by kernel_rfl
set_option maxRecDepth 100000 in
theorem honeycombbook_markedEntries_run {a0 : Value} {R : Value → World → Prop} {w : World} (h : honeycombbook_markedEntries a0 R w) : Calls Try.prog 58 #[a0] w (rt R) :=
  run_sound (c := Try.f58.body.getD .skip) (la := []) (lb := [(2, [0, 3])]) (args := [a0]) mixed Try.func58 (by kernel_rfl) (by kernel_rfl) (Nat.le_of_ble_eq_true (by kernel_rfl)) (Eq.mpr (honeycombbook_markedEntries_den a0 R w) h)
theorem honeycombbook_markedEntries_body : hasBody Try.prog 58 = true := by kernel_rfl
theorem honeycombbook_markedEntries_call {a0 : Value} {R : Value → World → Prop} {w : World} (h : Calls Try.prog 58 #[a0] w (rt R)) : callW Try.prog (.func (.func 58) #[] #[]) [a0] w R :=
  ⟨honeycombbook_markedEntries_body, h⟩
def honeycombbook_markedPairs_L2 (R : Value → World → Prop) : (List Value → World → Prop) → List Value → World → Prop := fun r2 l w =>
 unc l fun t0 l =>
 unc l fun t3 l =>
 lenSl t0 fun t6 =>
 intW .lss t3 t6 fun t7 =>
 brV t7
 (ixS 1 t0 t3 fun t12 =>
 ixS 1 t0 t3 fun t17 =>
 ldC t12 w.drew fun t13 c3 =>
 ldC t17 w.drew fun t18 c8 =>
 lenSl t18 fun t19 =>
 callW Try.prog (.func (.func 81) #[] #[]) [t3, (.int .i64 0), t19] w.drew fun t20 w =>
 heldC [(8, c8), (3, c3)] w (callW Try.prog (.func (.func 24) #[] #[]) [t13, t20] w fun t21 w =>
 heldC [(8, c8)] w (unW .not t21 fun t22 =>
 brV t22
 (R (.bool false) w)
 (intW .add t3 (.int .i64 1) fun t9 =>
 r2 [t0, t9] w))))
 (R (.bool true) w)
/-- `honeycomb/honeycombbook.markedPairs` -/
def honeycombbook_markedPairs (a0 : Value) (R : Value → World → Prop) (w : World) : Prop :=
 lp (honeycombbook_markedPairs_L2 R) [a0, (.int .i64 0)] w
theorem honeycombbook_markedPairs_den (a0 : Value) (R : Value → World → Prop) (w : World) : denF Try.prog Try.f59 (Try.f59.body.getD .skip) [] [(2, [0, 3])] [a0] R w = honeycombbook_markedPairs a0 R w := by kernel_rfl
set_option maxRecDepth 100000 in
theorem honeycombbook_markedPairs_run {a0 : Value} {R : Value → World → Prop} {w : World} (h : honeycombbook_markedPairs a0 R w) : Calls Try.prog 59 #[a0] w (rt R) :=
  run_sound (c := Try.f59.body.getD .skip) (la := []) (lb := [(2, [0, 3])]) (args := [a0]) mixed Try.func59 (by kernel_rfl) (by kernel_rfl) (Nat.le_of_ble_eq_true (by kernel_rfl)) (Eq.mpr (honeycombbook_markedPairs_den a0 R w) h)
theorem honeycombbook_markedPairs_body : hasBody Try.prog 59 = true := by kernel_rfl
theorem honeycombbook_markedPairs_call {a0 : Value} {R : Value → World → Prop} {w : World} (h : Calls Try.prog 59 #[a0] w (rt R)) : callW Try.prog (.func (.func 59) #[] #[]) [a0] w R :=
  ⟨honeycombbook_markedPairs_body, h⟩
def honeycombbook_markedTxs_L2 (R : Value → World → Prop) : (List Value → World → Prop) → List Value → World → Prop := fun r2 l w =>
 unc l fun t0 l =>
 unc l fun t3 l =>
 lenSl t0 fun t6 =>
 intW .lss t3 t6 fun t7 =>
 brV t7
 (ixS 1 t0 t3 fun t12 =>
 ixS 1 t0 t3 fun t17 =>
 ldC t12 w.drew fun t13 c3 =>
 ldC t17 w.drew fun t18 c8 =>
 lenSl t18 fun t19 =>
 callW Try.prog (.func (.func 73) #[] #[]) [t3, (.int .i64 0), t19] w.drew fun t20 w =>
 heldC [(8, c8), (3, c3)] w (callW Try.prog (.func (.func 72) #[] #[]) [t13, t20] w fun t21 w =>
 heldC [(8, c8)] w (unW .not t21 fun t22 =>
 brV t22
 (R (.bool false) w)
 (intW .add t3 (.int .i64 1) fun t9 =>
 r2 [t0, t9] w))))
 (R (.bool true) w)
/-- `honeycomb/honeycombbook.markedTxs` -/
def honeycombbook_markedTxs (a0 : Value) (R : Value → World → Prop) (w : World) : Prop :=
 lp (honeycombbook_markedTxs_L2 R) [a0, (.int .i64 0)] w
theorem honeycombbook_markedTxs_den (a0 : Value) (R : Value → World → Prop) (w : World) : denF Try.prog Try.f60 (Try.f60.body.getD .skip) [] [(2, [0, 3])] [a0] R w = honeycombbook_markedTxs a0 R w := by kernel_rfl
set_option maxRecDepth 100000 in
theorem honeycombbook_markedTxs_run {a0 : Value} {R : Value → World → Prop} {w : World} (h : honeycombbook_markedTxs a0 R w) : Calls Try.prog 60 #[a0] w (rt R) :=
  run_sound (c := Try.f60.body.getD .skip) (la := []) (lb := [(2, [0, 3])]) (args := [a0]) mixed Try.func60 (by kernel_rfl) (by kernel_rfl) (Nat.le_of_ble_eq_true (by kernel_rfl)) (Eq.mpr (honeycombbook_markedTxs_den a0 R w) h)
theorem honeycombbook_markedTxs_body : hasBody Try.prog 60 = true := by kernel_rfl
theorem honeycombbook_markedTxs_call {a0 : Value} {R : Value → World → Prop} {w : World} (h : Calls Try.prog 60 #[a0] w (rt R)) : callW Try.prog (.func (.func 60) #[] #[]) [a0] w R :=
  ⟨honeycombbook_markedTxs_body, h⟩
def cycle_graph_side_J7 (R : Value → World → Prop) (r3 : List Value → World → Prop) : List Value → World → Prop := fun l w =>
 unc l fun t1 l =>
 unc l fun t2 l =>
 unc l fun t7 l =>
 unc l fun t11 l =>
 unc l fun t12 l =>
 unc l fun t13 l =>
 intW .add t13 (.int .i64 1) fun t29 =>
 r3 [t1, t2, t7, t11, t12, t29] w
def cycle_graph_side_L3 (R : Value → World → Prop) : (List Value → World → Prop) → List Value → World → Prop := fun r3 l w =>
 unc l fun t1 l =>
 unc l fun t2 l =>
 unc l fun t7 l =>
 unc l fun t11 l =>
 unc l fun t12 l =>
 unc l fun t13 l =>
 intW .lss t13 t12 fun t14 =>
 brV t14
 (ixS 2 t11 t13 fun t15 =>
 ldN 2 t15 w fun t16 _ =>
 alW #[(.int .i64 0), (.int .i64 0)] 43 w fun t9 w =>
 stN 2 t9 t16 w fun w =>
 yl Try.prog (Instr.indexAt 43 t9 t2) fun t18 =>
 ldC t18 w fun t19 _ =>
 intW .eql t19 t1 fun t21 =>
 brV t21
 (intW .sub (.int .i64 1) t2 fun t24 =>
 yl Try.prog (Instr.indexAt 43 t9 t24) fun t25 =>
 ldC t25 w fun t26 _ =>
 blS 3 1 #[(.int .i64 0)] 1 [(0, t26)] w fun t27 w =>
 sm Try.prog (bi .append #[25, 25] 25 [t7, t27]) w fun t28 w =>
 jn (cycle_graph_side_J7 R r3) [t1, t2, t28, t11, t12, t13] w)
 (jn (cycle_graph_side_J7 R r3) [t1, t2, t7, t11, t12, t13] w))
 (R t7 w)
/-- `(honeycomb/cycle.graph).side` -/
def cycle_graph_side (a0 a1 a2 : Value) (R : Value → World → Prop) (w : World) : Prop :=
 alW (Value.cells a0) 49 w fun t3 w =>
 fld 0 t3 fun t10 =>
 ldC t10 w fun t11 _ =>
 lenSl t11 fun t12 =>
 lp (cycle_graph_side_L3 R) [a1, a2, (.slice none 0 0), t11, t12, (.int .i64 0)] w
theorem cycle_graph_side_den (a0 a1 a2 : Value) (R : Value → World → Prop) (w : World) : denF Try.prog Try.f61 (Try.f61.body.getD .skip) [(7, [1, 2, 7, 11, 12, 13])] [(3, [1, 2, 7, 11, 12, 13])] [a0, a1, a2] R w = cycle_graph_side a0 a1 a2 R w := by kernel_rfl
set_option maxRecDepth 100000 in
theorem cycle_graph_side_run {a0 a1 a2 : Value} {R : Value → World → Prop} {w : World} (h : cycle_graph_side a0 a1 a2 R w) : Calls Try.prog 61 #[a0, a1, a2] w (rt R) :=
  run_sound (c := Try.f61.body.getD .skip) (la := [(7, [1, 2, 7, 11, 12, 13])]) (lb := [(3, [1, 2, 7, 11, 12, 13])]) (args := [a0, a1, a2]) mixed Try.func61 (by kernel_rfl) (by kernel_rfl) (Nat.le_of_ble_eq_true (by kernel_rfl)) (Eq.mpr (cycle_graph_side_den a0 a1 a2 R w) h)
theorem cycle_graph_side_body : hasBody Try.prog 61 = true := by kernel_rfl
theorem cycle_graph_side_call {a0 a1 a2 : Value} {R : Value → World → Prop} {w : World} (h : Calls Try.prog 61 #[a0, a1, a2] w (rt R)) : callW Try.prog (.func (.func 61) #[] #[]) [a0, a1, a2] w R :=
  ⟨cycle_graph_side_body, h⟩
def honeycombref1_Sorted_J4 (R : Value → World → Prop) (r3 : List Value → World → Prop) : List Value → World → Prop := fun l w =>
 unc l fun t3 l =>
 unc l fun t4 l =>
 intW .add t4 (.int .i64 1) fun t13 =>
 r3 [t3, t13] w
def honeycombref1_Sorted_L6 (R : Value → World → Prop) (r3 : List Value → World → Prop) : (List Value → World → Prop) → List Value → World → Prop := fun r6 l w =>
 unc l fun t3 l =>
 unc l fun t4 l =>
 unc l fun t5 l =>
 intW .gtr t5 (.int .i64 0) fun t16 =>
 brV t16
 (ixS 1 t3 t5 fun t20 =>
 intW .sub t5 (.int .i64 1) fun t24 =>
 ixS 1 t3 t24 fun t25 =>
 ldC t20 w.drew fun t21 c6 =>
 ldC t25 w.drew fun t26 c11 =>
 intW .gtr t21 t26 fun t27 =>
 brV t27
 (intW .sub t5 (.int .i64 1) fun t35 =>
 intW .sub t5 (.int .i64 1) fun t38 =>
 ixS 1 t3 t38 fun t39 =>
 ixS 1 t3 t5 fun t43 =>
 ldC t39 w.drew.drew fun t40 c9 =>
 ldC t43 w.drew.drew fun t44 c13 =>
 ixS 1 t3 t5 fun t45 =>
 1 = 1 ∧ stC t45 t40 w.drew.drew fun w =>
 ixS 1 t3 t35 fun t46 =>
 1 = 1 ∧ stC t46 t44 w fun w =>
 intW .sub t5 (.int .i64 1) fun t30 =>
 r6 [t3, t4, t30] w)
 (jn (honeycombref1_Sorted_J4 R r3) [t3, t4] w.drew))
 (jn (honeycombref1_Sorted_J4 R r3) [t3, t4] w.drew)
def honeycombref1_Sorted_L3 (R : Value → World → Prop) : (List Value → World → Prop) → List Value → World → Prop := fun r3 l w =>
 unc l fun t3 l =>
 unc l fun t4 l =>
 lenSl t3 fun t10 =>
 intW .lss t4 t10 fun t11 =>
 brV t11
 (lp (honeycombref1_Sorted_L6 R r3) [t3, t4, t4] w)
 (R t3 w)
/-- `honeycomb/honeycombref1.Sorted` -/
def honeycombref1_Sorted (a0 : Value) (R : Value → World → Prop) (w : World) : Prop :=
 sm Try.prog (bi .append #[25, 25] 25 [(.slice none 0 0), a0]) w fun t7 w =>
 lp (honeycombref1_Sorted_L3 R) [t7, (.int .i64 1)] w
theorem honeycombref1_Sorted_den (a0 : Value) (R : Value → World → Prop) (w : World) : denF Try.prog Try.f64 (Try.f64.body.getD .skip) [(4, [3, 4])] [(3, [3, 4]), (6, [3, 4, 5])] [a0] R w = honeycombref1_Sorted a0 R w := by kernel_rfl
set_option maxRecDepth 100000 in
theorem honeycombref1_Sorted_run {a0 : Value} {R : Value → World → Prop} {w : World} (h : honeycombref1_Sorted a0 R w) : Calls Try.prog 64 #[a0] w (rt R) :=
  run_sound (c := Try.f64.body.getD .skip) (la := [(4, [3, 4])]) (lb := [(3, [3, 4]), (6, [3, 4, 5])]) (args := [a0]) mixed Try.func64 (by kernel_rfl) (by kernel_rfl) (Nat.le_of_ble_eq_true (by kernel_rfl)) (Eq.mpr (honeycombref1_Sorted_den a0 R w) h)
theorem honeycombref1_Sorted_body : hasBody Try.prog 64 = true := by kernel_rfl
theorem honeycombref1_Sorted_call {a0 : Value} {R : Value → World → Prop} {w : World} (h : Calls Try.prog 64 #[a0] w (rt R)) : callW Try.prog (.func (.func 64) #[] #[]) [a0] w R :=
  ⟨honeycombref1_Sorted_body, h⟩
def slices_IndexFunc_2_int_2_int_L2 (R : Value → World → Prop) : (List Value → World → Prop) → List Value → World → Prop := fun r2 l w =>
 unc l fun t0 l =>
 unc l fun t1 l =>
 unc l fun t7 l =>
 unc l fun t8 l =>
 intW .lss t8 t7 fun t9 =>
 brV t9
 (ixS 2 t0 t8 fun t14 =>
 ldN 2 t14 w fun t15 _ =>
 callW Try.prog t1 [t15] w fun t16 w =>
 brV t16
 (R t8 w)
 (intW .add t8 (.int .i64 1) fun t18 =>
 r2 [t0, t1, t7, t18] w))
 (R (.int .i64 (-1)) w)
/-- `slices.IndexFunc[[][2]int,[2]int]` -/
def slices_IndexFunc_2_int_2_int (a0 a1 : Value) (R : Value → World → Prop) (w : World) : Prop :=
 lenSl a0 fun t7 =>
 lp (slices_IndexFunc_2_int_2_int_L2 R) [a0, a1, t7, (.int .i64 0)] w
theorem slices_IndexFunc_2_int_2_int_den (a0 a1 : Value) (R : Value → World → Prop) (w : World) : denF Try.prog Try.f65 (Try.f65.body.getD .skip) [] [(2, [0, 1, 7, 8])] [a0, a1] R w = slices_IndexFunc_2_int_2_int a0 a1 R w := by kernel_rfl
set_option maxRecDepth 100000 in
theorem slices_IndexFunc_2_int_2_int_run {a0 a1 : Value} {R : Value → World → Prop} {w : World} (h : slices_IndexFunc_2_int_2_int a0 a1 R w) : Calls Try.prog 65 #[a0, a1] w (rt R) :=
  run_sound (c := Try.f65.body.getD .skip) (la := []) (lb := [(2, [0, 1, 7, 8])]) (args := [a0, a1]) mixed Try.func65 (by kernel_rfl) (by kernel_rfl) (Nat.le_of_ble_eq_true (by kernel_rfl)) (Eq.mpr (slices_IndexFunc_2_int_2_int_den a0 a1 R w) h)
theorem slices_IndexFunc_2_int_2_int_body : hasBody Try.prog 65 = true := by kernel_rfl
theorem slices_IndexFunc_2_int_2_int_call {a0 a1 : Value} {R : Value → World → Prop} {w : World} (h : Calls Try.prog 65 #[a0, a1] w (rt R)) : callW Try.prog (.func (.func 65) #[] #[]) [a0, a1] w R :=
  ⟨slices_IndexFunc_2_int_2_int_body, h⟩
def honeycombbook_SameTexts_L4 (R : Value → World → Prop) : (List Value → World → Prop) → List Value → World → Prop := fun r4 l w =>
 unc l fun t0 l =>
 unc l fun t1 l =>
 unc l fun t5 l =>
 lenSl t0 fun t13 =>
 intW .lss t5 t13 fun t14 =>
 brV t14
 (ixS 1 t0 t5 fun t19 =>
 ixS 1 t1 t5 fun t23 =>
 ldC t19 w.drew fun t20 c3 =>
 ldC t23 w.drew fun t24 c7 =>
 strW .eql t20 t24 fun t25 =>
 unW .not t25 fun t26 =>
 brV t26
 (R (.bool false) w.drew)
 (intW .add t5 (.int .i64 1) fun t16 =>
 r4 [t0, t1, t16] w.drew))
 (R (.bool true) w)
/-- `honeycomb/honeycombbook.SameTexts` -/
def honeycombbook_SameTexts (a0 a1 : Value) (R : Value → World → Prop) (w : World) : Prop :=
 lenSl a0 fun t7 =>
 lenSl a1 fun t9 =>
 intW .neq t7 t9 fun t10 =>
 brV t10
 (R (.bool false) w)
 (lp (honeycombbook_SameTexts_L4 R) [a0, a1, (.int .i64 0)] w)
theorem honeycombbook_SameTexts_den (a0 a1 : Value) (R : Value → World → Prop) (w : World) : denF Try.prog Try.f66 (Try.f66.body.getD .skip) [] [(4, [0, 1, 5])] [a0, a1] R w = honeycombbook_SameTexts a0 a1 R w := by kernel_rfl
set_option maxRecDepth 100000 in
theorem honeycombbook_SameTexts_run {a0 a1 : Value} {R : Value → World → Prop} {w : World} (h : honeycombbook_SameTexts a0 a1 R w) : Calls Try.prog 66 #[a0, a1] w (rt R) :=
  run_sound (c := Try.f66.body.getD .skip) (la := []) (lb := [(4, [0, 1, 5])]) (args := [a0, a1]) mixed Try.func66 (by kernel_rfl) (by kernel_rfl) (Nat.le_of_ble_eq_true (by kernel_rfl)) (Eq.mpr (honeycombbook_SameTexts_den a0 a1 R w) h)
theorem honeycombbook_SameTexts_body : hasBody Try.prog 66 = true := by kernel_rfl
theorem honeycombbook_SameTexts_call {a0 a1 : Value} {R : Value → World → Prop} {w : World} (h : Calls Try.prog 66 #[a0, a1] w (rt R)) : callW Try.prog (.func (.func 66) #[] #[]) [a0, a1] w R :=
  ⟨honeycombbook_SameTexts_body, h⟩
def honeycombbook_SameCells_L4 (R : Value → World → Prop) : (List Value → World → Prop) → List Value → World → Prop := fun r4 l w =>
 unc l fun t0 l =>
 unc l fun t1 l =>
 unc l fun t5 l =>
 lenSl t0 fun t13 =>
 intW .lss t5 t13 fun t14 =>
 brV t14
 (ixS 4 t0 t5 fun t19 =>
 ixS 4 t1 t5 fun t23 =>
 ldN 4 t19 w.drew fun t20 c3 =>
 ldN 4 t23 w.drew fun t24 c7 =>
 yl Try.prog (semBin .eql 101 (.tmp 20) (.tmp 24) t20 t24) fun t25 =>
 unW .not t25 fun t26 =>
 brV t26
 (R (.bool false) w.drew)
 (intW .add t5 (.int .i64 1) fun t16 =>
 r4 [t0, t1, t16] w.drew))
 (R (.bool true) w)
/-- `honeycomb/honeycombbook.SameCells` -/
def honeycombbook_SameCells (a0 a1 : Value) (R : Value → World → Prop) (w : World) : Prop :=
 lenSl a0 fun t7 =>
 lenSl a1 fun t9 =>
 intW .neq t7 t9 fun t10 =>
 brV t10
 (R (.bool false) w)
 (lp (honeycombbook_SameCells_L4 R) [a0, a1, (.int .i64 0)] w)
theorem honeycombbook_SameCells_den (a0 a1 : Value) (R : Value → World → Prop) (w : World) : denF Try.prog Try.f67 (Try.f67.body.getD .skip) [] [(4, [0, 1, 5])] [a0, a1] R w = honeycombbook_SameCells a0 a1 R w := by kernel_rfl
set_option maxRecDepth 100000 in
theorem honeycombbook_SameCells_run {a0 a1 : Value} {R : Value → World → Prop} {w : World} (h : honeycombbook_SameCells a0 a1 R w) : Calls Try.prog 67 #[a0, a1] w (rt R) :=
  run_sound (c := Try.f67.body.getD .skip) (la := []) (lb := [(4, [0, 1, 5])]) (args := [a0, a1]) mixed Try.func67 (by kernel_rfl) (by kernel_rfl) (Nat.le_of_ble_eq_true (by kernel_rfl)) (Eq.mpr (honeycombbook_SameCells_den a0 a1 R w) h)
theorem honeycombbook_SameCells_body : hasBody Try.prog 67 = true := by kernel_rfl
theorem honeycombbook_SameCells_call {a0 a1 : Value} {R : Value → World → Prop} {w : World} (h : Calls Try.prog 67 #[a0, a1] w (rt R)) : callW Try.prog (.func (.func 67) #[] #[]) [a0, a1] w R :=
  ⟨honeycombbook_SameCells_body, h⟩
def honeycombbook_SamePages_L4 (R : Value → World → Prop) : (List Value → World → Prop) → List Value → World → Prop := fun r4 l w =>
 unc l fun t0 l =>
 unc l fun t1 l =>
 unc l fun t5 l =>
 lenSl t0 fun t13 =>
 intW .lss t5 t13 fun t14 =>
 brV t14
 (ixS 4 t0 t5 fun t19 =>
 ixS 4 t1 t5 fun t23 =>
 ldN 4 t19 w.drew fun t20 c3 =>
 ldN 4 t23 w.drew fun t24 c7 =>
 yl Try.prog (semBin .eql 104 (.tmp 20) (.tmp 24) t20 t24) fun t25 =>
 unW .not t25 fun t26 =>
 brV t26
 (R (.bool false) w.drew)
 (intW .add t5 (.int .i64 1) fun t16 =>
 r4 [t0, t1, t16] w.drew))
 (R (.bool true) w)
/-- `honeycomb/honeycombbook.SamePages` -/
def honeycombbook_SamePages (a0 a1 : Value) (R : Value → World → Prop) (w : World) : Prop :=
 lenSl a0 fun t7 =>
 lenSl a1 fun t9 =>
 intW .neq t7 t9 fun t10 =>
 brV t10
 (R (.bool false) w)
 (lp (honeycombbook_SamePages_L4 R) [a0, a1, (.int .i64 0)] w)
theorem honeycombbook_SamePages_den (a0 a1 : Value) (R : Value → World → Prop) (w : World) : denF Try.prog Try.f68 (Try.f68.body.getD .skip) [] [(4, [0, 1, 5])] [a0, a1] R w = honeycombbook_SamePages a0 a1 R w := by kernel_rfl
set_option maxRecDepth 100000 in
theorem honeycombbook_SamePages_run {a0 a1 : Value} {R : Value → World → Prop} {w : World} (h : honeycombbook_SamePages a0 a1 R w) : Calls Try.prog 68 #[a0, a1] w (rt R) :=
  run_sound (c := Try.f68.body.getD .skip) (la := []) (lb := [(4, [0, 1, 5])]) (args := [a0, a1]) mixed Try.func68 (by kernel_rfl) (by kernel_rfl) (Nat.le_of_ble_eq_true (by kernel_rfl)) (Eq.mpr (honeycombbook_SamePages_den a0 a1 R w) h)
theorem honeycombbook_SamePages_body : hasBody Try.prog 68 = true := by kernel_rfl
theorem honeycombbook_SamePages_call {a0 a1 : Value} {R : Value → World → Prop} {w : World} (h : Calls Try.prog 68 #[a0, a1] w (rt R)) : callW Try.prog (.func (.func 68) #[] #[]) [a0, a1] w R :=
  ⟨honeycombbook_SamePages_body, h⟩
def honeycombbook_SamePatches_L4 (R : Value → World → Prop) : (List Value → World → Prop) → List Value → World → Prop := fun r4 l w =>
 unc l fun t0 l =>
 unc l fun t1 l =>
 unc l fun t5 l =>
 lenSl t0 fun t13 =>
 intW .lss t5 t13 fun t14 =>
 brV t14
 (ixS 3 t0 t5 fun t19 =>
 ixS 3 t1 t5 fun t23 =>
 ldN 3 t19 w.drew fun t20 c3 =>
 ldN 3 t23 w.drew fun t24 c7 =>
 yl Try.prog (semBin .eql 107 (.tmp 20) (.tmp 24) t20 t24) fun t25 =>
 unW .not t25 fun t26 =>
 brV t26
 (R (.bool false) w.drew)
 (intW .add t5 (.int .i64 1) fun t16 =>
 r4 [t0, t1, t16] w.drew))
 (R (.bool true) w)
/-- `honeycomb/honeycombbook.SamePatches` -/
def honeycombbook_SamePatches (a0 a1 : Value) (R : Value → World → Prop) (w : World) : Prop :=
 lenSl a0 fun t7 =>
 lenSl a1 fun t9 =>
 intW .neq t7 t9 fun t10 =>
 brV t10
 (R (.bool false) w)
 (lp (honeycombbook_SamePatches_L4 R) [a0, a1, (.int .i64 0)] w)
theorem honeycombbook_SamePatches_den (a0 a1 : Value) (R : Value → World → Prop) (w : World) : denF Try.prog Try.f69 (Try.f69.body.getD .skip) [] [(4, [0, 1, 5])] [a0, a1] R w = honeycombbook_SamePatches a0 a1 R w := by kernel_rfl
set_option maxRecDepth 100000 in
theorem honeycombbook_SamePatches_run {a0 a1 : Value} {R : Value → World → Prop} {w : World} (h : honeycombbook_SamePatches a0 a1 R w) : Calls Try.prog 69 #[a0, a1] w (rt R) :=
  run_sound (c := Try.f69.body.getD .skip) (la := []) (lb := [(4, [0, 1, 5])]) (args := [a0, a1]) mixed Try.func69 (by kernel_rfl) (by kernel_rfl) (Nat.le_of_ble_eq_true (by kernel_rfl)) (Eq.mpr (honeycombbook_SamePatches_den a0 a1 R w) h)
theorem honeycombbook_SamePatches_body : hasBody Try.prog 69 = true := by kernel_rfl
theorem honeycombbook_SamePatches_call {a0 a1 : Value} {R : Value → World → Prop} {w : World} (h : Calls Try.prog 69 #[a0, a1] w (rt R)) : callW Try.prog (.func (.func 69) #[] #[]) [a0, a1] w R :=
  ⟨honeycombbook_SamePatches_body, h⟩
def honeycombbook_SameDirty_L4 (R : Value → World → Prop) : (List Value → World → Prop) → List Value → World → Prop := fun r4 l w =>
 unc l fun t0 l =>
 unc l fun t1 l =>
 unc l fun t5 l =>
 lenSl t0 fun t13 =>
 intW .lss t5 t13 fun t14 =>
 brV t14
 (ixS 2 t0 t5 fun t19 =>
 ixS 2 t1 t5 fun t23 =>
 ldN 2 t19 w.drew fun t20 c3 =>
 ldN 2 t23 w.drew fun t24 c7 =>
 yl Try.prog (semBin .eql 110 (.tmp 20) (.tmp 24) t20 t24) fun t25 =>
 unW .not t25 fun t26 =>
 brV t26
 (R (.bool false) w.drew)
 (intW .add t5 (.int .i64 1) fun t16 =>
 r4 [t0, t1, t16] w.drew))
 (R (.bool true) w)
/-- `honeycomb/honeycombbook.SameDirty` -/
def honeycombbook_SameDirty (a0 a1 : Value) (R : Value → World → Prop) (w : World) : Prop :=
 lenSl a0 fun t7 =>
 lenSl a1 fun t9 =>
 intW .neq t7 t9 fun t10 =>
 brV t10
 (R (.bool false) w)
 (lp (honeycombbook_SameDirty_L4 R) [a0, a1, (.int .i64 0)] w)
theorem honeycombbook_SameDirty_den (a0 a1 : Value) (R : Value → World → Prop) (w : World) : denF Try.prog Try.f70 (Try.f70.body.getD .skip) [] [(4, [0, 1, 5])] [a0, a1] R w = honeycombbook_SameDirty a0 a1 R w := by kernel_rfl
set_option maxRecDepth 100000 in
theorem honeycombbook_SameDirty_run {a0 a1 : Value} {R : Value → World → Prop} {w : World} (h : honeycombbook_SameDirty a0 a1 R w) : Calls Try.prog 70 #[a0, a1] w (rt R) :=
  run_sound (c := Try.f70.body.getD .skip) (la := []) (lb := [(4, [0, 1, 5])]) (args := [a0, a1]) mixed Try.func70 (by kernel_rfl) (by kernel_rfl) (Nat.le_of_ble_eq_true (by kernel_rfl)) (Eq.mpr (honeycombbook_SameDirty_den a0 a1 R w) h)
theorem honeycombbook_SameDirty_body : hasBody Try.prog 70 = true := by kernel_rfl
theorem honeycombbook_SameDirty_call {a0 a1 : Value} {R : Value → World → Prop} {w : World} (h : Calls Try.prog 70 #[a0, a1] w (rt R)) : callW Try.prog (.func (.func 70) #[] #[]) [a0, a1] w R :=
  ⟨honeycombbook_SameDirty_body, h⟩
def honeycombbook_SameEntries_L4 (R : Value → World → Prop) : (List Value → World → Prop) → List Value → World → Prop := fun r4 l w =>
 unc l fun t0 l =>
 unc l fun t1 l =>
 unc l fun t5 l =>
 lenSl t0 fun t13 =>
 intW .lss t5 t13 fun t14 =>
 brV t14
 (ixS 2 t0 t5 fun t19 =>
 ixS 2 t1 t5 fun t23 =>
 ldN 2 t19 w.drew fun t20 c3 =>
 ldN 2 t23 w.drew fun t24 c7 =>
 yl Try.prog (semBin .eql 113 (.tmp 20) (.tmp 24) t20 t24) fun t25 =>
 unW .not t25 fun t26 =>
 brV t26
 (R (.bool false) w.drew)
 (intW .add t5 (.int .i64 1) fun t16 =>
 r4 [t0, t1, t16] w.drew))
 (R (.bool true) w)
/-- `honeycomb/honeycombbook.SameEntries` -/
def honeycombbook_SameEntries (a0 a1 : Value) (R : Value → World → Prop) (w : World) : Prop :=
 lenSl a0 fun t7 =>
 lenSl a1 fun t9 =>
 intW .neq t7 t9 fun t10 =>
 brV t10
 (R (.bool false) w)
 (lp (honeycombbook_SameEntries_L4 R) [a0, a1, (.int .i64 0)] w)
theorem honeycombbook_SameEntries_den (a0 a1 : Value) (R : Value → World → Prop) (w : World) : denF Try.prog Try.f71 (Try.f71.body.getD .skip) [] [(4, [0, 1, 5])] [a0, a1] R w = honeycombbook_SameEntries a0 a1 R w := by kernel_rfl
set_option maxRecDepth 100000 in
theorem honeycombbook_SameEntries_run {a0 a1 : Value} {R : Value → World → Prop} {w : World} (h : honeycombbook_SameEntries a0 a1 R w) : Calls Try.prog 71 #[a0, a1] w (rt R) :=
  run_sound (c := Try.f71.body.getD .skip) (la := []) (lb := [(4, [0, 1, 5])]) (args := [a0, a1]) mixed Try.func71 (by kernel_rfl) (by kernel_rfl) (Nat.le_of_ble_eq_true (by kernel_rfl)) (Eq.mpr (honeycombbook_SameEntries_den a0 a1 R w) h)
theorem honeycombbook_SameEntries_body : hasBody Try.prog 71 = true := by kernel_rfl
theorem honeycombbook_SameEntries_call {a0 a1 : Value} {R : Value → World → Prop} {w : World} (h : Calls Try.prog 71 #[a0, a1] w (rt R)) : callW Try.prog (.func (.func 71) #[] #[]) [a0, a1] w R :=
  ⟨honeycombbook_SameEntries_body, h⟩
def honeycombbook_SameTxs_L4 (R : Value → World → Prop) : (List Value → World → Prop) → List Value → World → Prop := fun r4 l w =>
 unc l fun t0 l =>
 unc l fun t1 l =>
 unc l fun t5 l =>
 lenSl t0 fun t13 =>
 intW .lss t5 t13 fun t14 =>
 brV t14
 (ixS 4 t0 t5 fun t19 =>
 ixS 4 t1 t5 fun t23 =>
 ldN 4 t19 w.drew fun t20 c3 =>
 ldN 4 t23 w.drew fun t24 c7 =>
 callW Try.prog (.func (.func 93) #[] #[]) [t20, t24] w.drew fun t25 w =>
 unW .not t25 fun t26 =>
 brV t26
 (R (.bool false) w)
 (intW .add t5 (.int .i64 1) fun t16 =>
 r4 [t0, t1, t16] w))
 (R (.bool true) w)
/-- `honeycomb/honeycombbook.SameTxs` -/
def honeycombbook_SameTxs (a0 a1 : Value) (R : Value → World → Prop) (w : World) : Prop :=
 lenSl a0 fun t7 =>
 lenSl a1 fun t9 =>
 intW .neq t7 t9 fun t10 =>
 brV t10
 (R (.bool false) w)
 (lp (honeycombbook_SameTxs_L4 R) [a0, a1, (.int .i64 0)] w)
theorem honeycombbook_SameTxs_den (a0 a1 : Value) (R : Value → World → Prop) (w : World) : denF Try.prog Try.f72 (Try.f72.body.getD .skip) [] [(4, [0, 1, 5])] [a0, a1] R w = honeycombbook_SameTxs a0 a1 R w := by kernel_rfl
set_option maxRecDepth 100000 in
theorem honeycombbook_SameTxs_run {a0 a1 : Value} {R : Value → World → Prop} {w : World} (h : honeycombbook_SameTxs a0 a1 R w) : Calls Try.prog 72 #[a0, a1] w (rt R) :=
  run_sound (c := Try.f72.body.getD .skip) (la := []) (lb := [(4, [0, 1, 5])]) (args := [a0, a1]) mixed Try.func72 (by kernel_rfl) (by kernel_rfl) (Nat.le_of_ble_eq_true (by kernel_rfl)) (Eq.mpr (honeycombbook_SameTxs_den a0 a1 R w) h)
theorem honeycombbook_SameTxs_body : hasBody Try.prog 72 = true := by kernel_rfl
theorem honeycombbook_SameTxs_call {a0 a1 : Value} {R : Value → World → Prop} {w : World} (h : Calls Try.prog 72 #[a0, a1] w (rt R)) : callW Try.prog (.func (.func 72) #[] #[]) [a0, a1] w R :=
  ⟨honeycombbook_SameTxs_body, h⟩
def honeycombbook_markTxs_L3 (R : Value → World → Prop) : (List Value → World → Prop) → List Value → World → Prop := fun r3 l w =>
 unc l fun t0 l =>
 unc l fun t1 l =>
 unc l fun t2 l =>
 unc l fun t7 l =>
 unc l fun t8 l =>
 intW .add t1 t2 fun t13 =>
 intW .lss t8 t13 fun t14 =>
 brV t14
 (intW .mul (.int .i64 (-1000)) t0 fun t19 =>
 intW .sub t19 t8 fun t21 =>
 intW .sub t21 (.int .i64 1) fun t22 =>
 fillL [(0, 1), (1, 1), (2, 1), (3, 1)] #[(.int .i64 0), (.int .i64 0), (.bool false), (.slice none 0 0)] [(1, t22)] fun t23 =>
 blS 96 4 #[(.int .i64 0), (.int .i64 0), (.bool false), (.slice none 0 0)] 1 [(0, t23)] w fun t24 w =>
 sm Try.prog (bi .append #[93, 93] 93 [t7, t24]) w fun t25 w =>
 intW .add t8 (.int .i64 1) fun t16 =>
 r3 [t0, t1, t2, t25, t16] w)
 (R t7 w)
/-- `honeycomb/honeycombbook.markTxs` -/
def honeycombbook_markTxs (a0 a1 a2 : Value) (R : Value → World → Prop) (w : World) : Prop :=
 lp (honeycombbook_markTxs_L3 R) [a0, a1, a2, (.slice none 0 0), a1] w
theorem honeycombbook_markTxs_den (a0 a1 a2 : Value) (R : Value → World → Prop) (w : World) : denF Try.prog Try.f73 (Try.f73.body.getD .skip) [] [(3, [0, 1, 2, 7, 8])] [a0, a1, a2] R w = honeycombbook_markTxs a0 a1 a2 R w := by kernel_rfl
set_option maxRecDepth 100000 in
theorem honeycombbook_markTxs_run {a0 a1 a2 : Value} {R : Value → World → Prop} {w : World} (h : honeycombbook_markTxs a0 a1 a2 R w) : Calls Try.prog 73 #[a0, a1, a2] w (rt R) :=
  run_sound (c := Try.f73.body.getD .skip) (la := []) (lb := [(3, [0, 1, 2, 7, 8])]) (args := [a0, a1, a2]) mixed Try.func73 (by kernel_rfl) (by kernel_rfl) (Nat.le_of_ble_eq_true (by kernel_rfl)) (Eq.mpr (honeycombbook_markTxs_den a0 a1 a2 R w) h)
theorem honeycombbook_markTxs_body : hasBody Try.prog 73 = true := by kernel_rfl
theorem honeycombbook_markTxs_call {a0 a1 a2 : Value} {R : Value → World → Prop} {w : World} (h : Calls Try.prog 73 #[a0, a1, a2] w (rt R)) : callW Try.prog (.func (.func 73) #[] #[]) [a0, a1, a2] w R :=
  ⟨honeycombbook_markTxs_body, h⟩
def honeycombbook_markInts_L3 (R : Value → World → Prop) : (List Value → World → Prop) → List Value → World → Prop := fun r3 l w =>
 unc l fun t0 l =>
 unc l fun t1 l =>
 unc l fun t2 l =>
 unc l fun t7 l =>
 unc l fun t8 l =>
 intW .add t1 t2 fun t13 =>
 intW .lss t8 t13 fun t14 =>
 brV t14
 (intW .mul (.int .i64 (-1000000)) t0 fun t19 =>
 intW .sub t19 t8 fun t21 =>
 intW .sub t21 (.int .i64 7) fun t22 =>
 blS 3 1 #[(.int .i64 0)] 1 [(0, t22)] w fun t23 w =>
 sm Try.prog (bi .append #[25, 25] 25 [t7, t23]) w fun t24 w =>
 intW .add t8 (.int .i64 1) fun t16 =>
 r3 [t0, t1, t2, t24, t16] w)
 (R t7 w)
/-- `honeycomb/honeycombbook.markInts` -/
def honeycombbook_markInts (a0 a1 a2 : Value) (R : Value → World → Prop) (w : World) : Prop :=
 lp (honeycombbook_markInts_L3 R) [a0, a1, a2, (.slice none 0 0), a1] w
theorem honeycombbook_markInts_den (a0 a1 a2 : Value) (R : Value → World → Prop) (w : World) : denF Try.prog Try.f74 (Try.f74.body.getD .skip) [] [(3, [0, 1, 2, 7, 8])] [a0, a1, a2] R w = honeycombbook_markInts a0 a1 a2 R w := by kernel_rfl
set_option maxRecDepth 100000 in
theorem honeycombbook_markInts_run {a0 a1 a2 : Value} {R : Value → World → Prop} {w : World} (h : honeycombbook_markInts a0 a1 a2 R w) : Calls Try.prog 74 #[a0, a1, a2] w (rt R) :=
  run_sound (c := Try.f74.body.getD .skip) (la := []) (lb := [(3, [0, 1, 2, 7, 8])]) (args := [a0, a1, a2]) mixed Try.func74 (by kernel_rfl) (by kernel_rfl) (Nat.le_of_ble_eq_true (by kernel_rfl)) (Eq.mpr (honeycombbook_markInts_den a0 a1 a2 R w) h)
theorem honeycombbook_markInts_body : hasBody Try.prog 74 = true := by kernel_rfl
theorem honeycombbook_markInts_call {a0 a1 a2 : Value} {R : Value → World → Prop} {w : World} (h : Calls Try.prog 74 #[a0, a1, a2] w (rt R)) : callW Try.prog (.func (.func 74) #[] #[]) [a0, a1, a2] w R :=
  ⟨honeycombbook_markInts_body, h⟩
def honeycombbook_markTexts_L3 (R : Value → World → Prop) : (List Value → World → Prop) → List Value → World → Prop := fun r3 l w =>
 unc l fun t0 l =>
 unc l fun t1 l =>
 unc l fun t2 l =>
 unc l fun t7 l =>
 unc l fun t8 l =>
 intW .add t1 t2 fun t13 =>
 intW .lss t8 t13 fun t14 =>
 brV t14
 (callW Try.prog (.func (.func 94) #[] #[]) [t0, t8] w fun t20 w =>
 blS 9 1 #[(.string ⟨#[]⟩)] 1 [(0, t20)] w fun t21 w =>
 sm Try.prog (bi .append #[81, 81] 81 [t7, t21]) w fun t22 w =>
 intW .add t8 (.int .i64 1) fun t16 =>
 r3 [t0, t1, t2, t22, t16] w)
 (R t7 w)
/-- `honeycomb/honeycombbook.markTexts` -/
def honeycombbook_markTexts (a0 a1 a2 : Value) (R : Value → World → Prop) (w : World) : Prop :=
 lp (honeycombbook_markTexts_L3 R) [a0, a1, a2, (.slice none 0 0), a1] w
theorem honeycombbook_markTexts_den (a0 a1 a2 : Value) (R : Value → World → Prop) (w : World) : denF Try.prog Try.f75 (Try.f75.body.getD .skip) [] [(3, [0, 1, 2, 7, 8])] [a0, a1, a2] R w = honeycombbook_markTexts a0 a1 a2 R w := by kernel_rfl
set_option maxRecDepth 100000 in
theorem honeycombbook_markTexts_run {a0 a1 a2 : Value} {R : Value → World → Prop} {w : World} (h : honeycombbook_markTexts a0 a1 a2 R w) : Calls Try.prog 75 #[a0, a1, a2] w (rt R) :=
  run_sound (c := Try.f75.body.getD .skip) (la := []) (lb := [(3, [0, 1, 2, 7, 8])]) (args := [a0, a1, a2]) mixed Try.func75 (by kernel_rfl) (by kernel_rfl) (Nat.le_of_ble_eq_true (by kernel_rfl)) (Eq.mpr (honeycombbook_markTexts_den a0 a1 a2 R w) h)
theorem honeycombbook_markTexts_body : hasBody Try.prog 75 = true := by kernel_rfl
theorem honeycombbook_markTexts_call {a0 a1 a2 : Value} {R : Value → World → Prop} {w : World} (h : Calls Try.prog 75 #[a0, a1, a2] w (rt R)) : callW Try.prog (.func (.func 75) #[] #[]) [a0, a1, a2] w R :=
  ⟨honeycombbook_markTexts_body, h⟩
def honeycombbook_markCells_L3 (R : Value → World → Prop) : (List Value → World → Prop) → List Value → World → Prop := fun r3 l w =>
 unc l fun t0 l =>
 unc l fun t1 l =>
 unc l fun t2 l =>
 unc l fun t7 l =>
 unc l fun t8 l =>
 intW .add t1 t2 fun t13 =>
 intW .lss t8 t13 fun t14 =>
 brV t14
 (intW .mul (.int .i64 (-1000)) t0 fun t19 =>
 intW .sub t19 t8 fun t21 =>
 intW .sub t21 (.int .i64 1) fun t22 =>
 fillL [(0, 1), (1, 1), (2, 1), (3, 1)] #[(.string ⟨#[]⟩), (.string ⟨#[]⟩), (.int .i64 0), (.int .i64 0)] [(3, t22)] fun t23 =>
 blS 101 4 #[(.string ⟨#[]⟩), (.string ⟨#[]⟩), (.int .i64 0), (.int .i64 0)] 1 [(0, t23)] w fun t24 w =>
 sm Try.prog (bi .append #[83, 83] 83 [t7, t24]) w fun t25 w =>
 intW .add t8 (.int .i64 1) fun t16 =>
 r3 [t0, t1, t2, t25, t16] w)
 (R t7 w)
/-- `honeycomb/honeycombbook.markCells` -/
def honeycombbook_markCells (a0 a1 a2 : Value) (R : Value → World → Prop) (w : World) : Prop :=
 lp (honeycombbook_markCells_L3 R) [a0, a1, a2, (.slice none 0 0), a1] w
theorem honeycombbook_markCells_den (a0 a1 a2 : Value) (R : Value → World → Prop) (w : World) : denF Try.prog Try.f76 (Try.f76.body.getD .skip) [] [(3, [0, 1, 2, 7, 8])] [a0, a1, a2] R w = honeycombbook_markCells a0 a1 a2 R w := by kernel_rfl
set_option maxRecDepth 100000 in
theorem honeycombbook_markCells_run {a0 a1 a2 : Value} {R : Value → World → Prop} {w : World} (h : honeycombbook_markCells a0 a1 a2 R w) : Calls Try.prog 76 #[a0, a1, a2] w (rt R) :=
  run_sound (c := Try.f76.body.getD .skip) (la := []) (lb := [(3, [0, 1, 2, 7, 8])]) (args := [a0, a1, a2]) mixed Try.func76 (by kernel_rfl) (by kernel_rfl) (Nat.le_of_ble_eq_true (by kernel_rfl)) (Eq.mpr (honeycombbook_markCells_den a0 a1 a2 R w) h)
theorem honeycombbook_markCells_body : hasBody Try.prog 76 = true := by kernel_rfl
theorem honeycombbook_markCells_call {a0 a1 a2 : Value} {R : Value → World → Prop} {w : World} (h : Calls Try.prog 76 #[a0, a1, a2] w (rt R)) : callW Try.prog (.func (.func 76) #[] #[]) [a0, a1, a2] w R :=
  ⟨honeycombbook_markCells_body, h⟩
def honeycombbook_markPages_L3 (R : Value → World → Prop) : (List Value → World → Prop) → List Value → World → Prop := fun r3 l w =>
 unc l fun t0 l =>
 unc l fun t1 l =>
 unc l fun t2 l =>
 unc l fun t7 l =>
 unc l fun t8 l =>
 intW .add t1 t2 fun t13 =>
 intW .lss t8 t13 fun t14 =>
 brV t14
 (intW .mul (.int .i64 (-1000)) t0 fun t19 =>
 intW .sub t19 t8 fun t21 =>
 intW .sub t21 (.int .i64 1) fun t22 =>
 fillL [(0, 1), (1, 1), (2, 1), (3, 1)] #[(.int .i64 0), (.int .i64 0), (.int .i64 0), (.string ⟨#[]⟩)] [(1, t22)] fun t23 =>
 blS 104 4 #[(.int .i64 0), (.int .i64 0), (.int .i64 0), (.string ⟨#[]⟩)] 1 [(0, t23)] w fun t24 w =>
 sm Try.prog (bi .append #[85, 85] 85 [t7, t24]) w fun t25 w =>
 intW .add t8 (.int .i64 1) fun t16 =>
 r3 [t0, t1, t2, t25, t16] w)
 (R t7 w)
/-- `honeycomb/honeycombbook.markPages` -/
def honeycombbook_markPages (a0 a1 a2 : Value) (R : Value → World → Prop) (w : World) : Prop :=
 lp (honeycombbook_markPages_L3 R) [a0, a1, a2, (.slice none 0 0), a1] w
theorem honeycombbook_markPages_den (a0 a1 a2 : Value) (R : Value → World → Prop) (w : World) : denF Try.prog Try.f77 (Try.f77.body.getD .skip) [] [(3, [0, 1, 2, 7, 8])] [a0, a1, a2] R w = honeycombbook_markPages a0 a1 a2 R w := by kernel_rfl
set_option maxRecDepth 100000 in
theorem honeycombbook_markPages_run {a0 a1 a2 : Value} {R : Value → World → Prop} {w : World} (h : honeycombbook_markPages a0 a1 a2 R w) : Calls Try.prog 77 #[a0, a1, a2] w (rt R) :=
  run_sound (c := Try.f77.body.getD .skip) (la := []) (lb := [(3, [0, 1, 2, 7, 8])]) (args := [a0, a1, a2]) mixed Try.func77 (by kernel_rfl) (by kernel_rfl) (Nat.le_of_ble_eq_true (by kernel_rfl)) (Eq.mpr (honeycombbook_markPages_den a0 a1 a2 R w) h)
theorem honeycombbook_markPages_body : hasBody Try.prog 77 = true := by kernel_rfl
theorem honeycombbook_markPages_call {a0 a1 a2 : Value} {R : Value → World → Prop} {w : World} (h : Calls Try.prog 77 #[a0, a1, a2] w (rt R)) : callW Try.prog (.func (.func 77) #[] #[]) [a0, a1, a2] w R :=
  ⟨honeycombbook_markPages_body, h⟩
def honeycombbook_markPatches_L3 (R : Value → World → Prop) : (List Value → World → Prop) → List Value → World → Prop := fun r3 l w =>
 unc l fun t0 l =>
 unc l fun t1 l =>
 unc l fun t2 l =>
 unc l fun t7 l =>
 unc l fun t8 l =>
 intW .add t1 t2 fun t13 =>
 intW .lss t8 t13 fun t14 =>
 brV t14
 (intW .mul (.int .i64 (-1000)) t0 fun t19 =>
 intW .sub t19 t8 fun t21 =>
 intW .sub t21 (.int .i64 1) fun t22 =>
 fillL [(0, 1), (1, 1), (2, 1)] #[(.int .i64 0), (.int .i64 0), (.string ⟨#[]⟩)] [(1, t22)] fun t23 =>
 blS 107 3 #[(.int .i64 0), (.int .i64 0), (.string ⟨#[]⟩)] 1 [(0, t23)] w fun t24 w =>
 sm Try.prog (bi .append #[87, 87] 87 [t7, t24]) w fun t25 w =>
 intW .add t8 (.int .i64 1) fun t16 =>
 r3 [t0, t1, t2, t25, t16] w)
 (R t7 w)
/-- `honeycomb/honeycombbook.markPatches` -/
def honeycombbook_markPatches (a0 a1 a2 : Value) (R : Value → World → Prop) (w : World) : Prop :=
 lp (honeycombbook_markPatches_L3 R) [a0, a1, a2, (.slice none 0 0), a1] w
theorem honeycombbook_markPatches_den (a0 a1 a2 : Value) (R : Value → World → Prop) (w : World) : denF Try.prog Try.f78 (Try.f78.body.getD .skip) [] [(3, [0, 1, 2, 7, 8])] [a0, a1, a2] R w = honeycombbook_markPatches a0 a1 a2 R w := by kernel_rfl
set_option maxRecDepth 100000 in
theorem honeycombbook_markPatches_run {a0 a1 a2 : Value} {R : Value → World → Prop} {w : World} (h : honeycombbook_markPatches a0 a1 a2 R w) : Calls Try.prog 78 #[a0, a1, a2] w (rt R) :=
  run_sound (c := Try.f78.body.getD .skip) (la := []) (lb := [(3, [0, 1, 2, 7, 8])]) (args := [a0, a1, a2]) mixed Try.func78 (by kernel_rfl) (by kernel_rfl) (Nat.le_of_ble_eq_true (by kernel_rfl)) (Eq.mpr (honeycombbook_markPatches_den a0 a1 a2 R w) h)
theorem honeycombbook_markPatches_body : hasBody Try.prog 78 = true := by kernel_rfl
theorem honeycombbook_markPatches_call {a0 a1 a2 : Value} {R : Value → World → Prop} {w : World} (h : Calls Try.prog 78 #[a0, a1, a2] w (rt R)) : callW Try.prog (.func (.func 78) #[] #[]) [a0, a1, a2] w R :=
  ⟨honeycombbook_markPatches_body, h⟩
def honeycombbook_markDirty_L3 (R : Value → World → Prop) : (List Value → World → Prop) → List Value → World → Prop := fun r3 l w =>
 unc l fun t0 l =>
 unc l fun t1 l =>
 unc l fun t2 l =>
 unc l fun t7 l =>
 unc l fun t8 l =>
 intW .add t1 t2 fun t13 =>
 intW .lss t8 t13 fun t14 =>
 brV t14
 (intW .mul (.int .i64 (-1000)) t0 fun t19 =>
 intW .sub t19 t8 fun t21 =>
 intW .sub t21 (.int .i64 1) fun t22 =>
 fillL [(0, 1), (1, 1)] #[(.int .i64 0), (.int .i64 0)] [(1, t22)] fun t23 =>
 blS 110 2 #[(.int .i64 0), (.int .i64 0)] 1 [(0, t23)] w fun t24 w =>
 sm Try.prog (bi .append #[89, 89] 89 [t7, t24]) w fun t25 w =>
 intW .add t8 (.int .i64 1) fun t16 =>
 r3 [t0, t1, t2, t25, t16] w)
 (R t7 w)
/-- `honeycomb/honeycombbook.markDirty` -/
def honeycombbook_markDirty (a0 a1 a2 : Value) (R : Value → World → Prop) (w : World) : Prop :=
 lp (honeycombbook_markDirty_L3 R) [a0, a1, a2, (.slice none 0 0), a1] w
theorem honeycombbook_markDirty_den (a0 a1 a2 : Value) (R : Value → World → Prop) (w : World) : denF Try.prog Try.f79 (Try.f79.body.getD .skip) [] [(3, [0, 1, 2, 7, 8])] [a0, a1, a2] R w = honeycombbook_markDirty a0 a1 a2 R w := by kernel_rfl
set_option maxRecDepth 100000 in
theorem honeycombbook_markDirty_run {a0 a1 a2 : Value} {R : Value → World → Prop} {w : World} (h : honeycombbook_markDirty a0 a1 a2 R w) : Calls Try.prog 79 #[a0, a1, a2] w (rt R) :=
  run_sound (c := Try.f79.body.getD .skip) (la := []) (lb := [(3, [0, 1, 2, 7, 8])]) (args := [a0, a1, a2]) mixed Try.func79 (by kernel_rfl) (by kernel_rfl) (Nat.le_of_ble_eq_true (by kernel_rfl)) (Eq.mpr (honeycombbook_markDirty_den a0 a1 a2 R w) h)
theorem honeycombbook_markDirty_body : hasBody Try.prog 79 = true := by kernel_rfl
theorem honeycombbook_markDirty_call {a0 a1 a2 : Value} {R : Value → World → Prop} {w : World} (h : Calls Try.prog 79 #[a0, a1, a2] w (rt R)) : callW Try.prog (.func (.func 79) #[] #[]) [a0, a1, a2] w R :=
  ⟨honeycombbook_markDirty_body, h⟩
def honeycombbook_markEntries_L3 (R : Value → World → Prop) : (List Value → World → Prop) → List Value → World → Prop := fun r3 l w =>
 unc l fun t0 l =>
 unc l fun t1 l =>
 unc l fun t2 l =>
 unc l fun t7 l =>
 unc l fun t8 l =>
 intW .add t1 t2 fun t13 =>
 intW .lss t8 t13 fun t14 =>
 brV t14
 (callW Try.prog (.func (.func 94) #[] #[]) [t0, t8] w fun t20 w =>
 fillL [(0, 1), (1, 1)] #[(.string ⟨#[]⟩), (.string ⟨#[]⟩)] [(0, t20)] fun t21 =>
 blS 113 2 #[(.string ⟨#[]⟩), (.string ⟨#[]⟩)] 1 [(0, t21)] w fun t22 w =>
 sm Try.prog (bi .append #[91, 91] 91 [t7, t22]) w fun t23 w =>
 intW .add t8 (.int .i64 1) fun t16 =>
 r3 [t0, t1, t2, t23, t16] w)
 (R t7 w)
/-- `honeycomb/honeycombbook.markEntries` -/
def honeycombbook_markEntries (a0 a1 a2 : Value) (R : Value → World → Prop) (w : World) : Prop :=
 lp (honeycombbook_markEntries_L3 R) [a0, a1, a2, (.slice none 0 0), a1] w
theorem honeycombbook_markEntries_den (a0 a1 a2 : Value) (R : Value → World → Prop) (w : World) : denF Try.prog Try.f80 (Try.f80.body.getD .skip) [] [(3, [0, 1, 2, 7, 8])] [a0, a1, a2] R w = honeycombbook_markEntries a0 a1 a2 R w := by kernel_rfl
set_option maxRecDepth 100000 in
theorem honeycombbook_markEntries_run {a0 a1 a2 : Value} {R : Value → World → Prop} {w : World} (h : honeycombbook_markEntries a0 a1 a2 R w) : Calls Try.prog 80 #[a0, a1, a2] w (rt R) :=
  run_sound (c := Try.f80.body.getD .skip) (la := []) (lb := [(3, [0, 1, 2, 7, 8])]) (args := [a0, a1, a2]) mixed Try.func80 (by kernel_rfl) (by kernel_rfl) (Nat.le_of_ble_eq_true (by kernel_rfl)) (Eq.mpr (honeycombbook_markEntries_den a0 a1 a2 R w) h)
theorem honeycombbook_markEntries_body : hasBody Try.prog 80 = true := by kernel_rfl
theorem honeycombbook_markEntries_call {a0 a1 a2 : Value} {R : Value → World → Prop} {w : World} (h : Calls Try.prog 80 #[a0, a1, a2] w (rt R)) : callW Try.prog (.func (.func 80) #[] #[]) [a0, a1, a2] w R :=
  ⟨honeycombbook_markEntries_body, h⟩
def honeycombbook_markPairs_L3 (R : Value → World → Prop) : (List Value → World → Prop) → List Value → World → Prop := fun r3 l w =>
 unc l fun t0 l =>
 unc l fun t1 l =>
 unc l fun t2 l =>
 unc l fun t7 l =>
 unc l fun t8 l =>
 intW .add t1 t2 fun t13 =>
 intW .lss t8 t13 fun t14 =>
 brV t14
 (intW .mul (.int .i64 (-1000)) t0 fun t19 =>
 intW .sub t19 t8 fun t21 =>
 intW .sub t21 (.int .i64 1) fun t22 =>
 yl Try.prog (Instr.build 43 [(0, t22), (1, (.int .i64 3))].toArray) fun t23 =>
 blS 43 2 #[(.int .i64 0), (.int .i64 0)] 1 [(0, t23)] w fun t24 w =>
 sm Try.prog (bi .append #[22, 22] 22 [t7, t24]) w fun t25 w =>
 intW .add t8 (.int .i64 1) fun t16 =>
 r3 [t0, t1, t2, t25, t16] w)
 (R t7 w)
/-- `honeycomb/honeycombbook.markPairs` -/
def honeycombbook_markPairs (a0 a1 a2 : Value) (R : Value → World → Prop) (w : World) : Prop :=
 lp (honeycombbook_markPairs_L3 R) [a0, a1, a2, (.slice none 0 0), a1] w
theorem honeycombbook_markPairs_den (a0 a1 a2 : Value) (R : Value → World → Prop) (w : World) : denF Try.prog Try.f81 (Try.f81.body.getD .skip) [] [(3, [0, 1, 2, 7, 8])] [a0, a1, a2] R w = honeycombbook_markPairs a0 a1 a2 R w := by kernel_rfl
set_option maxRecDepth 100000 in
theorem honeycombbook_markPairs_run {a0 a1 a2 : Value} {R : Value → World → Prop} {w : World} (h : honeycombbook_markPairs a0 a1 a2 R w) : Calls Try.prog 81 #[a0, a1, a2] w (rt R) :=
  run_sound (c := Try.f81.body.getD .skip) (la := []) (lb := [(3, [0, 1, 2, 7, 8])]) (args := [a0, a1, a2]) mixed Try.func81 (by kernel_rfl) (by kernel_rfl) (Nat.le_of_ble_eq_true (by kernel_rfl)) (Eq.mpr (honeycombbook_markPairs_den a0 a1 a2 R w) h)
theorem honeycombbook_markPairs_body : hasBody Try.prog 81 = true := by kernel_rfl
theorem honeycombbook_markPairs_call {a0 a1 a2 : Value} {R : Value → World → Prop} {w : World} (h : Calls Try.prog 81 #[a0, a1, a2] w (rt R)) : callW Try.prog (.func (.func 81) #[] #[]) [a0, a1, a2] w R :=
  ⟨honeycombbook_markPairs_body, h⟩
/-- `honeycomb/honeycombbook.SameTx` -/
def honeycombbook_SameTx (a0 a1 : Value) (R : Value → World → Prop) (w : World) : Prop :=
 alW (Value.cells a0) 96 w fun t2 w =>
 alW (Value.cells a1) 96 w fun t3 w =>
 fld 0 t2 fun t5 =>
 ldC t5 w fun t6 _ =>
 fld 0 t3 fun t7 =>
 ldC t7 w fun t8 _ =>
 intW .eql t6 t8 fun t9 =>
 brV t9
 (fld 1 t2 fun t11 =>
 ldC t11 w fun t12 _ =>
 fld 1 t3 fun t13 =>
 ldC t13 w fun t14 _ =>
 intW .eql t12 t14 fun t15 =>
 brV t15
 (fld 2 t2 fun t18 =>
 ldC t18 w fun t19 _ =>
 fld 2 t3 fun t20 =>
 ldC t20 w fun t21 _ =>
 nilW 6 .eql t19 t21 fun t22 =>
 brV t22
 (fld 3 t2 fun t25 =>
 ldC t25 w fun t26 _ =>
 fld 3 t3 fun t27 =>
 ldC t27 w fun t28 _ =>
 callW Try.prog (.func (.func 10) #[] #[]) [t26, t28] w fun t29 w =>
 R t29 w)
 (R (.bool false) w))
 (R (.bool false) w))
 (R (.bool false) w)
theorem honeycombbook_SameTx_den (a0 a1 : Value) (R : Value → World → Prop) (w : World) : denF Try.prog Try.f93 (Try.f93.body.getD .skip) [] [] [a0, a1] R w = honeycombbook_SameTx a0 a1 R w := by kernel_rfl
set_option maxRecDepth 100000 in
theorem honeycombbook_SameTx_run {a0 a1 : Value} {R : Value → World → Prop} {w : World} (h : honeycombbook_SameTx a0 a1 R w) : Calls Try.prog 93 #[a0, a1] w (rt R) :=
  run_sound (c := Try.f93.body.getD .skip) (la := []) (lb := []) (args := [a0, a1]) mixed Try.func93 (by kernel_rfl) (by kernel_rfl) (Nat.le_of_ble_eq_true (by kernel_rfl)) (Eq.mpr (honeycombbook_SameTx_den a0 a1 R w) h)
theorem honeycombbook_SameTx_body : hasBody Try.prog 93 = true := by kernel_rfl
theorem honeycombbook_SameTx_call {a0 a1 : Value} {R : Value → World → Prop} {w : World} (h : Calls Try.prog 93 #[a0, a1] w (rt R)) : callW Try.prog (.func (.func 93) #[] #[]) [a0, a1] w R :=
  ⟨honeycombbook_SameTx_body, h⟩
/-- `honeycomb/honeycombbook.name` -/
def honeycombbook_name (a0 a1 : Value) (R : Value → World → Prop) (w : World) : Prop :=
 intW .rem a0 (.int .i64 26) fun t6 =>
 intW .add (.int .i64 65) t6 fun t7 =>
 cvI .u8 t7 fun t8 =>
 intW .quo a0 (.int .i64 26) fun t10 =>
 intW .rem t10 (.int .i64 26) fun t11 =>
 intW .add (.int .i64 65) t11 fun t12 =>
 cvI .u8 t12 fun t13 =>
 intW .rem a1 (.int .i64 10) fun t15 =>
 intW .add (.int .i64 48) t15 fun t16 =>
 cvI .u8 t16 fun t17 =>
 intW .quo a1 (.int .i64 10) fun t19 =>
 intW .rem t19 (.int .i64 10) fun t20 =>
 intW .add (.int .i64 48) t20 fun t21 =>
 cvI .u8 t21 fun t22 =>
 intW .quo a1 (.int .i64 100) fun t24 =>
 intW .rem t24 (.int .i64 10) fun t25 =>
 intW .add (.int .i64 48) t25 fun t26 =>
 cvI .u8 t26 fun t27 =>
 blS 5 1 #[(.int .u8 0)] 6 [(0, (.int .u8 109)), (1, t8), (2, t13), (3, t17), (4, t22), (5, t27)] w fun t28 w =>
 sm Try.prog (convert 136 9 t28) w fun t29 w =>
 R t29 w
theorem honeycombbook_name_den (a0 a1 : Value) (R : Value → World → Prop) (w : World) : denF Try.prog Try.f94 (Try.f94.body.getD .skip) [] [] [a0, a1] R w = honeycombbook_name a0 a1 R w := by kernel_rfl
set_option maxRecDepth 100000 in
theorem honeycombbook_name_run {a0 a1 : Value} {R : Value → World → Prop} {w : World} (h : honeycombbook_name a0 a1 R w) : Calls Try.prog 94 #[a0, a1] w (rt R) :=
  run_sound (c := Try.f94.body.getD .skip) (la := []) (lb := []) (args := [a0, a1]) mixed Try.func94 (by kernel_rfl) (by kernel_rfl) (Nat.le_of_ble_eq_true (by kernel_rfl)) (Eq.mpr (honeycombbook_name_den a0 a1 R w) h)
theorem honeycombbook_name_body : hasBody Try.prog 94 = true := by kernel_rfl
theorem honeycombbook_name_call {a0 a1 : Value} {R : Value → World → Prop} {w : World} (h : Calls Try.prog 94 #[a0, a1] w (rt R)) : callW Try.prog (.func (.func 94) #[] #[]) [a0, a1] w R :=
  ⟨honeycombbook_name_body, h⟩
end Go.Proofs.Ytlicdhdpngahgaa
