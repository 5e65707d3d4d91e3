/- The texts of functions over the engine's words, each with the theorem that the machine's call does what it tells. Written by eng.py out of Lean's print of the loaded program; Lean's kernel checks them against it. -/
import Derived.Test.YtlicdhdpngahgaaDoorEngD
import Derived.Test.YtlicdhdpngahgaaDoorProg
set_option linter.unusedVariables false
namespace Go.Proofs.YtlicdhdpngahgaaDoor
open Go.Eng
theorem mixed : Tryd.prog.follows .mixedOrders = true := by kernel_rfl
def honeycomblaw12_RecordBytes_J2 (R : Value → World → Prop) : List Value → World → Prop := fun l w =>
 callW Tryd.prog (.func (.func 16) #[] #[]) [] w fun t36 w =>
 R t36 w
def honeycomblaw12_RecordBytes_J7 (R : Value → World → Prop) : List Value → World → Prop := fun l w =>
 R (.bool false) w
def honeycomblaw12_RecordBytes_J10 (R : Value → World → Prop) : List Value → World → Prop := fun l w =>
 unc l fun t2 l =>
 unc l fun t3 l =>
 unc l fun t5 l =>
 ldN 14 t5 w fun t60 _ =>
 callW Tryd.prog (.func (.func 18) #[] #[]) [t60] w fun t61 w =>
 exW t61 0 fun t62 =>
 exW t61 1 fun t63 =>
 unW .not t63 fun t65 =>
 brV t65
 (strW .eql t62 (.string ⟨#[]⟩) fun t67 =>
 R t67 w)
 (lenStr t62 fun t69 =>
 intW .eql t69 (.int .i64 0) fun t70 =>
 brV t70
 (R (.bool false) w)
 (lenStr t62 fun t75 =>
 intW .rem t2 t75 fun t76 =>
 lenStr t62 fun t78 =>
 intW .add t76 t78 fun t79 =>
 lenStr t62 fun t81 =>
 intW .rem t79 t81 fun t82 =>
 slStr t62 none (some t82) none fun t83 =>
 callW Tryd.prog (.func (.func 17) #[] #[]) [t83] w fun t84 w =>
 exW t84 0 fun t85 =>
 exW t84 1 fun t86 =>
 alW #[(.int .i64 0), (.int .i64 0), (.int .i64 0), (.int .i64 0), (.string ⟨#[]⟩), (.bool false), (.string ⟨#[]⟩), (.string ⟨#[]⟩), (.int .i64 0), (.int .i64 0), (.slice none 0 0), (.slice none 0 0), (.slice none 0 0), (.slice none 0 0)] 29 w fun t15 w =>
 stN 14 t15 t85 w fun w =>
 strW .add t62 t3 fun t90 =>
 callW Tryd.prog (.func (.func 17) #[] #[]) [t90] w fun t91 w =>
 exW t91 0 fun t92 =>
 exW t91 1 fun t93 =>
 alW #[(.int .i64 0), (.int .i64 0), (.int .i64 0), (.int .i64 0), (.string ⟨#[]⟩), (.bool false), (.string ⟨#[]⟩), (.string ⟨#[]⟩), (.int .i64 0), (.int .i64 0), (.slice none 0 0), (.slice none 0 0), (.slice none 0 0), (.slice none 0 0)] 29 w fun t17 w =>
 stN 14 t17 t92 w fun w =>
 unW .not t86 fun t95 =>
 brV t95
 (strW .eql t3 (.string ⟨#[]⟩) fun t99 =>
 nilW 6 .eql t93 t99 fun t100 =>
 R t100 w)
 (R (.bool false) w)))
/-- `honeycomb/honeycomblaw12.RecordBytes` -/
def honeycomblaw12_RecordBytes (a0 a1 a2 a3 : Value) (R : Value → World → Prop) (w : World) : Prop :=
 alW (Value.cells a1) 29 w fun t5 w =>
 lenStr a0 fun t20 =>
 intW .gtr t20 (.int .i64 600) fun t21 =>
 brV t21
 (jn (honeycomblaw12_RecordBytes_J2 R) [] w)
 (ldN 14 t5 w fun t23 _ =>
 callW Tryd.prog (.func (.func 15) #[] #[]) [t23] w fun t24 w =>
 unW .not t24 fun t25 =>
 brV t25
 (jn (honeycomblaw12_RecordBytes_J2 R) [] w)
 (lenStr a3 fun t29 =>
 intW .gtr t29 (.int .i64 40) fun t30 =>
 brV t30
 (jn (honeycomblaw12_RecordBytes_J2 R) [] w)
 (callW Tryd.prog (.func (.func 16) #[] #[]) [] w fun t33 w =>
 unW .not t33 fun t34 =>
 brV t34
 (jn (honeycomblaw12_RecordBytes_J2 R) [] w)
 (callW Tryd.prog (.func (.func 17) #[] #[]) [a0] w fun t39 w =>
 exW t39 0 fun t40 =>
 exW t39 1 fun t41 =>
 alW #[(.int .i64 0), (.int .i64 0), (.int .i64 0), (.int .i64 0), (.string ⟨#[]⟩), (.bool false), (.string ⟨#[]⟩), (.string ⟨#[]⟩), (.int .i64 0), (.int .i64 0), (.slice none 0 0), (.slice none 0 0), (.slice none 0 0), (.slice none 0 0)] 29 w fun t9 w =>
 stN 14 t9 t40 w fun w =>
 brV t41
 (ldN 14 t9 w fun t44 _ =>
 callW Tryd.prog (.func (.func 18) #[] #[]) [t44] w fun t45 w =>
 exW t45 0 fun t46 =>
 exW t45 1 fun t47 =>
 unW .not t47 fun t49 =>
 brV t49
 (jn (honeycomblaw12_RecordBytes_J7 R) [] w)
 (strW .neq t46 a0 fun t53 =>
 brV t53
 (jn (honeycomblaw12_RecordBytes_J7 R) [] w)
 (jn (honeycomblaw12_RecordBytes_J10 R) [a2, a3, t5] w)))
 (ldN 14 t9 w fun t55 _ =>
 fillL [(0, 1), (1, 1), (2, 1), (3, 1), (4, 1), (5, 1), (6, 4), (10, 1), (11, 1), (12, 1), (13, 1)] #[(.int .i64 0), (.int .i64 0), (.int .i64 0), (.int .i64 0), (.string ⟨#[]⟩), (.bool false), (.string ⟨#[]⟩), (.string ⟨#[]⟩), (.int .i64 0), (.int .i64 0), (.slice none 0 0), (.slice none 0 0), (.slice none 0 0), (.slice none 0 0)] [] fun t56 =>
 callW Tryd.prog (.func (.func 19) #[] #[]) [t55, t56] w fun t57 w =>
 unW .not t57 fun t58 =>
 brV t58
 (R (.bool false) w)
 (jn (honeycomblaw12_RecordBytes_J10 R) [a2, a3, t5] w))))))
theorem honeycomblaw12_RecordBytes_den (a0 a1 a2 a3 : Value) (R : Value → World → Prop) (w : World) : denF Tryd.prog Tryd.f3 (Tryd.f3.body.getD .skip) [(2, []), (7, []), (10, [2, 3, 5])] [] [a0, a1, a2, a3] R w = honeycomblaw12_RecordBytes a0 a1 a2 a3 R w := by kernel_rfl
set_option maxRecDepth 100000 in
theorem honeycomblaw12_RecordBytes_run {a0 a1 a2 a3 : Value} {R : Value → World → Prop} {w : World} (h : honeycomblaw12_RecordBytes a0 a1 a2 a3 R w) : Calls Tryd.prog 3 #[a0, a1, a2, a3] w (rt R) :=
  run_sound (c := Tryd.f3.body.getD .skip) (la := [(2, []), (7, []), (10, [2, 3, 5])]) (lb := []) (args := [a0, a1, a2, a3]) mixed Tryd.func3 (by kernel_rfl) (by kernel_rfl) (Nat.le_of_ble_eq_true (by kernel_rfl)) (Eq.mpr (honeycomblaw12_RecordBytes_den a0 a1 a2 a3 R w) h)
theorem honeycomblaw12_RecordBytes_body : hasBody Tryd.prog 3 = true := by kernel_rfl
theorem honeycomblaw12_RecordBytes_call {a0 a1 a2 a3 : Value} {R : Value → World → Prop} {w : World} (h : Calls Tryd.prog 3 #[a0, a1, a2, a3] w (rt R)) : callW Tryd.prog (.func (.func 3) #[] #[]) [a0, a1, a2, a3] w R :=
  ⟨honeycomblaw12_RecordBytes_body, h⟩
def honeycomblaw12_RecordSizes_J2 (R : Value → World → Prop) : List Value → World → Prop := fun l w =>
 callW Tryd.prog (.func (.func 16) #[] #[]) [] w fun t17 w =>
 R t17 w
def honeycomblaw12_RecordSizes_L13 (R : Value → World → Prop) : (List Value → World → Prop) → List Value → World → Prop := fun r13 l w =>
 unc l fun t1 l =>
 unc l fun t3 l =>
 unc l fun t5 l =>
 unc l fun t75 l =>
 unc l fun t76 l =>
 unc l fun t77 l =>
 intW .lss t77 t76 fun t78 =>
 brV t78
 (ixS 4 t75 t77 fun t79 =>
 ldN 4 t79 w fun t80 _ =>
 alW #[(.int .i64 0), (.int .i64 0), (.bool false), (.slice none 0 0)] 41 w fun t9 w =>
 stN 4 t9 t80 w fun w =>
 fld 3 t9 fun t82 =>
 ldC t82 w fun t83 _ =>
 lenSl t83 fun t84 =>
 intW .mul (.int .i64 2) t84 fun t85 =>
 intW .add (.int .i64 10) t85 fun t86 =>
 intW .add t5 t86 fun t87 =>
 intW .add t77 (.int .i64 1) fun t88 =>
 r13 [t1, t3, t87, t75, t76, t88] w)
 (lenStr t3 fun t90 =>
 intW .eql t90 t5 fun t92 =>
 brV t92
 (ldN 14 t1 w fun t94 _ =>
 callW Tryd.prog (.func (.func 20) #[] #[]) [t94] w fun t95 w =>
 R t95 w)
 (R (.bool false) w))
def honeycomblaw12_RecordSizes_L8 (R : Value → World → Prop) : (List Value → World → Prop) → List Value → World → Prop := fun r8 l w =>
 unc l fun t1 l =>
 unc l fun t3 l =>
 unc l fun t5 l =>
 unc l fun t61 l =>
 unc l fun t62 l =>
 unc l fun t63 l =>
 intW .lss t63 t62 fun t64 =>
 brV t64
 (ixS 3 t61 t63 fun t65 =>
 ldN 3 t65 w fun t66 _ =>
 alW #[(.int .i64 0), (.int .i64 0), (.string ⟨#[]⟩)] 39 w fun t7 w =>
 stN 3 t7 t66 w fun w =>
 fld 2 t7 fun t68 =>
 ldC t68 w fun t69 _ =>
 lenStr t69 fun t70 =>
 intW .add (.int .i64 6) t70 fun t71 =>
 intW .add t5 t71 fun t72 =>
 intW .add t63 (.int .i64 1) fun t73 =>
 r8 [t1, t3, t72, t61, t62, t73] w)
 (fld 12 t1 fun t74 =>
 ldC t74 w fun t75 _ =>
 lenSl t75 fun t76 =>
 lp (honeycomblaw12_RecordSizes_L13 R) [t1, t3, t5, t75, t76, (.int .i64 0)] w)
/-- `honeycomb/honeycomblaw12.RecordSizes` -/
def honeycomblaw12_RecordSizes (a0 : Value) (R : Value → World → Prop) (w : World) : Prop :=
 alW (Value.cells a0) 29 w fun t1 w =>
 ldN 14 t1 w fun t10 _ =>
 callW Tryd.prog (.func (.func 15) #[] #[]) [t10] w fun t11 w =>
 unW .not t11 fun t12 =>
 brV t12
 (jn (honeycomblaw12_RecordSizes_J2 R) [] w)
 (callW Tryd.prog (.func (.func 16) #[] #[]) [] w fun t14 w =>
 unW .not t14 fun t15 =>
 brV t15
 (jn (honeycomblaw12_RecordSizes_J2 R) [] w)
 (ldN 14 t1 w fun t19 _ =>
 callW Tryd.prog (.func (.func 18) #[] #[]) [t19] w fun t20 w =>
 exW t20 0 fun t21 =>
 exW t20 1 fun t22 =>
 unW .not t22 fun t24 =>
 brV t24
 (ldN 14 t1 w fun t25 _ =>
 callW Tryd.prog (.func (.func 20) #[] #[]) [t25] w fun t26 w =>
 unW .not t26 fun t27 =>
 R t27 w)
 (fld 4 t1 fun t28 =>
 ldC t28 w fun t29 _ =>
 lenStr t29 fun t30 =>
 intW .add (.int .i64 14) t30 fun t31 =>
 intW .add t31 (.int .i64 2) fun t32 =>
 intW .add t32 (.int .i64 2) fun t33 =>
 fld 6 t1 fun t34 =>
 fld 0 t34 fun t35 =>
 ldC t35 w fun t36 _ =>
 lenStr t36 fun t37 =>
 intW .add t33 t37 fun t38 =>
 intW .add t38 (.int .i64 2) fun t39 =>
 fld 6 t1 fun t40 =>
 fld 1 t40 fun t41 =>
 ldC t41 w fun t42 _ =>
 lenStr t42 fun t43 =>
 intW .add t39 t43 fun t44 =>
 intW .add t44 (.int .i64 4) fun t45 =>
 intW .add t45 (.int .i64 2) fun t46 =>
 fld 10 t1 fun t47 =>
 ldC t47 w fun t48 _ =>
 lenSl t48 fun t49 =>
 intW .mul (.int .i64 2) t49 fun t50 =>
 intW .add t46 t50 fun t51 =>
 intW .add t51 (.int .i64 2) fun t52 =>
 intW .add t52 (.int .i64 2) fun t53 =>
 intW .add t53 (.int .i64 2) fun t54 =>
 fld 13 t1 fun t55 =>
 ldC t55 w fun t56 _ =>
 lenSl t56 fun t57 =>
 intW .mul (.int .i64 6) t57 fun t58 =>
 intW .add t54 t58 fun t59 =>
 fld 11 t1 fun t60 =>
 ldC t60 w fun t61 _ =>
 lenSl t61 fun t62 =>
 lp (honeycomblaw12_RecordSizes_L8 R) [t1, t21, t59, t61, t62, (.int .i64 0)] w)))
theorem honeycomblaw12_RecordSizes_den (a0 : Value) (R : Value → World → Prop) (w : World) : denF Tryd.prog Tryd.f4 (Tryd.f4.body.getD .skip) [(2, [])] [(8, [1, 3, 5, 61, 62, 63]), (13, [1, 3, 5, 75, 76, 77])] [a0] R w = honeycomblaw12_RecordSizes a0 R w := by kernel_rfl
set_option maxRecDepth 100000 in
theorem honeycomblaw12_RecordSizes_run {a0 : Value} {R : Value → World → Prop} {w : World} (h : honeycomblaw12_RecordSizes a0 R w) : Calls Tryd.prog 4 #[a0] w (rt R) :=
  run_sound (c := Tryd.f4.body.getD .skip) (la := [(2, [])]) (lb := [(8, [1, 3, 5, 61, 62, 63]), (13, [1, 3, 5, 75, 76, 77])]) (args := [a0]) mixed Tryd.func4 (by kernel_rfl) (by kernel_rfl) (Nat.le_of_ble_eq_true (by kernel_rfl)) (Eq.mpr (honeycomblaw12_RecordSizes_den a0 R w) h)
theorem honeycomblaw12_RecordSizes_body : hasBody Tryd.prog 4 = true := by kernel_rfl
theorem honeycomblaw12_RecordSizes_call {a0 : Value} {R : Value → World → Prop} {w : World} (h : Calls Tryd.prog 4 #[a0] w (rt R)) : callW Tryd.prog (.func (.func 4) #[] #[]) [a0] w R :=
  ⟨honeycomblaw12_RecordSizes_body, h⟩
def honeycomblaw12_RecordNames_J4 (R : Value → World → Prop) : List Value → World → Prop := fun l w =>
 unc l fun t0 l =>
 unc l fun t1 l =>
 unc l fun t5 l =>
 callW Tryd.prog (.func (.func 21) #[] #[]) [t0] w fun t15 w =>
 strW .neq t15 (.string ⟨#[]⟩) fun t16 =>
 nilW 6 .eql t16 t5 fun t18 =>
 brV t18
 (unW .not t5 fun t21 =>
 brV t21
 (R (.bool true) w)
 (intW .eql t0 t1 fun t25 =>
 brV t25
 (R (.bool true) w)
 (callW Tryd.prog (.func (.func 21) #[] #[]) [t0] w fun t29 w =>
 callW Tryd.prog (.func (.func 21) #[] #[]) [t1] w fun t31 w =>
 strW .neq t29 t31 fun t32 =>
 R t32 w)))
 (R (.bool false) w)
/-- `honeycomb/honeycomblaw12.RecordNames` -/
def honeycomblaw12_RecordNames (a0 a1 : Value) (R : Value → World → Prop) (w : World) : Prop :=
 callW Tryd.prog (.func (.func 16) #[] #[]) [] w fun t6 w =>
 unW .not t6 fun t7 =>
 brV t7
 (R (.bool false) w)
 (intW .geq a0 (.int .i64 1) fun t9 =>
 brV t9
 (intW .leq a0 (.int .i64 7) fun t12 =>
 jn (honeycomblaw12_RecordNames_J4 R) [a0, a1, t12] w)
 (jn (honeycomblaw12_RecordNames_J4 R) [a0, a1, (.bool false)] w))
theorem honeycomblaw12_RecordNames_den (a0 a1 : Value) (R : Value → World → Prop) (w : World) : denF Tryd.prog Tryd.f5 (Tryd.f5.body.getD .skip) [(4, [0, 1, 5])] [] [a0, a1] R w = honeycomblaw12_RecordNames a0 a1 R w := by kernel_rfl
set_option maxRecDepth 100000 in
theorem honeycomblaw12_RecordNames_run {a0 a1 : Value} {R : Value → World → Prop} {w : World} (h : honeycomblaw12_RecordNames a0 a1 R w) : Calls Tryd.prog 5 #[a0, a1] w (rt R) :=
  run_sound (c := Tryd.f5.body.getD .skip) (la := [(4, [0, 1, 5])]) (lb := []) (args := [a0, a1]) mixed Tryd.func5 (by kernel_rfl) (by kernel_rfl) (Nat.le_of_ble_eq_true (by kernel_rfl)) (Eq.mpr (honeycomblaw12_RecordNames_den a0 a1 R w) h)
theorem honeycomblaw12_RecordNames_body : hasBody Tryd.prog 5 = true := by kernel_rfl
theorem honeycomblaw12_RecordNames_call {a0 a1 : Value} {R : Value → World → Prop} {w : World} (h : Calls Tryd.prog 5 #[a0, a1] w (rt R)) : callW Tryd.prog (.func (.func 5) #[] #[]) [a0, a1] w R :=
  ⟨honeycomblaw12_RecordNames_body, h⟩
def honeycomblaw12_RecordTurned_J2 (R : Value → World → Prop) : List Value → World → Prop := fun l w =>
 callW Tryd.prog (.func (.func 16) #[] #[]) [] w fun t23 w =>
 R t23 w
def honeycomblaw12_RecordTurned_J10 (R : Value → World → Prop) : List Value → World → Prop := fun l w =>
 unc l fun t3 l =>
 unc l fun t10 l =>
 unc l fun t11 l =>
 unW .not t11 fun t65 =>
 brV t65
 (R (.bool true) w)
 (ldN 14 t10 w fun t67 _ =>
 ldN 14 t3 w fun t68 _ =>
 callW Tryd.prog (.func (.func 19) #[] #[]) [t67, t68] w fun t69 w =>
 unW .not t69 fun t70 =>
 R t70 w)
/-- `honeycomb/honeycomblaw12.RecordTurned` -/
def honeycomblaw12_RecordTurned (a0 a1 a2 : Value) (R : Value → World → Prop) (w : World) : Prop :=
 alW (Value.cells a0) 29 w fun t3 w =>
 ldN 14 t3 w fun t12 _ =>
 callW Tryd.prog (.func (.func 15) #[] #[]) [t12] w fun t13 w =>
 unW .not t13 fun t14 =>
 brV t14
 (jn (honeycomblaw12_RecordTurned_J2 R) [] w)
 (intW .eql a2 (.int .u8 0) fun t17 =>
 brV t17
 (jn (honeycomblaw12_RecordTurned_J2 R) [] w)
 (callW Tryd.prog (.func (.func 16) #[] #[]) [] w fun t20 w =>
 unW .not t20 fun t21 =>
 brV t21
 (jn (honeycomblaw12_RecordTurned_J2 R) [] w)
 (ldN 14 t3 w fun t25 _ =>
 callW Tryd.prog (.func (.func 18) #[] #[]) [t25] w fun t26 w =>
 exW t26 0 fun t27 =>
 exW t26 1 fun t28 =>
 unW .not t28 fun t30 =>
 brV t30
 (R (.bool true) w)
 (lenStr t27 fun t32 =>
 intW .eql t32 (.int .i64 0) fun t33 =>
 brV t33
 (R (.bool false) w)
 (lenStr t27 fun t36 =>
 intW .rem a1 t36 fun t37 =>
 lenStr t27 fun t39 =>
 intW .add t37 t39 fun t40 =>
 lenStr t27 fun t42 =>
 intW .rem t40 t42 fun t43 =>
 slStr t27 none (some t43) none fun t47 =>
 ixStr t27 t43 fun t50 =>
 intW .xor t50 a2 fun t52 =>
 intW .add t43 (.int .i64 1) fun t58 =>
 slStr t27 (some t58) none none fun t59 =>
 (blS 5 1 #[(.int .u8 0)] 1 [(0, t52)] w.drew fun t53 w =>
 (sm Tryd.prog (convert 44 9 t53) w fun t54 w =>
 strW .add t47 t54 fun t55 =>
 strW .add t55 t59 fun t60 =>
 (callW Tryd.prog (.func (.func 17) #[] #[]) [t60] w fun t61 w =>
 exW t61 0 fun t62 =>
 exW t61 1 fun t63 =>
 alW #[(.int .i64 0), (.int .i64 0), (.int .i64 0), (.int .i64 0), (.string ⟨#[]⟩), (.bool false), (.string ⟨#[]⟩), (.string ⟨#[]⟩), (.int .i64 0), (.int .i64 0), (.slice none 0 0), (.slice none 0 0), (.slice none 0 0), (.slice none 0 0)] 29 w fun t10 w =>
 stN 14 t10 t62 w fun w =>
 jn (honeycomblaw12_RecordTurned_J10 R) [t3, t10, t63] w) ∧
 (alW #[(.int .i64 0), (.int .i64 0), (.int .i64 0), (.int .i64 0), (.string ⟨#[]⟩), (.bool false), (.string ⟨#[]⟩), (.string ⟨#[]⟩), (.int .i64 0), (.int .i64 0), (.slice none 0 0), (.slice none 0 0), (.slice none 0 0), (.slice none 0 0)] 29 w fun t10 w =>
 callW Tryd.prog (.func (.func 17) #[] #[]) [t60] w fun t61 w =>
 exW t61 0 fun t62 =>
 exW t61 1 fun t63 =>
 stN 14 t10 t62 w fun w =>
 jn (honeycomblaw12_RecordTurned_J10 R) [t3, t10, t63] w)) ∧
 (alW #[(.int .i64 0), (.int .i64 0), (.int .i64 0), (.int .i64 0), (.string ⟨#[]⟩), (.bool false), (.string ⟨#[]⟩), (.string ⟨#[]⟩), (.int .i64 0), (.int .i64 0), (.slice none 0 0), (.slice none 0 0), (.slice none 0 0), (.slice none 0 0)] 29 w fun t10 w =>
 sm Tryd.prog (convert 44 9 t53) w fun t54 w =>
 strW .add t47 t54 fun t55 =>
 strW .add t55 t59 fun t60 =>
 callW Tryd.prog (.func (.func 17) #[] #[]) [t60] w fun t61 w =>
 exW t61 0 fun t62 =>
 exW t61 1 fun t63 =>
 stN 14 t10 t62 w fun w =>
 jn (honeycomblaw12_RecordTurned_J10 R) [t3, t10, t63] w)) ∧
 (alW #[(.int .i64 0), (.int .i64 0), (.int .i64 0), (.int .i64 0), (.string ⟨#[]⟩), (.bool false), (.string ⟨#[]⟩), (.string ⟨#[]⟩), (.int .i64 0), (.int .i64 0), (.slice none 0 0), (.slice none 0 0), (.slice none 0 0), (.slice none 0 0)] 29 w.drew fun t10 w =>
 blS 5 1 #[(.int .u8 0)] 1 [(0, t52)] w fun t53 w =>
 sm Tryd.prog (convert 44 9 t53) w fun t54 w =>
 strW .add t47 t54 fun t55 =>
 strW .add t55 t59 fun t60 =>
 callW Tryd.prog (.func (.func 17) #[] #[]) [t60] w fun t61 w =>
 exW t61 0 fun t62 =>
 exW t61 1 fun t63 =>
 stN 14 t10 t62 w fun w =>
 jn (honeycomblaw12_RecordTurned_J10 R) [t3, t10, t63] w))))))
theorem honeycomblaw12_RecordTurned_den (a0 a1 a2 : Value) (R : Value → World → Prop) (w : World) : denF Tryd.prog Tryd.f6 (Tryd.f6.body.getD .skip) [(2, []), (10, [3, 10, 11])] [] [a0, a1, a2] R w = honeycomblaw12_RecordTurned a0 a1 a2 R w := by kernel_rfl
set_option maxRecDepth 100000 in
theorem honeycomblaw12_RecordTurned_run {a0 a1 a2 : Value} {R : Value → World → Prop} {w : World} (h : honeycomblaw12_RecordTurned a0 a1 a2 R w) : Calls Tryd.prog 6 #[a0, a1, a2] w (rt R) :=
  run_sound (c := Tryd.f6.body.getD .skip) (la := [(2, []), (10, [3, 10, 11])]) (lb := []) (args := [a0, a1, a2]) mixed Tryd.func6 (by kernel_rfl) (by kernel_rfl) (Nat.le_of_ble_eq_true (by kernel_rfl)) (Eq.mpr (honeycomblaw12_RecordTurned_den a0 a1 a2 R w) h)
theorem honeycomblaw12_RecordTurned_body : hasBody Tryd.prog 6 = true := by kernel_rfl
theorem honeycomblaw12_RecordTurned_call {a0 a1 a2 : Value} {R : Value → World → Prop} {w : World} (h : Calls Tryd.prog 6 #[a0, a1, a2] w (rt R)) : callW Tryd.prog (.func (.func 6) #[] #[]) [a0, a1, a2] w R :=
  ⟨honeycomblaw12_RecordTurned_body, h⟩
def honeycomblaw12_RecordEdges_J18 (R : Value → World → Prop) : List Value → World → Prop := fun l w =>
 unc l fun t5 l =>
 unc l fun t6 l =>
 ldN 14 t5 w fun t60 _ =>
 callW Tryd.prog (.func (.func 18) #[] #[]) [t60] w fun t61 w =>
 exW t61 0 fun t62 =>
 exW t61 1 fun t63 =>
 nilW 6 .eql t63 t6 fun t66 =>
 brV t66
 (ldN 14 t5 w fun t68 _ =>
 callW Tryd.prog (.func (.func 20) #[] #[]) [t68] w fun t69 w =>
 nilW 6 .eql t69 t6 fun t71 =>
 brV t71
 (brV t63
 (R (.bool true) w)
 (strW .eql t62 (.string ⟨#[]⟩) fun t77 =>
 R t77 w))
 (R (.bool false) w))
 (R (.bool false) w)
def honeycomblaw12_RecordEdges_J5 (R : Value → World → Prop) : List Value → World → Prop := fun l w =>
 unc l fun t0 l =>
 unc l fun t1 l =>
 unc l fun t5 l =>
 unc l fun t6 l =>
 intW .rem t0 (.int .i64 5) fun t19 =>
 intW .add t19 (.int .i64 5) fun t20 =>
 intW .rem t20 (.int .i64 5) fun t21 =>
 intW .eql t21 (.int .i64 0) fun t31 =>
 brV t31
 (fld 1 t5 fun t33 =>
 1 = 1 ∧ stC t33 t1 w fun w =>
 jn (honeycomblaw12_RecordEdges_J18 R) [t5, t6] w)
 (intW .eql t21 (.int .i64 1) fun t35 =>
 brV t35
 (fld 2 t5 fun t37 =>
 1 = 1 ∧ stC t37 t1 w fun w =>
 intW .geq t1 (.int .i64 0) fun t39 =>
 brV t39
 (intW .leq t1 (.int .i64 4294967295) fun t42 =>
 jn (honeycomblaw12_RecordEdges_J18 R) [t5, t42] w)
 (jn (honeycomblaw12_RecordEdges_J18 R) [t5, (.bool false)] w))
 (intW .eql t21 (.int .i64 2) fun t45 =>
 brV t45
 (fld 3 t5 fun t47 =>
 1 = 1 ∧ stC t47 t1 w fun w =>
 intW .geq t1 (.int .i64 0) fun t49 =>
 brV t49
 (intW .leq t1 (.int .i64 4294967295) fun t52 =>
 jn (honeycomblaw12_RecordEdges_J18 R) [t5, t52] w)
 (jn (honeycomblaw12_RecordEdges_J18 R) [t5, (.bool false)] w))
 (intW .eql t21 (.int .i64 3) fun t55 =>
 brV t55
 (blS 3 1 #[(.int .i64 0)] 2 [(0, (.int .i64 1)), (1, t1)] w fun t57 w =>
 fld 10 t5 fun t58 =>
 1 = 1 ∧ stC t58 t57 w fun w =>
 jn (honeycomblaw12_RecordEdges_J18 R) [t5, t6] w)
 (fld 0 t5 fun t23 =>
 1 = 1 ∧ stC t23 t1 w fun w =>
 intW .geq t1 (.int .i64 1) fun t25 =>
 brV t25
 (intW .leq t1 (.int .i64 7) fun t28 =>
 jn (honeycomblaw12_RecordEdges_J18 R) [t5, t28] w)
 (jn (honeycomblaw12_RecordEdges_J18 R) [t5, (.bool false)] w)))))
/-- `honeycomb/honeycomblaw12.RecordEdges` -/
def honeycomblaw12_RecordEdges (a0 a1 : Value) (R : Value → World → Prop) (w : World) : Prop :=
 callW Tryd.prog (.func (.func 16) #[] #[]) [] w fun t9 w =>
 unW .not t9 fun t10 =>
 brV t10
 (R (.bool false) w)
 (fillL [(0, 1), (1, 1), (2, 1), (3, 1), (4, 1), (5, 1), (6, 4), (10, 1), (11, 1), (12, 1), (13, 1)] #[(.int .i64 0), (.int .i64 0), (.int .i64 0), (.int .i64 0), (.string ⟨#[]⟩), (.bool false), (.string ⟨#[]⟩), (.string ⟨#[]⟩), (.int .i64 0), (.int .i64 0), (.slice none 0 0), (.slice none 0 0), (.slice none 0 0), (.slice none 0 0)] [(0, (.int .i64 1))] fun t11 =>
 alW #[(.int .i64 0), (.int .i64 0), (.int .i64 0), (.int .i64 0), (.string ⟨#[]⟩), (.bool false), (.string ⟨#[]⟩), (.string ⟨#[]⟩), (.int .i64 0), (.int .i64 0), (.slice none 0 0), (.slice none 0 0), (.slice none 0 0), (.slice none 0 0)] 29 w fun t5 w =>
 stN 14 t5 t11 w fun w =>
 intW .geq a1 (.int .i64 0) fun t13 =>
 brV t13
 (intW .leq a1 (.int .i64 65535) fun t16 =>
 jn (honeycomblaw12_RecordEdges_J5 R) [a0, a1, t5, t16] w)
 (jn (honeycomblaw12_RecordEdges_J5 R) [a0, a1, t5, (.bool false)] w))
theorem honeycomblaw12_RecordEdges_den (a0 a1 : Value) (R : Value → World → Prop) (w : World) : denF Tryd.prog Tryd.f7 (Tryd.f7.body.getD .skip) [(5, [0, 1, 5, 6]), (18, [5, 6])] [] [a0, a1] R w = honeycomblaw12_RecordEdges a0 a1 R w := by kernel_rfl
set_option maxRecDepth 100000 in
theorem honeycomblaw12_RecordEdges_run {a0 a1 : Value} {R : Value → World → Prop} {w : World} (h : honeycomblaw12_RecordEdges a0 a1 R w) : Calls Tryd.prog 7 #[a0, a1] w (rt R) :=
  run_sound (c := Tryd.f7.body.getD .skip) (la := [(5, [0, 1, 5, 6]), (18, [5, 6])]) (lb := []) (args := [a0, a1]) mixed Tryd.func7 (by kernel_rfl) (by kernel_rfl) (Nat.le_of_ble_eq_true (by kernel_rfl)) (Eq.mpr (honeycomblaw12_RecordEdges_den a0 a1 R w) h)
theorem honeycomblaw12_RecordEdges_body : hasBody Tryd.prog 7 = true := by kernel_rfl
theorem honeycomblaw12_RecordEdges_call {a0 a1 : Value} {R : Value → World → Prop} {w : World} (h : Calls Tryd.prog 7 #[a0, a1] w (rt R)) : callW Tryd.prog (.func (.func 7) #[] #[]) [a0, a1] w R :=
  ⟨honeycomblaw12_RecordEdges_body, h⟩
def honeycomblaw12_RecordMany_J2 (R : Value → World → Prop) : List Value → World → Prop := fun l w =>
 callW Tryd.prog (.func (.func 16) #[] #[]) [] w fun t47 w =>
 R t47 w
def honeycomblaw12_RecordMany_L5 (R : Value → World → Prop) : (List Value → World → Prop) → List Value → World → Prop := fun r5 l w =>
 unc l fun t0 l =>
 unc l fun t1 l =>
 unc l fun t2 l =>
 unc l fun t3 l =>
 unc l fun t9 l =>
 unc l fun t10 l =>
 intW .lss t10 t1 fun t57 =>
 brV t57
 (fld 11 t9 fun t60 =>
 ldC t60 w fun t61 _ =>
 fillL [(0, 1), (1, 1), (2, 1)] #[(.int .i64 0), (.int .i64 0), (.string ⟨#[]⟩)] [(0, t10), (2, (.string ⟨#[112]⟩))] fun t63 =>
 blS 39 3 #[(.int .i64 0), (.int .i64 0), (.string ⟨#[]⟩)] 1 [(0, t63)] w fun t64 w =>
 sm Tryd.prog (bi .append #[25, 25] 25 [t61, t64]) w fun t65 w =>
 fld 11 t9 fun t66 =>
 1 = 1 ∧ stC t66 t65 w fun w =>
 intW .add t10 (.int .i64 1) fun t59 =>
 r5 [t0, t1, t2, t3, t9, t59] w)
 (ldN 14 t9 w fun t68 _ =>
 callW Tryd.prog (.func (.func 18) #[] #[]) [t68] w fun t69 w =>
 exW t69 0 fun t70 =>
 exW t69 1 fun t71 =>
 intW .leq t0 (.int .i64 64) fun t74 =>
 brV t74
 (intW .leq t1 (.int .i64 40) fun t77 =>
 brV t77
 (intW .leq t2 (.int .i64 8) fun t81 =>
 brV t81
 (intW .leq t3 (.int .i64 64) fun t85 =>
 nilW 6 .eql t71 t85 fun t87 =>
 brV t87
 (ldN 14 t9 w fun t89 _ =>
 callW Tryd.prog (.func (.func 22) #[] #[]) [t89] w fun t90 w =>
 lenSl t90 fun t91 =>
 intW .eql t91 t1 fun t93 =>
 R t93 w)
 (R (.bool false) w))
 (nilW 6 .eql t71 (.bool false) fun t87 =>
 brV t87
 (ldN 14 t9 w fun t89 _ =>
 callW Tryd.prog (.func (.func 22) #[] #[]) [t89] w fun t90 w =>
 lenSl t90 fun t91 =>
 intW .eql t91 t1 fun t93 =>
 R t93 w)
 (R (.bool false) w)))
 (nilW 6 .eql t71 (.bool false) fun t87 =>
 brV t87
 (ldN 14 t9 w fun t89 _ =>
 callW Tryd.prog (.func (.func 22) #[] #[]) [t89] w fun t90 w =>
 lenSl t90 fun t91 =>
 intW .eql t91 t1 fun t93 =>
 R t93 w)
 (R (.bool false) w)))
 (nilW 6 .eql t71 (.bool false) fun t87 =>
 brV t87
 (ldN 14 t9 w fun t89 _ =>
 callW Tryd.prog (.func (.func 22) #[] #[]) [t89] w fun t90 w =>
 lenSl t90 fun t91 =>
 intW .eql t91 t1 fun t93 =>
 R t93 w)
 (R (.bool false) w)))
def honeycomblaw12_RecordMany_J4 (R : Value → World → Prop) : List Value → World → Prop := fun l w =>
 unc l fun t0 l =>
 unc l fun t1 l =>
 unc l fun t2 l =>
 unc l fun t3 l =>
 unc l fun t9 l =>
 lp (honeycomblaw12_RecordMany_L5 R) [t0, t1, t2, t3, t9, (.int .i64 0)] w
/-- `honeycomb/honeycomblaw12.RecordMany` -/
def honeycomblaw12_RecordMany (a0 a1 a2 a3 : Value) (R : Value → World → Prop) (w : World) : Prop :=
 intW .lss a0 (.int .i64 0) fun t14 =>
 brV t14
 (jn (honeycomblaw12_RecordMany_J2 R) [] w)
 (intW .gtr a0 (.int .i64 80) fun t17 =>
 brV t17
 (jn (honeycomblaw12_RecordMany_J2 R) [] w)
 (intW .lss a1 (.int .i64 0) fun t21 =>
 brV t21
 (jn (honeycomblaw12_RecordMany_J2 R) [] w)
 (intW .gtr a1 (.int .i64 60) fun t25 =>
 brV t25
 (jn (honeycomblaw12_RecordMany_J2 R) [] w)
 (intW .lss a2 (.int .i64 0) fun t29 =>
 brV t29
 (jn (honeycomblaw12_RecordMany_J2 R) [] w)
 (intW .gtr a2 (.int .i64 20) fun t33 =>
 brV t33
 (jn (honeycomblaw12_RecordMany_J2 R) [] w)
 (intW .lss a3 (.int .i64 0) fun t37 =>
 brV t37
 (jn (honeycomblaw12_RecordMany_J2 R) [] w)
 (intW .gtr a3 (.int .i64 80) fun t41 =>
 brV t41
 (jn (honeycomblaw12_RecordMany_J2 R) [] w)
 (callW Tryd.prog (.func (.func 16) #[] #[]) [] w fun t44 w =>
 unW .not t44 fun t45 =>
 brV t45
 (jn (honeycomblaw12_RecordMany_J2 R) [] w)
 ((sm Tryd.prog (Instr.makeSlice 24 a0 a0) w.drew fun t49 w =>
 (sm Tryd.prog (Instr.makeSlice 26 a2 a2) w fun t51 w =>
 (sm Tryd.prog (Instr.makeSlice 27 a3 a3) w fun t53 w =>
 fillL [(0, 1), (1, 1), (2, 1), (3, 1), (4, 1), (5, 1), (6, 4), (10, 1), (11, 1), (12, 1), (13, 1)] #[(.int .i64 0), (.int .i64 0), (.int .i64 0), (.int .i64 0), (.string ⟨#[]⟩), (.bool false), (.string ⟨#[]⟩), (.string ⟨#[]⟩), (.int .i64 0), (.int .i64 0), (.slice none 0 0), (.slice none 0 0), (.slice none 0 0), (.slice none 0 0)] [(0, (.int .i64 7)), (7, t49), (9, t51), (10, t53)] fun t54 =>
 alW #[(.int .i64 0), (.int .i64 0), (.int .i64 0), (.int .i64 0), (.string ⟨#[]⟩), (.bool false), (.string ⟨#[]⟩), (.string ⟨#[]⟩), (.int .i64 0), (.int .i64 0), (.slice none 0 0), (.slice none 0 0), (.slice none 0 0), (.slice none 0 0)] 29 w fun t9 w =>
 stN 14 t9 t54 w fun w =>
 jn (honeycomblaw12_RecordMany_J4 R) [a0, a1, a2, a3, t9] w) ∧
 (alW #[(.int .i64 0), (.int .i64 0), (.int .i64 0), (.int .i64 0), (.string ⟨#[]⟩), (.bool false), (.string ⟨#[]⟩), (.string ⟨#[]⟩), (.int .i64 0), (.int .i64 0), (.slice none 0 0), (.slice none 0 0), (.slice none 0 0), (.slice none 0 0)] 29 w fun t9 w =>
 sm Tryd.prog (Instr.makeSlice 27 a3 a3) w fun t53 w =>
 fillL [(0, 1), (1, 1), (2, 1), (3, 1), (4, 1), (5, 1), (6, 4), (10, 1), (11, 1), (12, 1), (13, 1)] #[(.int .i64 0), (.int .i64 0), (.int .i64 0), (.int .i64 0), (.string ⟨#[]⟩), (.bool false), (.string ⟨#[]⟩), (.string ⟨#[]⟩), (.int .i64 0), (.int .i64 0), (.slice none 0 0), (.slice none 0 0), (.slice none 0 0), (.slice none 0 0)] [(0, (.int .i64 7)), (7, t49), (9, t51), (10, t53)] fun t54 =>
 stN 14 t9 t54 w fun w =>
 jn (honeycomblaw12_RecordMany_J4 R) [a0, a1, a2, a3, t9] w)) ∧
 ((sm Tryd.prog (Instr.makeSlice 27 a3 a3) w fun t53 w =>
 (sm Tryd.prog (Instr.makeSlice 26 a2 a2) w fun t51 w =>
 fillL [(0, 1), (1, 1), (2, 1), (3, 1), (4, 1), (5, 1), (6, 4), (10, 1), (11, 1), (12, 1), (13, 1)] #[(.int .i64 0), (.int .i64 0), (.int .i64 0), (.int .i64 0), (.string ⟨#[]⟩), (.bool false), (.string ⟨#[]⟩), (.string ⟨#[]⟩), (.int .i64 0), (.int .i64 0), (.slice none 0 0), (.slice none 0 0), (.slice none 0 0), (.slice none 0 0)] [(0, (.int .i64 7)), (7, t49), (9, t51), (10, t53)] fun t54 =>
 alW #[(.int .i64 0), (.int .i64 0), (.int .i64 0), (.int .i64 0), (.string ⟨#[]⟩), (.bool false), (.string ⟨#[]⟩), (.string ⟨#[]⟩), (.int .i64 0), (.int .i64 0), (.slice none 0 0), (.slice none 0 0), (.slice none 0 0), (.slice none 0 0)] 29 w fun t9 w =>
 stN 14 t9 t54 w fun w =>
 jn (honeycomblaw12_RecordMany_J4 R) [a0, a1, a2, a3, t9] w) ∧
 (alW #[(.int .i64 0), (.int .i64 0), (.int .i64 0), (.int .i64 0), (.string ⟨#[]⟩), (.bool false), (.string ⟨#[]⟩), (.string ⟨#[]⟩), (.int .i64 0), (.int .i64 0), (.slice none 0 0), (.slice none 0 0), (.slice none 0 0), (.slice none 0 0)] 29 w fun t9 w =>
 sm Tryd.prog (Instr.makeSlice 26 a2 a2) w fun t51 w =>
 fillL [(0, 1), (1, 1), (2, 1), (3, 1), (4, 1), (5, 1), (6, 4), (10, 1), (11, 1), (12, 1), (13, 1)] #[(.int .i64 0), (.int .i64 0), (.int .i64 0), (.int .i64 0), (.string ⟨#[]⟩), (.bool false), (.string ⟨#[]⟩), (.string ⟨#[]⟩), (.int .i64 0), (.int .i64 0), (.slice none 0 0), (.slice none 0 0), (.slice none 0 0), (.slice none 0 0)] [(0, (.int .i64 7)), (7, t49), (9, t51), (10, t53)] fun t54 =>
 stN 14 t9 t54 w fun w =>
 jn (honeycomblaw12_RecordMany_J4 R) [a0, a1, a2, a3, t9] w)) ∧
 (alW #[(.int .i64 0), (.int .i64 0), (.int .i64 0), (.int .i64 0), (.string ⟨#[]⟩), (.bool false), (.string ⟨#[]⟩), (.string ⟨#[]⟩), (.int .i64 0), (.int .i64 0), (.slice none 0 0), (.slice none 0 0), (.slice none 0 0), (.slice none 0 0)] 29 w fun t9 w =>
 (sm Tryd.prog (Instr.makeSlice 26 a2 a2) w fun t51 w =>
 sm Tryd.prog (Instr.makeSlice 27 a3 a3) w fun t53 w =>
 fillL [(0, 1), (1, 1), (2, 1), (3, 1), (4, 1), (5, 1), (6, 4), (10, 1), (11, 1), (12, 1), (13, 1)] #[(.int .i64 0), (.int .i64 0), (.int .i64 0), (.int .i64 0), (.string ⟨#[]⟩), (.bool false), (.string ⟨#[]⟩), (.string ⟨#[]⟩), (.int .i64 0), (.int .i64 0), (.slice none 0 0), (.slice none 0 0), (.slice none 0 0), (.slice none 0 0)] [(0, (.int .i64 7)), (7, t49), (9, t51), (10, t53)] fun t54 =>
 stN 14 t9 t54 w fun w =>
 jn (honeycomblaw12_RecordMany_J4 R) [a0, a1, a2, a3, t9] w) ∧
 (sm Tryd.prog (Instr.makeSlice 27 a3 a3) w fun t53 w =>
 sm Tryd.prog (Instr.makeSlice 26 a2 a2) w fun t51 w =>
 fillL [(0, 1), (1, 1), (2, 1), (3, 1), (4, 1), (5, 1), (6, 4), (10, 1), (11, 1), (12, 1), (13, 1)] #[(.int .i64 0), (.int .i64 0), (.int .i64 0), (.int .i64 0), (.string ⟨#[]⟩), (.bool false), (.string ⟨#[]⟩), (.string ⟨#[]⟩), (.int .i64 0), (.int .i64 0), (.slice none 0 0), (.slice none 0 0), (.slice none 0 0), (.slice none 0 0)] [(0, (.int .i64 7)), (7, t49), (9, t51), (10, t53)] fun t54 =>
 stN 14 t9 t54 w fun w =>
 jn (honeycomblaw12_RecordMany_J4 R) [a0, a1, a2, a3, t9] w)))) ∧
 ((sm Tryd.prog (Instr.makeSlice 26 a2 a2) w.drew fun t51 w =>
 (sm Tryd.prog (Instr.makeSlice 24 a0 a0) w fun t49 w =>
 (sm Tryd.prog (Instr.makeSlice 27 a3 a3) w fun t53 w =>
 fillL [(0, 1), (1, 1), (2, 1), (3, 1), (4, 1), (5, 1), (6, 4), (10, 1), (11, 1), (12, 1), (13, 1)] #[(.int .i64 0), (.int .i64 0), (.int .i64 0), (.int .i64 0), (.string ⟨#[]⟩), (.bool false), (.string ⟨#[]⟩), (.string ⟨#[]⟩), (.int .i64 0), (.int .i64 0), (.slice none 0 0), (.slice none 0 0), (.slice none 0 0), (.slice none 0 0)] [(0, (.int .i64 7)), (7, t49), (9, t51), (10, t53)] fun t54 =>
 alW #[(.int .i64 0), (.int .i64 0), (.int .i64 0), (.int .i64 0), (.string ⟨#[]⟩), (.bool false), (.string ⟨#[]⟩), (.string ⟨#[]⟩), (.int .i64 0), (.int .i64 0), (.slice none 0 0), (.slice none 0 0), (.slice none 0 0), (.slice none 0 0)] 29 w fun t9 w =>
 stN 14 t9 t54 w fun w =>
 jn (honeycomblaw12_RecordMany_J4 R) [a0, a1, a2, a3, t9] w) ∧
 (alW #[(.int .i64 0), (.int .i64 0), (.int .i64 0), (.int .i64 0), (.string ⟨#[]⟩), (.bool false), (.string ⟨#[]⟩), (.string ⟨#[]⟩), (.int .i64 0), (.int .i64 0), (.slice none 0 0), (.slice none 0 0), (.slice none 0 0), (.slice none 0 0)] 29 w fun t9 w =>
 sm Tryd.prog (Instr.makeSlice 27 a3 a3) w fun t53 w =>
 fillL [(0, 1), (1, 1), (2, 1), (3, 1), (4, 1), (5, 1), (6, 4), (10, 1), (11, 1), (12, 1), (13, 1)] #[(.int .i64 0), (.int .i64 0), (.int .i64 0), (.int .i64 0), (.string ⟨#[]⟩), (.bool false), (.string ⟨#[]⟩), (.string ⟨#[]⟩), (.int .i64 0), (.int .i64 0), (.slice none 0 0), (.slice none 0 0), (.slice none 0 0), (.slice none 0 0)] [(0, (.int .i64 7)), (7, t49), (9, t51), (10, t53)] fun t54 =>
 stN 14 t9 t54 w fun w =>
 jn (honeycomblaw12_RecordMany_J4 R) [a0, a1, a2, a3, t9] w)) ∧
 ((sm Tryd.prog (Instr.makeSlice 27 a3 a3) w fun t53 w =>
 (sm Tryd.prog (Instr.makeSlice 24 a0 a0) w fun t49 w =>
 fillL [(0, 1), (1, 1), (2, 1), (3, 1), (4, 1), (5, 1), (6, 4), (10, 1), (11, 1), (12, 1), (13, 1)] #[(.int .i64 0), (.int .i64 0), (.int .i64 0), (.int .i64 0), (.string ⟨#[]⟩), (.bool false), (.string ⟨#[]⟩), (.string ⟨#[]⟩), (.int .i64 0), (.int .i64 0), (.slice none 0 0), (.slice none 0 0), (.slice none 0 0), (.slice none 0 0)] [(0, (.int .i64 7)), (7, t49), (9, t51), (10, t53)] fun t54 =>
 alW #[(.int .i64 0), (.int .i64 0), (.int .i64 0), (.int .i64 0), (.string ⟨#[]⟩), (.bool false), (.string ⟨#[]⟩), (.string ⟨#[]⟩), (.int .i64 0), (.int .i64 0), (.slice none 0 0), (.slice none 0 0), (.slice none 0 0), (.slice none 0 0)] 29 w fun t9 w =>
 stN 14 t9 t54 w fun w =>
 jn (honeycomblaw12_RecordMany_J4 R) [a0, a1, a2, a3, t9] w) ∧
 (alW #[(.int .i64 0), (.int .i64 0), (.int .i64 0), (.int .i64 0), (.string ⟨#[]⟩), (.bool false), (.string ⟨#[]⟩), (.string ⟨#[]⟩), (.int .i64 0), (.int .i64 0), (.slice none 0 0), (.slice none 0 0), (.slice none 0 0), (.slice none 0 0)] 29 w fun t9 w =>
 sm Tryd.prog (Instr.makeSlice 24 a0 a0) w fun t49 w =>
 fillL [(0, 1), (1, 1), (2, 1), (3, 1), (4, 1), (5, 1), (6, 4), (10, 1), (11, 1), (12, 1), (13, 1)] #[(.int .i64 0), (.int .i64 0), (.int .i64 0), (.int .i64 0), (.string ⟨#[]⟩), (.bool false), (.string ⟨#[]⟩), (.string ⟨#[]⟩), (.int .i64 0), (.int .i64 0), (.slice none 0 0), (.slice none 0 0), (.slice none 0 0), (.slice none 0 0)] [(0, (.int .i64 7)), (7, t49), (9, t51), (10, t53)] fun t54 =>
 stN 14 t9 t54 w fun w =>
 jn (honeycomblaw12_RecordMany_J4 R) [a0, a1, a2, a3, t9] w)) ∧
 (alW #[(.int .i64 0), (.int .i64 0), (.int .i64 0), (.int .i64 0), (.string ⟨#[]⟩), (.bool false), (.string ⟨#[]⟩), (.string ⟨#[]⟩), (.int .i64 0), (.int .i64 0), (.slice none 0 0), (.slice none 0 0), (.slice none 0 0), (.slice none 0 0)] 29 w fun t9 w =>
 (sm Tryd.prog (Instr.makeSlice 24 a0 a0) w fun t49 w =>
 sm Tryd.prog (Instr.makeSlice 27 a3 a3) w fun t53 w =>
 fillL [(0, 1), (1, 1), (2, 1), (3, 1), (4, 1), (5, 1), (6, 4), (10, 1), (11, 1), (12, 1), (13, 1)] #[(.int .i64 0), (.int .i64 0), (.int .i64 0), (.int .i64 0), (.string ⟨#[]⟩), (.bool false), (.string ⟨#[]⟩), (.string ⟨#[]⟩), (.int .i64 0), (.int .i64 0), (.slice none 0 0), (.slice none 0 0), (.slice none 0 0), (.slice none 0 0)] [(0, (.int .i64 7)), (7, t49), (9, t51), (10, t53)] fun t54 =>
 stN 14 t9 t54 w fun w =>
 jn (honeycomblaw12_RecordMany_J4 R) [a0, a1, a2, a3, t9] w) ∧
 (sm Tryd.prog (Instr.makeSlice 27 a3 a3) w fun t53 w =>
 sm Tryd.prog (Instr.makeSlice 24 a0 a0) w fun t49 w =>
 fillL [(0, 1), (1, 1), (2, 1), (3, 1), (4, 1), (5, 1), (6, 4), (10, 1), (11, 1), (12, 1), (13, 1)] #[(.int .i64 0), (.int .i64 0), (.int .i64 0), (.int .i64 0), (.string ⟨#[]⟩), (.bool false), (.string ⟨#[]⟩), (.string ⟨#[]⟩), (.int .i64 0), (.int .i64 0), (.slice none 0 0), (.slice none 0 0), (.slice none 0 0), (.slice none 0 0)] [(0, (.int .i64 7)), (7, t49), (9, t51), (10, t53)] fun t54 =>
 stN 14 t9 t54 w fun w =>
 jn (honeycomblaw12_RecordMany_J4 R) [a0, a1, a2, a3, t9] w)))) ∧
 ((sm Tryd.prog (Instr.makeSlice 27 a3 a3) w.drew fun t53 w =>
 (sm Tryd.prog (Instr.makeSlice 24 a0 a0) w fun t49 w =>
 (sm Tryd.prog (Instr.makeSlice 26 a2 a2) w fun t51 w =>
 fillL [(0, 1), (1, 1), (2, 1), (3, 1), (4, 1), (5, 1), (6, 4), (10, 1), (11, 1), (12, 1), (13, 1)] #[(.int .i64 0), (.int .i64 0), (.int .i64 0), (.int .i64 0), (.string ⟨#[]⟩), (.bool false), (.string ⟨#[]⟩), (.string ⟨#[]⟩), (.int .i64 0), (.int .i64 0), (.slice none 0 0), (.slice none 0 0), (.slice none 0 0), (.slice none 0 0)] [(0, (.int .i64 7)), (7, t49), (9, t51), (10, t53)] fun t54 =>
 alW #[(.int .i64 0), (.int .i64 0), (.int .i64 0), (.int .i64 0), (.string ⟨#[]⟩), (.bool false), (.string ⟨#[]⟩), (.string ⟨#[]⟩), (.int .i64 0), (.int .i64 0), (.slice none 0 0), (.slice none 0 0), (.slice none 0 0), (.slice none 0 0)] 29 w fun t9 w =>
 stN 14 t9 t54 w fun w =>
 jn (honeycomblaw12_RecordMany_J4 R) [a0, a1, a2, a3, t9] w) ∧
 (alW #[(.int .i64 0), (.int .i64 0), (.int .i64 0), (.int .i64 0), (.string ⟨#[]⟩), (.bool false), (.string ⟨#[]⟩), (.string ⟨#[]⟩), (.int .i64 0), (.int .i64 0), (.slice none 0 0), (.slice none 0 0), (.slice none 0 0), (.slice none 0 0)] 29 w fun t9 w =>
 sm Tryd.prog (Instr.makeSlice 26 a2 a2) w fun t51 w =>
 fillL [(0, 1), (1, 1), (2, 1), (3, 1), (4, 1), (5, 1), (6, 4), (10, 1), (11, 1), (12, 1), (13, 1)] #[(.int .i64 0), (.int .i64 0), (.int .i64 0), (.int .i64 0), (.string ⟨#[]⟩), (.bool false), (.string ⟨#[]⟩), (.string ⟨#[]⟩), (.int .i64 0), (.int .i64 0), (.slice none 0 0), (.slice none 0 0), (.slice none 0 0), (.slice none 0 0)] [(0, (.int .i64 7)), (7, t49), (9, t51), (10, t53)] fun t54 =>
 stN 14 t9 t54 w fun w =>
 jn (honeycomblaw12_RecordMany_J4 R) [a0, a1, a2, a3, t9] w)) ∧
 ((sm Tryd.prog (Instr.makeSlice 26 a2 a2) w fun t51 w =>
 (sm Tryd.prog (Instr.makeSlice 24 a0 a0) w fun t49 w =>
 fillL [(0, 1), (1, 1), (2, 1), (3, 1), (4, 1), (5, 1), (6, 4), (10, 1), (11, 1), (12, 1), (13, 1)] #[(.int .i64 0), (.int .i64 0), (.int .i64 0), (.int .i64 0), (.string ⟨#[]⟩), (.bool false), (.string ⟨#[]⟩), (.string ⟨#[]⟩), (.int .i64 0), (.int .i64 0), (.slice none 0 0), (.slice none 0 0), (.slice none 0 0), (.slice none 0 0)] [(0, (.int .i64 7)), (7, t49), (9, t51), (10, t53)] fun t54 =>
 alW #[(.int .i64 0), (.int .i64 0), (.int .i64 0), (.int .i64 0), (.string ⟨#[]⟩), (.bool false), (.string ⟨#[]⟩), (.string ⟨#[]⟩), (.int .i64 0), (.int .i64 0), (.slice none 0 0), (.slice none 0 0), (.slice none 0 0), (.slice none 0 0)] 29 w fun t9 w =>
 stN 14 t9 t54 w fun w =>
 jn (honeycomblaw12_RecordMany_J4 R) [a0, a1, a2, a3, t9] w) ∧
 (alW #[(.int .i64 0), (.int .i64 0), (.int .i64 0), (.int .i64 0), (.string ⟨#[]⟩), (.bool false), (.string ⟨#[]⟩), (.string ⟨#[]⟩), (.int .i64 0), (.int .i64 0), (.slice none 0 0), (.slice none 0 0), (.slice none 0 0), (.slice none 0 0)] 29 w fun t9 w =>
 sm Tryd.prog (Instr.makeSlice 24 a0 a0) w fun t49 w =>
 fillL [(0, 1), (1, 1), (2, 1), (3, 1), (4, 1), (5, 1), (6, 4), (10, 1), (11, 1), (12, 1), (13, 1)] #[(.int .i64 0), (.int .i64 0), (.int .i64 0), (.int .i64 0), (.string ⟨#[]⟩), (.bool false), (.string ⟨#[]⟩), (.string ⟨#[]⟩), (.int .i64 0), (.int .i64 0), (.slice none 0 0), (.slice none 0 0), (.slice none 0 0), (.slice none 0 0)] [(0, (.int .i64 7)), (7, t49), (9, t51), (10, t53)] fun t54 =>
 stN 14 t9 t54 w fun w =>
 jn (honeycomblaw12_RecordMany_J4 R) [a0, a1, a2, a3, t9] w)) ∧
 (alW #[(.int .i64 0), (.int .i64 0), (.int .i64 0), (.int .i64 0), (.string ⟨#[]⟩), (.bool false), (.string ⟨#[]⟩), (.string ⟨#[]⟩), (.int .i64 0), (.int .i64 0), (.slice none 0 0), (.slice none 0 0), (.slice none 0 0), (.slice none 0 0)] 29 w fun t9 w =>
 (sm Tryd.prog (Instr.makeSlice 24 a0 a0) w fun t49 w =>
 sm Tryd.prog (Instr.makeSlice 26 a2 a2) w fun t51 w =>
 fillL [(0, 1), (1, 1), (2, 1), (3, 1), (4, 1), (5, 1), (6, 4), (10, 1), (11, 1), (12, 1), (13, 1)] #[(.int .i64 0), (.int .i64 0), (.int .i64 0), (.int .i64 0), (.string ⟨#[]⟩), (.bool false), (.string ⟨#[]⟩), (.string ⟨#[]⟩), (.int .i64 0), (.int .i64 0), (.slice none 0 0), (.slice none 0 0), (.slice none 0 0), (.slice none 0 0)] [(0, (.int .i64 7)), (7, t49), (9, t51), (10, t53)] fun t54 =>
 stN 14 t9 t54 w fun w =>
 jn (honeycomblaw12_RecordMany_J4 R) [a0, a1, a2, a3, t9] w) ∧
 (sm Tryd.prog (Instr.makeSlice 26 a2 a2) w fun t51 w =>
 sm Tryd.prog (Instr.makeSlice 24 a0 a0) w fun t49 w =>
 fillL [(0, 1), (1, 1), (2, 1), (3, 1), (4, 1), (5, 1), (6, 4), (10, 1), (11, 1), (12, 1), (13, 1)] #[(.int .i64 0), (.int .i64 0), (.int .i64 0), (.int .i64 0), (.string ⟨#[]⟩), (.bool false), (.string ⟨#[]⟩), (.string ⟨#[]⟩), (.int .i64 0), (.int .i64 0), (.slice none 0 0), (.slice none 0 0), (.slice none 0 0), (.slice none 0 0)] [(0, (.int .i64 7)), (7, t49), (9, t51), (10, t53)] fun t54 =>
 stN 14 t9 t54 w fun w =>
 jn (honeycomblaw12_RecordMany_J4 R) [a0, a1, a2, a3, t9] w)))) ∧
 (alW #[(.int .i64 0), (.int .i64 0), (.int .i64 0), (.int .i64 0), (.string ⟨#[]⟩), (.bool false), (.string ⟨#[]⟩), (.string ⟨#[]⟩), (.int .i64 0), (.int .i64 0), (.slice none 0 0), (.slice none 0 0), (.slice none 0 0), (.slice none 0 0)] 29 w.drew fun t9 w =>
 (sm Tryd.prog (Instr.makeSlice 24 a0 a0) w fun t49 w =>
 (sm Tryd.prog (Instr.makeSlice 26 a2 a2) w fun t51 w =>
 sm Tryd.prog (Instr.makeSlice 27 a3 a3) w fun t53 w =>
 fillL [(0, 1), (1, 1), (2, 1), (3, 1), (4, 1), (5, 1), (6, 4), (10, 1), (11, 1), (12, 1), (13, 1)] #[(.int .i64 0), (.int .i64 0), (.int .i64 0), (.int .i64 0), (.string ⟨#[]⟩), (.bool false), (.string ⟨#[]⟩), (.string ⟨#[]⟩), (.int .i64 0), (.int .i64 0), (.slice none 0 0), (.slice none 0 0), (.slice none 0 0), (.slice none 0 0)] [(0, (.int .i64 7)), (7, t49), (9, t51), (10, t53)] fun t54 =>
 stN 14 t9 t54 w fun w =>
 jn (honeycomblaw12_RecordMany_J4 R) [a0, a1, a2, a3, t9] w) ∧
 (sm Tryd.prog (Instr.makeSlice 27 a3 a3) w fun t53 w =>
 sm Tryd.prog (Instr.makeSlice 26 a2 a2) w fun t51 w =>
 fillL [(0, 1), (1, 1), (2, 1), (3, 1), (4, 1), (5, 1), (6, 4), (10, 1), (11, 1), (12, 1), (13, 1)] #[(.int .i64 0), (.int .i64 0), (.int .i64 0), (.int .i64 0), (.string ⟨#[]⟩), (.bool false), (.string ⟨#[]⟩), (.string ⟨#[]⟩), (.int .i64 0), (.int .i64 0), (.slice none 0 0), (.slice none 0 0), (.slice none 0 0), (.slice none 0 0)] [(0, (.int .i64 7)), (7, t49), (9, t51), (10, t53)] fun t54 =>
 stN 14 t9 t54 w fun w =>
 jn (honeycomblaw12_RecordMany_J4 R) [a0, a1, a2, a3, t9] w)) ∧
 ((sm Tryd.prog (Instr.makeSlice 26 a2 a2) w fun t51 w =>
 (sm Tryd.prog (Instr.makeSlice 24 a0 a0) w fun t49 w =>
 sm Tryd.prog (Instr.makeSlice 27 a3 a3) w fun t53 w =>
 fillL [(0, 1), (1, 1), (2, 1), (3, 1), (4, 1), (5, 1), (6, 4), (10, 1), (11, 1), (12, 1), (13, 1)] #[(.int .i64 0), (.int .i64 0), (.int .i64 0), (.int .i64 0), (.string ⟨#[]⟩), (.bool false), (.string ⟨#[]⟩), (.string ⟨#[]⟩), (.int .i64 0), (.int .i64 0), (.slice none 0 0), (.slice none 0 0), (.slice none 0 0), (.slice none 0 0)] [(0, (.int .i64 7)), (7, t49), (9, t51), (10, t53)] fun t54 =>
 stN 14 t9 t54 w fun w =>
 jn (honeycomblaw12_RecordMany_J4 R) [a0, a1, a2, a3, t9] w) ∧
 (sm Tryd.prog (Instr.makeSlice 27 a3 a3) w fun t53 w =>
 sm Tryd.prog (Instr.makeSlice 24 a0 a0) w fun t49 w =>
 fillL [(0, 1), (1, 1), (2, 1), (3, 1), (4, 1), (5, 1), (6, 4), (10, 1), (11, 1), (12, 1), (13, 1)] #[(.int .i64 0), (.int .i64 0), (.int .i64 0), (.int .i64 0), (.string ⟨#[]⟩), (.bool false), (.string ⟨#[]⟩), (.string ⟨#[]⟩), (.int .i64 0), (.int .i64 0), (.slice none 0 0), (.slice none 0 0), (.slice none 0 0), (.slice none 0 0)] [(0, (.int .i64 7)), (7, t49), (9, t51), (10, t53)] fun t54 =>
 stN 14 t9 t54 w fun w =>
 jn (honeycomblaw12_RecordMany_J4 R) [a0, a1, a2, a3, t9] w)) ∧
 (sm Tryd.prog (Instr.makeSlice 27 a3 a3) w fun t53 w =>
 (sm Tryd.prog (Instr.makeSlice 24 a0 a0) w fun t49 w =>
 sm Tryd.prog (Instr.makeSlice 26 a2 a2) w fun t51 w =>
 fillL [(0, 1), (1, 1), (2, 1), (3, 1), (4, 1), (5, 1), (6, 4), (10, 1), (11, 1), (12, 1), (13, 1)] #[(.int .i64 0), (.int .i64 0), (.int .i64 0), (.int .i64 0), (.string ⟨#[]⟩), (.bool false), (.string ⟨#[]⟩), (.string ⟨#[]⟩), (.int .i64 0), (.int .i64 0), (.slice none 0 0), (.slice none 0 0), (.slice none 0 0), (.slice none 0 0)] [(0, (.int .i64 7)), (7, t49), (9, t51), (10, t53)] fun t54 =>
 stN 14 t9 t54 w fun w =>
 jn (honeycomblaw12_RecordMany_J4 R) [a0, a1, a2, a3, t9] w) ∧
 (sm Tryd.prog (Instr.makeSlice 26 a2 a2) w fun t51 w =>
 sm Tryd.prog (Instr.makeSlice 24 a0 a0) w fun t49 w =>
 fillL [(0, 1), (1, 1), (2, 1), (3, 1), (4, 1), (5, 1), (6, 4), (10, 1), (11, 1), (12, 1), (13, 1)] #[(.int .i64 0), (.int .i64 0), (.int .i64 0), (.int .i64 0), (.string ⟨#[]⟩), (.bool false), (.string ⟨#[]⟩), (.string ⟨#[]⟩), (.int .i64 0), (.int .i64 0), (.slice none 0 0), (.slice none 0 0), (.slice none 0 0), (.slice none 0 0)] [(0, (.int .i64 7)), (7, t49), (9, t51), (10, t53)] fun t54 =>
 stN 14 t9 t54 w fun w =>
 jn (honeycomblaw12_RecordMany_J4 R) [a0, a1, a2, a3, t9] w)))))))))))))))
theorem honeycomblaw12_RecordMany_den (a0 a1 a2 a3 : Value) (R : Value → World → Prop) (w : World) : denF Tryd.prog Tryd.f8 (Tryd.f8.body.getD .skip) [(2, []), (4, [0, 1, 2, 3, 9])] [(5, [0, 1, 2, 3, 9, 10])] [a0, a1, a2, a3] R w = honeycomblaw12_RecordMany a0 a1 a2 a3 R w := by kernel_rfl
set_option maxRecDepth 100000 in
theorem honeycomblaw12_RecordMany_run {a0 a1 a2 a3 : Value} {R : Value → World → Prop} {w : World} (h : honeycomblaw12_RecordMany a0 a1 a2 a3 R w) : Calls Tryd.prog 8 #[a0, a1, a2, a3] w (rt R) :=
  run_sound (c := Tryd.f8.body.getD .skip) (la := [(2, []), (4, [0, 1, 2, 3, 9])]) (lb := [(5, [0, 1, 2, 3, 9, 10])]) (args := [a0, a1, a2, a3]) mixed Tryd.func8 (by kernel_rfl) (by kernel_rfl) (Nat.le_of_ble_eq_true (by kernel_rfl)) (Eq.mpr (honeycomblaw12_RecordMany_den a0 a1 a2 a3 R w) h)
theorem honeycomblaw12_RecordMany_body : hasBody Tryd.prog 8 = true := by kernel_rfl
theorem honeycomblaw12_RecordMany_call {a0 a1 a2 a3 : Value} {R : Value → World → Prop} {w : World} (h : Calls Tryd.prog 8 #[a0, a1, a2, a3] w (rt R)) : callW Tryd.prog (.func (.func 8) #[] #[]) [a0, a1, a2, a3] w R :=
  ⟨honeycomblaw12_RecordMany_body, h⟩
def honeycomblaw14_WalFull_J2 (R : Value → World → Prop) : List Value → World → Prop := fun l w =>
 callW Tryd.prog (.func (.func 23) #[] #[]) [] w fun t37 w =>
 R t37 w
def honeycomblaw14_WalFull_J6 (R : Value → World → Prop) : List Value → World → Prop := fun l w =>
 R (.bool false) w
def honeycomblaw14_WalFull_J21 (R : Value → World → Prop) : List Value → World → Prop := fun l w =>
 R (.bool false) w
def honeycomblaw14_WalFull_J17 (R : Value → World → Prop) : List Value → World → Prop := fun l w =>
 unc l fun t0 l =>
 unc l fun t1 l =>
 unc l fun t5 l =>
 unc l fun t6 l =>
 unc l fun t8 l =>
 unc l fun t9 l =>
 intW .add (.int .i64 34) t1 fun t72 =>
 callW Tryd.prog (.func (.func 27) #[] #[]) [t6] w fun t74 w =>
 ldN 14 t8 w fun t77 _ =>
 callW Tryd.prog (.func (.func 26) #[] #[]) [t6, t77] w fun t78 w =>
 exW t78 0 fun t79 =>
 exW t78 1 fun t80 =>
 intW .mul t0 (.int .i64 56) fun t83 =>
 intW .quo t83 t72 fun t85 =>
 intW .neq t9 t85 fun t86 =>
 brV t86
 (jn (honeycomblaw14_WalFull_J21 R) [] w)
 (intW .mul t9 t72 fun t92 =>
 intW .add t92 (.int .i64 56) fun t93 =>
 intW .sub t93 (.int .i64 1) fun t94 =>
 intW .quo t94 (.int .i64 56) fun t95 =>
 intW .sub t0 t95 fun t96 =>
 intW .neq t74 t96 fun t97 =>
 brV t97
 (jn (honeycomblaw14_WalFull_J21 R) [] w)
 (intW .neq t80 (.int .i64 7) fun t101 =>
 brV t101
 (jn (honeycomblaw14_WalFull_J21 R) [] w)
 (callW Tryd.prog (.func (.func 28) #[] #[]) [t6] w fun t105 w =>
 intW .neq t105 t9 fun t107 =>
 brV t107
 (jn (honeycomblaw14_WalFull_J21 R) [] w)
 (callW Tryd.prog (.func (.func 29) #[] #[]) [t6] w fun t111 w =>
 intW .neq t111 (.int .i64 0) fun t112 =>
 brV t112
 (jn (honeycomblaw14_WalFull_J21 R) [] w)
 (callW Tryd.prog (.func (.func 25) #[] #[]) [t5, (.int .i64 2), t0, (.int .i64 2)] w fun t117 w =>
 exW t117 0 fun t118 =>
 exW t117 1 fun t119 =>
 intW .eql t119 (.int .i64 0) fun t121 =>
 brV t121
 (nilW 2 .neq t118 (.pointer none) fun t124 =>
 brV t124
 (callW Tryd.prog (.func (.func 28) #[] #[]) [t118] w fun t128 w =>
 intW .eql t128 t9 fun t130 =>
 brV t130
 (callW Tryd.prog (.func (.func 27) #[] #[]) [t118] w fun t134 w =>
 intW .eql t134 t74 fun t136 =>
 R t136 w)
 (R (.bool false) w))
 (R (.bool false) w))
 (R (.bool false) w))))))
def honeycomblaw14_WalFull_L10 (R : Value → World → Prop) : (List Value → World → Prop) → List Value → World → Prop := fun r10 l w =>
 unc l fun t0 l =>
 unc l fun t1 l =>
 unc l fun t5 l =>
 unc l fun t6 l =>
 unc l fun t8 l =>
 unc l fun t9 l =>
 unc l fun t10 l =>
 intW .lss t10 (.int .i64 300) fun t56 =>
 brV t56
 (ldN 14 t8 w fun t61 _ =>
 callW Tryd.prog (.func (.func 26) #[] #[]) [t6, t61] w fun t62 w =>
 exW t62 0 fun t63 =>
 exW t62 1 fun t64 =>
 intW .eql t64 (.int .i64 7) fun t66 =>
 brV t66
 (jn (honeycomblaw14_WalFull_J17 R) [t0, t1, t5, t6, t8, t9] w)
 (intW .neq t64 (.int .i64 0) fun t68 =>
 brV t68
 (R (.bool false) w)
 (intW .add t9 (.int .i64 1) fun t70 =>
 intW .add t10 (.int .i64 1) fun t58 =>
 r10 [t0, t1, t5, t6, t8, t70, t58] w)))
 (jn (honeycomblaw14_WalFull_J17 R) [t0, t1, t5, t6, t8, t9] w)
/-- `honeycomb/honeycomblaw14.WalFull` -/
def honeycomblaw14_WalFull (a0 a1 : Value) (R : Value → World → Prop) (w : World) : Prop :=
 intW .lss a0 (.int .i64 1) fun t20 =>
 brV t20
 (jn (honeycomblaw14_WalFull_J2 R) [] w)
 (intW .gtr a0 (.int .i64 60) fun t23 =>
 brV t23
 (jn (honeycomblaw14_WalFull_J2 R) [] w)
 (intW .lss a1 (.int .i64 0) fun t27 =>
 brV t27
 (jn (honeycomblaw14_WalFull_J2 R) [] w)
 (intW .gtr a1 (.int .i64 255) fun t31 =>
 brV t31
 (jn (honeycomblaw14_WalFull_J2 R) [] w)
 (callW Tryd.prog (.func (.func 23) #[] #[]) [] w fun t34 w =>
 unW .not t34 fun t35 =>
 brV t35
 (jn (honeycomblaw14_WalFull_J2 R) [] w)
 (callW Tryd.prog (.func (.func 24) #[] #[]) [(.int .i64 100)] w fun t38 w =>
 callW Tryd.prog (.func (.func 25) #[] #[]) [t38, (.int .i64 2), a0, (.int .i64 1)] w fun t42 w =>
 exW t42 0 fun t43 =>
 exW t42 1 fun t44 =>
 intW .neq t44 (.int .i64 0) fun t46 =>
 brV t46
 (jn (honeycomblaw14_WalFull_J6 R) [] w)
 (nilW 2 .eql t43 (.pointer none) fun t49 =>
 brV t49
 (jn (honeycomblaw14_WalFull_J6 R) [] w)
 (sm Tryd.prog (Instr.makeSlice 44 a1 a1) w fun t52 w =>
 sm Tryd.prog (convert 44 9 t52) w fun t53 w =>
 fillL [(0, 1), (1, 1), (2, 1), (3, 1), (4, 1), (5, 1), (6, 4), (10, 1), (11, 1), (12, 1), (13, 1)] #[(.int .i64 0), (.int .i64 0), (.int .i64 0), (.int .i64 0), (.string ⟨#[]⟩), (.bool false), (.string ⟨#[]⟩), (.string ⟨#[]⟩), (.int .i64 0), (.int .i64 0), (.slice none 0 0), (.slice none 0 0), (.slice none 0 0), (.slice none 0 0)] [(0, (.int .i64 1)), (4, t53)] fun t54 =>
 alW #[(.int .i64 0), (.int .i64 0), (.int .i64 0), (.int .i64 0), (.string ⟨#[]⟩), (.bool false), (.string ⟨#[]⟩), (.string ⟨#[]⟩), (.int .i64 0), (.int .i64 0), (.slice none 0 0), (.slice none 0 0), (.slice none 0 0), (.slice none 0 0)] 29 w fun t8 w =>
 stN 14 t8 t54 w fun w =>
 lp (honeycomblaw14_WalFull_L10 R) [a0, a1, t38, t43, t8, (.int .i64 0), (.int .i64 0)] w)))))))
theorem honeycomblaw14_WalFull_den (a0 a1 : Value) (R : Value → World → Prop) (w : World) : denF Tryd.prog Tryd.f9 (Tryd.f9.body.getD .skip) [(2, []), (6, []), (17, [0, 1, 5, 6, 8, 9]), (21, [])] [(10, [0, 1, 5, 6, 8, 9, 10])] [a0, a1] R w = honeycomblaw14_WalFull a0 a1 R w := by kernel_rfl
set_option maxRecDepth 100000 in
theorem honeycomblaw14_WalFull_run {a0 a1 : Value} {R : Value → World → Prop} {w : World} (h : honeycomblaw14_WalFull a0 a1 R w) : Calls Tryd.prog 9 #[a0, a1] w (rt R) :=
  run_sound (c := Tryd.f9.body.getD .skip) (la := [(2, []), (6, []), (17, [0, 1, 5, 6, 8, 9]), (21, [])]) (lb := [(10, [0, 1, 5, 6, 8, 9, 10])]) (args := [a0, a1]) mixed Tryd.func9 (by kernel_rfl) (by kernel_rfl) (Nat.le_of_ble_eq_true (by kernel_rfl)) (Eq.mpr (honeycomblaw14_WalFull_den a0 a1 R w) h)
theorem honeycomblaw14_WalFull_body : hasBody Tryd.prog 9 = true := by kernel_rfl
theorem honeycomblaw14_WalFull_call {a0 a1 : Value} {R : Value → World → Prop} {w : World} (h : Calls Tryd.prog 9 #[a0, a1] w (rt R)) : callW Tryd.prog (.func (.func 9) #[] #[]) [a0, a1] w R :=
  ⟨honeycomblaw14_WalFull_body, h⟩
def honeycomblaw14_WalLeft_J2 (R : Value → World → Prop) : List Value → World → Prop := fun l w =>
 callW Tryd.prog (.func (.func 23) #[] #[]) [] w fun t20 w =>
 R t20 w
def honeycomblaw14_WalLeft_J6 (R : Value → World → Prop) : List Value → World → Prop := fun l w =>
 R (.bool false) w
def honeycomblaw14_WalLeft_J11 (R : Value → World → Prop) (r8 : List Value → World → Prop) : List Value → World → Prop := fun l w =>
 R (.bool true) w
def honeycomblaw14_WalLeft_J18 (R : Value → World → Prop) (r8 : List Value → World → Prop) : List Value → World → Prop := fun l w =>
 R (.bool false) w
def honeycomblaw14_WalLeft_J22 (R : Value → World → Prop) (r8 : List Value → World → Prop) : List Value → World → Prop := fun l w =>
 R (.bool false) w
def honeycomblaw14_WalLeft_J23 (R : Value → World → Prop) (r8 : List Value → World → Prop) : List Value → World → Prop := fun l w =>
 unc l fun t4 l =>
 unc l fun t33 l =>
 unc l fun t34 l =>
 unc l fun t35 l =>
 intW .add t35 (.int .i64 1) fun t92 =>
 r8 [t4, t33, t34, t92] w
def honeycomblaw14_WalLeft_L8 (R : Value → World → Prop) : (List Value → World → Prop) → List Value → World → Prop := fun r8 l w =>
 unc l fun t4 l =>
 unc l fun t33 l =>
 unc l fun t34 l =>
 unc l fun t35 l =>
 intW .lss t35 t34 fun t36 =>
 brV t36
 (ixS 1 t33 t35 fun t38 =>
 ldC t38 w fun t39 _ =>
 intW .lss t39 (.int .i64 0) fun t41 =>
 brV t41
 (jn (honeycomblaw14_WalLeft_J11 R r8) [] w)
 (intW .gtr t39 (.int .i64 255) fun t44 =>
 brV t44
 (jn (honeycomblaw14_WalLeft_J11 R r8) [] w)
 (callW Tryd.prog (.func (.func 27) #[] #[]) [t4] w fun t47 w =>
 sm Tryd.prog (Instr.makeSlice 44 t39 t39) w fun t51 w =>
 sm Tryd.prog (convert 44 9 t51) w fun t52 w =>
 fillL [(0, 1), (1, 1), (2, 1), (3, 1), (4, 1), (5, 1), (6, 4), (10, 1), (11, 1), (12, 1), (13, 1)] #[(.int .i64 0), (.int .i64 0), (.int .i64 0), (.int .i64 0), (.string ⟨#[]⟩), (.bool false), (.string ⟨#[]⟩), (.string ⟨#[]⟩), (.int .i64 0), (.int .i64 0), (.slice none 0 0), (.slice none 0 0), (.slice none 0 0), (.slice none 0 0)] [(0, (.int .i64 1)), (4, t52)] fun t53 =>
 callW Tryd.prog (.func (.func 26) #[] #[]) [t4, t53] w fun t54 w =>
 exW t54 0 fun t55 =>
 exW t54 1 fun t56 =>
 intW .neq t56 (.int .i64 0) fun t58 =>
 brV t58
 (intW .eql t56 (.int .i64 7) fun t60 =>
 R t60 w)
 (intW .add (.int .i64 34) t39 fun t62 =>
 intW .add t62 (.int .i64 56) fun t63 =>
 intW .sub t63 (.int .i64 1) fun t64 =>
 intW .quo t64 (.int .i64 56) fun t65 =>
 callW Tryd.prog (.func (.func 27) #[] #[]) [t4] w fun t67 w =>
 intW .gtr t67 t47 fun t69 =>
 brV t69
 (jn (honeycomblaw14_WalLeft_J18 R r8) [] w)
 (callW Tryd.prog (.func (.func 27) #[] #[]) [t4] w fun t72 w =>
 intW .sub t47 t65 fun t75 =>
 intW .lss t72 t75 fun t76 =>
 brV t76
 (jn (honeycomblaw14_WalLeft_J18 R r8) [] w)
 (intW .rem t35 (.int .i64 3) fun t79 =>
 intW .eql t79 (.int .i64 2) fun t80 =>
 brV t80
 (callW Tryd.prog (.func (.func 27) #[] #[]) [t4] w fun t82 w =>
 callW Tryd.prog (.func (.func 29) #[] #[]) [t4] w fun t84 w =>
 intW .neq t84 (.int .i64 0) fun t85 =>
 brV t85
 (jn (honeycomblaw14_WalLeft_J22 R r8) [] w)
 (callW Tryd.prog (.func (.func 27) #[] #[]) [t4] w fun t88 w =>
 intW .neq t88 t82 fun t90 =>
 brV t90
 (jn (honeycomblaw14_WalLeft_J22 R r8) [] w)
 (jn (honeycomblaw14_WalLeft_J23 R r8) [t4, t33, t34, t35] w)))
 (jn (honeycomblaw14_WalLeft_J23 R r8) [t4, t33, t34, t35] w)))))))
 (R (.bool true) w)
/-- `honeycomb/honeycomblaw14.WalLeft` -/
def honeycomblaw14_WalLeft (a0 : Value) (R : Value → World → Prop) (w : World) : Prop :=
 lenSl a0 fun t14 =>
 intW .gtr t14 (.int .i64 20) fun t15 =>
 brV t15
 (jn (honeycomblaw14_WalLeft_J2 R) [] w)
 (callW Tryd.prog (.func (.func 23) #[] #[]) [] w fun t17 w =>
 unW .not t17 fun t18 =>
 brV t18
 (jn (honeycomblaw14_WalLeft_J2 R) [] w)
 (callW Tryd.prog (.func (.func 24) #[] #[]) [(.int .i64 700)] w fun t21 w =>
 callW Tryd.prog (.func (.func 25) #[] #[]) [t21, (.int .i64 1), (.int .i64 600), (.int .i64 1)] w fun t24 w =>
 exW t24 0 fun t25 =>
 exW t24 1 fun t26 =>
 intW .neq t26 (.int .i64 0) fun t28 =>
 brV t28
 (jn (honeycomblaw14_WalLeft_J6 R) [] w)
 (nilW 2 .eql t25 (.pointer none) fun t31 =>
 brV t31
 (jn (honeycomblaw14_WalLeft_J6 R) [] w)
 (lenSl a0 fun t34 =>
 lp (honeycomblaw14_WalLeft_L8 R) [t25, a0, t34, (.int .i64 0)] w))))
theorem honeycomblaw14_WalLeft_den (a0 : Value) (R : Value → World → Prop) (w : World) : denF Tryd.prog Tryd.f10 (Tryd.f10.body.getD .skip) [(2, []), (6, []), (11, []), (18, []), (22, []), (23, [4, 33, 34, 35])] [(8, [4, 33, 34, 35])] [a0] R w = honeycomblaw14_WalLeft a0 R w := by kernel_rfl
set_option maxRecDepth 100000 in
theorem honeycomblaw14_WalLeft_run {a0 : Value} {R : Value → World → Prop} {w : World} (h : honeycomblaw14_WalLeft a0 R w) : Calls Tryd.prog 10 #[a0] w (rt R) :=
  run_sound (c := Tryd.f10.body.getD .skip) (la := [(2, []), (6, []), (11, []), (18, []), (22, []), (23, [4, 33, 34, 35])]) (lb := [(8, [4, 33, 34, 35])]) (args := [a0]) mixed Tryd.func10 (by kernel_rfl) (by kernel_rfl) (Nat.le_of_ble_eq_true (by kernel_rfl)) (Eq.mpr (honeycomblaw14_WalLeft_den a0 R w) h)
theorem honeycomblaw14_WalLeft_body : hasBody Tryd.prog 10 = true := by kernel_rfl
theorem honeycomblaw14_WalLeft_call {a0 : Value} {R : Value → World → Prop} {w : World} (h : Calls Tryd.prog 10 #[a0] w (rt R)) : callW Tryd.prog (.func (.func 10) #[] #[]) [a0] w R :=
  ⟨honeycomblaw14_WalLeft_body, h⟩
def honeycomblaw14_WalErrors_J6 (R : Value → World → Prop) : List Value → World → Prop := fun l w =>
 unc l fun t1 l =>
 unc l fun t2 l =>
 unc l fun t8 l =>
 unc l fun t9 l =>
 unc l fun t10 l =>
 brV t10
 (intW .eql t9 (.int .i64 0) fun t53 =>
 brV t53
 (nilW 2 .neq t8 (.pointer none) fun t56 =>
 brV t56
 (callW Tryd.prog (.func (.func 28) #[] #[]) [t8] w fun t60 w =>
 intW .eql t60 (.int .i64 0) fun t61 =>
 brV t61
 (callW Tryd.prog (.func (.func 27) #[] #[]) [t8] w fun t65 w =>
 intW .eql t65 t1 fun t67 =>
 brV t67
 (callW Tryd.prog (.func (.func 30) #[] #[]) [t8] w fun t71 w =>
 intW .eql t71 t2 fun t73 =>
 R t73 w)
 (R (.bool false) w))
 (R (.bool false) w))
 (R (.bool false) w))
 (R (.bool false) w))
 (intW .eql t9 (.int .i64 1) fun t76 =>
 brV t76
 (nilW 2 .eql t8 (.pointer none) fun t79 =>
 R t79 w)
 (R (.bool false) w))
/-- `honeycomb/honeycomblaw14.WalErrors` -/
def honeycomblaw14_WalErrors (a0 a1 a2 : Value) (R : Value → World → Prop) (w : World) : Prop :=
 callW Tryd.prog (.func (.func 23) #[] #[]) [] w fun t11 w =>
 unW .not t11 fun t12 =>
 brV t12
 (R (.bool false) w)
 (callW Tryd.prog (.func (.func 24) #[] #[]) [(.int .i64 100)] w fun t13 w =>
 callW Tryd.prog (.func (.func 25) #[] #[]) [t13, a0, a1, a2] w fun t19 w =>
 exW t19 0 fun t20 =>
 exW t19 1 fun t21 =>
 intW .geq a1 (.int .i64 1) fun t23 =>
 brV t23
 (intW .leq a1 (.int .i64 4000) fun t26 =>
 brV t26
 (intW .geq a0 (.int .i64 0) fun t30 =>
 brV t30
 (yl Tryd.prog (Builtin.min_ #[3, 3] 3 [a1, (.int .i64 100)].toArray) fun t35 =>
 intW .sub (.int .i64 100) t35 fun t36 =>
 intW .leq a0 t36 fun t37 =>
 brV t37
 (intW .leq a1 (.int .i64 100) fun t41 =>
 brV t41
 (intW .geq a2 (.int .i64 1) fun t45 =>
 brV t45
 (intW .leq a2 (.int .i64 4294967295) fun t49 =>
 jn (honeycomblaw14_WalErrors_J6 R) [a1, a2, t20, t21, t49] w)
 (jn (honeycomblaw14_WalErrors_J6 R) [a1, a2, t20, t21, (.bool false)] w))
 (jn (honeycomblaw14_WalErrors_J6 R) [a1, a2, t20, t21, (.bool false)] w))
 (jn (honeycomblaw14_WalErrors_J6 R) [a1, a2, t20, t21, (.bool false)] w))
 (jn (honeycomblaw14_WalErrors_J6 R) [a1, a2, t20, t21, (.bool false)] w))
 (jn (honeycomblaw14_WalErrors_J6 R) [a1, a2, t20, t21, (.bool false)] w))
 (jn (honeycomblaw14_WalErrors_J6 R) [a1, a2, t20, t21, (.bool false)] w))
theorem honeycomblaw14_WalErrors_den (a0 a1 a2 : Value) (R : Value → World → Prop) (w : World) : denF Tryd.prog Tryd.f11 (Tryd.f11.body.getD .skip) [(6, [1, 2, 8, 9, 10])] [] [a0, a1, a2] R w = honeycomblaw14_WalErrors a0 a1 a2 R w := by kernel_rfl
set_option maxRecDepth 100000 in
theorem honeycomblaw14_WalErrors_run {a0 a1 a2 : Value} {R : Value → World → Prop} {w : World} (h : honeycomblaw14_WalErrors a0 a1 a2 R w) : Calls Tryd.prog 11 #[a0, a1, a2] w (rt R) :=
  run_sound (c := Tryd.f11.body.getD .skip) (la := [(6, [1, 2, 8, 9, 10])]) (lb := []) (args := [a0, a1, a2]) mixed Tryd.func11 (by kernel_rfl) (by kernel_rfl) (Nat.le_of_ble_eq_true (by kernel_rfl)) (Eq.mpr (honeycomblaw14_WalErrors_den a0 a1 a2 R w) h)
theorem honeycomblaw14_WalErrors_body : hasBody Tryd.prog 11 = true := by kernel_rfl
theorem honeycomblaw14_WalErrors_call {a0 a1 a2 : Value} {R : Value → World → Prop} {w : World} (h : Calls Tryd.prog 11 #[a0, a1, a2] w (rt R)) : callW Tryd.prog (.func (.func 11) #[] #[]) [a0, a1, a2] w R :=
  ⟨honeycomblaw14_WalErrors_body, h⟩
def honeycomblaw14_WalEpochs_J2 (R : Value → World → Prop) : List Value → World → Prop := fun l w =>
 callW Tryd.prog (.func (.func 23) #[] #[]) [] w fun t33 w =>
 R t33 w
def honeycomblaw14_WalEpochs_J10 (R : Value → World → Prop) (r6 : List Value → World → Prop) : List Value → World → Prop := fun l w =>
 R (.bool false) w
def honeycomblaw14_WalEpochs_J15 (R : Value → World → Prop) (r6 : List Value → World → Prop) (r12 : List Value → World → Prop) : List Value → World → Prop := fun l w =>
 R (.bool true) w
def honeycomblaw14_WalEpochs_J21 (R : Value → World → Prop) (r6 : List Value → World → Prop) (r12 : List Value → World → Prop) : List Value → World → Prop := fun l w =>
 R (.bool false) w
def honeycomblaw14_WalEpochs_J23 (R : Value → World → Prop) (r6 : List Value → World → Prop) : List Value → World → Prop := fun l w =>
 R (.bool false) w
def honeycomblaw14_WalEpochs_J22 (R : Value → World → Prop) (r6 : List Value → World → Prop) : List Value → World → Prop := fun l w =>
 unc l fun t0 l =>
 unc l fun t1 l =>
 unc l fun t5 l =>
 unc l fun t6 l =>
 unc l fun t7 l =>
 unc l fun t8 l =>
 callW Tryd.prog (.func (.func 33) #[] #[]) [t8, t6] w fun t135 w =>
 intW .neq t135 (.int .i64 0) fun t136 =>
 brV t136
 (jn (honeycomblaw14_WalEpochs_J23 R r6) [] w)
 (callW Tryd.prog (.func (.func 31) #[] #[]) [t8] w fun t139 w =>
 intW .neq t139 t6 fun t141 =>
 brV t141
 (jn (honeycomblaw14_WalEpochs_J23 R r6) [] w)
 (fillL [(0, 1), (1, 1), (2, 1), (3, 1), (4, 1), (5, 1), (6, 4), (10, 1), (11, 1), (12, 1), (13, 1)] #[(.int .i64 0), (.int .i64 0), (.int .i64 0), (.int .i64 0), (.string ⟨#[]⟩), (.bool false), (.string ⟨#[]⟩), (.string ⟨#[]⟩), (.int .i64 0), (.int .i64 0), (.slice none 0 0), (.slice none 0 0), (.slice none 0 0), (.slice none 0 0)] [(0, (.int .i64 5)), (1, (.int .i64 9))] fun t144 =>
 callW Tryd.prog (.func (.func 26) #[] #[]) [t8, t144] w fun t145 w =>
 intW .add t7 (.int .i64 1) fun t42 =>
 r6 [t0, t1, t5, t6, t42] w))
def honeycomblaw14_WalEpochs_L12 (R : Value → World → Prop) (r6 : List Value → World → Prop) : (List Value → World → Prop) → List Value → World → Prop := fun r12 l w =>
 unc l fun t0 l =>
 unc l fun t1 l =>
 unc l fun t5 l =>
 unc l fun t6 l =>
 unc l fun t7 l =>
 unc l fun t8 l =>
 unc l fun t10 l =>
 lenSl t0 fun t80 =>
 intW .lss t10 t80 fun t81 =>
 brV t81
 (intW .add t7 (.int .i64 1) fun t85 =>
 intW .mul t85 t1 fun t87 =>
 intW .lss t10 t87 fun t88 =>
 brV t88
 (ixS 14 t0 t10 fun t94 =>
 ldN 14 t94 w fun t95 _ =>
 callW Tryd.prog (.func (.func 15) #[] #[]) [t95] w fun t96 w =>
 unW .not t96 fun t97 =>
 brV t97
 (jn (honeycomblaw14_WalEpochs_J15 R r6 r12) [] w)
 (ixS 14 t0 t10 fun t101 =>
 ldN 14 t101 w fun t102 _ =>
 callW Tryd.prog (.func (.func 32) #[] #[]) [t102] w fun t103 w =>
 unW .not t103 fun t104 =>
 brV t104
 (jn (honeycomblaw14_WalEpochs_J15 R r6 r12) [] w)
 (ixS 14 t0 t10 fun t110 =>
 ldN 14 t110 w fun t111 _ =>
 callW Tryd.prog (.func (.func 26) #[] #[]) [t8, t111] w fun t112 w =>
 exW t112 0 fun t113 =>
 exW t112 1 fun t114 =>
 intW .eql t114 (.int .i64 7) fun t116 =>
 brV t116
 (R (.bool true) w)
 (intW .add t6 (.int .i64 1) fun t118 =>
 intW .neq t113 t118 fun t121 =>
 brV t121
 (jn (honeycomblaw14_WalEpochs_J21 R r6 r12) [] w)
 (intW .neq t114 (.int .i64 0) fun t124 =>
 brV t124
 (jn (honeycomblaw14_WalEpochs_J21 R r6 r12) [] w)
 (intW .sub t118 (.int .i64 1) fun t129 =>
 callW Tryd.prog (.func (.func 33) #[] #[]) [t8, t129] w fun t130 w =>
 intW .neq t130 (.int .i64 0) fun t131 =>
 brV t131
 (jn (honeycomblaw14_WalEpochs_J21 R r6 r12) [] w)
 (intW .add t10 (.int .i64 1) fun t91 =>
 r12 [t0, t1, t5, t118, t7, t8, t91] w)))))))
 (jn (honeycomblaw14_WalEpochs_J22 R r6) [t0, t1, t5, t6, t7, t8] w))
 (jn (honeycomblaw14_WalEpochs_J22 R r6) [t0, t1, t5, t6, t7, t8] w)
def honeycomblaw14_WalEpochs_J27 (R : Value → World → Prop) : List Value → World → Prop := fun l w =>
 R (.bool false) w
def honeycomblaw14_WalEpochs_J33 (R : Value → World → Prop) (r29 : List Value → World → Prop) : List Value → World → Prop := fun l w =>
 R (.bool false) w
def honeycomblaw14_WalEpochs_L29 (R : Value → World → Prop) : (List Value → World → Prop) → List Value → World → Prop := fun r29 l w =>
 unc l fun t0 l =>
 unc l fun t6 l =>
 unc l fun t13 l =>
 unc l fun t15 l =>
 intW .leq t15 t6 fun t165 =>
 brV t165
 (callW Tryd.prog (.func (.func 34) #[] #[]) [t13, t15] w fun t171 w =>
 exW t171 0 fun t172 =>
 exW t171 1 fun t173 =>
 alW #[(.int .i64 0), (.int .i64 0), (.int .i64 0), (.int .i64 0), (.string ⟨#[]⟩), (.bool false), (.string ⟨#[]⟩), (.string ⟨#[]⟩), (.int .i64 0), (.int .i64 0), (.slice none 0 0), (.slice none 0 0), (.slice none 0 0), (.slice none 0 0)] 29 w fun t16 w =>
 stN 14 t16 t172 w fun w =>
 unW .not t173 fun t175 =>
 brV t175
 (jn (honeycomblaw14_WalEpochs_J33 R r29) [] w.drew)
 (intW .sub t15 (.int .i64 1) fun t180 =>
 ixS 14 t0 t180 fun t181 =>
 ldN 14 t16 w.drew fun t177 c3 =>
 ldN 14 t181 w.drew fun t182 c8 =>
 callW Tryd.prog (.func (.func 19) #[] #[]) [t177, t182] w.drew fun t183 w =>
 unW .not t183 fun t184 =>
 brV t184
 (jn (honeycomblaw14_WalEpochs_J33 R r29) [] w)
 (intW .add t15 (.int .i64 1) fun t167 =>
 r29 [t0, t6, t13, t167] w)))
 (R (.bool true) w)
def honeycomblaw14_WalEpochs_L6 (R : Value → World → Prop) : (List Value → World → Prop) → List Value → World → Prop := fun r6 l w =>
 unc l fun t0 l =>
 unc l fun t1 l =>
 unc l fun t5 l =>
 unc l fun t6 l =>
 unc l fun t7 l =>
 intW .mul t7 t1 fun t37 =>
 lenSl t0 fun t39 =>
 intW .lss t37 t39 fun t40 =>
 brV t40
 (intW .add t7 (.int .i64 1) fun t46 =>
 callW Tryd.prog (.func (.func 25) #[] #[]) [t5, (.int .i64 7), (.int .i64 1100), t46] w fun t47 w =>
 exW t47 0 fun t48 =>
 exW t47 1 fun t49 =>
 intW .neq t49 (.int .i64 0) fun t51 =>
 brV t51
 (jn (honeycomblaw14_WalEpochs_J10 R r6) [] w)
 (nilW 2 .eql t48 (.pointer none) fun t54 =>
 brV t54
 (jn (honeycomblaw14_WalEpochs_J10 R r6) [] w)
 (callW Tryd.prog (.func (.func 28) #[] #[]) [t48] w fun t58 w =>
 intW .neq t58 t6 fun t60 =>
 brV t60
 (jn (honeycomblaw14_WalEpochs_J10 R r6) [] w)
 (callW Tryd.prog (.func (.func 31) #[] #[]) [t48] w fun t64 w =>
 intW .neq t64 t6 fun t66 =>
 brV t66
 (jn (honeycomblaw14_WalEpochs_J10 R r6) [] w)
 (callW Tryd.prog (.func (.func 30) #[] #[]) [t48] w fun t70 w =>
 intW .add t7 (.int .i64 1) fun t72 =>
 intW .neq t70 t72 fun t73 =>
 brV t73
 (jn (honeycomblaw14_WalEpochs_J10 R r6) [] w)
 (intW .mul t7 t1 fun t77 =>
 lp (honeycomblaw14_WalEpochs_L12 R r6) [t0, t1, t5, t6, t7, t48, t77] w))))))
 (callW Tryd.prog (.func (.func 25) #[] #[]) [t5, (.int .i64 7), (.int .i64 1100), (.int .i64 99)] w fun t148 w =>
 exW t148 0 fun t149 =>
 exW t148 1 fun t150 =>
 intW .neq t150 (.int .i64 0) fun t152 =>
 brV t152
 (jn (honeycomblaw14_WalEpochs_J27 R) [] w)
 (nilW 2 .eql t149 (.pointer none) fun t155 =>
 brV t155
 (jn (honeycomblaw14_WalEpochs_J27 R) [] w)
 (callW Tryd.prog (.func (.func 28) #[] #[]) [t149] w fun t159 w =>
 intW .neq t159 t6 fun t161 =>
 brV t161
 (jn (honeycomblaw14_WalEpochs_J27 R) [] w)
 (lp (honeycomblaw14_WalEpochs_L29 R) [t0, t6, t149, (.int .i64 1)] w))))
/-- `honeycomb/honeycomblaw14.WalEpochs` -/
def honeycomblaw14_WalEpochs (a0 a1 : Value) (R : Value → World → Prop) (w : World) : Prop :=
 lenSl a0 fun t19 =>
 intW .gtr t19 (.int .i64 16) fun t20 =>
 brV t20
 (jn (honeycomblaw14_WalEpochs_J2 R) [] w)
 (intW .lss a1 (.int .i64 1) fun t23 =>
 brV t23
 (jn (honeycomblaw14_WalEpochs_J2 R) [] w)
 (intW .gtr a1 (.int .i64 5) fun t27 =>
 brV t27
 (jn (honeycomblaw14_WalEpochs_J2 R) [] w)
 (callW Tryd.prog (.func (.func 23) #[] #[]) [] w fun t30 w =>
 unW .not t30 fun t31 =>
 brV t31
 (jn (honeycomblaw14_WalEpochs_J2 R) [] w)
 (callW Tryd.prog (.func (.func 24) #[] #[]) [(.int .i64 1200)] w fun t34 w =>
 lp (honeycomblaw14_WalEpochs_L6 R) [a0, a1, t34, (.int .i64 0), (.int .i64 0)] w))))
theorem honeycomblaw14_WalEpochs_den (a0 a1 : Value) (R : Value → World → Prop) (w : World) : denF Tryd.prog Tryd.f12 (Tryd.f12.body.getD .skip) [(2, []), (10, []), (15, []), (21, []), (22, [0, 1, 5, 6, 7, 8]), (23, []), (27, []), (33, [])] [(6, [0, 1, 5, 6, 7]), (12, [0, 1, 5, 6, 7, 8, 10]), (29, [0, 6, 13, 15])] [a0, a1] R w = honeycomblaw14_WalEpochs a0 a1 R w := by kernel_rfl
set_option maxRecDepth 100000 in
theorem honeycomblaw14_WalEpochs_run {a0 a1 : Value} {R : Value → World → Prop} {w : World} (h : honeycomblaw14_WalEpochs a0 a1 R w) : Calls Tryd.prog 12 #[a0, a1] w (rt R) :=
  run_sound (c := Tryd.f12.body.getD .skip) (la := [(2, []), (10, []), (15, []), (21, []), (22, [0, 1, 5, 6, 7, 8]), (23, []), (27, []), (33, [])]) (lb := [(6, [0, 1, 5, 6, 7]), (12, [0, 1, 5, 6, 7, 8, 10]), (29, [0, 6, 13, 15])]) (args := [a0, a1]) mixed Tryd.func12 (by kernel_rfl) (by kernel_rfl) (Nat.le_of_ble_eq_true (by kernel_rfl)) (Eq.mpr (honeycomblaw14_WalEpochs_den a0 a1 R w) h)
theorem honeycomblaw14_WalEpochs_body : hasBody Tryd.prog 12 = true := by kernel_rfl
theorem honeycomblaw14_WalEpochs_call {a0 a1 : Value} {R : Value → World → Prop} {w : World} (h : Calls Tryd.prog 12 #[a0, a1] w (rt R)) : callW Tryd.prog (.func (.func 12) #[] #[]) [a0, a1] w R :=
  ⟨honeycomblaw14_WalEpochs_body, h⟩
def honeycomblaw14_WalLasts_J2 (R : Value → World → Prop) : List Value → World → Prop := fun l w =>
 callW Tryd.prog (.func (.func 23) #[] #[]) [] w fun t42 w =>
 R t42 w
def honeycomblaw14_WalLasts_J6 (R : Value → World → Prop) : List Value → World → Prop := fun l w =>
 R (.bool false) w
def honeycomblaw14_WalLasts_J12 (R : Value → World → Prop) (r9 : List Value → World → Prop) : List Value → World → Prop := fun l w =>
 R (.bool true) w
def honeycomblaw14_WalLasts_J17 (R : Value → World → Prop) (r9 : List Value → World → Prop) : List Value → World → Prop := fun l w =>
 R (.bool false) w
def honeycomblaw14_WalLasts_J21 (R : Value → World → Prop) (r9 : List Value → World → Prop) : List Value → World → Prop := fun l w =>
 unc l fun t0 l =>
 unc l fun t2 l =>
 unc l fun t3 l =>
 unc l fun t9 l =>
 unc l fun t10 l =>
 unc l fun t12 l =>
 unc l fun t58 l =>
 unc l fun t59 l =>
 unc l fun t60 l =>
 intW .add t60 (.int .i64 1) fun t103 =>
 r9 [t0, t2, t3, t9, t10, t12, t58, t59, t103] w
def honeycomblaw14_WalLasts_J27 (R : Value → World → Prop) : List Value → World → Prop := fun l w =>
 R (.bool false) w
def honeycomblaw14_WalLasts_J33 (R : Value → World → Prop) (r29 : List Value → World → Prop) : List Value → World → Prop := fun l w =>
 R (.bool false) w
def honeycomblaw14_WalLasts_L29 (R : Value → World → Prop) : (List Value → World → Prop) → List Value → World → Prop := fun r29 l w =>
 unc l fun t9 l =>
 unc l fun t12 l =>
 unc l fun t18 l =>
 unc l fun t20 l =>
 callW Tryd.prog (.func (.func 28) #[] #[]) [t18] w fun t150 w =>
 intW .leq t20 t150 fun t151 =>
 brV t151
 (callW Tryd.prog (.func (.func 34) #[] #[]) [t18, t20] w fun t157 w =>
 exW t157 0 fun t158 =>
 exW t157 1 fun t159 =>
 alW #[(.int .i64 0), (.int .i64 0), (.int .i64 0), (.int .i64 0), (.string ⟨#[]⟩), (.bool false), (.string ⟨#[]⟩), (.string ⟨#[]⟩), (.int .i64 0), (.int .i64 0), (.slice none 0 0), (.slice none 0 0), (.slice none 0 0), (.slice none 0 0)] 29 w fun t21 w =>
 stN 14 t21 t158 w fun w =>
 unW .not t159 fun t161 =>
 brV t161
 (jn (honeycomblaw14_WalLasts_J33 R r29) [] w.drew)
 (intW .sub t20 (.int .i64 1) fun t166 =>
 ixS 14 t12 t166 fun t167 =>
 ldN 14 t21 w.drew fun t163 c3 =>
 ldN 14 t167 w.drew fun t168 c8 =>
 callW Tryd.prog (.func (.func 19) #[] #[]) [t163, t168] w.drew fun t169 w =>
 unW .not t169 fun t170 =>
 brV t170
 (jn (honeycomblaw14_WalLasts_J33 R r29) [] w)
 (intW .add t20 (.int .i64 1) fun t153 =>
 r29 [t9, t12, t18, t153] w)))
 (callW Tryd.prog (.func (.func 25) #[] #[]) [t9, (.int .i64 2), (.int .i64 2000), (.int .i64 5)] w fun t174 w =>
 exW t174 0 fun t175 =>
 exW t174 1 fun t176 =>
 callW Tryd.prog (.func (.func 28) #[] #[]) [t18] w fun t178 w =>
 intW .eql t178 (.int .i64 0) fun t179 =>
 brV t179
 (R (.bool true) w)
 (intW .eql t176 (.int .i64 2) fun t182 =>
 R t182 w))
def honeycomblaw14_WalLasts_J28 (R : Value → World → Prop) : List Value → World → Prop := fun l w =>
 unc l fun t9 l =>
 unc l fun t12 l =>
 unc l fun t18 l =>
 lp (honeycomblaw14_WalLasts_L29 R) [t9, t12, t18, (.int .i64 1)] w
def honeycomblaw14_WalLasts_L9 (R : Value → World → Prop) : (List Value → World → Prop) → List Value → World → Prop := fun r9 l w =>
 unc l fun t0 l =>
 unc l fun t2 l =>
 unc l fun t3 l =>
 unc l fun t9 l =>
 unc l fun t10 l =>
 unc l fun t12 l =>
 unc l fun t58 l =>
 unc l fun t59 l =>
 unc l fun t60 l =>
 intW .lss t60 t59 fun t61 =>
 brV t61
 (ixS 14 t58 t60 fun t63 =>
 ldN 14 t63 w fun t64 _ =>
 alW #[(.int .i64 0), (.int .i64 0), (.int .i64 0), (.int .i64 0), (.string ⟨#[]⟩), (.bool false), (.string ⟨#[]⟩), (.string ⟨#[]⟩), (.int .i64 0), (.int .i64 0), (.slice none 0 0), (.slice none 0 0), (.slice none 0 0), (.slice none 0 0)] 29 w fun t14 w =>
 stN 14 t14 t64 w fun w =>
 ldN 14 t14 w fun t65 _ =>
 callW Tryd.prog (.func (.func 15) #[] #[]) [t65] w fun t66 w =>
 unW .not t66 fun t67 =>
 brV t67
 (jn (honeycomblaw14_WalLasts_J12 R r9) [] w)
 (ldN 14 t14 w fun t69 _ =>
 callW Tryd.prog (.func (.func 32) #[] #[]) [t69] w fun t70 w =>
 unW .not t70 fun t71 =>
 brV t71
 (jn (honeycomblaw14_WalLasts_J12 R r9) [] w)
 (ldN 14 t14 w fun t75 _ =>
 callW Tryd.prog (.func (.func 26) #[] #[]) [t10, t75] w fun t76 w =>
 exW t76 0 fun t77 =>
 exW t76 1 fun t78 =>
 intW .eql t78 (.int .i64 7) fun t80 =>
 brV t80
 (R (.bool true) w)
 (intW .add t60 (.int .i64 1) fun t83 =>
 intW .neq t77 t83 fun t84 =>
 brV t84
 (jn (honeycomblaw14_WalLasts_J17 R r9) [] w)
 (intW .neq t78 (.int .i64 0) fun t87 =>
 brV t87
 (jn (honeycomblaw14_WalLasts_J17 R r9) [] w)
 (ldN 14 t14 w fun t90 _ =>
 blS 29 14 #[(.int .i64 0), (.int .i64 0), (.int .i64 0), (.int .i64 0), (.string ⟨#[]⟩), (.bool false), (.string ⟨#[]⟩), (.string ⟨#[]⟩), (.int .i64 0), (.int .i64 0), (.slice none 0 0), (.slice none 0 0), (.slice none 0 0), (.slice none 0 0)] 1 [(0, t90)] w fun t91 w =>
 sm Tryd.prog (bi .append #[60, 60] 60 [t12, t91]) w fun t92 w =>
 lenSl t0 fun t95 =>
 intW .sub t95 (.int .i64 1) fun t96 =>
 intW .eql t60 t96 fun t97 =>
 brV t97
 (callW Tryd.prog (.func (.func 29) #[] #[]) [t10] w fun t100 w =>
 intW .neq t100 (.int .i64 0) fun t101 =>
 brV t101
 (R (.bool false) w)
 (jn (honeycomblaw14_WalLasts_J21 R r9) [t0, t2, t3, t9, t10, t92, t58, t59, t60] w))
 (jn (honeycomblaw14_WalLasts_J21 R r9) [t0, t2, t3, t9, t10, t92, t58, t59, t60] w)))))))
 (callW Tryd.prog (.func (.func 35) #[] #[]) [t9, t2] w fun t106 w =>
 callW Tryd.prog (.func (.func 29) #[] #[]) [t10] w fun t108 w =>
 intW .eql t108 (.int .i64 0) fun t109 =>
 callW Tryd.prog (.func (.func 36) #[] #[]) [t9, t3] w fun t112 w =>
 callW Tryd.prog (.func (.func 25) #[] #[]) [t9, (.int .i64 2), (.int .i64 2000), (.int .i64 6)] w fun t115 w =>
 exW t115 0 fun t116 =>
 exW t115 1 fun t117 =>
 intW .neq t117 (.int .i64 0) fun t119 =>
 brV t119
 (jn (honeycomblaw14_WalLasts_J27 R) [] w)
 (nilW 2 .eql t116 (.pointer none) fun t122 =>
 brV t122
 (jn (honeycomblaw14_WalLasts_J27 R) [] w)
 (callW Tryd.prog (.func (.func 28) #[] #[]) [t116] w fun t126 w =>
 lenSl t0 fun t128 =>
 intW .lss t126 t128 fun t129 =>
 brV t129
 (jn (honeycomblaw14_WalLasts_J27 R) [] w)
 (callW Tryd.prog (.func (.func 28) #[] #[]) [t116] w fun t133 w =>
 lenSl t12 fun t135 =>
 intW .gtr t133 t135 fun t136 =>
 brV t136
 (jn (honeycomblaw14_WalLasts_J27 R) [] w)
 (brV t109
 (callW Tryd.prog (.func (.func 28) #[] #[]) [t116] w fun t142 w =>
 lenSl t12 fun t144 =>
 intW .neq t142 t144 fun t145 =>
 brV t145
 (jn (honeycomblaw14_WalLasts_J27 R) [] w)
 (jn (honeycomblaw14_WalLasts_J28 R) [t9, t12, t116] w))
 (jn (honeycomblaw14_WalLasts_J28 R) [t9, t12, t116] w))))))
/-- `honeycomb/honeycomblaw14.WalLasts` -/
def honeycomblaw14_WalLasts (a0 a1 a2 a3 : Value) (R : Value → World → Prop) (w : World) : Prop :=
 lenSl a0 fun t26 =>
 intW .gtr t26 (.int .i64 10) fun t27 =>
 brV t27
 (jn (honeycomblaw14_WalLasts_J2 R) [] w)
 (lenSl a1 fun t30 =>
 intW .gtr t30 (.int .i64 10) fun t31 =>
 brV t31
 (jn (honeycomblaw14_WalLasts_J2 R) [] w)
 (lenSl a3 fun t35 =>
 intW .gtr t35 (.int .i64 80) fun t36 =>
 brV t36
 (jn (honeycomblaw14_WalLasts_J2 R) [] w)
 (callW Tryd.prog (.func (.func 23) #[] #[]) [] w fun t39 w =>
 unW .not t39 fun t40 =>
 brV t40
 (jn (honeycomblaw14_WalLasts_J2 R) [] w)
 (callW Tryd.prog (.func (.func 24) #[] #[]) [(.int .i64 2100)] w fun t43 w =>
 callW Tryd.prog (.func (.func 25) #[] #[]) [t43, (.int .i64 2), (.int .i64 2000), (.int .i64 5)] w fun t46 w =>
 exW t46 0 fun t47 =>
 exW t46 1 fun t48 =>
 intW .neq t48 (.int .i64 0) fun t50 =>
 brV t50
 (jn (honeycomblaw14_WalLasts_J6 R) [] w)
 (nilW 2 .eql t47 (.pointer none) fun t53 =>
 brV t53
 (jn (honeycomblaw14_WalLasts_J6 R) [] w)
 (sm Tryd.prog (bi .append #[60, 60] 60 [(.slice none 0 0), a0]) w fun t56 w =>
 sm Tryd.prog (bi .append #[60, 60] 60 [t56, a1]) w fun t58 w =>
 lenSl t58 fun t59 =>
 lp (honeycomblaw14_WalLasts_L9 R) [a0, a2, a3, t43, t47, (.slice none 0 0), t58, t59, (.int .i64 0)] w))))))
theorem honeycomblaw14_WalLasts_den (a0 a1 a2 a3 : Value) (R : Value → World → Prop) (w : World) : denF Tryd.prog Tryd.f13 (Tryd.f13.body.getD .skip) [(2, []), (6, []), (12, []), (17, []), (21, [0, 2, 3, 9, 10, 12, 58, 59, 60]), (27, []), (28, [9, 12, 18]), (33, [])] [(9, [0, 2, 3, 9, 10, 12, 58, 59, 60]), (29, [9, 12, 18, 20])] [a0, a1, a2, a3] R w = honeycomblaw14_WalLasts a0 a1 a2 a3 R w := by kernel_rfl
set_option maxRecDepth 100000 in
theorem honeycomblaw14_WalLasts_run {a0 a1 a2 a3 : Value} {R : Value → World → Prop} {w : World} (h : honeycomblaw14_WalLasts a0 a1 a2 a3 R w) : Calls Tryd.prog 13 #[a0, a1, a2, a3] w (rt R) :=
  run_sound (c := Tryd.f13.body.getD .skip) (la := [(2, []), (6, []), (12, []), (17, []), (21, [0, 2, 3, 9, 10, 12, 58, 59, 60]), (27, []), (28, [9, 12, 18]), (33, [])]) (lb := [(9, [0, 2, 3, 9, 10, 12, 58, 59, 60]), (29, [9, 12, 18, 20])]) (args := [a0, a1, a2, a3]) mixed Tryd.func13 (by kernel_rfl) (by kernel_rfl) (Nat.le_of_ble_eq_true (by kernel_rfl)) (Eq.mpr (honeycomblaw14_WalLasts_den a0 a1 a2 a3 R w) h)
theorem honeycomblaw14_WalLasts_body : hasBody Tryd.prog 13 = true := by kernel_rfl
theorem honeycomblaw14_WalLasts_call {a0 a1 a2 a3 : Value} {R : Value → World → Prop} {w : World} (h : Calls Tryd.prog 13 #[a0, a1, a2, a3] w (rt R)) : callW Tryd.prog (.func (.func 13) #[] #[]) [a0, a1, a2, a3] w R :=
  ⟨honeycomblaw14_WalLasts_body, h⟩
def honeycomblaw14_WalTo_J2 (R : Value → World → Prop) : List Value → World → Prop := fun l w =>
 callW Tryd.prog (.func (.func 23) #[] #[]) [] w fun t24 w =>
 R t24 w
def honeycomblaw14_WalTo_J6 (R : Value → World → Prop) : List Value → World → Prop := fun l w =>
 R (.bool false) w
def honeycomblaw14_WalTo_J12 (R : Value → World → Prop) (r8 : List Value → World → Prop) : List Value → World → Prop := fun l w =>
 R (.bool false) w
def honeycomblaw14_WalTo_J19 (R : Value → World → Prop) : List Value → World → Prop := fun l w =>
 R (.bool false) w
def honeycomblaw14_WalTo_J18 (R : Value → World → Prop) : List Value → World → Prop := fun l w =>
 unc l fun t0 l =>
 unc l fun t5 l =>
 unc l fun t6 l =>
 unc l fun t11 l =>
 callW Tryd.prog (.func (.func 31) #[] #[]) [t6] w fun t64 w =>
 intW .neq t64 t11 fun t66 =>
 brV t66
 (jn (honeycomblaw14_WalTo_J19 R) [] w)
 (callW Tryd.prog (.func (.func 28) #[] #[]) [t6] w fun t69 w =>
 intW .neq t69 t0 fun t71 =>
 brV t71
 (jn (honeycomblaw14_WalTo_J19 R) [] w)
 (callW Tryd.prog (.func (.func 37) #[] #[]) [t5] w fun t75 w =>
 intW .neq t75 (.int .i64 0) fun t76 =>
 brV t76
 (jn (honeycomblaw14_WalTo_J19 R) [] w)
 (callW Tryd.prog (.func (.func 36) #[] #[]) [t5, (.slice none 0 0)] w fun t79 w =>
 callW Tryd.prog (.func (.func 25) #[] #[]) [t5, (.int .i64 0), (.int .i64 250), (.int .i64 4)] w fun t82 w =>
 exW t82 0 fun t83 =>
 exW t82 1 fun t84 =>
 intW .eql t84 (.int .i64 0) fun t86 =>
 brV t86
 (nilW 2 .neq t83 (.pointer none) fun t89 =>
 brV t89
 (callW Tryd.prog (.func (.func 28) #[] #[]) [t83] w fun t93 w =>
 intW .eql t93 t11 fun t95 =>
 R t95 w)
 (R (.bool false) w))
 (R (.bool false) w))))
def honeycomblaw14_WalTo_L8 (R : Value → World → Prop) : (List Value → World → Prop) → List Value → World → Prop := fun r8 l w =>
 unc l fun t0 l =>
 unc l fun t1 l =>
 unc l fun t5 l =>
 unc l fun t6 l =>
 unc l fun t8 l =>
 intW .leq t8 t0 fun t39 =>
 brV t39
 (fillL [(0, 1), (1, 1), (2, 1), (3, 1), (4, 1), (5, 1), (6, 4), (10, 1), (11, 1), (12, 1), (13, 1)] #[(.int .i64 0), (.int .i64 0), (.int .i64 0), (.int .i64 0), (.string ⟨#[]⟩), (.bool false), (.string ⟨#[]⟩), (.string ⟨#[]⟩), (.int .i64 0), (.int .i64 0), (.slice none 0 0), (.slice none 0 0), (.slice none 0 0), (.slice none 0 0)] [(0, (.int .i64 6)), (1, t8)] fun t45 =>
 callW Tryd.prog (.func (.func 26) #[] #[]) [t6, t45] w fun t46 w =>
 exW t46 0 fun t47 =>
 exW t46 1 fun t48 =>
 intW .neq t47 t8 fun t51 =>
 brV t51
 (jn (honeycomblaw14_WalTo_J12 R r8) [] w)
 (intW .neq t48 (.int .i64 0) fun t54 =>
 brV t54
 (jn (honeycomblaw14_WalTo_J12 R r8) [] w)
 (intW .add t8 (.int .i64 1) fun t41 =>
 r8 [t0, t1, t5, t6, t41] w)))
 (callW Tryd.prog (.func (.func 33) #[] #[]) [t6, t1] w fun t58 w =>
 intW .neq t58 (.int .i64 0) fun t59 =>
 brV t59
 (R (.bool false) w)
 (intW .gtr t1 (.int .i64 0) fun t61 =>
 brV t61
 (jn (honeycomblaw14_WalTo_J18 R) [t0, t5, t6, t0] w)
 (jn (honeycomblaw14_WalTo_J18 R) [t0, t5, t6, (.int .i64 0)] w)))
/-- `honeycomb/honeycomblaw14.WalTo` -/
def honeycomblaw14_WalTo (a0 a1 : Value) (R : Value → World → Prop) (w : World) : Prop :=
 intW .lss a0 (.int .i64 1) fun t15 =>
 brV t15
 (jn (honeycomblaw14_WalTo_J2 R) [] w)
 (intW .gtr a0 (.int .i64 20) fun t18 =>
 brV t18
 (jn (honeycomblaw14_WalTo_J2 R) [] w)
 (callW Tryd.prog (.func (.func 23) #[] #[]) [] w fun t21 w =>
 unW .not t21 fun t22 =>
 brV t22
 (jn (honeycomblaw14_WalTo_J2 R) [] w)
 (callW Tryd.prog (.func (.func 24) #[] #[]) [(.int .i64 300)] w fun t25 w =>
 callW Tryd.prog (.func (.func 25) #[] #[]) [t25, (.int .i64 0), (.int .i64 250), (.int .i64 3)] w fun t28 w =>
 exW t28 0 fun t29 =>
 exW t28 1 fun t30 =>
 intW .neq t30 (.int .i64 0) fun t32 =>
 brV t32
 (jn (honeycomblaw14_WalTo_J6 R) [] w)
 (nilW 2 .eql t29 (.pointer none) fun t35 =>
 brV t35
 (jn (honeycomblaw14_WalTo_J6 R) [] w)
 (lp (honeycomblaw14_WalTo_L8 R) [a0, a1, t25, t29, (.int .i64 1)] w)))))
theorem honeycomblaw14_WalTo_den (a0 a1 : Value) (R : Value → World → Prop) (w : World) : denF Tryd.prog Tryd.f14 (Tryd.f14.body.getD .skip) [(2, []), (6, []), (12, []), (18, [0, 5, 6, 11]), (19, [])] [(8, [0, 1, 5, 6, 8])] [a0, a1] R w = honeycomblaw14_WalTo a0 a1 R w := by kernel_rfl
set_option maxRecDepth 100000 in
theorem honeycomblaw14_WalTo_run {a0 a1 : Value} {R : Value → World → Prop} {w : World} (h : honeycomblaw14_WalTo a0 a1 R w) : Calls Tryd.prog 14 #[a0, a1] w (rt R) :=
  run_sound (c := Tryd.f14.body.getD .skip) (la := [(2, []), (6, []), (12, []), (18, [0, 5, 6, 11]), (19, [])]) (lb := [(8, [0, 1, 5, 6, 8])]) (args := [a0, a1]) mixed Tryd.func14 (by kernel_rfl) (by kernel_rfl) (Nat.le_of_ble_eq_true (by kernel_rfl)) (Eq.mpr (honeycomblaw14_WalTo_den a0 a1 R w) h)
theorem honeycomblaw14_WalTo_body : hasBody Tryd.prog 14 = true := by kernel_rfl
theorem honeycomblaw14_WalTo_call {a0 a1 : Value} {R : Value → World → Prop} {w : World} (h : Calls Tryd.prog 14 #[a0, a1] w (rt R)) : callW Tryd.prog (.func (.func 14) #[] #[]) [a0, a1] w R :=
  ⟨honeycomblaw14_WalTo_body, h⟩
def honeycomblaw12_Light_L10 (R : Value → World → Prop) : (List Value → World → Prop) → List Value → World → Prop := fun r10 l w =>
 unc l fun t1 l =>
 unc l fun t3 l =>
 unc l fun t45 l =>
 unc l fun t46 l =>
 intW .lss t46 t45 fun t47 =>
 brV t47
 (fld 12 t1 fun t50 =>
 ldC t50 w fun t51 _ =>
 ixS 4 t51 t46 fun t53 =>
 fld 3 t53 fun t54 =>
 ldC t54 w fun t55 _ =>
 lenSl t55 fun t56 =>
 intW .add t3 t56 fun t57 =>
 intW .add t46 (.int .i64 1) fun t58 =>
 r10 [t1, t57, t45, t58] w)
 (intW .lss t3 (.int .i64 20000) fun t60 =>
 brV t60
 (fld 10 t1 fun t62 =>
 ldC t62 w fun t63 _ =>
 lenSl t63 fun t64 =>
 intW .leq t64 (.int .i64 80) fun t65 =>
 brV t65
 (fld 11 t1 fun t68 =>
 ldC t68 w fun t69 _ =>
 lenSl t69 fun t70 =>
 intW .leq t70 (.int .i64 60) fun t71 =>
 brV t71
 (fld 12 t1 fun t74 =>
 ldC t74 w fun t75 _ =>
 lenSl t75 fun t76 =>
 intW .leq t76 (.int .i64 20) fun t77 =>
 brV t77
 (fld 13 t1 fun t80 =>
 ldC t80 w fun t81 _ =>
 lenSl t81 fun t82 =>
 intW .leq t82 (.int .i64 80) fun t83 =>
 R t83 w)
 (R (.bool false) w))
 (R (.bool false) w))
 (R (.bool false) w))
 (R (.bool false) w))
def honeycomblaw12_Light_L3 (R : Value → World → Prop) : (List Value → World → Prop) → List Value → World → Prop := fun r3 l w =>
 unc l fun t1 l =>
 unc l fun t3 l =>
 unc l fun t21 l =>
 unc l fun t22 l =>
 intW .lss t22 t21 fun t23 =>
 brV t23
 (fld 11 t1 fun t26 =>
 ldC t26 w fun t27 _ =>
 ixS 3 t27 t22 fun t29 =>
 fld 2 t29 fun t30 =>
 ldC t30 w fun t31 _ =>
 lenStr t31 fun t32 =>
 intW .add t3 t32 fun t33 =>
 fld 11 t1 fun t34 =>
 ldC t34 w fun t35 _ =>
 ixS 3 t35 t22 fun t37 =>
 fld 2 t37 fun t38 =>
 ldC t38 w fun t39 _ =>
 lenStr t39 fun t40 =>
 intW .gtr t40 (.int .i64 300) fun t41 =>
 brV t41
 (R (.bool false) w)
 (intW .add t22 (.int .i64 1) fun t42 =>
 r3 [t1, t33, t21, t42] w))
 (fld 12 t1 fun t43 =>
 ldC t43 w fun t44 _ =>
 lenSl t44 fun t45 =>
 lp (honeycomblaw12_Light_L10 R) [t1, t3, t45, (.int .i64 0)] w)
/-- `honeycomb/honeycomblaw12.Light` -/
def honeycomblaw12_Light (a0 : Value) (R : Value → World → Prop) (w : World) : Prop :=
 alW (Value.cells a0) 29 w fun t1 w =>
 fld 4 t1 fun t6 =>
 ldC t6 w fun t7 _ =>
 lenStr t7 fun t8 =>
 fld 6 t1 fun t9 =>
 fld 0 t9 fun t10 =>
 ldC t10 w fun t11 _ =>
 lenStr t11 fun t12 =>
 intW .add t8 t12 fun t13 =>
 fld 6 t1 fun t14 =>
 fld 1 t14 fun t15 =>
 ldC t15 w fun t16 _ =>
 lenStr t16 fun t17 =>
 intW .add t13 t17 fun t18 =>
 fld 11 t1 fun t19 =>
 ldC t19 w fun t20 _ =>
 lenSl t20 fun t21 =>
 lp (honeycomblaw12_Light_L3 R) [t1, t18, t21, (.int .i64 0)] w
theorem honeycomblaw12_Light_den (a0 : Value) (R : Value → World → Prop) (w : World) : denF Tryd.prog Tryd.f15 (Tryd.f15.body.getD .skip) [] [(3, [1, 3, 21, 22]), (10, [1, 3, 45, 46])] [a0] R w = honeycomblaw12_Light a0 R w := by kernel_rfl
set_option maxRecDepth 100000 in
theorem honeycomblaw12_Light_run {a0 : Value} {R : Value → World → Prop} {w : World} (h : honeycomblaw12_Light a0 R w) : Calls Tryd.prog 15 #[a0] w (rt R) :=
  run_sound (c := Tryd.f15.body.getD .skip) (la := []) (lb := [(3, [1, 3, 21, 22]), (10, [1, 3, 45, 46])]) (args := [a0]) mixed Tryd.func15 (by kernel_rfl) (by kernel_rfl) (Nat.le_of_ble_eq_true (by kernel_rfl)) (Eq.mpr (honeycomblaw12_Light_den a0 R w) h)
theorem honeycomblaw12_Light_body : hasBody Tryd.prog 15 = true := by kernel_rfl
theorem honeycomblaw12_Light_call {a0 : Value} {R : Value → World → Prop} {w : World} (h : Calls Tryd.prog 15 #[a0] w (rt R)) : callW Tryd.prog (.func (.func 15) #[] #[]) [a0] w R :=
  ⟨honeycomblaw12_Light_body, h⟩
/-- `honeycomb/honeycomblaw12.alive` -/
def honeycomblaw12_alive (R : Value → World → Prop) (w : World) : Prop :=
 fillL [(0, 1), (1, 1), (2, 1), (3, 1)] #[(.string ⟨#[]⟩), (.string ⟨#[]⟩), (.int .i64 0), (.int .i64 0)] [(0, (.string ⟨#[107]⟩)), (1, (.string ⟨#[118]⟩))] fun t6 =>
 blS 3 1 #[(.int .i64 0)] 1 [(0, (.int .i64 5))] w fun t7 w =>
 fillL [(0, 1), (1, 1), (2, 1)] #[(.int .i64 0), (.int .i64 0), (.string ⟨#[]⟩)] [(0, (.int .i64 2)), (1, (.int .i64 9)), (2, (.string ⟨#[120, 121]⟩))] fun t8 =>
 blS 39 3 #[(.int .i64 0), (.int .i64 0), (.string ⟨#[]⟩)] 1 [(0, t8)] w fun t9 w =>
 fillL [(0, 1), (1, 1), (2, 1), (3, 1), (4, 1), (5, 1), (6, 4), (10, 1), (11, 1), (12, 1), (13, 1)] #[(.int .i64 0), (.int .i64 0), (.int .i64 0), (.int .i64 0), (.string ⟨#[]⟩), (.bool false), (.string ⟨#[]⟩), (.string ⟨#[]⟩), (.int .i64 0), (.int .i64 0), (.slice none 0 0), (.slice none 0 0), (.slice none 0 0), (.slice none 0 0)] [(0, (.int .i64 1)), (1, (.int .i64 3)), (2, (.int .i64 7)), (4, (.string ⟨#[107]⟩)), (5, (.bool true)), (6, t6), (7, t7), (8, t9)] fun t10 =>
 alW #[(.int .i64 0), (.int .i64 0), (.int .i64 0), (.int .i64 0), (.string ⟨#[]⟩), (.bool false), (.string ⟨#[]⟩), (.string ⟨#[]⟩), (.int .i64 0), (.int .i64 0), (.slice none 0 0), (.slice none 0 0), (.slice none 0 0), (.slice none 0 0)] 29 w fun t1 w =>
 stN 14 t1 t10 w fun w =>
 ldN 14 t1 w fun t12 _ =>
 callW Tryd.prog (.func (.func 18) #[] #[]) [t12] w fun t13 w =>
 exW t13 0 fun t14 =>
 exW t13 1 fun t15 =>
 callW Tryd.prog (.func (.func 17) #[] #[]) [t14] w fun t18 w =>
 exW t18 0 fun t19 =>
 exW t18 1 fun t20 =>
 alW #[(.int .i64 0), (.int .i64 0), (.int .i64 0), (.int .i64 0), (.string ⟨#[]⟩), (.bool false), (.string ⟨#[]⟩), (.string ⟨#[]⟩), (.int .i64 0), (.int .i64 0), (.slice none 0 0), (.slice none 0 0), (.slice none 0 0), (.slice none 0 0)] 29 w fun t4 w =>
 stN 14 t4 t19 w fun w =>
 brV t15
 (lenStr t14 fun t24 =>
 intW .gtr t24 (.int .i64 30) fun t25 =>
 brV t25
 (slStr t14 none (some (.int .i64 4)) none fun t29 =>
 strW .eql t29 (.string ⟨#[0, 1, 0, 3]⟩) fun t30 =>
 brV t30
 (brV t20
 (ldN 14 t4 w fun t36 _ =>
 ldN 14 t1 w fun t37 _ =>
 callW Tryd.prog (.func (.func 19) #[] #[]) [t36, t37] w fun t38 w =>
 brV t38
 (callW Tryd.prog (.func (.func 21) #[] #[]) [(.int .i64 2)] w fun t41 w =>
 strW .eql t41 (.string ⟨#[117, 110, 100, 111, 110, 101]⟩) fun t42 =>
 brV t42
 (ldN 14 t1 w fun t45 _ =>
 callW Tryd.prog (.func (.func 22) #[] #[]) [t45] w fun t46 w =>
 blS 3 1 #[(.int .i64 0)] 1 [(0, (.int .i64 2))] w fun t47 w =>
 callW Tryd.prog (.func (.func 38) #[] #[]) [t46, t47] w fun t48 w =>
 R t48 w)
 (R (.bool false) w))
 (R (.bool false) w))
 (R (.bool false) w))
 (R (.bool false) w))
 (R (.bool false) w))
 (R (.bool false) w)
theorem honeycomblaw12_alive_den (R : Value → World → Prop) (w : World) : denF Tryd.prog Tryd.f16 (Tryd.f16.body.getD .skip) [] [] [] R w = honeycomblaw12_alive  R w := by kernel_rfl
set_option maxRecDepth 100000 in
theorem honeycomblaw12_alive_run {R : Value → World → Prop} {w : World} (h : honeycomblaw12_alive  R w) : Calls Tryd.prog 16 #[] w (rt R) :=
  run_sound (c := Tryd.f16.body.getD .skip) (la := []) (lb := []) (args := []) mixed Tryd.func16 (by kernel_rfl) (by kernel_rfl) (Nat.le_of_ble_eq_true (by kernel_rfl)) (Eq.mpr (honeycomblaw12_alive_den  R w) h)
theorem honeycomblaw12_alive_body : hasBody Tryd.prog 16 = true := by kernel_rfl
theorem honeycomblaw12_alive_call {R : Value → World → Prop} {w : World} (h : Calls Tryd.prog 16 #[] w (rt R)) : callW Tryd.prog (.func (.func 16) #[] #[]) [] w R :=
  ⟨honeycomblaw12_alive_body, h⟩
def record_Get_J40 (R : Value → World → Prop) : List Value → World → Prop := fun l w =>
 unc l fun t2 l =>
 fillL [(0, 1), (1, 1), (2, 1), (3, 1), (4, 1), (5, 1), (6, 4), (10, 1), (11, 1), (12, 1), (13, 1)] #[(.int .i64 0), (.int .i64 0), (.int .i64 0), (.int .i64 0), (.string ⟨#[]⟩), (.bool false), (.string ⟨#[]⟩), (.string ⟨#[]⟩), (.int .i64 0), (.int .i64 0), (.slice none 0 0), (.slice none 0 0), (.slice none 0 0), (.slice none 0 0)] [] fun t160 =>
 stN 14 t2 t160 w fun w =>
 ldN 14 t2 w fun v_3 _ =>
 R (.tuple #[v_3, (.bool false)]) w
def record_Get_J38 (R : Value → World → Prop) : List Value → World → Prop := fun l w =>
 unc l fun t0 l =>
 unc l fun t2 l =>
 unc l fun t4 l =>
 unc l fun t9 l =>
 ldN 14 t9 w fun t145 _ =>
 callW Tryd.prog (.func (.func 18) #[] #[]) [t145] w fun t146 w =>
 exW t146 0 fun t147 =>
 exW t146 1 fun t148 =>
 ldC t4 w fun t149 _ =>
 callW Tryd.prog (.func (.func 44) #[] #[]) [t149] w fun t150 w =>
 brV t150
 (jn (record_Get_J40 R) [t2] w)
 (unW .not t148 fun t153 =>
 brV t153
 (jn (record_Get_J40 R) [t2] w)
 (strW .neq t147 t0 fun t158 =>
 brV t158
 (jn (record_Get_J40 R) [t2] w)
 (ldN 14 t9 w fun t161 _ =>
 stN 14 t2 t161 w fun w =>
 ldN 14 t2 w fun v_4 _ =>
 R (.tuple #[v_4, (.bool true)]) w)))
def record_Get_L33 (R : Value → World → Prop) : (List Value → World → Prop) → List Value → World → Prop := fun r33 l w =>
 unc l fun t0 l =>
 unc l fun t2 l =>
 unc l fun t4 l =>
 unc l fun t5 l =>
 unc l fun t6 l =>
 unc l fun t9 l =>
 unc l fun t14 l =>
 intW .gtr t14 (.int .i64 0) fun t124 =>
 brV t124
 (ldC t4 w fun t126 _ =>
 callW Tryd.prog (.func (.func 44) #[] #[]) [t126] w fun t127 w =>
 unW .not t127 fun t128 =>
 brV t128
 (ldC t5 w fun t132 _ =>
 callW Tryd.prog t132 [] w fun t133 w =>
 fillL [(0, 1), (1, 1)] #[(.int .i64 0), (.int .i64 0)] [(0, t133)] fun t134 =>
 alW #[(.int .i64 0), (.int .i64 0)] 74 w fun t15 w =>
 stN 2 t15 t134 w fun w =>
 callW Tryd.prog t6 [] w fun t136 w =>
 fld 1 t15 fun t137 =>
 1 = 1 ∧ stC t137 t136 w fun w =>
 fld 13 t9 fun t138 =>
 ldC t138 w fun t139 _ =>
 ldN 2 t15 w fun t140 _ =>
 blS 74 2 #[(.int .i64 0), (.int .i64 0)] 1 [(0, t140)] w fun t141 w =>
 sm Tryd.prog (bi .append #[27, 27] 27 [t139, t141]) w fun t142 w =>
 fld 13 t9 fun t143 =>
 1 = 1 ∧ stC t143 t142 w fun w =>
 intW .sub t14 (.int .i64 1) fun t131 =>
 r33 [t0, t2, t4, t5, t6, t9, t131] w)
 (jn (record_Get_J38 R) [t0, t2, t4, t9] w))
 (jn (record_Get_J38 R) [t0, t2, t4, t9] w)
def record_Get_J32 (R : Value → World → Prop) : List Value → World → Prop := fun l w =>
 unc l fun t0 l =>
 unc l fun t2 l =>
 unc l fun t4 l =>
 unc l fun t5 l =>
 unc l fun t6 l =>
 unc l fun t9 l =>
 ldC t5 w fun t121 _ =>
 callW Tryd.prog t121 [] w fun t122 w =>
 lp (record_Get_L33 R) [t0, t2, t4, t5, t6, t9, t122] w
def record_Get_L25 (R : Value → World → Prop) : (List Value → World → Prop) → List Value → World → Prop := fun r25 l w =>
 unc l fun t0 l =>
 unc l fun t2 l =>
 unc l fun t4 l =>
 unc l fun t5 l =>
 unc l fun t6 l =>
 unc l fun t8 l =>
 unc l fun t9 l =>
 unc l fun t12 l =>
 intW .gtr t12 (.int .i64 0) fun t94 =>
 brV t94
 (ldC t4 w fun t96 _ =>
 callW Tryd.prog (.func (.func 44) #[] #[]) [t96] w fun t97 w =>
 unW .not t97 fun t98 =>
 brV t98
 (ldC t5 w fun t102 _ =>
 callW Tryd.prog t102 [] w fun t103 w =>
 fillL [(0, 1), (1, 1), (2, 1), (3, 1)] #[(.int .i64 0), (.int .i64 0), (.bool false), (.slice none 0 0)] [(0, t103)] fun t104 =>
 alW #[(.int .i64 0), (.int .i64 0), (.bool false), (.slice none 0 0)] 41 w fun t13 w =>
 stN 4 t13 t104 w fun w =>
 callW Tryd.prog t6 [] w fun t106 w =>
 fld 1 t13 fun t107 =>
 1 = 1 ∧ stC t107 t106 w fun w =>
 ldC t5 w fun t108 _ =>
 callW Tryd.prog t108 [] w fun t109 w =>
 intW .eql t109 (.int .i64 1) fun t110 =>
 fld 2 t13 fun t111 =>
 1 = 1 ∧ stC t111 t110 w fun w =>
 callW Tryd.prog t8 [] w fun t113 w =>
 fld 3 t13 fun t114 =>
 1 = 1 ∧ stC t114 t113 w fun w =>
 fld 12 t9 fun t115 =>
 ldC t115 w fun t116 _ =>
 ldN 4 t13 w fun t117 _ =>
 blS 41 4 #[(.int .i64 0), (.int .i64 0), (.bool false), (.slice none 0 0)] 1 [(0, t117)] w fun t118 w =>
 sm Tryd.prog (bi .append #[26, 26] 26 [t116, t118]) w fun t119 w =>
 fld 12 t9 fun t120 =>
 1 = 1 ∧ stC t120 t119 w fun w =>
 intW .sub t12 (.int .i64 1) fun t101 =>
 r25 [t0, t2, t4, t5, t6, t8, t9, t101] w)
 (jn (record_Get_J32 R) [t0, t2, t4, t5, t6, t9] w))
 (jn (record_Get_J32 R) [t0, t2, t4, t5, t6, t9] w)
def record_Get_J24 (R : Value → World → Prop) : List Value → World → Prop := fun l w =>
 unc l fun t0 l =>
 unc l fun t2 l =>
 unc l fun t4 l =>
 unc l fun t5 l =>
 unc l fun t6 l =>
 unc l fun t8 l =>
 unc l fun t9 l =>
 ldC t5 w fun t91 _ =>
 callW Tryd.prog t91 [] w fun t92 w =>
 lp (record_Get_L25 R) [t0, t2, t4, t5, t6, t8, t9, t92] w
def record_Get_L17 (R : Value → World → Prop) : (List Value → World → Prop) → List Value → World → Prop := fun r17 l w =>
 unc l fun t0 l =>
 unc l fun t2 l =>
 unc l fun t4 l =>
 unc l fun t5 l =>
 unc l fun t6 l =>
 unc l fun t7 l =>
 unc l fun t8 l =>
 unc l fun t9 l =>
 unc l fun t10 l =>
 intW .gtr t10 (.int .i64 0) fun t68 =>
 brV t68
 (ldC t4 w fun t70 _ =>
 callW Tryd.prog (.func (.func 44) #[] #[]) [t70] w fun t71 w =>
 unW .not t71 fun t72 =>
 brV t72
 (alW #[(.int .i64 0), (.int .i64 0), (.string ⟨#[]⟩)] 39 w fun t11 w =>
 ldC t5 w fun t76 _ =>
 callW Tryd.prog t76 [] w fun t77 w =>
 fld 0 t11 fun t78 =>
 1 = 1 ∧ stC t78 t77 w fun w =>
 ldC t5 w fun t79 _ =>
 callW Tryd.prog t79 [] w fun t80 w =>
 fld 1 t11 fun t81 =>
 1 = 1 ∧ stC t81 t80 w fun w =>
 callW Tryd.prog t7 [] w fun t83 w =>
 fld 2 t11 fun t84 =>
 1 = 1 ∧ stC t84 t83 w fun w =>
 fld 11 t9 fun t85 =>
 ldC t85 w fun t86 _ =>
 ldN 3 t11 w fun t87 _ =>
 blS 39 3 #[(.int .i64 0), (.int .i64 0), (.string ⟨#[]⟩)] 1 [(0, t87)] w fun t88 w =>
 sm Tryd.prog (bi .append #[25, 25] 25 [t86, t88]) w fun t89 w =>
 fld 11 t9 fun t90 =>
 1 = 1 ∧ stC t90 t89 w fun w =>
 intW .sub t10 (.int .i64 1) fun t75 =>
 r17 [t0, t2, t4, t5, t6, t7, t8, t9, t75] w)
 (jn (record_Get_J24 R) [t0, t2, t4, t5, t6, t8, t9] w))
 (jn (record_Get_J24 R) [t0, t2, t4, t5, t6, t8, t9] w)
/-- `honeycomb/record.Get` -/
def record_Get (a0 : Value) (R : Value → World → Prop) (w : World) : Prop :=
 alW #[(.int .i64 0), (.int .i64 0), (.int .i64 0), (.int .i64 0), (.string ⟨#[]⟩), (.bool false), (.string ⟨#[]⟩), (.string ⟨#[]⟩), (.int .i64 0), (.int .i64 0), (.slice none 0 0), (.slice none 0 0), (.slice none 0 0), (.slice none 0 0)] 29 w fun t2 w =>
 callW Tryd.prog (.func (.func 39) #[] #[]) [a0] w fun t19 w =>
 alW #[(.pointer none)] 69 w fun t4 w =>
 1 = 1 ∧ stC t4 t19 w fun w =>
 ldC t4 w.drew fun t20 c0 =>
 ldC t4 w.drew fun t22 c2 =>
 ldC t4 w.drew fun t24 c4 =>
 alW #[.nilFunc] 56 w.drew fun t5 w =>
 heldC [(4, c4), (2, c2), (0, c0)] w (1 = 1 ∧ stC t5 (.func (.func 40) #[t20] #[]) w fun w =>
 heldC [(4, c4), (2, c2)] w (alW #[(.int .i64 0), (.int .i64 0), (.int .i64 0), (.int .i64 0), (.string ⟨#[]⟩), (.bool false), (.string ⟨#[]⟩), (.string ⟨#[]⟩), (.int .i64 0), (.int .i64 0), (.slice none 0 0), (.slice none 0 0), (.slice none 0 0), (.slice none 0 0)] 29 w fun t9 w =>
 ldC t5 w fun t27 _ =>
 callW Tryd.prog t27 [] w fun t28 w =>
 fld 0 t9 fun t29 =>
 1 = 1 ∧ stC t29 t28 w fun w =>
 ldC t5 w fun t30 _ =>
 callW Tryd.prog t30 [] w fun t31 w =>
 fld 1 t9 fun t32 =>
 1 = 1 ∧ stC t32 t31 w fun w =>
 callW Tryd.prog (.func (.func 41) #[t22] #[]) [] w fun t34 w =>
 fld 2 t9 fun t35 =>
 1 = 1 ∧ stC t35 t34 w fun w =>
 callW Tryd.prog (.func (.func 41) #[t22] #[]) [] w fun t37 w =>
 fld 3 t9 fun t38 =>
 1 = 1 ∧ stC t38 t37 w fun w =>
 callW Tryd.prog (.func (.func 42) #[t24] #[]) [] w fun t40 w =>
 fld 4 t9 fun t41 =>
 1 = 1 ∧ stC t41 t40 w fun w =>
 ldC t5 w fun t42 _ =>
 callW Tryd.prog t42 [] w fun t43 w =>
 intW .eql t43 (.int .i64 1) fun t44 =>
 fld 5 t9 fun t45 =>
 1 = 1 ∧ stC t45 t44 w fun w =>
 callW Tryd.prog (.func (.func 42) #[t24] #[]) [] w fun t47 w =>
 fld 6 t9 fun t48 =>
 fld 0 t48 fun t49 =>
 1 = 1 ∧ stC t49 t47 w fun w =>
 callW Tryd.prog (.func (.func 42) #[t24] #[]) [] w fun t51 w =>
 fld 6 t9 fun t52 =>
 fld 1 t52 fun t53 =>
 1 = 1 ∧ stC t53 t51 w fun w =>
 ldC t5 w fun t54 _ =>
 callW Tryd.prog t54 [] w fun t55 w =>
 fld 6 t9 fun t56 =>
 fld 2 t56 fun t57 =>
 1 = 1 ∧ stC t57 t55 w fun w =>
 ldC t5 w fun t58 _ =>
 callW Tryd.prog t58 [] w fun t59 w =>
 fld 6 t9 fun t60 =>
 fld 3 t60 fun t61 =>
 1 = 1 ∧ stC t61 t59 w fun w =>
 callW Tryd.prog (.func (.func 43) #[] #[t5, t4]) [] w fun t63 w =>
 fld 10 t9 fun t64 =>
 1 = 1 ∧ stC t64 t63 w fun w =>
 ldC t5 w fun t65 _ =>
 callW Tryd.prog t65 [] w fun t66 w =>
 lp (record_Get_L17 R) [a0, t2, t4, t5, (.func (.func 41) #[t22] #[]), (.func (.func 42) #[t24] #[]), (.func (.func 43) #[] #[t5, t4]), t9, t66] w))
theorem record_Get_den (a0 : Value) (R : Value → World → Prop) (w : World) : denF Tryd.prog Tryd.f17 (Tryd.f17.body.getD .skip) [(24, [0, 2, 4, 5, 6, 8, 9]), (32, [0, 2, 4, 5, 6, 9]), (38, [0, 2, 4, 9]), (40, [2])] [(17, [0, 2, 4, 5, 6, 7, 8, 9, 10]), (25, [0, 2, 4, 5, 6, 8, 9, 12]), (33, [0, 2, 4, 5, 6, 9, 14])] [a0] R w = record_Get a0 R w := by kernel_rfl
set_option maxRecDepth 100000 in
theorem record_Get_run {a0 : Value} {R : Value → World → Prop} {w : World} (h : record_Get a0 R w) : Calls Tryd.prog 17 #[a0] w (rt R) :=
  run_sound (c := Tryd.f17.body.getD .skip) (la := [(24, [0, 2, 4, 5, 6, 8, 9]), (32, [0, 2, 4, 5, 6, 9]), (38, [0, 2, 4, 9]), (40, [2])]) (lb := [(17, [0, 2, 4, 5, 6, 7, 8, 9, 10]), (25, [0, 2, 4, 5, 6, 8, 9, 12]), (33, [0, 2, 4, 5, 6, 9, 14])]) (args := [a0]) mixed Tryd.func17 (by kernel_rfl) (by kernel_rfl) (Nat.le_of_ble_eq_true (by kernel_rfl)) (Eq.mpr (record_Get_den a0 R w) h)
theorem record_Get_body : hasBody Tryd.prog 17 = true := by kernel_rfl
theorem record_Get_call {a0 : Value} {R : Value → World → Prop} {w : World} (h : Calls Tryd.prog 17 #[a0] w (rt R)) : callW Tryd.prog (.func (.func 17) #[] #[]) [a0] w R :=
  ⟨record_Get_body, h⟩
def record_Put_L36 (R : Value → World → Prop) : (List Value → World → Prop) → List Value → World → Prop := fun r36 l w =>
 unc l fun t4 l =>
 unc l fun t5 l =>
 unc l fun t6 l =>
 unc l fun t137 l =>
 unc l fun t138 l =>
 unc l fun t139 l =>
 intW .lss t139 t138 fun t140 =>
 brV t140
 (ixS 2 t137 t139 fun t141 =>
 ldN 2 t141 w fun t142 _ =>
 alW #[(.int .i64 0), (.int .i64 0)] 74 w fun t14 w =>
 stN 2 t14 t142 w fun w =>
 ldC t5 w fun t143 _ =>
 fld 0 t14 fun t144 =>
 ldC t144 w fun t145 _ =>
 callW Tryd.prog t143 [t145] w fun t146 w =>
 fld 1 t14 fun t148 =>
 ldC t148 w fun t149 _ =>
 callW Tryd.prog t6 [t149] w fun t150 w =>
 intW .add t139 (.int .i64 1) fun t151 =>
 r36 [t4, t5, t6, t137, t138, t151] w)
 (callW Tryd.prog (.func (.func 50) #[] #[]) [t4] w fun t153 w =>
 exW t153 0 fun t154 =>
 exW t153 1 fun t155 =>
 R (.tuple #[t154, t155]) w)
def record_Put_L27 (R : Value → World → Prop) : (List Value → World → Prop) → List Value → World → Prop := fun r27 l w =>
 unc l fun t1 l =>
 unc l fun t4 l =>
 unc l fun t5 l =>
 unc l fun t6 l =>
 unc l fun t8 l =>
 unc l fun t107 l =>
 unc l fun t108 l =>
 unc l fun t109 l =>
 intW .lss t109 t108 fun t110 =>
 brV t110
 (ixS 4 t107 t109 fun t111 =>
 ldN 4 t111 w fun t112 _ =>
 alW #[(.int .i64 0), (.int .i64 0), (.bool false), (.slice none 0 0)] 41 w fun t12 w =>
 stN 4 t12 t112 w fun w =>
 ldC t5 w fun t113 _ =>
 fld 0 t12 fun t114 =>
 ldC t114 w fun t115 _ =>
 callW Tryd.prog t113 [t115] w fun t116 w =>
 fld 1 t12 fun t118 =>
 ldC t118 w fun t119 _ =>
 callW Tryd.prog t6 [t119] w fun t120 w =>
 fld 2 t12 fun t122 =>
 ldC t5 w.drew fun t121 c0 =>
 ldC t122 w.drew fun t123 c2 =>
 callW Tryd.prog (.func (.func 49) #[] #[]) [t123] w.drew fun t124 w =>
 heldC [(0, c0)] w (callW Tryd.prog t121 [t124] w fun t125 w =>
 fld 3 t12 fun t127 =>
 ldC t127 w fun t128 _ =>
 callW Tryd.prog t8 [t128] w fun t129 w =>
 intW .add t109 (.int .i64 1) fun t130 =>
 r27 [t1, t4, t5, t6, t8, t107, t108, t130] w))
 (ldC t5 w fun t131 _ =>
 fld 13 t1 fun t132 =>
 ldC t132 w fun t133 _ =>
 lenSl t133 fun t134 =>
 callW Tryd.prog t131 [t134] w fun t135 w =>
 fld 13 t1 fun t136 =>
 ldC t136 w fun t137 _ =>
 lenSl t137 fun t138 =>
 lp (record_Put_L36 R) [t4, t5, t6, t137, t138, (.int .i64 0)] w)
def record_Put_L19 (R : Value → World → Prop) : (List Value → World → Prop) → List Value → World → Prop := fun r19 l w =>
 unc l fun t1 l =>
 unc l fun t4 l =>
 unc l fun t5 l =>
 unc l fun t6 l =>
 unc l fun t7 l =>
 unc l fun t8 l =>
 unc l fun t82 l =>
 unc l fun t83 l =>
 unc l fun t84 l =>
 intW .lss t84 t83 fun t85 =>
 brV t85
 (ixS 3 t82 t84 fun t86 =>
 ldN 3 t86 w fun t87 _ =>
 alW #[(.int .i64 0), (.int .i64 0), (.string ⟨#[]⟩)] 39 w fun t10 w =>
 stN 3 t10 t87 w fun w =>
 ldC t5 w fun t88 _ =>
 fld 0 t10 fun t89 =>
 ldC t89 w fun t90 _ =>
 callW Tryd.prog t88 [t90] w fun t91 w =>
 ldC t5 w fun t92 _ =>
 fld 1 t10 fun t93 =>
 ldC t93 w fun t94 _ =>
 callW Tryd.prog t92 [t94] w fun t95 w =>
 fld 2 t10 fun t97 =>
 ldC t97 w fun t98 _ =>
 callW Tryd.prog t7 [t98] w fun t99 w =>
 intW .add t84 (.int .i64 1) fun t100 =>
 r19 [t1, t4, t5, t6, t7, t8, t82, t83, t100] w)
 (ldC t5 w fun t101 _ =>
 fld 12 t1 fun t102 =>
 ldC t102 w fun t103 _ =>
 lenSl t103 fun t104 =>
 callW Tryd.prog t101 [t104] w fun t105 w =>
 fld 12 t1 fun t106 =>
 ldC t106 w fun t107 _ =>
 lenSl t107 fun t108 =>
 lp (record_Put_L27 R) [t1, t4, t5, t6, t8, t107, t108, (.int .i64 0)] w)
/-- `honeycomb/record.Put` -/
def record_Put (a0 : Value) (R : Value → World → Prop) (w : World) : Prop :=
 alW (Value.cells a0) 29 w fun t1 w =>
 ldN 14 t1 w fun t15 _ =>
 callW Tryd.prog (.func (.func 20) #[] #[]) [t15] w fun t16 w =>
 unW .not t16 fun t17 =>
 brV t17
 (R (.tuple #[(.string ⟨#[]⟩), (.bool false)]) w)
 (fillL [(0, 1), (1, 1)] #[(.slice none 0 0), (.bool false)] [] fun t18 =>
 alW (Value.cells t18) 77 w fun t19 w =>
 alW #[.nilFunc] 78 w fun t5 w =>
 1 = 1 ∧ stC t5 (.func (.func 45) #[t19] #[]) w fun w =>
 ldC t5 w fun t27 _ =>
 fld 0 t1 fun t28 =>
 ldC t28 w fun t29 _ =>
 callW Tryd.prog t27 [t29] w fun t30 w =>
 ldC t5 w fun t31 _ =>
 fld 1 t1 fun t32 =>
 ldC t32 w fun t33 _ =>
 callW Tryd.prog t31 [t33] w fun t34 w =>
 fld 2 t1 fun t36 =>
 ldC t36 w fun t37 _ =>
 callW Tryd.prog (.func (.func 46) #[t19] #[]) [t37] w fun t38 w =>
 fld 3 t1 fun t40 =>
 ldC t40 w fun t41 _ =>
 callW Tryd.prog (.func (.func 46) #[t19] #[]) [t41] w fun t42 w =>
 fld 4 t1 fun t44 =>
 ldC t44 w fun t45 _ =>
 callW Tryd.prog (.func (.func 47) #[t19] #[]) [t45] w fun t46 w =>
 fld 5 t1 fun t48 =>
 ldC t5 w.drew fun t47 c0 =>
 ldC t48 w.drew fun t49 c2 =>
 callW Tryd.prog (.func (.func 49) #[] #[]) [t49] w.drew fun t50 w =>
 heldC [(0, c0)] w (callW Tryd.prog t47 [t50] w fun t51 w =>
 fld 6 t1 fun t53 =>
 fld 0 t53 fun t54 =>
 ldC t54 w fun t55 _ =>
 callW Tryd.prog (.func (.func 47) #[t19] #[]) [t55] w fun t56 w =>
 fld 6 t1 fun t58 =>
 fld 1 t58 fun t59 =>
 ldC t59 w fun t60 _ =>
 callW Tryd.prog (.func (.func 47) #[t19] #[]) [t60] w fun t61 w =>
 ldC t5 w fun t62 _ =>
 fld 6 t1 fun t63 =>
 fld 2 t63 fun t64 =>
 ldC t64 w fun t65 _ =>
 callW Tryd.prog t62 [t65] w fun t66 w =>
 ldC t5 w fun t67 _ =>
 fld 6 t1 fun t68 =>
 fld 3 t68 fun t69 =>
 ldC t69 w fun t70 _ =>
 callW Tryd.prog t67 [t70] w fun t71 w =>
 fld 10 t1 fun t73 =>
 ldC t73 w fun t74 _ =>
 callW Tryd.prog (.func (.func 48) #[] #[t5]) [t74] w fun t75 w =>
 ldC t5 w fun t76 _ =>
 fld 11 t1 fun t77 =>
 ldC t77 w fun t78 _ =>
 lenSl t78 fun t79 =>
 callW Tryd.prog t76 [t79] w fun t80 w =>
 fld 11 t1 fun t81 =>
 ldC t81 w fun t82 _ =>
 lenSl t82 fun t83 =>
 lp (record_Put_L19 R) [t1, t19, t5, (.func (.func 46) #[t19] #[]), (.func (.func 47) #[t19] #[]), (.func (.func 48) #[] #[t5]), t82, t83, (.int .i64 0)] w))
theorem record_Put_den (a0 : Value) (R : Value → World → Prop) (w : World) : denF Tryd.prog Tryd.f18 (Tryd.f18.body.getD .skip) [] [(19, [1, 4, 5, 6, 7, 8, 82, 83, 84]), (27, [1, 4, 5, 6, 8, 107, 108, 109]), (36, [4, 5, 6, 137, 138, 139])] [a0] R w = record_Put a0 R w := by kernel_rfl
set_option maxRecDepth 100000 in
theorem record_Put_run {a0 : Value} {R : Value → World → Prop} {w : World} (h : record_Put a0 R w) : Calls Tryd.prog 18 #[a0] w (rt R) :=
  run_sound (c := Tryd.f18.body.getD .skip) (la := []) (lb := [(19, [1, 4, 5, 6, 7, 8, 82, 83, 84]), (27, [1, 4, 5, 6, 8, 107, 108, 109]), (36, [4, 5, 6, 137, 138, 139])]) (args := [a0]) mixed Tryd.func18 (by kernel_rfl) (by kernel_rfl) (Nat.le_of_ble_eq_true (by kernel_rfl)) (Eq.mpr (record_Put_den a0 R w) h)
theorem record_Put_body : hasBody Tryd.prog 18 = true := by kernel_rfl
theorem record_Put_call {a0 : Value} {R : Value → World → Prop} {w : World} (h : Calls Tryd.prog 18 #[a0] w (rt R)) : callW Tryd.prog (.func (.func 18) #[] #[]) [a0] w R :=
  ⟨record_Put_body, h⟩
/-- `honeycomb/honeycombbook.SameRecord` -/
def honeycombbook_SameRecord (a0 a1 : Value) (R : Value → World → Prop) (w : World) : Prop :=
 alW (Value.cells a0) 29 w fun t2 w =>
 alW (Value.cells a1) 29 w fun t3 w =>
 fld 0 t2 fun t5 =>
 ldC t5 w fun t6 _ =>
 fld 0 t3 fun t7 =>
 ldC t7 w fun t8 _ =>
 intW .eql t6 t8 fun t9 =>
 brV t9
 (fld 1 t2 fun t11 =>
 ldC t11 w fun t12 _ =>
 fld 1 t3 fun t13 =>
 ldC t13 w fun t14 _ =>
 intW .eql t12 t14 fun t15 =>
 brV t15
 (fld 2 t2 fun t18 =>
 ldC t18 w fun t19 _ =>
 fld 2 t3 fun t20 =>
 ldC t20 w fun t21 _ =>
 intW .eql t19 t21 fun t22 =>
 brV t22
 (fld 3 t2 fun t25 =>
 ldC t25 w fun t26 _ =>
 fld 3 t3 fun t27 =>
 ldC t27 w fun t28 _ =>
 intW .eql t26 t28 fun t29 =>
 brV t29
 (fld 4 t2 fun t32 =>
 ldC t32 w fun t33 _ =>
 fld 4 t3 fun t34 =>
 ldC t34 w fun t35 _ =>
 strW .eql t33 t35 fun t36 =>
 brV t36
 (fld 5 t2 fun t39 =>
 ldC t39 w fun t40 _ =>
 fld 5 t3 fun t41 =>
 ldC t41 w fun t42 _ =>
 nilW 6 .eql t40 t42 fun t43 =>
 brV t43
 (fld 6 t2 fun t46 =>
 ldN 4 t46 w fun t47 _ =>
 fld 6 t3 fun t48 =>
 ldN 4 t48 w fun t49 _ =>
 yl Tryd.prog (semBin .eql 23 (.tmp 47) (.tmp 49) t47 t49) fun t50 =>
 brV t50
 (fld 10 t2 fun t53 =>
 ldC t53 w fun t54 _ =>
 fld 10 t3 fun t55 =>
 ldC t55 w fun t56 _ =>
 callW Tryd.prog (.func (.func 38) #[] #[]) [t54, t56] w fun t57 w =>
 brV t57
 (fld 11 t2 fun t60 =>
 ldC t60 w fun t61 _ =>
 fld 11 t3 fun t62 =>
 ldC t62 w fun t63 _ =>
 callW Tryd.prog (.func (.func 51) #[] #[]) [t61, t63] w fun t64 w =>
 brV t64
 (fld 12 t2 fun t67 =>
 ldC t67 w fun t68 _ =>
 fld 12 t3 fun t69 =>
 ldC t69 w fun t70 _ =>
 callW Tryd.prog (.func (.func 52) #[] #[]) [t68, t70] w fun t71 w =>
 brV t71
 (fld 13 t2 fun t74 =>
 ldC t74 w fun t75 _ =>
 fld 13 t3 fun t76 =>
 ldC t76 w fun t77 _ =>
 callW Tryd.prog (.func (.func 53) #[] #[]) [t75, t77] w fun t78 w =>
 R t78 w)
 (R (.bool false) w))
 (R (.bool false) w))
 (R (.bool false) w))
 (R (.bool false) w))
 (R (.bool false) w))
 (R (.bool false) w))
 (R (.bool false) w))
 (R (.bool false) w))
 (R (.bool false) w))
 (R (.bool false) w)
theorem honeycombbook_SameRecord_den (a0 a1 : Value) (R : Value → World → Prop) (w : World) : denF Tryd.prog Tryd.f19 (Tryd.f19.body.getD .skip) [] [] [a0, a1] R w = honeycombbook_SameRecord a0 a1 R w := by kernel_rfl
set_option maxRecDepth 100000 in
theorem honeycombbook_SameRecord_run {a0 a1 : Value} {R : Value → World → Prop} {w : World} (h : honeycombbook_SameRecord a0 a1 R w) : Calls Tryd.prog 19 #[a0, a1] w (rt R) :=
  run_sound (c := Tryd.f19.body.getD .skip) (la := []) (lb := []) (args := [a0, a1]) mixed Tryd.func19 (by kernel_rfl) (by kernel_rfl) (Nat.le_of_ble_eq_true (by kernel_rfl)) (Eq.mpr (honeycombbook_SameRecord_den a0 a1 R w) h)
theorem honeycombbook_SameRecord_body : hasBody Tryd.prog 19 = true := by kernel_rfl
theorem honeycombbook_SameRecord_call {a0 a1 : Value} {R : Value → World → Prop} {w : World} (h : Calls Tryd.prog 19 #[a0, a1] w (rt R)) : callW Tryd.prog (.func (.func 19) #[] #[]) [a0, a1] w R :=
  ⟨honeycombbook_SameRecord_body, h⟩
def record_Right_J2 (R : Value → World → Prop) : List Value → World → Prop := fun l w =>
 R (.bool false) w
def record_Right_J4 (R : Value → World → Prop) : List Value → World → Prop := fun l w =>
 R (.bool false) w
def record_Right_J15 (R : Value → World → Prop) (r12 : List Value → World → Prop) : List Value → World → Prop := fun l w =>
 R (.bool false) w
def record_Right_L12 (R : Value → World → Prop) : (List Value → World → Prop) → List Value → World → Prop := fun r12 l w =>
 unc l fun t1 l =>
 unc l fun t81 l =>
 unc l fun t82 l =>
 unc l fun t83 l =>
 intW .lss t83 t82 fun t84 =>
 brV t84
 (ixS 4 t81 t83 fun t85 =>
 ldN 4 t85 w fun t86 _ =>
 alW #[(.int .i64 0), (.int .i64 0), (.bool false), (.slice none 0 0)] 41 w fun t6 w =>
 stN 4 t6 t86 w fun w =>
 fld 0 t6 fun t87 =>
 ldC t87 w fun t88 _ =>
 callW Tryd.prog (.func (.func 54) #[] #[]) [t88, (.int .i64 65535)] w fun t89 w =>
 unW .not t89 fun t90 =>
 brV t90
 (jn (record_Right_J15 R r12) [] w)
 (fld 1 t6 fun t92 =>
 ldC t92 w fun t93 _ =>
 callW Tryd.prog (.func (.func 54) #[] #[]) [t93, (.int .i64 4294967295)] w fun t94 w =>
 unW .not t94 fun t95 =>
 brV t95
 (jn (record_Right_J15 R r12) [] w)
 (fld 3 t6 fun t98 =>
 ldC t98 w fun t99 _ =>
 callW Tryd.prog (.func (.func 56) #[] #[]) [t99] w fun t100 w =>
 unW .not t100 fun t101 =>
 brV t101
 (jn (record_Right_J15 R r12) [] w)
 (intW .add t83 (.int .i64 1) fun t103 =>
 r12 [t1, t81, t82, t103] w))))
 (fld 13 t1 fun t104 =>
 ldC t104 w fun t105 _ =>
 callW Tryd.prog (.func (.func 58) #[] #[]) [t105, (.func (.func 59) #[] #[])] w fun t106 w =>
 unW .not t106 fun t107 =>
 R t107 w)
def record_Right_L6 (R : Value → World → Prop) : (List Value → World → Prop) → List Value → World → Prop := fun r6 l w =>
 unc l fun t1 l =>
 unc l fun t70 l =>
 unc l fun t71 l =>
 unc l fun t72 l =>
 intW .lss t72 t71 fun t73 =>
 brV t73
 (ixS 3 t70 t72 fun t74 =>
 ldN 3 t74 w fun t75 _ =>
 alW #[(.int .i64 0), (.int .i64 0), (.string ⟨#[]⟩)] 39 w fun t4 w =>
 stN 3 t4 t75 w fun w =>
 ldN 3 t4 w fun t76 _ =>
 callW Tryd.prog (.func (.func 57) #[] #[]) [t76] w fun t77 w =>
 unW .not t77 fun t78 =>
 brV t78
 (R (.bool false) w)
 (intW .add t72 (.int .i64 1) fun t79 =>
 r6 [t1, t70, t71, t79] w))
 (fld 12 t1 fun t80 =>
 ldC t80 w fun t81 _ =>
 lenSl t81 fun t82 =>
 lp (record_Right_L12 R) [t1, t81, t82, (.int .i64 0)] w)
def record_Right_J5 (R : Value → World → Prop) : List Value → World → Prop := fun l w =>
 unc l fun t1 l =>
 fld 11 t1 fun t69 =>
 ldC t69 w fun t70 _ =>
 lenSl t70 fun t71 =>
 lp (record_Right_L6 R) [t1, t70, t71, (.int .i64 0)] w
/-- `honeycomb/record.Right` -/
def record_Right (a0 : Value) (R : Value → World → Prop) (w : World) : Prop :=
 alW (Value.cells a0) 29 w fun t1 w =>
 fld 0 t1 fun t7 =>
 ldC t7 w fun t8 _ =>
 callW Tryd.prog (.func (.func 21) #[] #[]) [t8] w fun t9 w =>
 strW .eql t9 (.string ⟨#[]⟩) fun t10 =>
 brV t10
 (jn (record_Right_J2 R) [] w)
 (fld 1 t1 fun t12 =>
 ldC t12 w fun t13 _ =>
 callW Tryd.prog (.func (.func 54) #[] #[]) [t13, (.int .i64 65535)] w fun t14 w =>
 unW .not t14 fun t15 =>
 brV t15
 (jn (record_Right_J2 R) [] w)
 (fld 2 t1 fun t18 =>
 ldC t18 w fun t19 _ =>
 callW Tryd.prog (.func (.func 54) #[] #[]) [t19, (.int .i64 4294967295)] w fun t20 w =>
 unW .not t20 fun t21 =>
 brV t21
 (jn (record_Right_J2 R) [] w)
 (fld 3 t1 fun t24 =>
 ldC t24 w fun t25 _ =>
 callW Tryd.prog (.func (.func 54) #[] #[]) [t25, (.int .i64 4294967295)] w fun t26 w =>
 unW .not t26 fun t27 =>
 brV t27
 (jn (record_Right_J2 R) [] w)
 (fld 4 t1 fun t30 =>
 ldC t30 w fun t31 _ =>
 lenStr t31 fun t32 =>
 intW .gtr t32 (.int .i64 255) fun t33 =>
 brV t33
 (jn (record_Right_J2 R) [] w)
 (fld 6 t1 fun t35 =>
 ldN 4 t35 w fun t36 _ =>
 fillL [(0, 1), (1, 1), (2, 1), (3, 1)] #[(.string ⟨#[]⟩), (.string ⟨#[]⟩), (.int .i64 0), (.int .i64 0)] [] fun t37 =>
 yl Tryd.prog (semBin .neq 23 (.tmp 36) (.tmp 37) t36 t37) fun t38 =>
 brV t38
 (fld 6 t1 fun t40 =>
 ldN 4 t40 w fun t41 _ =>
 callW Tryd.prog (.func (.func 55) #[] #[]) [t41] w fun t42 w =>
 unW .not t42 fun t43 =>
 brV t43
 (jn (record_Right_J4 R) [] w)
 (fld 10 t1 fun t46 =>
 ldC t46 w fun t47 _ =>
 callW Tryd.prog (.func (.func 56) #[] #[]) [t47] w fun t48 w =>
 unW .not t48 fun t49 =>
 brV t49
 (jn (record_Right_J4 R) [] w)
 (fld 11 t1 fun t52 =>
 ldC t52 w fun t53 _ =>
 lenSl t53 fun t54 =>
 intW .gtr t54 (.int .i64 40) fun t55 =>
 brV t55
 (jn (record_Right_J4 R) [] w)
 (fld 12 t1 fun t58 =>
 ldC t58 w fun t59 _ =>
 lenSl t59 fun t60 =>
 intW .gtr t60 (.int .i64 8) fun t61 =>
 brV t61
 (jn (record_Right_J4 R) [] w)
 (fld 13 t1 fun t64 =>
 ldC t64 w fun t65 _ =>
 lenSl t65 fun t66 =>
 intW .gtr t66 (.int .i64 64) fun t67 =>
 brV t67
 (jn (record_Right_J4 R) [] w)
 (jn (record_Right_J5 R) [t1] w))))))
 (fld 10 t1 fun t46 =>
 ldC t46 w fun t47 _ =>
 callW Tryd.prog (.func (.func 56) #[] #[]) [t47] w fun t48 w =>
 unW .not t48 fun t49 =>
 brV t49
 (jn (record_Right_J4 R) [] w)
 (fld 11 t1 fun t52 =>
 ldC t52 w fun t53 _ =>
 lenSl t53 fun t54 =>
 intW .gtr t54 (.int .i64 40) fun t55 =>
 brV t55
 (jn (record_Right_J4 R) [] w)
 (fld 12 t1 fun t58 =>
 ldC t58 w fun t59 _ =>
 lenSl t59 fun t60 =>
 intW .gtr t60 (.int .i64 8) fun t61 =>
 brV t61
 (jn (record_Right_J4 R) [] w)
 (fld 13 t1 fun t64 =>
 ldC t64 w fun t65 _ =>
 lenSl t65 fun t66 =>
 intW .gtr t66 (.int .i64 64) fun t67 =>
 brV t67
 (jn (record_Right_J4 R) [] w)
 (jn (record_Right_J5 R) [t1] w))))))))))
theorem record_Right_den (a0 : Value) (R : Value → World → Prop) (w : World) : denF Tryd.prog Tryd.f20 (Tryd.f20.body.getD .skip) [(2, []), (4, []), (5, [1]), (15, [])] [(6, [1, 70, 71, 72]), (12, [1, 81, 82, 83])] [a0] R w = record_Right a0 R w := by kernel_rfl
set_option maxRecDepth 100000 in
theorem record_Right_run {a0 : Value} {R : Value → World → Prop} {w : World} (h : record_Right a0 R w) : Calls Tryd.prog 20 #[a0] w (rt R) :=
  run_sound (c := Tryd.f20.body.getD .skip) (la := [(2, []), (4, []), (5, [1]), (15, [])]) (lb := [(6, [1, 70, 71, 72]), (12, [1, 81, 82, 83])]) (args := [a0]) mixed Tryd.func20 (by kernel_rfl) (by kernel_rfl) (Nat.le_of_ble_eq_true (by kernel_rfl)) (Eq.mpr (record_Right_den a0 R w) h)
theorem record_Right_body : hasBody Tryd.prog 20 = true := by kernel_rfl
theorem record_Right_call {a0 : Value} {R : Value → World → Prop} {w : World} (h : Calls Tryd.prog 20 #[a0] w (rt R)) : callW Tryd.prog (.func (.func 20) #[] #[]) [a0] w R :=
  ⟨record_Right_body, h⟩
def record_Name_J3 (R : Value → World → Prop) : List Value → World → Prop := fun l w =>
 R (.string ⟨#[]⟩) w
/-- `honeycomb/record.Name` -/
def record_Name (a0 : Value) (R : Value → World → Prop) (w : World) : Prop :=
 callW Tryd.prog (.func (.func 60) #[] #[]) [(.string ⟨#[117, 112, 100, 97, 116, 101, 32, 117, 110, 100, 111, 110, 101, 32, 115, 116, 114, 117, 99, 116, 32, 99, 111, 109, 109, 105, 116, 32, 101, 110, 100, 32, 97, 98, 111, 114, 116, 32, 99, 104, 101, 99, 107]⟩)] w fun t4 w =>
 intW .lss a0 (.int .i64 1) fun t6 =>
 brV t6
 (jn (record_Name_J3 R) [] w)
 (lenSl t4 fun t10 =>
 intW .gtr a0 t10 fun t11 =>
 brV t11
 (jn (record_Name_J3 R) [] w)
 (intW .sub a0 (.int .i64 1) fun t15 =>
 ixS 1 t4 t15 fun t16 =>
 ldC t16 w fun t17 _ =>
 R t17 w))
theorem record_Name_den (a0 : Value) (R : Value → World → Prop) (w : World) : denF Tryd.prog Tryd.f21 (Tryd.f21.body.getD .skip) [(3, [])] [] [a0] R w = record_Name a0 R w := by kernel_rfl
set_option maxRecDepth 100000 in
theorem record_Name_run {a0 : Value} {R : Value → World → Prop} {w : World} (h : record_Name a0 R w) : Calls Tryd.prog 21 #[a0] w (rt R) :=
  run_sound (c := Tryd.f21.body.getD .skip) (la := [(3, [])]) (lb := []) (args := [a0]) mixed Tryd.func21 (by kernel_rfl) (by kernel_rfl) (Nat.le_of_ble_eq_true (by kernel_rfl)) (Eq.mpr (record_Name_den a0 R w) h)
theorem record_Name_body : hasBody Tryd.prog 21 = true := by kernel_rfl
theorem record_Name_call {a0 : Value} {R : Value → World → Prop} {w : World} (h : Calls Tryd.prog 21 #[a0] w (rt R)) : callW Tryd.prog (.func (.func 21) #[] #[]) [a0] w R :=
  ⟨record_Name_body, h⟩
def record_Touches_L3 (R : Value → World → Prop) : (List Value → World → Prop) → List Value → World → Prop := fun r3 l w =>
 unc l fun t3 l =>
 unc l fun t7 l =>
 unc l fun t8 l =>
 unc l fun t9 l =>
 intW .lss t9 t8 fun t10 =>
 brV t10
 (ixS 3 t7 t9 fun t11 =>
 ldN 3 t11 w fun t12 _ =>
 alW #[(.int .i64 0), (.int .i64 0), (.string ⟨#[]⟩)] 39 w fun t5 w =>
 stN 3 t5 t12 w fun w =>
 fld 0 t5 fun t14 =>
 ldC t14 w fun t15 _ =>
 blS 3 1 #[(.int .i64 0)] 1 [(0, t15)] w fun t16 w =>
 sm Tryd.prog (bi .append #[24, 24] 24 [t3, t16]) w fun t17 w =>
 intW .add t9 (.int .i64 1) fun t18 =>
 r3 [t17, t7, t8, t18] w)
 (callW Tryd.prog (.func (.func 61) #[] #[]) [t3] w fun t20 w =>
 callW Tryd.prog (.func (.func 62) #[] #[]) [t3] w fun t22 w =>
 R t22 w)
/-- `honeycomb/record.Touches` -/
def record_Touches (a0 : Value) (R : Value → World → Prop) (w : World) : Prop :=
 alW (Value.cells a0) 29 w fun t1 w =>
 fld 11 t1 fun t6 =>
 ldC t6 w fun t7 _ =>
 lenSl t7 fun t8 =>
 lp (record_Touches_L3 R) [(.slice none 0 0), t7, t8, (.int .i64 0)] w
theorem record_Touches_den (a0 : Value) (R : Value → World → Prop) (w : World) : denF Tryd.prog Tryd.f22 (Tryd.f22.body.getD .skip) [] [(3, [3, 7, 8, 9])] [a0] R w = record_Touches a0 R w := by kernel_rfl
set_option maxRecDepth 100000 in
theorem record_Touches_run {a0 : Value} {R : Value → World → Prop} {w : World} (h : record_Touches a0 R w) : Calls Tryd.prog 22 #[a0] w (rt R) :=
  run_sound (c := Tryd.f22.body.getD .skip) (la := []) (lb := [(3, [3, 7, 8, 9])]) (args := [a0]) mixed Tryd.func22 (by kernel_rfl) (by kernel_rfl) (Nat.le_of_ble_eq_true (by kernel_rfl)) (Eq.mpr (record_Touches_den a0 R w) h)
theorem record_Touches_body : hasBody Tryd.prog 22 = true := by kernel_rfl
theorem record_Touches_call {a0 : Value} {R : Value → World → Prop} {w : World} (h : Calls Tryd.prog 22 #[a0] w (rt R)) : callW Tryd.prog (.func (.func 22) #[] #[]) [a0] w R :=
  ⟨record_Touches_body, h⟩
def honeycomblaw14_alive_J4 (R : Value → World → Prop) : List Value → World → Prop := fun l w =>
 R (.bool false) w
def honeycomblaw14_alive_J8 (R : Value → World → Prop) : List Value → World → Prop := fun l w =>
 R (.bool false) w
def honeycomblaw14_alive_J11 (R : Value → World → Prop) : List Value → World → Prop := fun l w =>
 R (.bool false) w
/-- `honeycomb/honeycomblaw14.alive` -/
def honeycomblaw14_alive (R : Value → World → Prop) (w : World) : Prop :=
 callW Tryd.prog (.func (.func 24) #[] #[]) [(.int .i64 200)] w fun t12 w =>
 callW Tryd.prog (.func (.func 25) #[] #[]) [t12, (.int .i64 2), (.int .i64 64), (.int .i64 1)] w fun t15 w =>
 exW t15 0 fun t16 =>
 exW t15 1 fun t17 =>
 intW .neq t17 (.int .i64 0) fun t19 =>
 brV t19
 (jn (honeycomblaw14_alive_J4 R) [] w)
 (nilW 2 .eql t16 (.pointer none) fun t22 =>
 brV t22
 (jn (honeycomblaw14_alive_J4 R) [] w)
 (fillL [(0, 1), (1, 1), (2, 1), (3, 1), (4, 1), (5, 1), (6, 4), (10, 1), (11, 1), (12, 1), (13, 1)] #[(.int .i64 0), (.int .i64 0), (.int .i64 0), (.int .i64 0), (.string ⟨#[]⟩), (.bool false), (.string ⟨#[]⟩), (.string ⟨#[]⟩), (.int .i64 0), (.int .i64 0), (.slice none 0 0), (.slice none 0 0), (.slice none 0 0), (.slice none 0 0)] [(0, (.int .i64 4)), (1, (.int .i64 1))] fun t26 =>
 callW Tryd.prog (.func (.func 26) #[] #[]) [t16, t26] w fun t27 w =>
 exW t27 0 fun t28 =>
 exW t27 1 fun t29 =>
 fillL [(0, 1), (1, 1), (2, 1), (3, 1), (4, 1), (5, 1), (6, 4), (10, 1), (11, 1), (12, 1), (13, 1)] #[(.int .i64 0), (.int .i64 0), (.int .i64 0), (.int .i64 0), (.string ⟨#[]⟩), (.bool false), (.string ⟨#[]⟩), (.string ⟨#[]⟩), (.int .i64 0), (.int .i64 0), (.slice none 0 0), (.slice none 0 0), (.slice none 0 0), (.slice none 0 0)] [(0, (.int .i64 5)), (1, (.int .i64 1))] fun t32 =>
 callW Tryd.prog (.func (.func 26) #[] #[]) [t16, t32] w fun t33 w =>
 exW t33 0 fun t34 =>
 exW t33 1 fun t35 =>
 intW .neq t28 (.int .i64 1) fun t37 =>
 brV t37
 (jn (honeycomblaw14_alive_J8 R) [] w)
 (intW .neq t34 (.int .i64 2) fun t40 =>
 brV t40
 (jn (honeycomblaw14_alive_J8 R) [] w)
 (intW .neq t29 (.int .i64 0) fun t44 =>
 brV t44
 (jn (honeycomblaw14_alive_J8 R) [] w)
 (intW .neq t35 (.int .i64 0) fun t48 =>
 brV t48
 (jn (honeycomblaw14_alive_J8 R) [] w)
 (callW Tryd.prog (.func (.func 28) #[] #[]) [t16] w fun t52 w =>
 intW .neq t52 (.int .i64 2) fun t53 =>
 brV t53
 (jn (honeycomblaw14_alive_J8 R) [] w)
 (callW Tryd.prog (.func (.func 31) #[] #[]) [t16] w fun t57 w =>
 intW .neq t57 (.int .i64 0) fun t58 =>
 brV t58
 (jn (honeycomblaw14_alive_J8 R) [] w)
 (callW Tryd.prog (.func (.func 29) #[] #[]) [t16] w fun t62 w =>
 intW .neq t62 (.int .i64 0) fun t63 =>
 brV t63
 (jn (honeycomblaw14_alive_J8 R) [] w)
 (callW Tryd.prog (.func (.func 31) #[] #[]) [t16] w fun t67 w =>
 intW .neq t67 (.int .i64 2) fun t68 =>
 brV t68
 (jn (honeycomblaw14_alive_J8 R) [] w)
 (callW Tryd.prog (.func (.func 25) #[] #[]) [t12, (.int .i64 2), (.int .i64 64), (.int .i64 2)] w fun t72 w =>
 exW t72 0 fun t73 =>
 exW t72 1 fun t74 =>
 intW .neq t74 (.int .i64 0) fun t76 =>
 brV t76
 (jn (honeycomblaw14_alive_J11 R) [] w)
 (nilW 2 .eql t73 (.pointer none) fun t79 =>
 brV t79
 (jn (honeycomblaw14_alive_J11 R) [] w)
 (callW Tryd.prog (.func (.func 34) #[] #[]) [t73, (.int .i64 2)] w fun t83 w =>
 exW t83 0 fun t84 =>
 exW t83 1 fun t85 =>
 alW #[(.int .i64 0), (.int .i64 0), (.int .i64 0), (.int .i64 0), (.string ⟨#[]⟩), (.bool false), (.string ⟨#[]⟩), (.string ⟨#[]⟩), (.int .i64 0), (.int .i64 0), (.slice none 0 0), (.slice none 0 0), (.slice none 0 0), (.slice none 0 0)] 29 w fun t10 w =>
 stN 14 t10 t84 w fun w =>
 brV t85
 (fld 0 t10 fun t88 =>
 ldC t88 w fun t89 _ =>
 intW .eql t89 (.int .i64 5) fun t90 =>
 brV t90
 (callW Tryd.prog (.func (.func 28) #[] #[]) [t73] w fun t94 w =>
 intW .eql t94 (.int .i64 2) fun t95 =>
 brV t95
 (callW Tryd.prog (.func (.func 27) #[] #[]) [t73] w fun t99 w =>
 callW Tryd.prog (.func (.func 27) #[] #[]) [t16] w fun t101 w =>
 intW .eql t99 t101 fun t102 =>
 R t102 w)
 (R (.bool false) w))
 (R (.bool false) w))
 (R (.bool false) w)))))))))))))
theorem honeycomblaw14_alive_den (R : Value → World → Prop) (w : World) : denF Tryd.prog Tryd.f23 (Tryd.f23.body.getD .skip) [(4, []), (8, []), (11, [])] [] [] R w = honeycomblaw14_alive  R w := by kernel_rfl
set_option maxRecDepth 100000 in
theorem honeycomblaw14_alive_run {R : Value → World → Prop} {w : World} (h : honeycomblaw14_alive  R w) : Calls Tryd.prog 23 #[] w (rt R) :=
  run_sound (c := Tryd.f23.body.getD .skip) (la := [(4, []), (8, []), (11, [])]) (lb := []) (args := []) mixed Tryd.func23 (by kernel_rfl) (by kernel_rfl) (Nat.le_of_ble_eq_true (by kernel_rfl)) (Eq.mpr (honeycomblaw14_alive_den  R w) h)
theorem honeycomblaw14_alive_body : hasBody Tryd.prog 23 = true := by kernel_rfl
theorem honeycomblaw14_alive_call {R : Value → World → Prop} {w : World} (h : Calls Tryd.prog 23 #[] w (rt R)) : callW Tryd.prog (.func (.func 23) #[] #[]) [] w R :=
  ⟨honeycomblaw14_alive_body, h⟩
def disk_New_J2 (R : Value → World → Prop) : List Value → World → Prop := fun l w =>
 R (.pointer none) w
/-- `honeycomb/disk.New` -/
def disk_New (a0 : Value) (R : Value → World → Prop) (w : World) : Prop :=
 intW .lss a0 (.int .i64 1) fun t4 =>
 brV t4
 (jn (disk_New_J2 R) [] w)
 (intW .gtr a0 (.int .i64 10000) fun t7 =>
 brV t7
 (jn (disk_New_J2 R) [] w)
 (callW Tryd.prog (.func (.func 64) #[] #[]) [(.string ⟨#[0]⟩), (.int .i64 64)] w fun t9 w =>
 blS 9 1 #[(.string ⟨#[]⟩)] 1 [(0, t9)] w fun t10 w =>
 callW Tryd.prog (.func (.func 63) #[] #[]) [t10, a0] w fun t12 w =>
 mkM w fun t13 w =>
 fillL [(0, 1), (1, 1), (2, 1), (3, 1), (4, 1), (5, 1)] #[(.slice none 0 0), (.slice none 0 0), (.map none), (.bool false), (.int .i64 0), (.bool false)] [(0, t12), (2, t13)] fun t14 =>
 alW (Value.cells t14) 98 w fun t15 w =>
 R t15 w))
theorem disk_New_den (a0 : Value) (R : Value → World → Prop) (w : World) : denF Tryd.prog Tryd.f24 (Tryd.f24.body.getD .skip) [(2, [])] [] [a0] R w = disk_New a0 R w := by kernel_rfl
set_option maxRecDepth 100000 in
theorem disk_New_run {a0 : Value} {R : Value → World → Prop} {w : World} (h : disk_New a0 R w) : Calls Tryd.prog 24 #[a0] w (rt R) :=
  run_sound (c := Tryd.f24.body.getD .skip) (la := [(2, [])]) (lb := []) (args := [a0]) mixed Tryd.func24 (by kernel_rfl) (by kernel_rfl) (Nat.le_of_ble_eq_true (by kernel_rfl)) (Eq.mpr (disk_New_den a0 R w) h)
theorem disk_New_body : hasBody Tryd.prog 24 = true := by kernel_rfl
theorem disk_New_call {a0 : Value} {R : Value → World → Prop} {w : World} (h : Calls Tryd.prog 24 #[a0] w (rt R)) : callW Tryd.prog (.func (.func 24) #[] #[]) [a0] w R :=
  ⟨disk_New_body, h⟩
def wal_Open_J2 (R : Value → World → Prop) : List Value → World → Prop := fun l w =>
 R (.tuple #[(.pointer none), (.int .i64 1)]) w
def wal_Open_L18 (R : Value → World → Prop) : (List Value → World → Prop) → List Value → World → Prop := fun r18 l w =>
 unc l fun t15 l =>
 unc l fun t17 l =>
 unc l fun t90 l =>
 unc l fun t91 l =>
 unc l fun t92 l =>
 intW .lss t92 t91 fun t93 =>
 brV t93
 (ixS 1 t90 t92 fun t94 =>
 ldC t94 w fun t95 _ =>
 callW Tryd.prog (.func (.func 17) #[] #[]) [t95] w fun t98 w =>
 exW t98 0 fun t99 =>
 exW t98 1 fun t100 =>
 alW #[(.int .i64 0), (.int .i64 0), (.int .i64 0), (.int .i64 0), (.string ⟨#[]⟩), (.bool false), (.string ⟨#[]⟩), (.string ⟨#[]⟩), (.int .i64 0), (.int .i64 0), (.slice none 0 0), (.slice none 0 0), (.slice none 0 0), (.slice none 0 0)] 29 w fun t21 w =>
 stN 14 t21 t99 w fun w =>
 unW .not t100 fun t102 =>
 brV t102
 (R (.tuple #[(.pointer none), (.int .i64 2)]) w)
 (nckW t15 fun t105 =>
 fld 4 t105 fun t106 =>
 ldC t106 w.drew fun t107 c4 =>
 ldN 14 t21 w.drew fun t108 c5 =>
 blS 29 14 #[(.int .i64 0), (.int .i64 0), (.int .i64 0), (.int .i64 0), (.string ⟨#[]⟩), (.bool false), (.string ⟨#[]⟩), (.string ⟨#[]⟩), (.int .i64 0), (.int .i64 0), (.slice none 0 0), (.slice none 0 0), (.slice none 0 0), (.slice none 0 0)] 1 [(0, t108)] w.drew fun t109 w =>
 heldC [(4, c4)] w (sm Tryd.prog (bi .append #[60, 60] 60 [t107, t109]) w fun t110 w =>
 nckW t15 fun t111 =>
 fld 4 t111 fun t112 =>
 1 = 1 ∧ stC t112 t110 w fun w =>
 intW .add t92 (.int .i64 1) fun t113 =>
 r18 [t15, t17, t90, t91, t113] w)))
 (nckW t15 fun t116 =>
 fld 6 t116 fun t117 =>
 1 = 1 ∧ stC t117 t17 w fun w =>
 R (.tuple #[t15, (.int .i64 0)]) w)
def wal_Open_L6 (R : Value → World → Prop) : (List Value → World → Prop) → List Value → World → Prop := fun r6 l w =>
 unc l fun t0 l =>
 unc l fun t1 l =>
 unc l fun t2 l =>
 unc l fun t3 l =>
 unc l fun t10 l =>
 unc l fun t11 l =>
 unc l fun t55 l =>
 unc l fun t56 l =>
 intW .lss t56 t55 fun t57 =>
 brV t57
 (intW .add t1 t56 fun t63 =>
 callW Tryd.prog t10 [t63] w fun t64 w =>
 exW t64 0 fun t65 =>
 exW t64 1 fun t66 =>
 intW .neq t66 (.int .i64 0) fun t68 =>
 brV t68
 (R (.tuple #[(.pointer none), t66]) w)
 (blS 9 1 #[(.string ⟨#[]⟩)] 1 [(0, t65)] w fun t72 w =>
 sm Tryd.prog (bi .append #[90, 90] 90 [t11, t72]) w fun t73 w =>
 intW .add t56 (.int .i64 1) fun t74 =>
 r6 [t0, t1, t2, t3, t10, t73, t55, t74] w))
 (fillL [(0, 1), (1, 1), (2, 1), (3, 1), (4, 1), (5, 1), (6, 1)] #[(.pointer none), (.int .i64 0), (.int .i64 0), (.int .i64 0), (.slice none 0 0), (.slice none 0 0), (.int .i64 0)] [(0, t0), (1, t1), (2, t2), (3, t3)] fun t79 =>
 alW (Value.cells t79) 102 w fun t80 w =>
 callW Tryd.prog (.func (.func 67) #[] #[]) [t11] w fun t83 w =>
 exW t83 0 fun t84 =>
 exW t83 1 fun t85 =>
 exW t83 2 fun t86 =>
 intW .geq t86 t3 fun t89 =>
 brV t89
 (R (.tuple #[(.pointer none), (.int .i64 2)]) w)
 (lenSl t84 fun t91 =>
 lp (wal_Open_L18 R) [t80, t85, t84, t91, (.int .i64 0)] w))
/-- `honeycomb/wal.Open` -/
def wal_Open (a0 a1 a2 a3 : Value) (R : Value → World → Prop) (w : World) : Prop :=
 nilW 2 .eql a0 (.pointer none) fun t24 =>
 brV t24
 (jn (wal_Open_J2 R) [] w)
 (intW .lss a2 (.int .i64 1) fun t27 =>
 brV t27
 (jn (wal_Open_J2 R) [] w)
 (intW .gtr a2 (.int .i64 4000) fun t31 =>
 brV t31
 (jn (wal_Open_J2 R) [] w)
 (intW .lss a1 (.int .i64 0) fun t35 =>
 brV t35
 (jn (wal_Open_J2 R) [] w)
 (callW Tryd.prog (.func (.func 65) #[] #[]) [a0] w fun t40 w =>
 intW .sub t40 a2 fun t42 =>
 intW .gtr a1 t42 fun t43 =>
 brV t43
 (jn (wal_Open_J2 R) [] w)
 (intW .lss a3 (.int .i64 1) fun t47 =>
 brV t47
 (jn (wal_Open_J2 R) [] w)
 (intW .gtr a3 (.int .i64 4294967295) fun t51 =>
 brV t51
 (jn (wal_Open_J2 R) [] w)
 (lp (wal_Open_L6 R) [a0, a1, a2, a3, (.func (.func 66) #[a0] #[]), (.slice none 0 0), a2, (.int .i64 0)] w)))))))
theorem wal_Open_den (a0 a1 a2 a3 : Value) (R : Value → World → Prop) (w : World) : denF Tryd.prog Tryd.f25 (Tryd.f25.body.getD .skip) [(2, [])] [(6, [0, 1, 2, 3, 10, 11, 55, 56]), (18, [15, 17, 90, 91, 92])] [a0, a1, a2, a3] R w = wal_Open a0 a1 a2 a3 R w := by kernel_rfl
set_option maxRecDepth 100000 in
theorem wal_Open_run {a0 a1 a2 a3 : Value} {R : Value → World → Prop} {w : World} (h : wal_Open a0 a1 a2 a3 R w) : Calls Tryd.prog 25 #[a0, a1, a2, a3] w (rt R) :=
  run_sound (c := Tryd.f25.body.getD .skip) (la := [(2, [])]) (lb := [(6, [0, 1, 2, 3, 10, 11, 55, 56]), (18, [15, 17, 90, 91, 92])]) (args := [a0, a1, a2, a3]) mixed Tryd.func25 (by kernel_rfl) (by kernel_rfl) (Nat.le_of_ble_eq_true (by kernel_rfl)) (Eq.mpr (wal_Open_den a0 a1 a2 a3 R w) h)
theorem wal_Open_body : hasBody Tryd.prog 25 = true := by kernel_rfl
theorem wal_Open_call {a0 a1 a2 a3 : Value} {R : Value → World → Prop} {w : World} (h : Calls Tryd.prog 25 #[a0, a1, a2, a3] w (rt R)) : callW Tryd.prog (.func (.func 25) #[] #[]) [a0, a1, a2, a3] w R :=
  ⟨wal_Open_body, h⟩
/-- `(*honeycomb/wal.Log).Append` -/
def wal_Log_Append (a0 a1 : Value) (R : Value → World → Prop) (w : World) : Prop :=
 alW (Value.cells a1) 29 w fun t3 w =>
 nilW 2 .eql a0 (.pointer none) fun t12 =>
 brV t12
 (R (.tuple #[(.int .i64 0), (.int .i64 11)]) w)
 (ldN 14 t3 w fun t14 _ =>
 callW Tryd.prog (.func (.func 18) #[] #[]) [t14] w fun t15 w =>
 exW t15 0 fun t16 =>
 exW t15 1 fun t17 =>
 unW .not t17 fun t19 =>
 brV t19
 (R (.tuple #[(.int .i64 0), (.int .i64 1)]) w)
 (nckW a0 fun t21 =>
 fld 5 t21 fun t22 =>
 nckW a0 fun t25 =>
 fld 5 t25 fun t26 =>
 nckW a0 fun t30 =>
 fld 5 t30 fun t31 =>
 ldC t22 w.drew fun t23 c3 =>
 ldC t26 w.drew fun t27 c7 =>
 lenSl t27 fun t28 =>
 ldC t31 w.drew fun t32 c12 =>
 lenSl t32 fun t33 =>
 slSl 1 t23 none (some t28) (some t33) fun t34 =>
 blS 9 1 #[(.string ⟨#[]⟩)] 1 [(0, t16)] w.drew fun t36 w =>
 heldC [(12, c12), (7, c7), (3, c3)] w (sm Tryd.prog (bi .append #[90, 90] 90 [t34, t36]) w fun t37 w =>
 heldC [(12, c12), (7, c7), (3, c3)] w (nckW a0 fun t41 =>
 fld 2 t41 fun t42 =>
 nckW a0 fun t45 =>
 fld 6 t45 fun t46 =>
 ldC t42 w.drew fun t43 c5 =>
 ldC t46 w.drew fun t47 c9 =>
 intW .sub t43 t47 fun t48 =>
 callW Tryd.prog (.func (.func 68) #[] #[]) [t37] w.drew fun t39 w =>
 heldC [(9, c9), (5, c5)] w (intW .gtr t39 t48 fun t49 =>
 brV t49
 (R (.tuple #[(.int .i64 0), (.int .i64 7)]) w)
 (callW Tryd.prog (.func (.func 17) #[] #[]) [t16] w fun t52 w =>
 exW t52 0 fun t53 =>
 exW t52 1 fun t54 =>
 alW #[(.int .i64 0), (.int .i64 0), (.int .i64 0), (.int .i64 0), (.string ⟨#[]⟩), (.bool false), (.string ⟨#[]⟩), (.string ⟨#[]⟩), (.int .i64 0), (.int .i64 0), (.slice none 0 0), (.slice none 0 0), (.slice none 0 0), (.slice none 0 0)] 29 w fun t9 w =>
 stN 14 t9 t53 w fun w =>
 nckW a0 fun t57 =>
 fld 5 t57 fun t58 =>
 1 = 1 ∧ stC t58 t37 w fun w =>
 nckW a0 fun t61 =>
 fld 4 t61 fun t62 =>
 ldC t62 w.drew fun t63 c4 =>
 ldN 14 t9 w.drew fun t64 c5 =>
 blS 29 14 #[(.int .i64 0), (.int .i64 0), (.int .i64 0), (.int .i64 0), (.string ⟨#[]⟩), (.bool false), (.string ⟨#[]⟩), (.string ⟨#[]⟩), (.int .i64 0), (.int .i64 0), (.slice none 0 0), (.slice none 0 0), (.slice none 0 0), (.slice none 0 0)] 1 [(0, t64)] w.drew fun t65 w =>
 heldC [(4, c4)] w (sm Tryd.prog (bi .append #[60, 60] 60 [t63, t65]) w fun t66 w =>
 nckW a0 fun t67 =>
 fld 4 t67 fun t68 =>
 1 = 1 ∧ stC t68 t66 w fun w =>
 nckW a0 fun t70 =>
 fld 4 t70 fun t71 =>
 ldC t71 w fun t72 _ =>
 lenSl t72 fun t73 =>
 R (.tuple #[t73, (.int .i64 0)]) w)))))))
theorem wal_Log_Append_den (a0 a1 : Value) (R : Value → World → Prop) (w : World) : denF Tryd.prog Tryd.f26 (Tryd.f26.body.getD .skip) [] [] [a0, a1] R w = wal_Log_Append a0 a1 R w := by kernel_rfl
set_option maxRecDepth 100000 in
theorem wal_Log_Append_run {a0 a1 : Value} {R : Value → World → Prop} {w : World} (h : wal_Log_Append a0 a1 R w) : Calls Tryd.prog 26 #[a0, a1] w (rt R) :=
  run_sound (c := Tryd.f26.body.getD .skip) (la := []) (lb := []) (args := [a0, a1]) mixed Tryd.func26 (by kernel_rfl) (by kernel_rfl) (Nat.le_of_ble_eq_true (by kernel_rfl)) (Eq.mpr (wal_Log_Append_den a0 a1 R w) h)
theorem wal_Log_Append_body : hasBody Tryd.prog 26 = true := by kernel_rfl
theorem wal_Log_Append_call {a0 a1 : Value} {R : Value → World → Prop} {w : World} (h : Calls Tryd.prog 26 #[a0, a1] w (rt R)) : callW Tryd.prog (.func (.func 26) #[] #[]) [a0, a1] w R :=
  ⟨wal_Log_Append_body, h⟩
/-- `(*honeycomb/wal.Log).Left` -/
def wal_Log_Left (a0 : Value) (R : Value → World → Prop) (w : World) : Prop :=
 nilW 2 .eql a0 (.pointer none) fun t4 =>
 brV t4
 (R (.int .i64 0) w)
 (nckW a0 fun t6 =>
 fld 2 t6 fun t7 =>
 nckW a0 fun t10 =>
 fld 6 t10 fun t11 =>
 nckW a0 fun t15 =>
 fld 5 t15 fun t16 =>
 ldC t7 w.drew fun t8 c3 =>
 ldC t11 w.drew fun t12 c7 =>
 intW .sub t8 t12 fun t13 =>
 ldC t16 w.drew fun t17 c12 =>
 callW Tryd.prog (.func (.func 68) #[] #[]) [t17] w.drew fun t18 w =>
 heldC [(7, c7), (3, c3)] w (intW .sub t13 t18 fun t19 =>
 R t19 w))
theorem wal_Log_Left_den (a0 : Value) (R : Value → World → Prop) (w : World) : denF Tryd.prog Tryd.f27 (Tryd.f27.body.getD .skip) [] [] [a0] R w = wal_Log_Left a0 R w := by kernel_rfl
set_option maxRecDepth 100000 in
theorem wal_Log_Left_run {a0 : Value} {R : Value → World → Prop} {w : World} (h : wal_Log_Left a0 R w) : Calls Tryd.prog 27 #[a0] w (rt R) :=
  run_sound (c := Tryd.f27.body.getD .skip) (la := []) (lb := []) (args := [a0]) mixed Tryd.func27 (by kernel_rfl) (by kernel_rfl) (Nat.le_of_ble_eq_true (by kernel_rfl)) (Eq.mpr (wal_Log_Left_den a0 R w) h)
theorem wal_Log_Left_body : hasBody Tryd.prog 27 = true := by kernel_rfl
theorem wal_Log_Left_call {a0 : Value} {R : Value → World → Prop} {w : World} (h : Calls Tryd.prog 27 #[a0] w (rt R)) : callW Tryd.prog (.func (.func 27) #[] #[]) [a0] w R :=
  ⟨wal_Log_Left_body, h⟩
/-- `(*honeycomb/wal.Log).Last` -/
def wal_Log_Last (a0 : Value) (R : Value → World → Prop) (w : World) : Prop :=
 nilW 2 .eql a0 (.pointer none) fun t4 =>
 brV t4
 (R (.int .i64 0) w)
 (nckW a0 fun t6 =>
 fld 4 t6 fun t7 =>
 ldC t7 w fun t8 _ =>
 lenSl t8 fun t9 =>
 R t9 w)
theorem wal_Log_Last_den (a0 : Value) (R : Value → World → Prop) (w : World) : denF Tryd.prog Tryd.f28 (Tryd.f28.body.getD .skip) [] [] [a0] R w = wal_Log_Last a0 R w := by kernel_rfl
set_option maxRecDepth 100000 in
theorem wal_Log_Last_run {a0 : Value} {R : Value → World → Prop} {w : World} (h : wal_Log_Last a0 R w) : Calls Tryd.prog 28 #[a0] w (rt R) :=
  run_sound (c := Tryd.f28.body.getD .skip) (la := []) (lb := []) (args := [a0]) mixed Tryd.func28 (by kernel_rfl) (by kernel_rfl) (Nat.le_of_ble_eq_true (by kernel_rfl)) (Eq.mpr (wal_Log_Last_den a0 R w) h)
theorem wal_Log_Last_body : hasBody Tryd.prog 28 = true := by kernel_rfl
theorem wal_Log_Last_call {a0 : Value} {R : Value → World → Prop} {w : World} (h : Calls Tryd.prog 28 #[a0] w (rt R)) : callW Tryd.prog (.func (.func 28) #[] #[]) [a0] w R :=
  ⟨wal_Log_Last_body, h⟩
def wal_Log_Flush_L10 (R : Value → World → Prop) : (List Value → World → Prop) → List Value → World → Prop := fun r10 l w =>
 unc l fun t0 l =>
 unc l fun t3 l =>
 unc l fun t5 l =>
 unc l fun t41 l =>
 unc l fun t42 l =>
 unc l fun t43 l =>
 intW .lss t43 t42 fun t44 =>
 brV t44
 (ixS 1 t41 t43 fun t46 =>
 ldC t46 w fun t47 _ =>
 nckW t0 fun t50 =>
 fld 1 t50 fun t51 =>
 nckW t0 fun t54 =>
 fld 6 t54 fun t55 =>
 ldC t51 w.drew fun t52 c4 =>
 ldC t55 w.drew fun t56 c8 =>
 intW .add t52 t56 fun t57 =>
 intW .add t57 t43 fun t59 =>
 callW Tryd.prog t5 [t59, t47] w.drew fun t61 w =>
 heldC [(8, c8), (4, c4)] w (intW .neq t61 (.int .i64 0) fun t63 =>
 brV t63
 (R t61 w)
 (intW .add t43 (.int .i64 1) fun t65 =>
 r10 [t0, t3, t5, t41, t42, t65] w)))
 (nckW t0 fun t67 =>
 fld 0 t67 fun t68 =>
 ldC t68 w fun t69 _ =>
 callW Tryd.prog (.func (.func 71) #[] #[]) [t69] w fun t70 w =>
 intW .neq t70 (.int .i64 0) fun t72 =>
 brV t72
 (R t70 w)
 (nckW t0 fun t75 =>
 fld 6 t75 fun t76 =>
 ldC t76 w fun t77 _ =>
 lenSl t3 fun t79 =>
 intW .add t77 t79 fun t80 =>
 nckW t0 fun t81 =>
 fld 6 t81 fun t82 =>
 1 = 1 ∧ stC t82 t80 w fun w =>
 nckW t0 fun t84 =>
 fld 5 t84 fun t85 =>
 1 = 1 ∧ stC t85 (.slice none 0 0) w fun w =>
 R (.int .i64 0) w))
/-- `(*honeycomb/wal.Log).Flush` -/
def wal_Log_Flush (a0 : Value) (R : Value → World → Prop) (w : World) : Prop :=
 nilW 2 .eql a0 (.pointer none) fun t11 =>
 brV t11
 (R (.int .i64 11) w)
 (nckW a0 fun t13 =>
 fld 5 t13 fun t14 =>
 ldC t14 w fun t15 _ =>
 lenSl t15 fun t16 =>
 intW .eql t16 (.int .i64 0) fun t17 =>
 brV t17
 (R (.int .i64 0) w)
 (nckW a0 fun t20 =>
 fld 3 t20 fun t21 =>
 nckW a0 fun t24 =>
 fld 6 t24 fun t25 =>
 nckW a0 fun t28 =>
 fld 5 t28 fun t29 =>
 ldC t21 w.drew fun t22 c3 =>
 ldC t25 w.drew fun t26 c7 =>
 ldC t29 w.drew fun t30 c11 =>
 callW Tryd.prog (.func (.func 69) #[] #[]) [t22, t26, t30] w.drew fun t31 w =>
 exW t31 0 fun t32 =>
 exW t31 1 fun t33 =>
 unW .not t33 fun t35 =>
 brV t35
 (R (.int .i64 1) w)
 (nckW a0 fun t37 =>
 fld 0 t37 fun t38 =>
 ldC t38 w fun t39 _ =>
 lenSl t32 fun t42 =>
 lp (wal_Log_Flush_L10 R) [a0, t32, (.func (.func 70) #[t39] #[]), t32, t42, (.int .i64 0)] w)))
theorem wal_Log_Flush_den (a0 : Value) (R : Value → World → Prop) (w : World) : denF Tryd.prog Tryd.f29 (Tryd.f29.body.getD .skip) [] [(10, [0, 3, 5, 41, 42, 43])] [a0] R w = wal_Log_Flush a0 R w := by kernel_rfl
set_option maxRecDepth 100000 in
theorem wal_Log_Flush_run {a0 : Value} {R : Value → World → Prop} {w : World} (h : wal_Log_Flush a0 R w) : Calls Tryd.prog 29 #[a0] w (rt R) :=
  run_sound (c := Tryd.f29.body.getD .skip) (la := []) (lb := [(10, [0, 3, 5, 41, 42, 43])]) (args := [a0]) mixed Tryd.func29 (by kernel_rfl) (by kernel_rfl) (Nat.le_of_ble_eq_true (by kernel_rfl)) (Eq.mpr (wal_Log_Flush_den a0 R w) h)
theorem wal_Log_Flush_body : hasBody Tryd.prog 29 = true := by kernel_rfl
theorem wal_Log_Flush_call {a0 : Value} {R : Value → World → Prop} {w : World} (h : Calls Tryd.prog 29 #[a0] w (rt R)) : callW Tryd.prog (.func (.func 29) #[] #[]) [a0] w R :=
  ⟨wal_Log_Flush_body, h⟩
/-- `(*honeycomb/wal.Log).Epoch` -/
def wal_Log_Epoch (a0 : Value) (R : Value → World → Prop) (w : World) : Prop :=
 nilW 2 .eql a0 (.pointer none) fun t4 =>
 brV t4
 (R (.int .i64 0) w)
 (nckW a0 fun t6 =>
 fld 3 t6 fun t7 =>
 ldC t7 w fun t8 _ =>
 R t8 w)
theorem wal_Log_Epoch_den (a0 : Value) (R : Value → World → Prop) (w : World) : denF Tryd.prog Tryd.f30 (Tryd.f30.body.getD .skip) [] [] [a0] R w = wal_Log_Epoch a0 R w := by kernel_rfl
set_option maxRecDepth 100000 in
theorem wal_Log_Epoch_run {a0 : Value} {R : Value → World → Prop} {w : World} (h : wal_Log_Epoch a0 R w) : Calls Tryd.prog 30 #[a0] w (rt R) :=
  run_sound (c := Tryd.f30.body.getD .skip) (la := []) (lb := []) (args := [a0]) mixed Tryd.func30 (by kernel_rfl) (by kernel_rfl) (Nat.le_of_ble_eq_true (by kernel_rfl)) (Eq.mpr (wal_Log_Epoch_den a0 R w) h)
theorem wal_Log_Epoch_body : hasBody Tryd.prog 30 = true := by kernel_rfl
theorem wal_Log_Epoch_call {a0 : Value} {R : Value → World → Prop} {w : World} (h : Calls Tryd.prog 30 #[a0] w (rt R)) : callW Tryd.prog (.func (.func 30) #[] #[]) [a0] w R :=
  ⟨wal_Log_Epoch_body, h⟩
/-- `(*honeycomb/wal.Log).Durable` -/
def wal_Log_Durable (a0 : Value) (R : Value → World → Prop) (w : World) : Prop :=
 nilW 2 .eql a0 (.pointer none) fun t4 =>
 brV t4
 (R (.int .i64 0) w)
 (nckW a0 fun t6 =>
 fld 4 t6 fun t7 =>
 nckW a0 fun t11 =>
 fld 5 t11 fun t12 =>
 ldC t7 w.drew fun t8 c3 =>
 lenSl t8 fun t9 =>
 ldC t12 w.drew fun t13 c8 =>
 lenSl t13 fun t14 =>
 intW .sub t9 t14 fun t15 =>
 R t15 w.drew)
theorem wal_Log_Durable_den (a0 : Value) (R : Value → World → Prop) (w : World) : denF Tryd.prog Tryd.f31 (Tryd.f31.body.getD .skip) [] [] [a0] R w = wal_Log_Durable a0 R w := by kernel_rfl
set_option maxRecDepth 100000 in
theorem wal_Log_Durable_run {a0 : Value} {R : Value → World → Prop} {w : World} (h : wal_Log_Durable a0 R w) : Calls Tryd.prog 31 #[a0] w (rt R) :=
  run_sound (c := Tryd.f31.body.getD .skip) (la := []) (lb := []) (args := [a0]) mixed Tryd.func31 (by kernel_rfl) (by kernel_rfl) (Nat.le_of_ble_eq_true (by kernel_rfl)) (Eq.mpr (wal_Log_Durable_den a0 R w) h)
theorem wal_Log_Durable_body : hasBody Tryd.prog 31 = true := by kernel_rfl
theorem wal_Log_Durable_call {a0 : Value} {R : Value → World → Prop} {w : World} (h : Calls Tryd.prog 31 #[a0] w (rt R)) : callW Tryd.prog (.func (.func 31) #[] #[]) [a0] w R :=
  ⟨wal_Log_Durable_body, h⟩
def honeycombref1_RecordRight_J2 (R : Value → World → Prop) : List Value → World → Prop := fun l w =>
 R (.bool false) w
def honeycombref1_RecordRight_J12 (R : Value → World → Prop) (r9 : List Value → World → Prop) : List Value → World → Prop := fun l w =>
 R (.bool false) w
def honeycombref1_RecordRight_J17 (R : Value → World → Prop) (r14 : List Value → World → Prop) : List Value → World → Prop := fun l w =>
 R (.bool false) w
def honeycombref1_RecordRight_L14 (R : Value → World → Prop) : (List Value → World → Prop) → List Value → World → Prop := fun r14 l w =>
 unc l fun t1 l =>
 unc l fun t5 l =>
 fld 13 t1 fun t124 =>
 ldC t124 w fun t125 _ =>
 lenSl t125 fun t126 =>
 intW .lss t5 t126 fun t127 =>
 brV t127
 (fld 13 t1 fun t130 =>
 ldC t130 w fun t131 _ =>
 ixS 2 t131 t5 fun t133 =>
 fld 0 t133 fun t134 =>
 ldC t134 w fun t135 _ =>
 callW Tryd.prog (.func (.func 72) #[] #[]) [t135] w fun t136 w =>
 unW .not t136 fun t137 =>
 brV t137
 (jn (honeycombref1_RecordRight_J17 R r14) [] w)
 (fld 13 t1 fun t139 =>
 ldC t139 w fun t140 _ =>
 ixS 2 t140 t5 fun t142 =>
 fld 1 t142 fun t143 =>
 ldC t143 w fun t144 _ =>
 callW Tryd.prog (.func (.func 73) #[] #[]) [t144] w fun t145 w =>
 unW .not t145 fun t146 =>
 brV t146
 (jn (honeycombref1_RecordRight_J17 R r14) [] w)
 (intW .add t5 (.int .i64 1) fun t129 =>
 r14 [t1, t129] w)))
 (R (.bool true) w)
def honeycombref1_RecordRight_L9 (R : Value → World → Prop) : (List Value → World → Prop) → List Value → World → Prop := fun r9 l w =>
 unc l fun t1 l =>
 unc l fun t4 l =>
 fld 12 t1 fun t89 =>
 ldC t89 w fun t90 _ =>
 lenSl t90 fun t91 =>
 intW .lss t4 t91 fun t92 =>
 brV t92
 (fld 12 t1 fun t95 =>
 ldC t95 w fun t96 _ =>
 ixS 4 t96 t4 fun t98 =>
 fld 0 t98 fun t99 =>
 ldC t99 w fun t100 _ =>
 callW Tryd.prog (.func (.func 72) #[] #[]) [t100] w fun t101 w =>
 unW .not t101 fun t102 =>
 brV t102
 (jn (honeycombref1_RecordRight_J12 R r9) [] w)
 (fld 12 t1 fun t104 =>
 ldC t104 w fun t105 _ =>
 ixS 4 t105 t4 fun t107 =>
 fld 1 t107 fun t108 =>
 ldC t108 w fun t109 _ =>
 callW Tryd.prog (.func (.func 73) #[] #[]) [t109] w fun t110 w =>
 unW .not t110 fun t111 =>
 brV t111
 (jn (honeycombref1_RecordRight_J12 R r9) [] w)
 (fld 12 t1 fun t114 =>
 ldC t114 w fun t115 _ =>
 ixS 4 t115 t4 fun t117 =>
 fld 3 t117 fun t118 =>
 ldC t118 w fun t119 _ =>
 callW Tryd.prog (.func (.func 75) #[] #[]) [t119] w fun t120 w =>
 unW .not t120 fun t121 =>
 brV t121
 (jn (honeycombref1_RecordRight_J12 R r9) [] w)
 (intW .add t4 (.int .i64 1) fun t94 =>
 r9 [t1, t94] w))))
 (lp (honeycombref1_RecordRight_L14 R) [t1, (.int .i64 0)] w)
def honeycombref1_RecordRight_L4 (R : Value → World → Prop) : (List Value → World → Prop) → List Value → World → Prop := fun r4 l w =>
 unc l fun t1 l =>
 unc l fun t3 l =>
 fld 11 t1 fun t75 =>
 ldC t75 w fun t76 _ =>
 lenSl t76 fun t77 =>
 intW .lss t3 t77 fun t78 =>
 brV t78
 (fld 11 t1 fun t81 =>
 ldC t81 w fun t82 _ =>
 ixS 3 t82 t3 fun t84 =>
 ldN 3 t84 w fun t85 _ =>
 callW Tryd.prog (.func (.func 76) #[] #[]) [t85] w fun t86 w =>
 unW .not t86 fun t87 =>
 brV t87
 (R (.bool false) w)
 (intW .add t3 (.int .i64 1) fun t80 =>
 r4 [t1, t80] w))
 (lp (honeycombref1_RecordRight_L9 R) [t1, (.int .i64 0)] w)
def honeycombref1_RecordRight_J3 (R : Value → World → Prop) : List Value → World → Prop := fun l w =>
 unc l fun t1 l =>
 lp (honeycombref1_RecordRight_L4 R) [t1, (.int .i64 0)] w
/-- `honeycomb/honeycombref1.RecordRight` -/
def honeycombref1_RecordRight (a0 : Value) (R : Value → World → Prop) (w : World) : Prop :=
 alW (Value.cells a0) 29 w fun t1 w =>
 fld 0 t1 fun t6 =>
 ldC t6 w fun t7 _ =>
 intW .lss t7 (.int .i64 1) fun t8 =>
 brV t8
 (jn (honeycombref1_RecordRight_J2 R) [] w)
 (fld 0 t1 fun t10 =>
 ldC t10 w fun t11 _ =>
 intW .gtr t11 (.int .i64 7) fun t12 =>
 brV t12
 (jn (honeycombref1_RecordRight_J2 R) [] w)
 (fld 1 t1 fun t15 =>
 ldC t15 w fun t16 _ =>
 callW Tryd.prog (.func (.func 72) #[] #[]) [t16] w fun t17 w =>
 unW .not t17 fun t18 =>
 brV t18
 (jn (honeycombref1_RecordRight_J2 R) [] w)
 (fld 2 t1 fun t21 =>
 ldC t21 w fun t22 _ =>
 callW Tryd.prog (.func (.func 73) #[] #[]) [t22] w fun t23 w =>
 unW .not t23 fun t24 =>
 brV t24
 (jn (honeycombref1_RecordRight_J2 R) [] w)
 (fld 3 t1 fun t27 =>
 ldC t27 w fun t28 _ =>
 callW Tryd.prog (.func (.func 73) #[] #[]) [t28] w fun t29 w =>
 unW .not t29 fun t30 =>
 brV t30
 (jn (honeycombref1_RecordRight_J2 R) [] w)
 (fld 4 t1 fun t33 =>
 ldC t33 w fun t34 _ =>
 lenStr t34 fun t35 =>
 intW .gtr t35 (.int .i64 255) fun t36 =>
 brV t36
 (jn (honeycombref1_RecordRight_J2 R) [] w)
 (fld 6 t1 fun t39 =>
 ldN 4 t39 w fun t40 _ =>
 fillL [(0, 1), (1, 1), (2, 1), (3, 1)] #[(.string ⟨#[]⟩), (.string ⟨#[]⟩), (.int .i64 0), (.int .i64 0)] [] fun t41 =>
 yl Tryd.prog (semBin .neq 23 (.tmp 40) (.tmp 41) t40 t41) fun t42 =>
 brV t42
 (fld 6 t1 fun t44 =>
 ldN 4 t44 w fun t45 _ =>
 callW Tryd.prog (.func (.func 74) #[] #[]) [t45] w fun t46 w =>
 unW .not t46 fun t47 =>
 brV t47
 (jn (honeycombref1_RecordRight_J2 R) [] w)
 (fld 10 t1 fun t51 =>
 ldC t51 w fun t52 _ =>
 callW Tryd.prog (.func (.func 75) #[] #[]) [t52] w fun t53 w =>
 unW .not t53 fun t54 =>
 brV t54
 (jn (honeycombref1_RecordRight_J2 R) [] w)
 (fld 11 t1 fun t57 =>
 ldC t57 w fun t58 _ =>
 lenSl t58 fun t59 =>
 intW .gtr t59 (.int .i64 40) fun t60 =>
 brV t60
 (jn (honeycombref1_RecordRight_J2 R) [] w)
 (fld 12 t1 fun t63 =>
 ldC t63 w fun t64 _ =>
 lenSl t64 fun t65 =>
 intW .gtr t65 (.int .i64 8) fun t66 =>
 brV t66
 (jn (honeycombref1_RecordRight_J2 R) [] w)
 (fld 13 t1 fun t69 =>
 ldC t69 w fun t70 _ =>
 lenSl t70 fun t71 =>
 intW .gtr t71 (.int .i64 64) fun t72 =>
 brV t72
 (jn (honeycombref1_RecordRight_J2 R) [] w)
 (jn (honeycombref1_RecordRight_J3 R) [t1] w))))))
 (fld 10 t1 fun t51 =>
 ldC t51 w fun t52 _ =>
 callW Tryd.prog (.func (.func 75) #[] #[]) [t52] w fun t53 w =>
 unW .not t53 fun t54 =>
 brV t54
 (jn (honeycombref1_RecordRight_J2 R) [] w)
 (fld 11 t1 fun t57 =>
 ldC t57 w fun t58 _ =>
 lenSl t58 fun t59 =>
 intW .gtr t59 (.int .i64 40) fun t60 =>
 brV t60
 (jn (honeycombref1_RecordRight_J2 R) [] w)
 (fld 12 t1 fun t63 =>
 ldC t63 w fun t64 _ =>
 lenSl t64 fun t65 =>
 intW .gtr t65 (.int .i64 8) fun t66 =>
 brV t66
 (jn (honeycombref1_RecordRight_J2 R) [] w)
 (fld 13 t1 fun t69 =>
 ldC t69 w fun t70 _ =>
 lenSl t70 fun t71 =>
 intW .gtr t71 (.int .i64 64) fun t72 =>
 brV t72
 (jn (honeycombref1_RecordRight_J2 R) [] w)
 (jn (honeycombref1_RecordRight_J3 R) [t1] w)))))))))))
theorem honeycombref1_RecordRight_den (a0 : Value) (R : Value → World → Prop) (w : World) : denF Tryd.prog Tryd.f32 (Tryd.f32.body.getD .skip) [(2, []), (3, [1]), (12, []), (17, [])] [(4, [1, 3]), (9, [1, 4]), (14, [1, 5])] [a0] R w = honeycombref1_RecordRight a0 R w := by kernel_rfl
set_option maxRecDepth 100000 in
theorem honeycombref1_RecordRight_run {a0 : Value} {R : Value → World → Prop} {w : World} (h : honeycombref1_RecordRight a0 R w) : Calls Tryd.prog 32 #[a0] w (rt R) :=
  run_sound (c := Tryd.f32.body.getD .skip) (la := [(2, []), (3, [1]), (12, []), (17, [])]) (lb := [(4, [1, 3]), (9, [1, 4]), (14, [1, 5])]) (args := [a0]) mixed Tryd.func32 (by kernel_rfl) (by kernel_rfl) (Nat.le_of_ble_eq_true (by kernel_rfl)) (Eq.mpr (honeycombref1_RecordRight_den a0 R w) h)
theorem honeycombref1_RecordRight_body : hasBody Tryd.prog 32 = true := by kernel_rfl
theorem honeycombref1_RecordRight_call {a0 : Value} {R : Value → World → Prop} {w : World} (h : Calls Tryd.prog 32 #[a0] w (rt R)) : callW Tryd.prog (.func (.func 32) #[] #[]) [a0] w R :=
  ⟨honeycombref1_RecordRight_body, h⟩
/-- `(*honeycomb/wal.Log).To` -/
def wal_Log_To (a0 a1 : Value) (R : Value → World → Prop) (w : World) : Prop :=
 nilW 2 .eql a0 (.pointer none) fun t7 =>
 brV t7
 (R (.int .i64 11) w)
 (callW Tryd.prog (.func (.func 31) #[] #[]) [a0] w fun t11 w =>
 intW .gtr a1 t11 fun t12 =>
 brV t12
 (callW Tryd.prog (.func (.func 29) #[] #[]) [a0] w fun t14 w =>
 R t14 w)
 (R (.int .i64 0) w))
theorem wal_Log_To_den (a0 a1 : Value) (R : Value → World → Prop) (w : World) : denF Tryd.prog Tryd.f33 (Tryd.f33.body.getD .skip) [] [] [a0, a1] R w = wal_Log_To a0 a1 R w := by kernel_rfl
set_option maxRecDepth 100000 in
theorem wal_Log_To_run {a0 a1 : Value} {R : Value → World → Prop} {w : World} (h : wal_Log_To a0 a1 R w) : Calls Tryd.prog 33 #[a0, a1] w (rt R) :=
  run_sound (c := Tryd.f33.body.getD .skip) (la := []) (lb := []) (args := [a0, a1]) mixed Tryd.func33 (by kernel_rfl) (by kernel_rfl) (Nat.le_of_ble_eq_true (by kernel_rfl)) (Eq.mpr (wal_Log_To_den a0 a1 R w) h)
theorem wal_Log_To_body : hasBody Tryd.prog 33 = true := by kernel_rfl
theorem wal_Log_To_call {a0 a1 : Value} {R : Value → World → Prop} {w : World} (h : Calls Tryd.prog 33 #[a0, a1] w (rt R)) : callW Tryd.prog (.func (.func 33) #[] #[]) [a0, a1] w R :=
  ⟨wal_Log_To_body, h⟩
def wal_Log_At_J2 (R : Value → World → Prop) : List Value → World → Prop := fun l w =>
 unc l fun t4 l =>
 fillL [(0, 1), (1, 1), (2, 1), (3, 1), (4, 1), (5, 1), (6, 4), (10, 1), (11, 1), (12, 1), (13, 1)] #[(.int .i64 0), (.int .i64 0), (.int .i64 0), (.int .i64 0), (.string ⟨#[]⟩), (.bool false), (.string ⟨#[]⟩), (.string ⟨#[]⟩), (.int .i64 0), (.int .i64 0), (.slice none 0 0), (.slice none 0 0), (.slice none 0 0), (.slice none 0 0)] [] fun t23 =>
 stN 14 t4 t23 w fun w =>
 ldN 14 t4 w fun v_3 _ =>
 R (.tuple #[v_3, (.bool false)]) w
/-- `(*honeycomb/wal.Log).At` -/
def wal_Log_At (a0 a1 : Value) (R : Value → World → Prop) (w : World) : Prop :=
 alW #[(.int .i64 0), (.int .i64 0), (.int .i64 0), (.int .i64 0), (.string ⟨#[]⟩), (.bool false), (.string ⟨#[]⟩), (.string ⟨#[]⟩), (.int .i64 0), (.int .i64 0), (.slice none 0 0), (.slice none 0 0), (.slice none 0 0), (.slice none 0 0)] 29 w fun t4 w =>
 nilW 2 .eql a0 (.pointer none) fun t9 =>
 brV t9
 (jn (wal_Log_At_J2 R) [t4] w)
 (intW .lss a1 (.int .i64 1) fun t12 =>
 brV t12
 (jn (wal_Log_At_J2 R) [t4] w)
 (nckW a0 fun t17 =>
 fld 4 t17 fun t18 =>
 ldC t18 w fun t19 _ =>
 lenSl t19 fun t20 =>
 intW .gtr a1 t20 fun t21 =>
 brV t21
 (jn (wal_Log_At_J2 R) [t4] w)
 (nckW a0 fun t26 =>
 fld 4 t26 fun t27 =>
 ldC t27 w fun t28 _ =>
 intW .sub a1 (.int .i64 1) fun t30 =>
 ixS 14 t28 t30 fun t31 =>
 ldN 14 t31 w fun t32 _ =>
 callW Tryd.prog (.func (.func 18) #[] #[]) [t32] w fun t33 w =>
 exW t33 0 fun t34 =>
 exW t33 1 fun t35 =>
 callW Tryd.prog (.func (.func 17) #[] #[]) [t34] w fun t37 w =>
 exW t37 0 fun t38 =>
 exW t37 1 fun t39 =>
 stN 14 t4 t38 w fun w =>
 ldN 14 t4 w fun v_4 _ =>
 R (.tuple #[v_4, t39]) w)))
theorem wal_Log_At_den (a0 a1 : Value) (R : Value → World → Prop) (w : World) : denF Tryd.prog Tryd.f34 (Tryd.f34.body.getD .skip) [(2, [4])] [] [a0, a1] R w = wal_Log_At a0 a1 R w := by kernel_rfl
set_option maxRecDepth 100000 in
theorem wal_Log_At_run {a0 a1 : Value} {R : Value → World → Prop} {w : World} (h : wal_Log_At a0 a1 R w) : Calls Tryd.prog 34 #[a0, a1] w (rt R) :=
  run_sound (c := Tryd.f34.body.getD .skip) (la := [(2, [4])]) (lb := []) (args := [a0, a1]) mixed Tryd.func34 (by kernel_rfl) (by kernel_rfl) (Nat.le_of_ble_eq_true (by kernel_rfl)) (Eq.mpr (wal_Log_At_den a0 a1 R w) h)
theorem wal_Log_At_body : hasBody Tryd.prog 34 = true := by kernel_rfl
theorem wal_Log_At_call {a0 a1 : Value} {R : Value → World → Prop} {w : World} (h : Calls Tryd.prog 34 #[a0, a1] w (rt R)) : callW Tryd.prog (.func (.func 34) #[] #[]) [a0, a1] w R :=
  ⟨wal_Log_At_body, h⟩
/-- `(*honeycomb/disk.Disk).Stop` -/
def disk_Disk_Stop (a0 a1 : Value) (R : Value → World → Prop) (w : World) : Prop :=
 callW Tryd.prog (.func (.func 77) #[] #[]) [a0] w fun t5 w =>
 unW .not t5 fun t6 =>
 brV t6
 (intW .geq a1 (.int .i64 0) fun t10 =>
 yl Tryd.prog (Builtin.max_ #[3, 3] 3 [a1, (.int .i64 0)].toArray) fun t12 =>
 nckW a0 fun t13 =>
 fld 3 t13 fun t14 =>
 1 = 1 ∧ stC t14 t10 w fun w =>
 nckW a0 fun t15 =>
 fld 4 t15 fun t16 =>
 1 = 1 ∧ stC t16 t12 w fun w =>
 R (.tuple #[]) w)
 (R (.tuple #[]) w)
theorem disk_Disk_Stop_den (a0 a1 : Value) (R : Value → World → Prop) (w : World) : denF Tryd.prog Tryd.f35 (Tryd.f35.body.getD .skip) [] [] [a0, a1] R w = disk_Disk_Stop a0 a1 R w := by kernel_rfl
set_option maxRecDepth 100000 in
theorem disk_Disk_Stop_run {a0 a1 : Value} {R : Value → World → Prop} {w : World} (h : disk_Disk_Stop a0 a1 R w) : Calls Tryd.prog 35 #[a0, a1] w (rt R) :=
  run_sound (c := Tryd.f35.body.getD .skip) (la := []) (lb := []) (args := [a0, a1]) mixed Tryd.func35 (by kernel_rfl) (by kernel_rfl) (Nat.le_of_ble_eq_true (by kernel_rfl)) (Eq.mpr (disk_Disk_Stop_den a0 a1 R w) h)
theorem disk_Disk_Stop_body : hasBody Tryd.prog 35 = true := by kernel_rfl
theorem disk_Disk_Stop_call {a0 a1 : Value} {R : Value → World → Prop} {w : World} (h : Calls Tryd.prog 35 #[a0, a1] w (rt R)) : callW Tryd.prog (.func (.func 35) #[] #[]) [a0, a1] w R :=
  ⟨disk_Disk_Stop_body, h⟩
def disk_Disk_Crash_J9 (R : Value → World → Prop) (r5 : List Value → World → Prop) : List Value → World → Prop := fun l w =>
 unc l fun t0 l =>
 unc l fun t1 l =>
 unc l fun t5 l =>
 unc l fun t13 l =>
 unc l fun t14 l =>
 unc l fun t15 l =>
 intW .add t15 (.int .i64 1) fun t34 =>
 r5 [t0, t1, t5, t13, t14, t34] w
def disk_Disk_Crash_L5 (R : Value → World → Prop) : (List Value → World → Prop) → List Value → World → Prop := fun r5 l w =>
 unc l fun t0 l =>
 unc l fun t1 l =>
 unc l fun t5 l =>
 unc l fun t13 l =>
 unc l fun t14 l =>
 unc l fun t15 l =>
 intW .lss t15 t14 fun t16 =>
 brV t16
 (ixS 2 t13 t15 fun t18 =>
 ldN 2 t18 w fun t19 _ =>
 alW #[(.int .i64 0), (.string ⟨#[]⟩)] 111 w fun t7 w =>
 stN 2 t7 t19 w fun w =>
 lenSl t1 fun t22 =>
 intW .lss t15 t22 fun t23 =>
 brV t23
 (ixS 1 t1 t15 fun t27 =>
 ldC t27 w fun t28 _ =>
 brV t28
 (ldN 2 t7 w fun t31 _ =>
 blS 111 2 #[(.int .i64 0), (.string ⟨#[]⟩)] 1 [(0, t31)] w fun t32 w =>
 sm Tryd.prog (bi .append #[96, 96] 96 [t5, t32]) w fun t33 w =>
 jn (disk_Disk_Crash_J9 R r5) [t0, t1, t33, t13, t14, t15] w)
 (jn (disk_Disk_Crash_J9 R r5) [t0, t1, t5, t13, t14, t15] w))
 (jn (disk_Disk_Crash_J9 R r5) [t0, t1, t5, t13, t14, t15] w))
 (callW Tryd.prog (.func (.func 78) #[] #[]) [t0, t5] w fun t37 w =>
 nckW t0 fun t41 =>
 fld 3 t41 fun t42 =>
 1 = 1 ∧ stC t42 (.bool false) w fun w =>
 nckW t0 fun t43 =>
 fld 4 t43 fun t44 =>
 1 = 1 ∧ stC t44 (.int .i64 0) w fun w =>
 nckW t0 fun t45 =>
 fld 5 t45 fun t46 =>
 1 = 1 ∧ stC t46 (.bool false) w fun w =>
 lenSl t5 fun t48 =>
 R t48 w)
/-- `(*honeycomb/disk.Disk).Crash` -/
def disk_Disk_Crash (a0 a1 : Value) (R : Value → World → Prop) (w : World) : Prop :=
 nilW 2 .eql a0 (.pointer none) fun t9 =>
 brV t9
 (R (.int .i64 0) w)
 (nckW a0 fun t11 =>
 fld 1 t11 fun t12 =>
 ldC t12 w fun t13 _ =>
 lenSl t13 fun t14 =>
 lp (disk_Disk_Crash_L5 R) [a0, a1, (.slice none 0 0), t13, t14, (.int .i64 0)] w)
theorem disk_Disk_Crash_den (a0 a1 : Value) (R : Value → World → Prop) (w : World) : denF Tryd.prog Tryd.f36 (Tryd.f36.body.getD .skip) [(9, [0, 1, 5, 13, 14, 15])] [(5, [0, 1, 5, 13, 14, 15])] [a0, a1] R w = disk_Disk_Crash a0 a1 R w := by kernel_rfl
set_option maxRecDepth 100000 in
theorem disk_Disk_Crash_run {a0 a1 : Value} {R : Value → World → Prop} {w : World} (h : disk_Disk_Crash a0 a1 R w) : Calls Tryd.prog 36 #[a0, a1] w (rt R) :=
  run_sound (c := Tryd.f36.body.getD .skip) (la := [(9, [0, 1, 5, 13, 14, 15])]) (lb := [(5, [0, 1, 5, 13, 14, 15])]) (args := [a0, a1]) mixed Tryd.func36 (by kernel_rfl) (by kernel_rfl) (Nat.le_of_ble_eq_true (by kernel_rfl)) (Eq.mpr (disk_Disk_Crash_den a0 a1 R w) h)
theorem disk_Disk_Crash_body : hasBody Tryd.prog 36 = true := by kernel_rfl
theorem disk_Disk_Crash_call {a0 a1 : Value} {R : Value → World → Prop} {w : World} (h : Calls Tryd.prog 36 #[a0, a1] w (rt R)) : callW Tryd.prog (.func (.func 36) #[] #[]) [a0, a1] w R :=
  ⟨disk_Disk_Crash_body, h⟩
/-- `(*honeycomb/disk.Disk).Pending` -/
def disk_Disk_Pending (a0 : Value) (R : Value → World → Prop) (w : World) : Prop :=
 nilW 2 .eql a0 (.pointer none) fun t4 =>
 brV t4
 (R (.int .i64 0) w)
 (nckW a0 fun t6 =>
 fld 1 t6 fun t7 =>
 ldC t7 w fun t8 _ =>
 lenSl t8 fun t9 =>
 R t9 w)
theorem disk_Disk_Pending_den (a0 : Value) (R : Value → World → Prop) (w : World) : denF Tryd.prog Tryd.f37 (Tryd.f37.body.getD .skip) [] [] [a0] R w = disk_Disk_Pending a0 R w := by kernel_rfl
set_option maxRecDepth 100000 in
theorem disk_Disk_Pending_run {a0 : Value} {R : Value → World → Prop} {w : World} (h : disk_Disk_Pending a0 R w) : Calls Tryd.prog 37 #[a0] w (rt R) :=
  run_sound (c := Tryd.f37.body.getD .skip) (la := []) (lb := []) (args := [a0]) mixed Tryd.func37 (by kernel_rfl) (by kernel_rfl) (Nat.le_of_ble_eq_true (by kernel_rfl)) (Eq.mpr (disk_Disk_Pending_den a0 R w) h)
theorem disk_Disk_Pending_body : hasBody Tryd.prog 37 = true := by kernel_rfl
theorem disk_Disk_Pending_call {a0 : Value} {R : Value → World → Prop} {w : World} (h : Calls Tryd.prog 37 #[a0] w (rt R)) : callW Tryd.prog (.func (.func 37) #[] #[]) [a0] w R :=
  ⟨disk_Disk_Pending_body, h⟩
def honeycombbook_SameInts_L4 (R : Value → World → Prop) : (List Value → World → Prop) → List Value → World → Prop := fun r4 l w =>
 unc l fun t0 l =>
 unc l fun t1 l =>
 unc l fun t5 l =>
 lenSl t0 fun t13 =>
 intW .lss t5 t13 fun t14 =>
 brV t14
 (ixS 1 t0 t5 fun t19 =>
 ixS 1 t1 t5 fun t23 =>
 ldC t19 w.drew fun t20 c3 =>
 ldC t23 w.drew fun t24 c7 =>
 intW .eql t20 t24 fun t25 =>
 unW .not t25 fun t26 =>
 brV t26
 (R (.bool false) w.drew)
 (intW .add t5 (.int .i64 1) fun t16 =>
 r4 [t0, t1, t16] w.drew))
 (R (.bool true) w)
/-- `honeycomb/honeycombbook.SameInts` -/
def honeycombbook_SameInts (a0 a1 : Value) (R : Value → World → Prop) (w : World) : Prop :=
 lenSl a0 fun t7 =>
 lenSl a1 fun t9 =>
 intW .neq t7 t9 fun t10 =>
 brV t10
 (R (.bool false) w)
 (lp (honeycombbook_SameInts_L4 R) [a0, a1, (.int .i64 0)] w)
theorem honeycombbook_SameInts_den (a0 a1 : Value) (R : Value → World → Prop) (w : World) : denF Tryd.prog Tryd.f38 (Tryd.f38.body.getD .skip) [] [(4, [0, 1, 5])] [a0, a1] R w = honeycombbook_SameInts a0 a1 R w := by kernel_rfl
set_option maxRecDepth 100000 in
theorem honeycombbook_SameInts_run {a0 a1 : Value} {R : Value → World → Prop} {w : World} (h : honeycombbook_SameInts a0 a1 R w) : Calls Tryd.prog 38 #[a0, a1] w (rt R) :=
  run_sound (c := Tryd.f38.body.getD .skip) (la := []) (lb := [(4, [0, 1, 5])]) (args := [a0, a1]) mixed Tryd.func38 (by kernel_rfl) (by kernel_rfl) (Nat.le_of_ble_eq_true (by kernel_rfl)) (Eq.mpr (honeycombbook_SameInts_den a0 a1 R w) h)
theorem honeycombbook_SameInts_body : hasBody Tryd.prog 38 = true := by kernel_rfl
theorem honeycombbook_SameInts_call {a0 a1 : Value} {R : Value → World → Prop} {w : World} (h : Calls Tryd.prog 38 #[a0, a1] w (rt R)) : callW Tryd.prog (.func (.func 38) #[] #[]) [a0, a1] w R :=
  ⟨honeycombbook_SameInts_body, h⟩
/-- `honeycomb/pack.From` -/
def pack_From (a0 : Value) (R : Value → World → Prop) (w : World) : Prop :=
 fillL [(0, 1), (1, 1)] #[(.string ⟨#[]⟩), (.bool false)] [(0, a0)] fun t4 =>
 alW (Value.cells t4) 114 w fun t5 w =>
 R t5 w
theorem pack_From_den (a0 : Value) (R : Value → World → Prop) (w : World) : denF Tryd.prog Tryd.f39 (Tryd.f39.body.getD .skip) [] [] [a0] R w = pack_From a0 R w := by kernel_rfl
set_option maxRecDepth 100000 in
theorem pack_From_run {a0 : Value} {R : Value → World → Prop} {w : World} (h : pack_From a0 R w) : Calls Tryd.prog 39 #[a0] w (rt R) :=
  run_sound (c := Tryd.f39.body.getD .skip) (la := []) (lb := []) (args := [a0]) mixed Tryd.func39 (by kernel_rfl) (by kernel_rfl) (Nat.le_of_ble_eq_true (by kernel_rfl)) (Eq.mpr (pack_From_den a0 R w) h)
theorem pack_From_body : hasBody Tryd.prog 39 = true := by kernel_rfl
theorem pack_From_call {a0 : Value} {R : Value → World → Prop} {w : World} (h : Calls Tryd.prog 39 #[a0] w (rt R)) : callW Tryd.prog (.func (.func 39) #[] #[]) [a0] w R :=
  ⟨pack_From_body, h⟩
/-- `(*honeycomb/pack.Reader).Num` -/
def pack_Reader_Num (a0 : Value) (R : Value → World → Prop) (w : World) : Prop :=
 callW Tryd.prog (.func (.func 79) #[] #[]) [a0, (.int .i64 2)] w fun t4 w =>
 R t4 w
theorem pack_Reader_Num_den (a0 : Value) (R : Value → World → Prop) (w : World) : denF Tryd.prog Tryd.f40 (Tryd.f40.body.getD .skip) [] [] [a0] R w = pack_Reader_Num a0 R w := by kernel_rfl
set_option maxRecDepth 100000 in
theorem pack_Reader_Num_run {a0 : Value} {R : Value → World → Prop} {w : World} (h : pack_Reader_Num a0 R w) : Calls Tryd.prog 40 #[a0] w (rt R) :=
  run_sound (c := Tryd.f40.body.getD .skip) (la := []) (lb := []) (args := [a0]) mixed Tryd.func40 (by kernel_rfl) (by kernel_rfl) (Nat.le_of_ble_eq_true (by kernel_rfl)) (Eq.mpr (pack_Reader_Num_den a0 R w) h)
theorem pack_Reader_Num_body : hasBody Tryd.prog 40 = true := by kernel_rfl
theorem pack_Reader_Num_call {a0 : Value} {R : Value → World → Prop} {w : World} (h : Calls Tryd.prog 40 #[a0] w (rt R)) : callW Tryd.prog (.func (.func 40) #[] #[]) [a0] w R :=
  ⟨pack_Reader_Num_body, h⟩
/-- `(*honeycomb/pack.Reader).Long` -/
def pack_Reader_Long (a0 : Value) (R : Value → World → Prop) (w : World) : Prop :=
 callW Tryd.prog (.func (.func 79) #[] #[]) [a0, (.int .i64 4)] w fun t4 w =>
 R t4 w
theorem pack_Reader_Long_den (a0 : Value) (R : Value → World → Prop) (w : World) : denF Tryd.prog Tryd.f41 (Tryd.f41.body.getD .skip) [] [] [a0] R w = pack_Reader_Long a0 R w := by kernel_rfl
set_option maxRecDepth 100000 in
theorem pack_Reader_Long_run {a0 : Value} {R : Value → World → Prop} {w : World} (h : pack_Reader_Long a0 R w) : Calls Tryd.prog 41 #[a0] w (rt R) :=
  run_sound (c := Tryd.f41.body.getD .skip) (la := []) (lb := []) (args := [a0]) mixed Tryd.func41 (by kernel_rfl) (by kernel_rfl) (Nat.le_of_ble_eq_true (by kernel_rfl)) (Eq.mpr (pack_Reader_Long_den a0 R w) h)
theorem pack_Reader_Long_body : hasBody Tryd.prog 41 = true := by kernel_rfl
theorem pack_Reader_Long_call {a0 : Value} {R : Value → World → Prop} {w : World} (h : Calls Tryd.prog 41 #[a0] w (rt R)) : callW Tryd.prog (.func (.func 41) #[] #[]) [a0] w R :=
  ⟨pack_Reader_Long_body, h⟩
/-- `(*honeycomb/pack.Reader).Text` -/
def pack_Reader_Text (a0 : Value) (R : Value → World → Prop) (w : World) : Prop :=
 callW Tryd.prog (.func (.func 40) #[] #[]) [a0] w fun t5 w =>
 callW Tryd.prog (.func (.func 80) #[] #[]) [a0, t5] w fun t6 w =>
 R t6 w
theorem pack_Reader_Text_den (a0 : Value) (R : Value → World → Prop) (w : World) : denF Tryd.prog Tryd.f42 (Tryd.f42.body.getD .skip) [] [] [a0] R w = pack_Reader_Text a0 R w := by kernel_rfl
set_option maxRecDepth 100000 in
theorem pack_Reader_Text_run {a0 : Value} {R : Value → World → Prop} {w : World} (h : pack_Reader_Text a0 R w) : Calls Tryd.prog 42 #[a0] w (rt R) :=
  run_sound (c := Tryd.f42.body.getD .skip) (la := []) (lb := []) (args := [a0]) mixed Tryd.func42 (by kernel_rfl) (by kernel_rfl) (Nat.le_of_ble_eq_true (by kernel_rfl)) (Eq.mpr (pack_Reader_Text_den a0 R w) h)
theorem pack_Reader_Text_body : hasBody Tryd.prog 42 = true := by kernel_rfl
theorem pack_Reader_Text_call {a0 : Value} {R : Value → World → Prop} {w : World} (h : Calls Tryd.prog 42 #[a0] w (rt R)) : callW Tryd.prog (.func (.func 42) #[] #[]) [a0] w R :=
  ⟨pack_Reader_Text_body, h⟩
def record_Get_1_J6 (R : Value → World → Prop) : List Value → World → Prop := fun l w =>
 unc l fun t3 l =>
 R t3 w
def record_Get_1_L3 (R : Value → World → Prop) : (List Value → World → Prop) → List Value → World → Prop := fun r3 l w =>
 unc l fun t0 l =>
 unc l fun t1 l =>
 unc l fun t3 l =>
 unc l fun t4 l =>
 intW .gtr t4 (.int .i64 0) fun t8 =>
 brV t8
 (ldC t1 w fun t10 _ =>
 callW Tryd.prog (.func (.func 44) #[] #[]) [t10] w fun t11 w =>
 unW .not t11 fun t12 =>
 brV t12
 (ldC t0 w fun t17 _ =>
 callW Tryd.prog t17 [] w fun t18 w =>
 blS 3 1 #[(.int .i64 0)] 1 [(0, t18)] w fun t19 w =>
 sm Tryd.prog (bi .append #[24, 24] 24 [t3, t19]) w fun t20 w =>
 intW .sub t4 (.int .i64 1) fun t15 =>
 r3 [t0, t1, t20, t15] w)
 (jn (record_Get_1_J6 R) [t3] w))
 (jn (record_Get_1_J6 R) [t3] w)
/-- `honeycomb/record.Get$1` -/
def record_Get_1 (a0 a1 : Value) (R : Value → World → Prop) (w : World) : Prop :=
 ldC a0 w fun t5 _ =>
 callW Tryd.prog t5 [] w fun t6 w =>
 lp (record_Get_1_L3 R) [a0, a1, (.slice none 0 0), t6] w
theorem record_Get_1_den (a0 a1 : Value) (R : Value → World → Prop) (w : World) : denF Tryd.prog Tryd.f43 (Tryd.f43.body.getD .skip) [(6, [3])] [(3, [0, 1, 3, 4])] [a0, a1] R w = record_Get_1 a0 a1 R w := by kernel_rfl
set_option maxRecDepth 100000 in
theorem record_Get_1_run {a0 a1 : Value} {R : Value → World → Prop} {w : World} (h : record_Get_1 a0 a1 R w) : Calls Tryd.prog 43 #[a0, a1] w (rt R) :=
  run_sound (c := Tryd.f43.body.getD .skip) (la := [(6, [3])]) (lb := [(3, [0, 1, 3, 4])]) (args := [a0, a1]) mixed Tryd.func43 (by kernel_rfl) (by kernel_rfl) (Nat.le_of_ble_eq_true (by kernel_rfl)) (Eq.mpr (record_Get_1_den a0 a1 R w) h)
theorem record_Get_1_body : hasBody Tryd.prog 43 = true := by kernel_rfl
theorem record_Get_1_call {a0 a1 : Value} {R : Value → World → Prop} {w : World} (h : Calls Tryd.prog 43 #[a0, a1] w (rt R)) : callW Tryd.prog (.func (.func 43) #[] #[]) [a0, a1] w R :=
  ⟨record_Get_1_body, h⟩
/-- `(*honeycomb/pack.Reader).Bad` -/
def pack_Reader_Bad (a0 : Value) (R : Value → World → Prop) (w : World) : Prop :=
 nilW 2 .eql a0 (.pointer none) fun t4 =>
 brV t4
 (R (.bool true) w)
 (nckW a0 fun t7 =>
 fld 1 t7 fun t8 =>
 ldC t8 w fun t9 _ =>
 R t9 w)
theorem pack_Reader_Bad_den (a0 : Value) (R : Value → World → Prop) (w : World) : denF Tryd.prog Tryd.f44 (Tryd.f44.body.getD .skip) [] [] [a0] R w = pack_Reader_Bad a0 R w := by kernel_rfl
set_option maxRecDepth 100000 in
theorem pack_Reader_Bad_run {a0 : Value} {R : Value → World → Prop} {w : World} (h : pack_Reader_Bad a0 R w) : Calls Tryd.prog 44 #[a0] w (rt R) :=
  run_sound (c := Tryd.f44.body.getD .skip) (la := []) (lb := []) (args := [a0]) mixed Tryd.func44 (by kernel_rfl) (by kernel_rfl) (Nat.le_of_ble_eq_true (by kernel_rfl)) (Eq.mpr (pack_Reader_Bad_den a0 R w) h)
theorem pack_Reader_Bad_body : hasBody Tryd.prog 44 = true := by kernel_rfl
theorem pack_Reader_Bad_call {a0 : Value} {R : Value → World → Prop} {w : World} (h : Calls Tryd.prog 44 #[a0] w (rt R)) : callW Tryd.prog (.func (.func 44) #[] #[]) [a0] w R :=
  ⟨pack_Reader_Bad_body, h⟩
/-- `(*honeycomb/pack.Writer).Num` -/
def pack_Writer_Num (a0 a1 : Value) (R : Value → World → Prop) (w : World) : Prop :=
 callW Tryd.prog (.func (.func 81) #[] #[]) [a0, a1, (.int .i64 2)] w fun t7 w =>
 R t7 w
theorem pack_Writer_Num_den (a0 a1 : Value) (R : Value → World → Prop) (w : World) : denF Tryd.prog Tryd.f45 (Tryd.f45.body.getD .skip) [] [] [a0, a1] R w = pack_Writer_Num a0 a1 R w := by kernel_rfl
set_option maxRecDepth 100000 in
theorem pack_Writer_Num_run {a0 a1 : Value} {R : Value → World → Prop} {w : World} (h : pack_Writer_Num a0 a1 R w) : Calls Tryd.prog 45 #[a0, a1] w (rt R) :=
  run_sound (c := Tryd.f45.body.getD .skip) (la := []) (lb := []) (args := [a0, a1]) mixed Tryd.func45 (by kernel_rfl) (by kernel_rfl) (Nat.le_of_ble_eq_true (by kernel_rfl)) (Eq.mpr (pack_Writer_Num_den a0 a1 R w) h)
theorem pack_Writer_Num_body : hasBody Tryd.prog 45 = true := by kernel_rfl
theorem pack_Writer_Num_call {a0 a1 : Value} {R : Value → World → Prop} {w : World} (h : Calls Tryd.prog 45 #[a0, a1] w (rt R)) : callW Tryd.prog (.func (.func 45) #[] #[]) [a0, a1] w R :=
  ⟨pack_Writer_Num_body, h⟩
/-- `(*honeycomb/pack.Writer).Long` -/
def pack_Writer_Long (a0 a1 : Value) (R : Value → World → Prop) (w : World) : Prop :=
 callW Tryd.prog (.func (.func 81) #[] #[]) [a0, a1, (.int .i64 4)] w fun t7 w =>
 R t7 w
theorem pack_Writer_Long_den (a0 a1 : Value) (R : Value → World → Prop) (w : World) : denF Tryd.prog Tryd.f46 (Tryd.f46.body.getD .skip) [] [] [a0, a1] R w = pack_Writer_Long a0 a1 R w := by kernel_rfl
set_option maxRecDepth 100000 in
theorem pack_Writer_Long_run {a0 a1 : Value} {R : Value → World → Prop} {w : World} (h : pack_Writer_Long a0 a1 R w) : Calls Tryd.prog 46 #[a0, a1] w (rt R) :=
  run_sound (c := Tryd.f46.body.getD .skip) (la := []) (lb := []) (args := [a0, a1]) mixed Tryd.func46 (by kernel_rfl) (by kernel_rfl) (Nat.le_of_ble_eq_true (by kernel_rfl)) (Eq.mpr (pack_Writer_Long_den a0 a1 R w) h)
theorem pack_Writer_Long_body : hasBody Tryd.prog 46 = true := by kernel_rfl
theorem pack_Writer_Long_call {a0 a1 : Value} {R : Value → World → Prop} {w : World} (h : Calls Tryd.prog 46 #[a0, a1] w (rt R)) : callW Tryd.prog (.func (.func 46) #[] #[]) [a0, a1] w R :=
  ⟨pack_Writer_Long_body, h⟩
def pack_Writer_Text_J5 (R : Value → World → Prop) : List Value → World → Prop := fun l w =>
 unc l fun t0 l =>
 R t0 w
/-- `(*honeycomb/pack.Writer).Text` -/
def pack_Writer_Text (a0 a1 : Value) (R : Value → World → Prop) (w : World) : Prop :=
 lenStr a1 fun t10 =>
 callW Tryd.prog (.func (.func 45) #[a0] #[]) [t10] w fun t11 w =>
 nilW 2 .neq a0 (.pointer none) fun t13 =>
 brV t13
 (nckW a0 fun t16 =>
 fld 1 t16 fun t17 =>
 ldC t17 w fun t18 _ =>
 unW .not t18 fun t19 =>
 brV t19
 (nckW a0 fun t23 =>
 fld 0 t23 fun t24 =>
 ldC t24 w fun t25 _ =>
 sm Tryd.prog (bi .append #[44, 9] 44 [t25, a1]) w fun t27 w =>
 nckW a0 fun t28 =>
 fld 0 t28 fun t29 =>
 1 = 1 ∧ stC t29 t27 w fun w =>
 jn (pack_Writer_Text_J5 R) [a0] w)
 (jn (pack_Writer_Text_J5 R) [a0] w))
 (jn (pack_Writer_Text_J5 R) [a0] w)
theorem pack_Writer_Text_den (a0 a1 : Value) (R : Value → World → Prop) (w : World) : denF Tryd.prog Tryd.f47 (Tryd.f47.body.getD .skip) [(5, [0])] [] [a0, a1] R w = pack_Writer_Text a0 a1 R w := by kernel_rfl
set_option maxRecDepth 100000 in
theorem pack_Writer_Text_run {a0 a1 : Value} {R : Value → World → Prop} {w : World} (h : pack_Writer_Text a0 a1 R w) : Calls Tryd.prog 47 #[a0, a1] w (rt R) :=
  run_sound (c := Tryd.f47.body.getD .skip) (la := [(5, [0])]) (lb := []) (args := [a0, a1]) mixed Tryd.func47 (by kernel_rfl) (by kernel_rfl) (Nat.le_of_ble_eq_true (by kernel_rfl)) (Eq.mpr (pack_Writer_Text_den a0 a1 R w) h)
theorem pack_Writer_Text_body : hasBody Tryd.prog 47 = true := by kernel_rfl
theorem pack_Writer_Text_call {a0 a1 : Value} {R : Value → World → Prop} {w : World} (h : Calls Tryd.prog 47 #[a0, a1] w (rt R)) : callW Tryd.prog (.func (.func 47) #[] #[]) [a0, a1] w R :=
  ⟨pack_Writer_Text_body, h⟩
def record_Put_1_L2 (R : Value → World → Prop) : (List Value → World → Prop) → List Value → World → Prop := fun r2 l w =>
 unc l fun t1 l =>
 unc l fun t9 l =>
 unc l fun t10 l =>
 unc l fun t11 l =>
 intW .lss t11 t10 fun t12 =>
 brV t12
 (ixS 1 t9 t11 fun t13 =>
 ldC t13 w fun t14 _ =>
 ldC t1 w fun t15 _ =>
 callW Tryd.prog t15 [t14] w fun t17 w =>
 intW .add t11 (.int .i64 1) fun t18 =>
 r2 [t1, t9, t10, t18] w)
 (R (.tuple #[]) w)
/-- `honeycomb/record.Put$1` -/
def record_Put_1 (a0 a1 : Value) (R : Value → World → Prop) (w : World) : Prop :=
 ldC a1 w fun t5 _ =>
 lenSl a0 fun t7 =>
 callW Tryd.prog t5 [t7] w fun t8 w =>
 lenSl a0 fun t10 =>
 lp (record_Put_1_L2 R) [a1, a0, t10, (.int .i64 0)] w
theorem record_Put_1_den (a0 a1 : Value) (R : Value → World → Prop) (w : World) : denF Tryd.prog Tryd.f48 (Tryd.f48.body.getD .skip) [] [(2, [1, 9, 10, 11])] [a0, a1] R w = record_Put_1 a0 a1 R w := by kernel_rfl
set_option maxRecDepth 100000 in
theorem record_Put_1_run {a0 a1 : Value} {R : Value → World → Prop} {w : World} (h : record_Put_1 a0 a1 R w) : Calls Tryd.prog 48 #[a0, a1] w (rt R) :=
  run_sound (c := Tryd.f48.body.getD .skip) (la := []) (lb := [(2, [1, 9, 10, 11])]) (args := [a0, a1]) mixed Tryd.func48 (by kernel_rfl) (by kernel_rfl) (Nat.le_of_ble_eq_true (by kernel_rfl)) (Eq.mpr (record_Put_1_den a0 a1 R w) h)
theorem record_Put_1_body : hasBody Tryd.prog 48 = true := by kernel_rfl
theorem record_Put_1_call {a0 a1 : Value} {R : Value → World → Prop} {w : World} (h : Calls Tryd.prog 48 #[a0, a1] w (rt R)) : callW Tryd.prog (.func (.func 48) #[] #[]) [a0, a1] w R :=
  ⟨record_Put_1_body, h⟩
/-- `honeycomb/record.yes` -/
def record_yes (a0 : Value) (R : Value → World → Prop) (w : World) : Prop :=
 brV a0
 (R (.int .i64 1) w)
 (R (.int .i64 0) w)
theorem record_yes_den (a0 : Value) (R : Value → World → Prop) (w : World) : denF Tryd.prog Tryd.f49 (Tryd.f49.body.getD .skip) [] [] [a0] R w = record_yes a0 R w := by kernel_rfl
set_option maxRecDepth 100000 in
theorem record_yes_run {a0 : Value} {R : Value → World → Prop} {w : World} (h : record_yes a0 R w) : Calls Tryd.prog 49 #[a0] w (rt R) :=
  run_sound (c := Tryd.f49.body.getD .skip) (la := []) (lb := []) (args := [a0]) mixed Tryd.func49 (by kernel_rfl) (by kernel_rfl) (Nat.le_of_ble_eq_true (by kernel_rfl)) (Eq.mpr (record_yes_den a0 R w) h)
theorem record_yes_body : hasBody Tryd.prog 49 = true := by kernel_rfl
theorem record_yes_call {a0 : Value} {R : Value → World → Prop} {w : World} (h : Calls Tryd.prog 49 #[a0] w (rt R)) : callW Tryd.prog (.func (.func 49) #[] #[]) [a0] w R :=
  ⟨record_yes_body, h⟩
def pack_Writer_Done_J2 (R : Value → World → Prop) : List Value → World → Prop := fun l w =>
 R (.tuple #[(.string ⟨#[]⟩), (.bool false)]) w
/-- `(*honeycomb/pack.Writer).Done` -/
def pack_Writer_Done (a0 : Value) (R : Value → World → Prop) (w : World) : Prop :=
 nilW 2 .eql a0 (.pointer none) fun t5 =>
 brV t5
 (jn (pack_Writer_Done_J2 R) [] w)
 (nckW a0 fun t8 =>
 fld 1 t8 fun t9 =>
 ldC t9 w fun t10 _ =>
 brV t10
 (jn (pack_Writer_Done_J2 R) [] w)
 (nckW a0 fun t13 =>
 fld 0 t13 fun t14 =>
 ldC t14 w fun t15 _ =>
 sm Tryd.prog (convert 44 9 t15) w fun t16 w =>
 R (.tuple #[t16, (.bool true)]) w))
theorem pack_Writer_Done_den (a0 : Value) (R : Value → World → Prop) (w : World) : denF Tryd.prog Tryd.f50 (Tryd.f50.body.getD .skip) [(2, [])] [] [a0] R w = pack_Writer_Done a0 R w := by kernel_rfl
set_option maxRecDepth 100000 in
theorem pack_Writer_Done_run {a0 : Value} {R : Value → World → Prop} {w : World} (h : pack_Writer_Done a0 R w) : Calls Tryd.prog 50 #[a0] w (rt R) :=
  run_sound (c := Tryd.f50.body.getD .skip) (la := [(2, [])]) (lb := []) (args := [a0]) mixed Tryd.func50 (by kernel_rfl) (by kernel_rfl) (Nat.le_of_ble_eq_true (by kernel_rfl)) (Eq.mpr (pack_Writer_Done_den a0 R w) h)
theorem pack_Writer_Done_body : hasBody Tryd.prog 50 = true := by kernel_rfl
theorem pack_Writer_Done_call {a0 : Value} {R : Value → World → Prop} {w : World} (h : Calls Tryd.prog 50 #[a0] w (rt R)) : callW Tryd.prog (.func (.func 50) #[] #[]) [a0] w R :=
  ⟨pack_Writer_Done_body, h⟩
def honeycombbook_SamePatches_L4 (R : Value → World → Prop) : (List Value → World → Prop) → List Value → World → Prop := fun r4 l w =>
 unc l fun t0 l =>
 unc l fun t1 l =>
 unc l fun t5 l =>
 lenSl t0 fun t13 =>
 intW .lss t5 t13 fun t14 =>
 brV t14
 (ixS 3 t0 t5 fun t19 =>
 ixS 3 t1 t5 fun t23 =>
 ldN 3 t19 w.drew fun t20 c3 =>
 ldN 3 t23 w.drew fun t24 c7 =>
 yl Tryd.prog (semBin .eql 39 (.tmp 20) (.tmp 24) t20 t24) fun t25 =>
 unW .not t25 fun t26 =>
 brV t26
 (R (.bool false) w.drew)
 (intW .add t5 (.int .i64 1) fun t16 =>
 r4 [t0, t1, t16] w.drew))
 (R (.bool true) w)
/-- `honeycomb/honeycombbook.SamePatches` -/
def honeycombbook_SamePatches (a0 a1 : Value) (R : Value → World → Prop) (w : World) : Prop :=
 lenSl a0 fun t7 =>
 lenSl a1 fun t9 =>
 intW .neq t7 t9 fun t10 =>
 brV t10
 (R (.bool false) w)
 (lp (honeycombbook_SamePatches_L4 R) [a0, a1, (.int .i64 0)] w)
theorem honeycombbook_SamePatches_den (a0 a1 : Value) (R : Value → World → Prop) (w : World) : denF Tryd.prog Tryd.f51 (Tryd.f51.body.getD .skip) [] [(4, [0, 1, 5])] [a0, a1] R w = honeycombbook_SamePatches a0 a1 R w := by kernel_rfl
set_option maxRecDepth 100000 in
theorem honeycombbook_SamePatches_run {a0 a1 : Value} {R : Value → World → Prop} {w : World} (h : honeycombbook_SamePatches a0 a1 R w) : Calls Tryd.prog 51 #[a0, a1] w (rt R) :=
  run_sound (c := Tryd.f51.body.getD .skip) (la := []) (lb := [(4, [0, 1, 5])]) (args := [a0, a1]) mixed Tryd.func51 (by kernel_rfl) (by kernel_rfl) (Nat.le_of_ble_eq_true (by kernel_rfl)) (Eq.mpr (honeycombbook_SamePatches_den a0 a1 R w) h)
theorem honeycombbook_SamePatches_body : hasBody Tryd.prog 51 = true := by kernel_rfl
theorem honeycombbook_SamePatches_call {a0 a1 : Value} {R : Value → World → Prop} {w : World} (h : Calls Tryd.prog 51 #[a0, a1] w (rt R)) : callW Tryd.prog (.func (.func 51) #[] #[]) [a0, a1] w R :=
  ⟨honeycombbook_SamePatches_body, h⟩
def honeycombbook_SameTxs_L4 (R : Value → World → Prop) : (List Value → World → Prop) → List Value → World → Prop := fun r4 l w =>
 unc l fun t0 l =>
 unc l fun t1 l =>
 unc l fun t5 l =>
 lenSl t0 fun t13 =>
 intW .lss t5 t13 fun t14 =>
 brV t14
 (ixS 4 t0 t5 fun t19 =>
 ixS 4 t1 t5 fun t23 =>
 ldN 4 t19 w.drew fun t20 c3 =>
 ldN 4 t23 w.drew fun t24 c7 =>
 callW Tryd.prog (.func (.func 82) #[] #[]) [t20, t24] w.drew fun t25 w =>
 unW .not t25 fun t26 =>
 brV t26
 (R (.bool false) w)
 (intW .add t5 (.int .i64 1) fun t16 =>
 r4 [t0, t1, t16] w))
 (R (.bool true) w)
/-- `honeycomb/honeycombbook.SameTxs` -/
def honeycombbook_SameTxs (a0 a1 : Value) (R : Value → World → Prop) (w : World) : Prop :=
 lenSl a0 fun t7 =>
 lenSl a1 fun t9 =>
 intW .neq t7 t9 fun t10 =>
 brV t10
 (R (.bool false) w)
 (lp (honeycombbook_SameTxs_L4 R) [a0, a1, (.int .i64 0)] w)
theorem honeycombbook_SameTxs_den (a0 a1 : Value) (R : Value → World → Prop) (w : World) : denF Tryd.prog Tryd.f52 (Tryd.f52.body.getD .skip) [] [(4, [0, 1, 5])] [a0, a1] R w = honeycombbook_SameTxs a0 a1 R w := by kernel_rfl
set_option maxRecDepth 100000 in
theorem honeycombbook_SameTxs_run {a0 a1 : Value} {R : Value → World → Prop} {w : World} (h : honeycombbook_SameTxs a0 a1 R w) : Calls Tryd.prog 52 #[a0, a1] w (rt R) :=
  run_sound (c := Tryd.f52.body.getD .skip) (la := []) (lb := [(4, [0, 1, 5])]) (args := [a0, a1]) mixed Tryd.func52 (by kernel_rfl) (by kernel_rfl) (Nat.le_of_ble_eq_true (by kernel_rfl)) (Eq.mpr (honeycombbook_SameTxs_den a0 a1 R w) h)
theorem honeycombbook_SameTxs_body : hasBody Tryd.prog 52 = true := by kernel_rfl
theorem honeycombbook_SameTxs_call {a0 a1 : Value} {R : Value → World → Prop} {w : World} (h : Calls Tryd.prog 52 #[a0, a1] w (rt R)) : callW Tryd.prog (.func (.func 52) #[] #[]) [a0, a1] w R :=
  ⟨honeycombbook_SameTxs_body, h⟩
def honeycombbook_SameDirty_L4 (R : Value → World → Prop) : (List Value → World → Prop) → List Value → World → Prop := fun r4 l w =>
 unc l fun t0 l =>
 unc l fun t1 l =>
 unc l fun t5 l =>
 lenSl t0 fun t13 =>
 intW .lss t5 t13 fun t14 =>
 brV t14
 (ixS 2 t0 t5 fun t19 =>
 ixS 2 t1 t5 fun t23 =>
 ldN 2 t19 w.drew fun t20 c3 =>
 ldN 2 t23 w.drew fun t24 c7 =>
 yl Tryd.prog (semBin .eql 74 (.tmp 20) (.tmp 24) t20 t24) fun t25 =>
 unW .not t25 fun t26 =>
 brV t26
 (R (.bool false) w.drew)
 (intW .add t5 (.int .i64 1) fun t16 =>
 r4 [t0, t1, t16] w.drew))
 (R (.bool true) w)
/-- `honeycomb/honeycombbook.SameDirty` -/
def honeycombbook_SameDirty (a0 a1 : Value) (R : Value → World → Prop) (w : World) : Prop :=
 lenSl a0 fun t7 =>
 lenSl a1 fun t9 =>
 intW .neq t7 t9 fun t10 =>
 brV t10
 (R (.bool false) w)
 (lp (honeycombbook_SameDirty_L4 R) [a0, a1, (.int .i64 0)] w)
theorem honeycombbook_SameDirty_den (a0 a1 : Value) (R : Value → World → Prop) (w : World) : denF Tryd.prog Tryd.f53 (Tryd.f53.body.getD .skip) [] [(4, [0, 1, 5])] [a0, a1] R w = honeycombbook_SameDirty a0 a1 R w := by kernel_rfl
set_option maxRecDepth 100000 in
theorem honeycombbook_SameDirty_run {a0 a1 : Value} {R : Value → World → Prop} {w : World} (h : honeycombbook_SameDirty a0 a1 R w) : Calls Tryd.prog 53 #[a0, a1] w (rt R) :=
  run_sound (c := Tryd.f53.body.getD .skip) (la := []) (lb := [(4, [0, 1, 5])]) (args := [a0, a1]) mixed Tryd.func53 (by kernel_rfl) (by kernel_rfl) (Nat.le_of_ble_eq_true (by kernel_rfl)) (Eq.mpr (honeycombbook_SameDirty_den a0 a1 R w) h)
theorem honeycombbook_SameDirty_body : hasBody Tryd.prog 53 = true := by kernel_rfl
theorem honeycombbook_SameDirty_call {a0 a1 : Value} {R : Value → World → Prop} {w : World} (h : Calls Tryd.prog 53 #[a0, a1] w (rt R)) : callW Tryd.prog (.func (.func 53) #[] #[]) [a0, a1] w R :=
  ⟨honeycombbook_SameDirty_body, h⟩
/-- `honeycomb/record.in` -/
def record_in (a0 a1 : Value) (R : Value → World → Prop) (w : World) : Prop :=
 intW .geq a0 (.int .i64 0) fun t6 =>
 brV t6
 (intW .leq a0 a1 fun t10 =>
 R t10 w)
 (R (.bool false) w)
theorem record_in_den (a0 a1 : Value) (R : Value → World → Prop) (w : World) : denF Tryd.prog Tryd.f54 (Tryd.f54.body.getD .skip) [] [] [a0, a1] R w = record_in a0 a1 R w := by kernel_rfl
set_option maxRecDepth 100000 in
theorem record_in_run {a0 a1 : Value} {R : Value → World → Prop} {w : World} (h : record_in a0 a1 R w) : Calls Tryd.prog 54 #[a0, a1] w (rt R) :=
  run_sound (c := Tryd.f54.body.getD .skip) (la := []) (lb := []) (args := [a0, a1]) mixed Tryd.func54 (by kernel_rfl) (by kernel_rfl) (Nat.le_of_ble_eq_true (by kernel_rfl)) (Eq.mpr (record_in_den a0 a1 R w) h)
theorem record_in_body : hasBody Tryd.prog 54 = true := by kernel_rfl
theorem record_in_call {a0 a1 : Value} {R : Value → World → Prop} {w : World} (h : Calls Tryd.prog 54 #[a0, a1] w (rt R)) : callW Tryd.prog (.func (.func 54) #[] #[]) [a0, a1] w R :=
  ⟨record_in_body, h⟩
/-- `honeycomb/cell.Right` -/
def cell_Right (a0 : Value) (R : Value → World → Prop) (w : World) : Prop :=
 alW (Value.cells a0) 23 w fun t1 w =>
 fld 0 t1 fun t3 =>
 ldC t3 w fun t4 _ =>
 callW Tryd.prog (.func (.func 83) #[] #[]) [t4] w fun t5 w =>
 unW .not t5 fun t6 =>
 brV t6
 (R (.bool false) w)
 (fld 2 t1 fun t7 =>
 ldC t7 w fun t8 _ =>
 intW .eql t8 (.int .i64 0) fun t9 =>
 brV t9
 (fld 1 t1 fun t10 =>
 ldC t10 w fun t11 _ =>
 lenStr t11 fun t12 =>
 intW .leq t12 (.int .i64 40) fun t13 =>
 brV t13
 (fld 3 t1 fun t15 =>
 ldC t15 w fun t16 _ =>
 intW .eql t16 (.int .i64 0) fun t17 =>
 R t17 w)
 (R (.bool false) w))
 (fld 2 t1 fun t19 =>
 ldC t19 w fun t20 _ =>
 intW .geq t20 (.int .i64 2) fun t21 =>
 brV t21
 (fld 2 t1 fun t23 =>
 ldC t23 w fun t24 _ =>
 intW .lss t24 (.int .i64 64) fun t25 =>
 brV t25
 (fld 1 t1 fun t28 =>
 ldC t28 w fun t29 _ =>
 strW .eql t29 (.string ⟨#[]⟩) fun t30 =>
 brV t30
 (fld 3 t1 fun t33 =>
 ldC t33 w fun t34 _ =>
 intW .gtr t34 (.int .i64 40) fun t35 =>
 brV t35
 (fld 3 t1 fun t38 =>
 ldC t38 w fun t39 _ =>
 intW .leq t39 (.int .i64 400) fun t40 =>
 R t40 w)
 (R (.bool false) w))
 (R (.bool false) w))
 (R (.bool false) w))
 (R (.bool false) w)))
theorem cell_Right_den (a0 : Value) (R : Value → World → Prop) (w : World) : denF Tryd.prog Tryd.f55 (Tryd.f55.body.getD .skip) [] [] [a0] R w = cell_Right a0 R w := by kernel_rfl
set_option maxRecDepth 100000 in
theorem cell_Right_run {a0 : Value} {R : Value → World → Prop} {w : World} (h : cell_Right a0 R w) : Calls Tryd.prog 55 #[a0] w (rt R) :=
  run_sound (c := Tryd.f55.body.getD .skip) (la := []) (lb := []) (args := [a0]) mixed Tryd.func55 (by kernel_rfl) (by kernel_rfl) (Nat.le_of_ble_eq_true (by kernel_rfl)) (Eq.mpr (cell_Right_den a0 R w) h)
theorem cell_Right_body : hasBody Tryd.prog 55 = true := by kernel_rfl
theorem cell_Right_call {a0 : Value} {R : Value → World → Prop} {w : World} (h : Calls Tryd.prog 55 #[a0] w (rt R)) : callW Tryd.prog (.func (.func 55) #[] #[]) [a0] w R :=
  ⟨cell_Right_body, h⟩
/-- `honeycomb/record.pages` -/
def record_pages (a0 : Value) (R : Value → World → Prop) (w : World) : Prop :=
 lenSl a0 fun t4 =>
 intW .leq t4 (.int .i64 64) fun t5 =>
 brV t5
 (callW Tryd.prog (.func (.func 84) #[] #[]) [a0, (.func (.func 85) #[] #[])] w fun t8 w =>
 unW .not t8 fun t9 =>
 R t9 w)
 (R (.bool false) w)
theorem record_pages_den (a0 : Value) (R : Value → World → Prop) (w : World) : denF Tryd.prog Tryd.f56 (Tryd.f56.body.getD .skip) [] [] [a0] R w = record_pages a0 R w := by kernel_rfl
set_option maxRecDepth 100000 in
theorem record_pages_run {a0 : Value} {R : Value → World → Prop} {w : World} (h : record_pages a0 R w) : Calls Tryd.prog 56 #[a0] w (rt R) :=
  run_sound (c := Tryd.f56.body.getD .skip) (la := []) (lb := []) (args := [a0]) mixed Tryd.func56 (by kernel_rfl) (by kernel_rfl) (Nat.le_of_ble_eq_true (by kernel_rfl)) (Eq.mpr (record_pages_den a0 R w) h)
theorem record_pages_body : hasBody Tryd.prog 56 = true := by kernel_rfl
theorem record_pages_call {a0 : Value} {R : Value → World → Prop} {w : World} (h : Calls Tryd.prog 56 #[a0] w (rt R)) : callW Tryd.prog (.func (.func 56) #[] #[]) [a0] w R :=
  ⟨record_pages_body, h⟩
/-- `honeycomb/patch.Right` -/
def patch_Right (a0 : Value) (R : Value → World → Prop) (w : World) : Prop :=
 alW (Value.cells a0) 39 w fun t1 w =>
 fld 0 t1 fun t3 =>
 ldC t3 w fun t4 _ =>
 intW .geq t4 (.int .i64 0) fun t5 =>
 brV t5
 (fld 0 t1 fun t7 =>
 ldC t7 w fun t8 _ =>
 intW .lss t8 (.int .i64 64) fun t9 =>
 brV t9
 (fld 1 t1 fun t12 =>
 ldC t12 w fun t13 _ =>
 intW .geq t13 (.int .i64 0) fun t14 =>
 brV t14
 (fld 1 t1 fun t17 =>
 ldC t17 w fun t18 _ =>
 intW .lss t18 (.int .i64 256) fun t19 =>
 brV t19
 (fld 2 t1 fun t22 =>
 ldC t22 w fun t23 _ =>
 strW .neq t23 (.string ⟨#[]⟩) fun t24 =>
 brV t24
 (fld 2 t1 fun t27 =>
 ldC t27 w fun t28 _ =>
 lenStr t28 fun t29 =>
 fld 1 t1 fun t30 =>
 ldC t30 w fun t31 _ =>
 intW .sub (.int .i64 256) t31 fun t32 =>
 intW .leq t29 t32 fun t33 =>
 R t33 w)
 (R (.bool false) w))
 (R (.bool false) w))
 (R (.bool false) w))
 (R (.bool false) w))
 (R (.bool false) w)
theorem patch_Right_den (a0 : Value) (R : Value → World → Prop) (w : World) : denF Tryd.prog Tryd.f57 (Tryd.f57.body.getD .skip) [] [] [a0] R w = patch_Right a0 R w := by kernel_rfl
set_option maxRecDepth 100000 in
theorem patch_Right_run {a0 : Value} {R : Value → World → Prop} {w : World} (h : patch_Right a0 R w) : Calls Tryd.prog 57 #[a0] w (rt R) :=
  run_sound (c := Tryd.f57.body.getD .skip) (la := []) (lb := []) (args := [a0]) mixed Tryd.func57 (by kernel_rfl) (by kernel_rfl) (Nat.le_of_ble_eq_true (by kernel_rfl)) (Eq.mpr (patch_Right_den a0 R w) h)
theorem patch_Right_body : hasBody Tryd.prog 57 = true := by kernel_rfl
theorem patch_Right_call {a0 : Value} {R : Value → World → Prop} {w : World} (h : Calls Tryd.prog 57 #[a0] w (rt R)) : callW Tryd.prog (.func (.func 57) #[] #[]) [a0] w R :=
  ⟨patch_Right_body, h⟩
/-- `slices.ContainsFunc[[]honeycomb/api.DirtyInfo,honeycomb/api.DirtyInfo]` -/
def slices_ContainsFunc_api_DirtyInfo_api_DirtyInfo (a0 a1 : Value) (R : Value → World → Prop) (w : World) : Prop :=
 callW Tryd.prog (.func (.func 86) #[] #[]) [a0, a1] w fun t7 w =>
 intW .geq t7 (.int .i64 0) fun t8 =>
 R t8 w
theorem slices_ContainsFunc_api_DirtyInfo_api_DirtyInfo_den (a0 a1 : Value) (R : Value → World → Prop) (w : World) : denF Tryd.prog Tryd.f58 (Tryd.f58.body.getD .skip) [] [] [a0, a1] R w = slices_ContainsFunc_api_DirtyInfo_api_DirtyInfo a0 a1 R w := by kernel_rfl
set_option maxRecDepth 100000 in
theorem slices_ContainsFunc_api_DirtyInfo_api_DirtyInfo_run {a0 a1 : Value} {R : Value → World → Prop} {w : World} (h : slices_ContainsFunc_api_DirtyInfo_api_DirtyInfo a0 a1 R w) : Calls Tryd.prog 58 #[a0, a1] w (rt R) :=
  run_sound (c := Tryd.f58.body.getD .skip) (la := []) (lb := []) (args := [a0, a1]) mixed Tryd.func58 (by kernel_rfl) (by kernel_rfl) (Nat.le_of_ble_eq_true (by kernel_rfl)) (Eq.mpr (slices_ContainsFunc_api_DirtyInfo_api_DirtyInfo_den a0 a1 R w) h)
theorem slices_ContainsFunc_api_DirtyInfo_api_DirtyInfo_body : hasBody Tryd.prog 58 = true := by kernel_rfl
theorem slices_ContainsFunc_api_DirtyInfo_api_DirtyInfo_call {a0 a1 : Value} {R : Value → World → Prop} {w : World} (h : Calls Tryd.prog 58 #[a0, a1] w (rt R)) : callW Tryd.prog (.func (.func 58) #[] #[]) [a0, a1] w R :=
  ⟨slices_ContainsFunc_api_DirtyInfo_api_DirtyInfo_body, h⟩
/-- `honeycomb/record.Right$1` -/
def record_Right_1 (a0 : Value) (R : Value → World → Prop) (w : World) : Prop :=
 alW (Value.cells a0) 74 w fun t1 w =>
 fld 0 t1 fun t3 =>
 ldC t3 w fun t4 _ =>
 callW Tryd.prog (.func (.func 54) #[] #[]) [t4, (.int .i64 65535)] w fun t5 w =>
 unW .not t5 fun t6 =>
 brV t6
 (R (.bool true) w)
 (fld 1 t1 fun t8 =>
 ldC t8 w fun t9 _ =>
 callW Tryd.prog (.func (.func 54) #[] #[]) [t9, (.int .i64 4294967295)] w fun t10 w =>
 unW .not t10 fun t11 =>
 R t11 w)
theorem record_Right_1_den (a0 : Value) (R : Value → World → Prop) (w : World) : denF Tryd.prog Tryd.f59 (Tryd.f59.body.getD .skip) [] [] [a0] R w = record_Right_1 a0 R w := by kernel_rfl
set_option maxRecDepth 100000 in
theorem record_Right_1_run {a0 : Value} {R : Value → World → Prop} {w : World} (h : record_Right_1 a0 R w) : Calls Tryd.prog 59 #[a0] w (rt R) :=
  run_sound (c := Tryd.f59.body.getD .skip) (la := []) (lb := []) (args := [a0]) mixed Tryd.func59 (by kernel_rfl) (by kernel_rfl) (Nat.le_of_ble_eq_true (by kernel_rfl)) (Eq.mpr (record_Right_1_den a0 R w) h)
theorem record_Right_1_body : hasBody Tryd.prog 59 = true := by kernel_rfl
theorem record_Right_1_call {a0 : Value} {R : Value → World → Prop} {w : World} (h : Calls Tryd.prog 59 #[a0] w (rt R)) : callW Tryd.prog (.func (.func 59) #[] #[]) [a0] w R :=
  ⟨record_Right_1_body, h⟩
/-- `(*honeycomb/disk.Disk).Sectors` -/
def disk_Disk_Sectors (a0 : Value) (R : Value → World → Prop) (w : World) : Prop :=
 nilW 2 .eql a0 (.pointer none) fun t4 =>
 brV t4
 (R (.int .i64 0) w)
 (nckW a0 fun t6 =>
 fld 0 t6 fun t7 =>
 ldC t7 w fun t8 _ =>
 lenSl t8 fun t9 =>
 R t9 w)
theorem disk_Disk_Sectors_den (a0 : Value) (R : Value → World → Prop) (w : World) : denF Tryd.prog Tryd.f65 (Tryd.f65.body.getD .skip) [] [] [a0] R w = disk_Disk_Sectors a0 R w := by kernel_rfl
set_option maxRecDepth 100000 in
theorem disk_Disk_Sectors_run {a0 : Value} {R : Value → World → Prop} {w : World} (h : disk_Disk_Sectors a0 R w) : Calls Tryd.prog 65 #[a0] w (rt R) :=
  run_sound (c := Tryd.f65.body.getD .skip) (la := []) (lb := []) (args := [a0]) mixed Tryd.func65 (by kernel_rfl) (by kernel_rfl) (Nat.le_of_ble_eq_true (by kernel_rfl)) (Eq.mpr (disk_Disk_Sectors_den a0 R w) h)
theorem disk_Disk_Sectors_body : hasBody Tryd.prog 65 = true := by kernel_rfl
theorem disk_Disk_Sectors_call {a0 : Value} {R : Value → World → Prop} {w : World} (h : Calls Tryd.prog 65 #[a0] w (rt R)) : callW Tryd.prog (.func (.func 65) #[] #[]) [a0] w R :=
  ⟨disk_Disk_Sectors_body, h⟩
/-- `(*honeycomb/disk.Disk).Read` -/
def disk_Disk_Read (a0 a1 : Value) (R : Value → World → Prop) (w : World) : Prop :=
 callW Tryd.prog (.func (.func 77) #[] #[]) [a0] w fun t10 w =>
 brV t10
 (R (.tuple #[(.string ⟨#[]⟩), (.int .i64 10)]) w)
 (callW Tryd.prog (.func (.func 97) #[] #[]) [a0, a1] w fun t14 w =>
 unW .not t14 fun t15 =>
 brV t15
 (R (.tuple #[(.string ⟨#[]⟩), (.int .i64 12)]) w)
 (nckW a0 fun t18 =>
 fld 2 t18 fun t19 =>
 ldC t19 w fun t20 _ =>
 sm Tryd.prog (Instr.lookup 95 t20 a1 true) w fun t22 w =>
 exW t22 0 fun t23 =>
 exW t22 1 fun t24 =>
 brV t24
 (R (.tuple #[t23, (.int .i64 0)]) w)
 (nckW a0 fun t28 =>
 fld 0 t28 fun t29 =>
 ldC t29 w fun t30 _ =>
 ixS 1 t30 a1 fun t32 =>
 ldC t32 w fun t33 _ =>
 R (.tuple #[t33, (.int .i64 0)]) w)))
theorem disk_Disk_Read_den (a0 a1 : Value) (R : Value → World → Prop) (w : World) : denF Tryd.prog Tryd.f66 (Tryd.f66.body.getD .skip) [] [] [a0, a1] R w = disk_Disk_Read a0 a1 R w := by kernel_rfl
set_option maxRecDepth 100000 in
theorem disk_Disk_Read_run {a0 a1 : Value} {R : Value → World → Prop} {w : World} (h : disk_Disk_Read a0 a1 R w) : Calls Tryd.prog 66 #[a0, a1] w (rt R) :=
  run_sound (c := Tryd.f66.body.getD .skip) (la := []) (lb := []) (args := [a0, a1]) mixed Tryd.func66 (by kernel_rfl) (by kernel_rfl) (Nat.le_of_ble_eq_true (by kernel_rfl)) (Eq.mpr (disk_Disk_Read_den a0 a1 R w) h)
theorem disk_Disk_Read_body : hasBody Tryd.prog 66 = true := by kernel_rfl
theorem disk_Disk_Read_call {a0 a1 : Value} {R : Value → World → Prop} {w : World} (h : Calls Tryd.prog 66 #[a0, a1] w (rt R)) : callW Tryd.prog (.func (.func 66) #[] #[]) [a0, a1] w R :=
  ⟨disk_Disk_Read_body, h⟩
def frame_Scan_J8 (R : Value → World → Prop) : List Value → World → Prop := fun l w =>
 unc l fun t5 l =>
 fld 4 t5 fun t21 =>
 fld 5 t5 fun t23 =>
 fld 6 t5 fun t25 =>
 ldC t21 w.drew fun t22 c1 =>
 ldC t23 w.drew fun t24 c3 =>
 ldC t25 w.drew fun t26 c5 =>
 R (.tuple #[t22, t24, t26]) w.drew
def frame_Scan_L4 (R : Value → World → Prop) : (List Value → World → Prop) → List Value → World → Prop := fun r4 l w =>
 unc l fun t5 l =>
 unc l fun t6 l =>
 unc l fun t10 l =>
 unc l fun t11 l =>
 unc l fun t12 l =>
 intW .lss t12 t11 fun t13 =>
 brV t13
 (ixS 1 t10 t12 fun t14 =>
 ldC t14 w fun t15 _ =>
 callW Tryd.prog t6 [t15] w fun t18 w =>
 unW .not t18 fun t19 =>
 brV t19
 (jn (frame_Scan_J8 R) [t5] w)
 (intW .add t12 (.int .i64 1) fun t20 =>
 r4 [t5, t6, t10, t11, t20] w))
 (jn (frame_Scan_J8 R) [t5] w)
/-- `honeycomb/frame.Scan` -/
def frame_Scan (a0 : Value) (R : Value → World → Prop) (w : World) : Prop :=
 alW #[(.string ⟨#[]⟩), (.bool false), (.int .i64 0), (.int .i64 0), (.slice none 0 0), (.int .i64 0), (.int .i64 0)] 138 w fun t5 w =>
 lenSl a0 fun t11 =>
 lp (frame_Scan_L4 R) [t5, (.func (.func 98) #[t5] #[]), a0, t11, (.int .i64 0)] w
theorem frame_Scan_den (a0 : Value) (R : Value → World → Prop) (w : World) : denF Tryd.prog Tryd.f67 (Tryd.f67.body.getD .skip) [(8, [5])] [(4, [5, 6, 10, 11, 12])] [a0] R w = frame_Scan a0 R w := by kernel_rfl
set_option maxRecDepth 100000 in
theorem frame_Scan_run {a0 : Value} {R : Value → World → Prop} {w : World} (h : frame_Scan a0 R w) : Calls Tryd.prog 67 #[a0] w (rt R) :=
  run_sound (c := Tryd.f67.body.getD .skip) (la := [(8, [5])]) (lb := [(4, [5, 6, 10, 11, 12])]) (args := [a0]) mixed Tryd.func67 (by kernel_rfl) (by kernel_rfl) (Nat.le_of_ble_eq_true (by kernel_rfl)) (Eq.mpr (frame_Scan_den a0 R w) h)
theorem frame_Scan_body : hasBody Tryd.prog 67 = true := by kernel_rfl
theorem frame_Scan_call {a0 : Value} {R : Value → World → Prop} {w : World} (h : Calls Tryd.prog 67 #[a0] w (rt R)) : callW Tryd.prog (.func (.func 67) #[] #[]) [a0] w R :=
  ⟨frame_Scan_body, h⟩
/-- `honeycomb/frame.Count` -/
def frame_Count (a0 : Value) (R : Value → World → Prop) (w : World) : Prop :=
 callW Tryd.prog (.func (.func 99) #[] #[]) [a0] w fun t4 w =>
 lenStr t4 fun t5 =>
 intW .add t5 (.int .i64 56) fun t6 =>
 intW .sub t6 (.int .i64 1) fun t7 =>
 intW .quo t7 (.int .i64 56) fun t8 =>
 R t8 w
theorem frame_Count_den (a0 : Value) (R : Value → World → Prop) (w : World) : denF Tryd.prog Tryd.f68 (Tryd.f68.body.getD .skip) [] [] [a0] R w = frame_Count a0 R w := by kernel_rfl
set_option maxRecDepth 100000 in
theorem frame_Count_run {a0 : Value} {R : Value → World → Prop} {w : World} (h : frame_Count a0 R w) : Calls Tryd.prog 68 #[a0] w (rt R) :=
  run_sound (c := Tryd.f68.body.getD .skip) (la := []) (lb := []) (args := [a0]) mixed Tryd.func68 (by kernel_rfl) (by kernel_rfl) (Nat.le_of_ble_eq_true (by kernel_rfl)) (Eq.mpr (frame_Count_den a0 R w) h)
theorem frame_Count_body : hasBody Tryd.prog 68 = true := by kernel_rfl
theorem frame_Count_call {a0 : Value} {R : Value → World → Prop} {w : World} (h : Calls Tryd.prog 68 #[a0] w (rt R)) : callW Tryd.prog (.func (.func 68) #[] #[]) [a0] w R :=
  ⟨frame_Count_body, h⟩
def frame_Batch_L6 (R : Value → World → Prop) : (List Value → World → Prop) → List Value → World → Prop := fun r6 l w =>
 unc l fun t0 l =>
 unc l fun t1 l =>
 unc l fun t8 l =>
 unc l fun t9 l =>
 unc l fun t10 l =>
 strW .neq t8 (.string ⟨#[]⟩) fun t19 =>
 brV t19
 (lenStr t8 fun t21 =>
 yl Tryd.prog (Builtin.min_ #[3, 3] 3 [t21, (.int .i64 56)].toArray) fun t22 =>
 slStr t8 none (some t22) none fun t29 =>
 fillL [(0, 1), (1, 1), (2, 1), (3, 1)] #[(.int .i64 0), (.int .i64 0), (.bool false), (.string ⟨#[]⟩)] [(0, t0), (1, t1), (2, t10), (3, t29)] fun t30 =>
 callW Tryd.prog (.func (.func 100) #[] #[]) [t30] w fun t31 w =>
 exW t31 0 fun t32 =>
 exW t31 1 fun t33 =>
 unW .not t33 fun t35 =>
 brV t35
 (R (.tuple #[(.slice none 0 0), (.bool false)]) w)
 (blS 9 1 #[(.string ⟨#[]⟩)] 1 [(0, t32)] w fun t38 w =>
 sm Tryd.prog (bi .append #[90, 90] 90 [t9, t38]) w fun t39 w =>
 slStr t8 (some t22) none none fun t42 =>
 intW .add t1 (.int .i64 1) fun t44 =>
 r6 [t0, t44, t42, t39, (.bool false)] w))
 (R (.tuple #[t9, (.bool true)]) w)
/-- `honeycomb/frame.Batch` -/
def frame_Batch (a0 a1 a2 : Value) (R : Value → World → Prop) (w : World) : Prop :=
 callW Tryd.prog (.func (.func 99) #[] #[]) [a2] w fun t15 w =>
 strW .eql t15 (.string ⟨#[]⟩) fun t17 =>
 brV t17
 (R (.tuple #[(.slice none 0 0), (.bool false)]) w)
 (lp (frame_Batch_L6 R) [a0, a1, t15, (.slice none 0 0), (.bool true)] w)
theorem frame_Batch_den (a0 a1 a2 : Value) (R : Value → World → Prop) (w : World) : denF Tryd.prog Tryd.f69 (Tryd.f69.body.getD .skip) [] [(6, [0, 1, 8, 9, 10])] [a0, a1, a2] R w = frame_Batch a0 a1 a2 R w := by kernel_rfl
set_option maxRecDepth 100000 in
theorem frame_Batch_run {a0 a1 a2 : Value} {R : Value → World → Prop} {w : World} (h : frame_Batch a0 a1 a2 R w) : Calls Tryd.prog 69 #[a0, a1, a2] w (rt R) :=
  run_sound (c := Tryd.f69.body.getD .skip) (la := []) (lb := [(6, [0, 1, 8, 9, 10])]) (args := [a0, a1, a2]) mixed Tryd.func69 (by kernel_rfl) (by kernel_rfl) (Nat.le_of_ble_eq_true (by kernel_rfl)) (Eq.mpr (frame_Batch_den a0 a1 a2 R w) h)
theorem frame_Batch_body : hasBody Tryd.prog 69 = true := by kernel_rfl
theorem frame_Batch_call {a0 a1 a2 : Value} {R : Value → World → Prop} {w : World} (h : Calls Tryd.prog 69 #[a0, a1, a2] w (rt R)) : callW Tryd.prog (.func (.func 69) #[] #[]) [a0, a1, a2] w R :=
  ⟨frame_Batch_body, h⟩
def disk_Disk_Write_J10 (R : Value → World → Prop) : List Value → World → Prop := fun l w =>
 unc l fun t0 l =>
 unc l fun t1 l =>
 unc l fun t2 l =>
 nckW t0 fun t36 =>
 fld 4 t36 fun t37 =>
 ldC t37 w fun t38 _ =>
 intW .sub t38 (.int .i64 1) fun t39 =>
 yl Tryd.prog (Builtin.max_ #[3, 3] 3 [t39, (.int .i64 0)].toArray) fun t40 =>
 nckW t0 fun t41 =>
 fld 4 t41 fun t42 =>
 1 = 1 ∧ stC t42 t40 w fun w =>
 nckW t0 fun t45 =>
 fld 1 t45 fun t46 =>
 ldC t46 w fun t47 _ =>
 fillL [(0, 1), (1, 1)] #[(.int .i64 0), (.string ⟨#[]⟩)] [(0, t1), (1, t2)] fun t50 =>
 blS 111 2 #[(.int .i64 0), (.string ⟨#[]⟩)] 1 [(0, t50)] w fun t51 w =>
 sm Tryd.prog (bi .append #[96, 96] 96 [t47, t51]) w fun t52 w =>
 nckW t0 fun t53 =>
 fld 1 t53 fun t54 =>
 1 = 1 ∧ stC t54 t52 w fun w =>
 nckW t0 fun t56 =>
 fld 2 t56 fun t57 =>
 ldC t57 w fun t58 _ =>
 su Tryd.prog (Instr.mapUpdate 95 t58 t1 t2) w fun w =>
 R (.int .i64 0) w
/-- `(*honeycomb/disk.Disk).Write` -/
def disk_Disk_Write (a0 a1 a2 : Value) (R : Value → World → Prop) (w : World) : Prop :=
 callW Tryd.prog (.func (.func 77) #[] #[]) [a0] w fun t9 w =>
 brV t9
 (R (.int .i64 10) w)
 (callW Tryd.prog (.func (.func 97) #[] #[]) [a0, a1] w fun t13 w =>
 unW .not t13 fun t14 =>
 brV t14
 (R (.int .i64 12) w)
 (lenStr a2 fun t17 =>
 intW .neq t17 (.int .i64 64) fun t18 =>
 brV t18
 (R (.int .i64 1) w)
 (nckW a0 fun t21 =>
 fld 3 t21 fun t22 =>
 ldC t22 w fun t23 _ =>
 brV t23
 (nckW a0 fun t26 =>
 fld 4 t26 fun t27 =>
 ldC t27 w fun t28 _ =>
 intW .eql t28 (.int .i64 0) fun t29 =>
 brV t29
 (nckW a0 fun t32 =>
 fld 5 t32 fun t33 =>
 1 = 1 ∧ stC t33 (.bool true) w fun w =>
 R (.int .i64 10) w)
 (jn (disk_Disk_Write_J10 R) [a0, a1, a2] w))
 (jn (disk_Disk_Write_J10 R) [a0, a1, a2] w))))
theorem disk_Disk_Write_den (a0 a1 a2 : Value) (R : Value → World → Prop) (w : World) : denF Tryd.prog Tryd.f70 (Tryd.f70.body.getD .skip) [(10, [0, 1, 2])] [] [a0, a1, a2] R w = disk_Disk_Write a0 a1 a2 R w := by kernel_rfl
set_option maxRecDepth 100000 in
theorem disk_Disk_Write_run {a0 a1 a2 : Value} {R : Value → World → Prop} {w : World} (h : disk_Disk_Write a0 a1 a2 R w) : Calls Tryd.prog 70 #[a0, a1, a2] w (rt R) :=
  run_sound (c := Tryd.f70.body.getD .skip) (la := [(10, [0, 1, 2])]) (lb := []) (args := [a0, a1, a2]) mixed Tryd.func70 (by kernel_rfl) (by kernel_rfl) (Nat.le_of_ble_eq_true (by kernel_rfl)) (Eq.mpr (disk_Disk_Write_den a0 a1 a2 R w) h)
theorem disk_Disk_Write_body : hasBody Tryd.prog 70 = true := by kernel_rfl
theorem disk_Disk_Write_call {a0 a1 a2 : Value} {R : Value → World → Prop} {w : World} (h : Calls Tryd.prog 70 #[a0, a1, a2] w (rt R)) : callW Tryd.prog (.func (.func 70) #[] #[]) [a0, a1, a2] w R :=
  ⟨disk_Disk_Write_body, h⟩
/-- `(*honeycomb/disk.Disk).Sync` -/
def disk_Disk_Sync (a0 : Value) (R : Value → World → Prop) (w : World) : Prop :=
 callW Tryd.prog (.func (.func 77) #[] #[]) [a0] w fun t4 w =>
 brV t4
 (R (.int .i64 10) w)
 (nckW a0 fun t7 =>
 fld 1 t7 fun t8 =>
 ldC t8 w fun t9 _ =>
 callW Tryd.prog (.func (.func 78) #[] #[]) [a0, t9] w fun t10 w =>
 R (.int .i64 0) w)
theorem disk_Disk_Sync_den (a0 : Value) (R : Value → World → Prop) (w : World) : denF Tryd.prog Tryd.f71 (Tryd.f71.body.getD .skip) [] [] [a0] R w = disk_Disk_Sync a0 R w := by kernel_rfl
set_option maxRecDepth 100000 in
theorem disk_Disk_Sync_run {a0 : Value} {R : Value → World → Prop} {w : World} (h : disk_Disk_Sync a0 R w) : Calls Tryd.prog 71 #[a0] w (rt R) :=
  run_sound (c := Tryd.f71.body.getD .skip) (la := []) (lb := []) (args := [a0]) mixed Tryd.func71 (by kernel_rfl) (by kernel_rfl) (Nat.le_of_ble_eq_true (by kernel_rfl)) (Eq.mpr (disk_Disk_Sync_den a0 R w) h)
theorem disk_Disk_Sync_body : hasBody Tryd.prog 71 = true := by kernel_rfl
theorem disk_Disk_Sync_call {a0 : Value} {R : Value → World → Prop} {w : World} (h : Calls Tryd.prog 71 #[a0] w (rt R)) : callW Tryd.prog (.func (.func 71) #[] #[]) [a0] w R :=
  ⟨disk_Disk_Sync_body, h⟩
/-- `honeycomb/honeycombref1.two` -/
def honeycombref1_two (a0 : Value) (R : Value → World → Prop) (w : World) : Prop :=
 intW .geq a0 (.int .i64 0) fun t4 =>
 brV t4
 (intW .leq a0 (.int .i64 65535) fun t7 =>
 R t7 w)
 (R (.bool false) w)
theorem honeycombref1_two_den (a0 : Value) (R : Value → World → Prop) (w : World) : denF Tryd.prog Tryd.f72 (Tryd.f72.body.getD .skip) [] [] [a0] R w = honeycombref1_two a0 R w := by kernel_rfl
set_option maxRecDepth 100000 in
theorem honeycombref1_two_run {a0 : Value} {R : Value → World → Prop} {w : World} (h : honeycombref1_two a0 R w) : Calls Tryd.prog 72 #[a0] w (rt R) :=
  run_sound (c := Tryd.f72.body.getD .skip) (la := []) (lb := []) (args := [a0]) mixed Tryd.func72 (by kernel_rfl) (by kernel_rfl) (Nat.le_of_ble_eq_true (by kernel_rfl)) (Eq.mpr (honeycombref1_two_den a0 R w) h)
theorem honeycombref1_two_body : hasBody Tryd.prog 72 = true := by kernel_rfl
theorem honeycombref1_two_call {a0 : Value} {R : Value → World → Prop} {w : World} (h : Calls Tryd.prog 72 #[a0] w (rt R)) : callW Tryd.prog (.func (.func 72) #[] #[]) [a0] w R :=
  ⟨honeycombref1_two_body, h⟩
/-- `honeycomb/honeycombref1.four` -/
def honeycombref1_four (a0 : Value) (R : Value → World → Prop) (w : World) : Prop :=
 intW .geq a0 (.int .i64 0) fun t4 =>
 brV t4
 (intW .leq a0 (.int .i64 4294967295) fun t7 =>
 R t7 w)
 (R (.bool false) w)
theorem honeycombref1_four_den (a0 : Value) (R : Value → World → Prop) (w : World) : denF Tryd.prog Tryd.f73 (Tryd.f73.body.getD .skip) [] [] [a0] R w = honeycombref1_four a0 R w := by kernel_rfl
set_option maxRecDepth 100000 in
theorem honeycombref1_four_run {a0 : Value} {R : Value → World → Prop} {w : World} (h : honeycombref1_four a0 R w) : Calls Tryd.prog 73 #[a0] w (rt R) :=
  run_sound (c := Tryd.f73.body.getD .skip) (la := []) (lb := []) (args := [a0]) mixed Tryd.func73 (by kernel_rfl) (by kernel_rfl) (Nat.le_of_ble_eq_true (by kernel_rfl)) (Eq.mpr (honeycombref1_four_den a0 R w) h)
theorem honeycombref1_four_body : hasBody Tryd.prog 73 = true := by kernel_rfl
theorem honeycombref1_four_call {a0 : Value} {R : Value → World → Prop} {w : World} (h : Calls Tryd.prog 73 #[a0] w (rt R)) : callW Tryd.prog (.func (.func 73) #[] #[]) [a0] w R :=
  ⟨honeycombref1_four_body, h⟩
/-- `honeycomb/honeycombref1.CellRight` -/
def honeycombref1_CellRight (a0 : Value) (R : Value → World → Prop) (w : World) : Prop :=
 alW (Value.cells a0) 23 w fun t1 w =>
 fld 0 t1 fun t3 =>
 ldC t3 w fun t4 _ =>
 callW Tryd.prog (.func (.func 101) #[] #[]) [t4] w fun t5 w =>
 unW .not t5 fun t6 =>
 brV t6
 (R (.bool false) w)
 (fld 2 t1 fun t7 =>
 ldC t7 w fun t8 _ =>
 intW .eql t8 (.int .i64 0) fun t9 =>
 brV t9
 (fld 1 t1 fun t10 =>
 ldC t10 w fun t11 _ =>
 lenStr t11 fun t12 =>
 intW .leq t12 (.int .i64 40) fun t13 =>
 brV t13
 (fld 3 t1 fun t15 =>
 ldC t15 w fun t16 _ =>
 intW .eql t16 (.int .i64 0) fun t17 =>
 R t17 w)
 (R (.bool false) w))
 (fld 2 t1 fun t19 =>
 ldC t19 w fun t20 _ =>
 intW .geq t20 (.int .i64 2) fun t21 =>
 brV t21
 (fld 2 t1 fun t23 =>
 ldC t23 w fun t24 _ =>
 intW .lss t24 (.int .i64 64) fun t25 =>
 brV t25
 (fld 1 t1 fun t28 =>
 ldC t28 w fun t29 _ =>
 strW .eql t29 (.string ⟨#[]⟩) fun t30 =>
 brV t30
 (fld 3 t1 fun t33 =>
 ldC t33 w fun t34 _ =>
 intW .gtr t34 (.int .i64 40) fun t35 =>
 brV t35
 (fld 3 t1 fun t38 =>
 ldC t38 w fun t39 _ =>
 intW .leq t39 (.int .i64 400) fun t40 =>
 R t40 w)
 (R (.bool false) w))
 (R (.bool false) w))
 (R (.bool false) w))
 (R (.bool false) w)))
theorem honeycombref1_CellRight_den (a0 : Value) (R : Value → World → Prop) (w : World) : denF Tryd.prog Tryd.f74 (Tryd.f74.body.getD .skip) [] [] [a0] R w = honeycombref1_CellRight a0 R w := by kernel_rfl
set_option maxRecDepth 100000 in
theorem honeycombref1_CellRight_run {a0 : Value} {R : Value → World → Prop} {w : World} (h : honeycombref1_CellRight a0 R w) : Calls Tryd.prog 74 #[a0] w (rt R) :=
  run_sound (c := Tryd.f74.body.getD .skip) (la := []) (lb := []) (args := [a0]) mixed Tryd.func74 (by kernel_rfl) (by kernel_rfl) (Nat.le_of_ble_eq_true (by kernel_rfl)) (Eq.mpr (honeycombref1_CellRight_den a0 R w) h)
theorem honeycombref1_CellRight_body : hasBody Tryd.prog 74 = true := by kernel_rfl
theorem honeycombref1_CellRight_call {a0 : Value} {R : Value → World → Prop} {w : World} (h : Calls Tryd.prog 74 #[a0] w (rt R)) : callW Tryd.prog (.func (.func 74) #[] #[]) [a0] w R :=
  ⟨honeycombref1_CellRight_body, h⟩
def honeycombref1_pages_L2 (R : Value → World → Prop) : (List Value → World → Prop) → List Value → World → Prop := fun r2 l w =>
 unc l fun t0 l =>
 unc l fun t3 l =>
 lenSl t0 fun t6 =>
 intW .lss t3 t6 fun t7 =>
 brV t7
 (ixS 1 t0 t3 fun t12 =>
 ldC t12 w fun t13 _ =>
 callW Tryd.prog (.func (.func 72) #[] #[]) [t13] w fun t14 w =>
 unW .not t14 fun t15 =>
 brV t15
 (R (.bool false) w)
 (intW .add t3 (.int .i64 1) fun t9 =>
 r2 [t0, t9] w))
 (lenSl t0 fun t17 =>
 intW .leq t17 (.int .i64 64) fun t18 =>
 R t18 w)
/-- `honeycomb/honeycombref1.pages` -/
def honeycombref1_pages (a0 : Value) (R : Value → World → Prop) (w : World) : Prop :=
 lp (honeycombref1_pages_L2 R) [a0, (.int .i64 0)] w
theorem honeycombref1_pages_den (a0 : Value) (R : Value → World → Prop) (w : World) : denF Tryd.prog Tryd.f75 (Tryd.f75.body.getD .skip) [] [(2, [0, 3])] [a0] R w = honeycombref1_pages a0 R w := by kernel_rfl
set_option maxRecDepth 100000 in
theorem honeycombref1_pages_run {a0 : Value} {R : Value → World → Prop} {w : World} (h : honeycombref1_pages a0 R w) : Calls Tryd.prog 75 #[a0] w (rt R) :=
  run_sound (c := Tryd.f75.body.getD .skip) (la := []) (lb := [(2, [0, 3])]) (args := [a0]) mixed Tryd.func75 (by kernel_rfl) (by kernel_rfl) (Nat.le_of_ble_eq_true (by kernel_rfl)) (Eq.mpr (honeycombref1_pages_den a0 R w) h)
theorem honeycombref1_pages_body : hasBody Tryd.prog 75 = true := by kernel_rfl
theorem honeycombref1_pages_call {a0 : Value} {R : Value → World → Prop} {w : World} (h : Calls Tryd.prog 75 #[a0] w (rt R)) : callW Tryd.prog (.func (.func 75) #[] #[]) [a0] w R :=
  ⟨honeycombref1_pages_body, h⟩
/-- `honeycomb/honeycombref1.PatchRight` -/
def honeycombref1_PatchRight (a0 : Value) (R : Value → World → Prop) (w : World) : Prop :=
 alW (Value.cells a0) 39 w fun t1 w =>
 fld 0 t1 fun t3 =>
 ldC t3 w fun t4 _ =>
 intW .geq t4 (.int .i64 0) fun t5 =>
 brV t5
 (fld 0 t1 fun t7 =>
 ldC t7 w fun t8 _ =>
 intW .lss t8 (.int .i64 64) fun t9 =>
 brV t9
 (fld 1 t1 fun t12 =>
 ldC t12 w fun t13 _ =>
 intW .geq t13 (.int .i64 0) fun t14 =>
 brV t14
 (fld 1 t1 fun t17 =>
 ldC t17 w fun t18 _ =>
 intW .lss t18 (.int .i64 256) fun t19 =>
 brV t19
 (fld 2 t1 fun t22 =>
 ldC t22 w fun t23 _ =>
 strW .neq t23 (.string ⟨#[]⟩) fun t24 =>
 brV t24
 (fld 2 t1 fun t27 =>
 ldC t27 w fun t28 _ =>
 lenStr t28 fun t29 =>
 fld 1 t1 fun t30 =>
 ldC t30 w fun t31 _ =>
 intW .sub (.int .i64 256) t31 fun t32 =>
 intW .leq t29 t32 fun t33 =>
 R t33 w)
 (R (.bool false) w))
 (R (.bool false) w))
 (R (.bool false) w))
 (R (.bool false) w))
 (R (.bool false) w)
theorem honeycombref1_PatchRight_den (a0 : Value) (R : Value → World → Prop) (w : World) : denF Tryd.prog Tryd.f76 (Tryd.f76.body.getD .skip) [] [] [a0] R w = honeycombref1_PatchRight a0 R w := by kernel_rfl
set_option maxRecDepth 100000 in
theorem honeycombref1_PatchRight_run {a0 : Value} {R : Value → World → Prop} {w : World} (h : honeycombref1_PatchRight a0 R w) : Calls Tryd.prog 76 #[a0] w (rt R) :=
  run_sound (c := Tryd.f76.body.getD .skip) (la := []) (lb := []) (args := [a0]) mixed Tryd.func76 (by kernel_rfl) (by kernel_rfl) (Nat.le_of_ble_eq_true (by kernel_rfl)) (Eq.mpr (honeycombref1_PatchRight_den a0 R w) h)
theorem honeycombref1_PatchRight_body : hasBody Tryd.prog 76 = true := by kernel_rfl
theorem honeycombref1_PatchRight_call {a0 : Value} {R : Value → World → Prop} {w : World} (h : Calls Tryd.prog 76 #[a0] w (rt R)) : callW Tryd.prog (.func (.func 76) #[] #[]) [a0] w R :=
  ⟨honeycombref1_PatchRight_body, h⟩
/-- `(*honeycomb/disk.Disk).Dead` -/
def disk_Disk_Dead (a0 : Value) (R : Value → World → Prop) (w : World) : Prop :=
 nilW 2 .eql a0 (.pointer none) fun t4 =>
 brV t4
 (R (.bool true) w)
 (nckW a0 fun t7 =>
 fld 5 t7 fun t8 =>
 ldC t8 w fun t9 _ =>
 R t9 w)
theorem disk_Disk_Dead_den (a0 : Value) (R : Value → World → Prop) (w : World) : denF Tryd.prog Tryd.f77 (Tryd.f77.body.getD .skip) [] [] [a0] R w = disk_Disk_Dead a0 R w := by kernel_rfl
set_option maxRecDepth 100000 in
theorem disk_Disk_Dead_run {a0 : Value} {R : Value → World → Prop} {w : World} (h : disk_Disk_Dead a0 R w) : Calls Tryd.prog 77 #[a0] w (rt R) :=
  run_sound (c := Tryd.f77.body.getD .skip) (la := []) (lb := []) (args := [a0]) mixed Tryd.func77 (by kernel_rfl) (by kernel_rfl) (Nat.le_of_ble_eq_true (by kernel_rfl)) (Eq.mpr (disk_Disk_Dead_den a0 R w) h)
theorem disk_Disk_Dead_body : hasBody Tryd.prog 77 = true := by kernel_rfl
theorem disk_Disk_Dead_call {a0 : Value} {R : Value → World → Prop} {w : World} (h : Calls Tryd.prog 77 #[a0] w (rt R)) : callW Tryd.prog (.func (.func 77) #[] #[]) [a0] w R :=
  ⟨disk_Disk_Dead_body, h⟩
def disk_Disk_settle_L1 (R : Value → World → Prop) : (List Value → World → Prop) → List Value → World → Prop := fun r1 l w =>
 unc l fun t0 l =>
 unc l fun t6 l =>
 unc l fun t7 l =>
 unc l fun t8 l =>
 intW .lss t8 t7 fun t9 =>
 brV t9
 (ixS 2 t6 t8 fun t10 =>
 ldN 2 t10 w fun t11 _ =>
 alW #[(.int .i64 0), (.string ⟨#[]⟩)] 111 w fun t5 w =>
 stN 2 t5 t11 w fun w =>
 nckW t0 fun t13 =>
 fld 0 t13 fun t14 =>
 fld 0 t5 fun t16 =>
 fld 1 t5 fun t18 =>
 ldC t14 w.drew fun t15 c3 =>
 ldC t16 w.drew fun t17 c5 =>
 ldC t18 w.drew fun t19 c7 =>
 ixS 1 t15 t17 fun t20 =>
 1 = 1 ∧ stC t20 t19 w.drew fun w =>
 intW .add t8 (.int .i64 1) fun t21 =>
 r1 [t0, t6, t7, t21] w)
 (nckW t0 fun t23 =>
 fld 1 t23 fun t24 =>
 1 = 1 ∧ stC t24 (.slice none 0 0) w fun w =>
 nckW t0 fun t26 =>
 fld 2 t26 fun t27 =>
 ldC t27 w fun t28 _ =>
 sm Tryd.prog (bi .clear #[95] 0 [t28]) w fun _ w =>
 R (.tuple #[]) w)
/-- `(*honeycomb/disk.Disk).settle` -/
def disk_Disk_settle (a0 a1 : Value) (R : Value → World → Prop) (w : World) : Prop :=
 lenSl a1 fun t7 =>
 lp (disk_Disk_settle_L1 R) [a0, a1, t7, (.int .i64 0)] w
theorem disk_Disk_settle_den (a0 a1 : Value) (R : Value → World → Prop) (w : World) : denF Tryd.prog Tryd.f78 (Tryd.f78.body.getD .skip) [] [(1, [0, 6, 7, 8])] [a0, a1] R w = disk_Disk_settle a0 a1 R w := by kernel_rfl
set_option maxRecDepth 100000 in
theorem disk_Disk_settle_run {a0 a1 : Value} {R : Value → World → Prop} {w : World} (h : disk_Disk_settle a0 a1 R w) : Calls Tryd.prog 78 #[a0, a1] w (rt R) :=
  run_sound (c := Tryd.f78.body.getD .skip) (la := []) (lb := [(1, [0, 6, 7, 8])]) (args := [a0, a1]) mixed Tryd.func78 (by kernel_rfl) (by kernel_rfl) (Nat.le_of_ble_eq_true (by kernel_rfl)) (Eq.mpr (disk_Disk_settle_den a0 a1 R w) h)
theorem disk_Disk_settle_body : hasBody Tryd.prog 78 = true := by kernel_rfl
theorem disk_Disk_settle_call {a0 a1 : Value} {R : Value → World → Prop} {w : World} (h : Calls Tryd.prog 78 #[a0, a1] w (rt R)) : callW Tryd.prog (.func (.func 78) #[] #[]) [a0, a1] w R :=
  ⟨disk_Disk_settle_body, h⟩
def pack_Reader_get_L4 (R : Value → World → Prop) : (List Value → World → Prop) → List Value → World → Prop := fun r4 l w =>
 unc l fun t5 l =>
 unc l fun t6 l =>
 unc l fun t12 l =>
 unc l fun t13 l =>
 intW .lss t13 t12 fun t14 =>
 brV t14
 (shW .shl t5 (.int .u64 8) fun t17 =>
 ixStr t6 t13 fun t20 =>
 cvI .i64 t20 fun t21 =>
 intW .or t17 t21 fun t22 =>
 intW .add t13 (.int .i64 1) fun t23 =>
 r4 [t22, t6, t12, t23] w)
 (R t5 w)
/-- `(*honeycomb/pack.Reader).get` -/
def pack_Reader_get (a0 a1 : Value) (R : Value → World → Prop) (w : World) : Prop :=
 callW Tryd.prog (.func (.func 80) #[] #[]) [a0, a1] w fun t10 w =>
 lenStr t10 fun t12 =>
 lp (pack_Reader_get_L4 R) [(.int .i64 0), t10, t12, (.int .i64 0)] w
theorem pack_Reader_get_den (a0 a1 : Value) (R : Value → World → Prop) (w : World) : denF Tryd.prog Tryd.f79 (Tryd.f79.body.getD .skip) [] [(4, [5, 6, 12, 13])] [a0, a1] R w = pack_Reader_get a0 a1 R w := by kernel_rfl
set_option maxRecDepth 100000 in
theorem pack_Reader_get_run {a0 a1 : Value} {R : Value → World → Prop} {w : World} (h : pack_Reader_get a0 a1 R w) : Calls Tryd.prog 79 #[a0, a1] w (rt R) :=
  run_sound (c := Tryd.f79.body.getD .skip) (la := []) (lb := [(4, [5, 6, 12, 13])]) (args := [a0, a1]) mixed Tryd.func79 (by kernel_rfl) (by kernel_rfl) (Nat.le_of_ble_eq_true (by kernel_rfl)) (Eq.mpr (pack_Reader_get_den a0 a1 R w) h)
theorem pack_Reader_get_body : hasBody Tryd.prog 79 = true := by kernel_rfl
theorem pack_Reader_get_call {a0 a1 : Value} {R : Value → World → Prop} {w : World} (h : Calls Tryd.prog 79 #[a0, a1] w (rt R)) : callW Tryd.prog (.func (.func 79) #[] #[]) [a0, a1] w R :=
  ⟨pack_Reader_get_body, h⟩
def pack_Reader_take_J4 (R : Value → World → Prop) : List Value → World → Prop := fun l w =>
 R (.string ⟨#[]⟩) w
def pack_Reader_take_J2 (R : Value → World → Prop) : List Value → World → Prop := fun l w =>
 unc l fun t0 l =>
 nilW 2 .neq t0 (.pointer none) fun t24 =>
 brV t24
 (nckW t0 fun t26 =>
 fld 1 t26 fun t27 =>
 1 = 1 ∧ stC t27 (.bool true) w fun w =>
 jn (pack_Reader_take_J4 R) [] w)
 (jn (pack_Reader_take_J4 R) [] w)
/-- `(*honeycomb/pack.Reader).take` -/
def pack_Reader_take (a0 a1 : Value) (R : Value → World → Prop) (w : World) : Prop :=
 nilW 2 .eql a0 (.pointer none) fun t7 =>
 brV t7
 (jn (pack_Reader_take_J2 R) [a0] w)
 (nckW a0 fun t10 =>
 fld 1 t10 fun t11 =>
 ldC t11 w fun t12 _ =>
 brV t12
 (jn (pack_Reader_take_J2 R) [a0] w)
 (nckW a0 fun t16 =>
 fld 0 t16 fun t17 =>
 ldC t17 w fun t18 _ =>
 lenStr t18 fun t19 =>
 intW .lss t19 a1 fun t21 =>
 brV t21
 (jn (pack_Reader_take_J2 R) [a0] w)
 (nckW a0 fun t29 =>
 fld 0 t29 fun t30 =>
 ldC t30 w fun t31 _ =>
 slStr t31 none (some a1) none fun t33 =>
 nckW a0 fun t36 =>
 fld 0 t36 fun t37 =>
 ldC t37 w fun t38 _ =>
 slStr t38 (some a1) none none fun t40 =>
 nckW a0 fun t41 =>
 fld 0 t41 fun t42 =>
 1 = 1 ∧ stC t42 t40 w fun w =>
 R t33 w)))
theorem pack_Reader_take_den (a0 a1 : Value) (R : Value → World → Prop) (w : World) : denF Tryd.prog Tryd.f80 (Tryd.f80.body.getD .skip) [(2, [0]), (4, [])] [] [a0, a1] R w = pack_Reader_take a0 a1 R w := by kernel_rfl
set_option maxRecDepth 100000 in
theorem pack_Reader_take_run {a0 a1 : Value} {R : Value → World → Prop} {w : World} (h : pack_Reader_take a0 a1 R w) : Calls Tryd.prog 80 #[a0, a1] w (rt R) :=
  run_sound (c := Tryd.f80.body.getD .skip) (la := [(2, [0]), (4, [])]) (lb := []) (args := [a0, a1]) mixed Tryd.func80 (by kernel_rfl) (by kernel_rfl) (Nat.le_of_ble_eq_true (by kernel_rfl)) (Eq.mpr (pack_Reader_take_den a0 a1 R w) h)
theorem pack_Reader_take_body : hasBody Tryd.prog 80 = true := by kernel_rfl
theorem pack_Reader_take_call {a0 a1 : Value} {R : Value → World → Prop} {w : World} (h : Calls Tryd.prog 80 #[a0, a1] w (rt R)) : callW Tryd.prog (.func (.func 80) #[] #[]) [a0, a1] w R :=
  ⟨pack_Reader_take_body, h⟩
def pack_Writer_put_J4 (R : Value → World → Prop) : List Value → World → Prop := fun l w =>
 unc l fun t0 l =>
 nckW t0 fun t27 =>
 fld 1 t27 fun t28 =>
 1 = 1 ∧ stC t28 (.bool true) w fun w =>
 R t0 w
def pack_Writer_put_L7 (R : Value → World → Prop) : (List Value → World → Prop) → List Value → World → Prop := fun r7 l w =>
 unc l fun t0 l =>
 unc l fun t1 l =>
 unc l fun t2 l =>
 intW .geq t2 (.int .i64 0) fun t33 =>
 brV t33
 (nckW t0 fun t38 =>
 fld 0 t38 fun t39 =>
 intW .mul (.int .i64 8) t2 fun t43 =>
 shW .shr t1 t43 fun t44 =>
 cvI .u8 t44 fun t45 =>
 ldC t39 w.drew fun t40 c4 =>
 blS 5 1 #[(.int .u8 0)] 1 [(0, t45)] w.drew fun t46 w =>
 heldC [(4, c4)] w (sm Tryd.prog (bi .append #[44, 44] 44 [t40, t46]) w fun t47 w =>
 nckW t0 fun t48 =>
 fld 0 t48 fun t49 =>
 1 = 1 ∧ stC t49 t47 w fun w =>
 intW .sub t2 (.int .i64 1) fun t35 =>
 r7 [t0, t1, t35] w))
 (R t0 w)
/-- `(*honeycomb/pack.Writer).put` -/
def pack_Writer_put (a0 a1 a2 : Value) (R : Value → World → Prop) (w : World) : Prop :=
 nilW 2 .eql a0 (.pointer none) fun t9 =>
 brV t9
 (R (.pointer none) w)
 (nckW a0 fun t12 =>
 fld 1 t12 fun t13 =>
 ldC t13 w fun t14 _ =>
 brV t14
 (jn (pack_Writer_put_J4 R) [a0] w)
 (intW .lss a1 (.int .i64 0) fun t17 =>
 brV t17
 (jn (pack_Writer_put_J4 R) [a0] w)
 (intW .mul (.int .i64 8) a2 fun t22 =>
 shW .shl (.int .i64 1) t22 fun t23 =>
 intW .geq a1 t23 fun t24 =>
 brV t24
 (jn (pack_Writer_put_J4 R) [a0] w)
 (intW .sub a2 (.int .i64 1) fun t31 =>
 lp (pack_Writer_put_L7 R) [a0, a1, t31] w))))
theorem pack_Writer_put_den (a0 a1 a2 : Value) (R : Value → World → Prop) (w : World) : denF Tryd.prog Tryd.f81 (Tryd.f81.body.getD .skip) [(4, [0])] [(7, [0, 1, 2])] [a0, a1, a2] R w = pack_Writer_put a0 a1 a2 R w := by kernel_rfl
set_option maxRecDepth 100000 in
theorem pack_Writer_put_run {a0 a1 a2 : Value} {R : Value → World → Prop} {w : World} (h : pack_Writer_put a0 a1 a2 R w) : Calls Tryd.prog 81 #[a0, a1, a2] w (rt R) :=
  run_sound (c := Tryd.f81.body.getD .skip) (la := [(4, [0])]) (lb := [(7, [0, 1, 2])]) (args := [a0, a1, a2]) mixed Tryd.func81 (by kernel_rfl) (by kernel_rfl) (Nat.le_of_ble_eq_true (by kernel_rfl)) (Eq.mpr (pack_Writer_put_den a0 a1 a2 R w) h)
theorem pack_Writer_put_body : hasBody Tryd.prog 81 = true := by kernel_rfl
theorem pack_Writer_put_call {a0 a1 a2 : Value} {R : Value → World → Prop} {w : World} (h : Calls Tryd.prog 81 #[a0, a1, a2] w (rt R)) : callW Tryd.prog (.func (.func 81) #[] #[]) [a0, a1, a2] w R :=
  ⟨pack_Writer_put_body, h⟩
/-- `honeycomb/honeycombbook.SameTx` -/
def honeycombbook_SameTx (a0 a1 : Value) (R : Value → World → Prop) (w : World) : Prop :=
 alW (Value.cells a0) 41 w fun t2 w =>
 alW (Value.cells a1) 41 w fun t3 w =>
 fld 0 t2 fun t5 =>
 ldC t5 w fun t6 _ =>
 fld 0 t3 fun t7 =>
 ldC t7 w fun t8 _ =>
 intW .eql t6 t8 fun t9 =>
 brV t9
 (fld 1 t2 fun t11 =>
 ldC t11 w fun t12 _ =>
 fld 1 t3 fun t13 =>
 ldC t13 w fun t14 _ =>
 intW .eql t12 t14 fun t15 =>
 brV t15
 (fld 2 t2 fun t18 =>
 ldC t18 w fun t19 _ =>
 fld 2 t3 fun t20 =>
 ldC t20 w fun t21 _ =>
 nilW 6 .eql t19 t21 fun t22 =>
 brV t22
 (fld 3 t2 fun t25 =>
 ldC t25 w fun t26 _ =>
 fld 3 t3 fun t27 =>
 ldC t27 w fun t28 _ =>
 callW Tryd.prog (.func (.func 38) #[] #[]) [t26, t28] w fun t29 w =>
 R t29 w)
 (R (.bool false) w))
 (R (.bool false) w))
 (R (.bool false) w)
theorem honeycombbook_SameTx_den (a0 a1 : Value) (R : Value → World → Prop) (w : World) : denF Tryd.prog Tryd.f82 (Tryd.f82.body.getD .skip) [] [] [a0, a1] R w = honeycombbook_SameTx a0 a1 R w := by kernel_rfl
set_option maxRecDepth 100000 in
theorem honeycombbook_SameTx_run {a0 a1 : Value} {R : Value → World → Prop} {w : World} (h : honeycombbook_SameTx a0 a1 R w) : Calls Tryd.prog 82 #[a0, a1] w (rt R) :=
  run_sound (c := Tryd.f82.body.getD .skip) (la := []) (lb := []) (args := [a0, a1]) mixed Tryd.func82 (by kernel_rfl) (by kernel_rfl) (Nat.le_of_ble_eq_true (by kernel_rfl)) (Eq.mpr (honeycombbook_SameTx_den a0 a1 R w) h)
theorem honeycombbook_SameTx_body : hasBody Tryd.prog 82 = true := by kernel_rfl
theorem honeycombbook_SameTx_call {a0 a1 : Value} {R : Value → World → Prop} {w : World} (h : Calls Tryd.prog 82 #[a0, a1] w (rt R)) : callW Tryd.prog (.func (.func 82) #[] #[]) [a0, a1] w R :=
  ⟨honeycombbook_SameTx_body, h⟩
/-- `honeycomb/fnv.Key` -/
def fnv_Key (a0 : Value) (R : Value → World → Prop) (w : World) : Prop :=
 strW .neq a0 (.string ⟨#[]⟩) fun t4 =>
 brV t4
 (lenStr a0 fun t7 =>
 intW .leq t7 (.int .i64 16) fun t8 =>
 R t8 w)
 (R (.bool false) w)
theorem fnv_Key_den (a0 : Value) (R : Value → World → Prop) (w : World) : denF Tryd.prog Tryd.f83 (Tryd.f83.body.getD .skip) [] [] [a0] R w = fnv_Key a0 R w := by kernel_rfl
set_option maxRecDepth 100000 in
theorem fnv_Key_run {a0 : Value} {R : Value → World → Prop} {w : World} (h : fnv_Key a0 R w) : Calls Tryd.prog 83 #[a0] w (rt R) :=
  run_sound (c := Tryd.f83.body.getD .skip) (la := []) (lb := []) (args := [a0]) mixed Tryd.func83 (by kernel_rfl) (by kernel_rfl) (Nat.le_of_ble_eq_true (by kernel_rfl)) (Eq.mpr (fnv_Key_den a0 R w) h)
theorem fnv_Key_body : hasBody Tryd.prog 83 = true := by kernel_rfl
theorem fnv_Key_call {a0 : Value} {R : Value → World → Prop} {w : World} (h : Calls Tryd.prog 83 #[a0] w (rt R)) : callW Tryd.prog (.func (.func 83) #[] #[]) [a0] w R :=
  ⟨fnv_Key_body, h⟩
/-- `slices.ContainsFunc[[]int,int]` -/
def slices_ContainsFunc_int_int (a0 a1 : Value) (R : Value → World → Prop) (w : World) : Prop :=
 callW Tryd.prog (.func (.func 102) #[] #[]) [a0, a1] w fun t7 w =>
 intW .geq t7 (.int .i64 0) fun t8 =>
 R t8 w
theorem slices_ContainsFunc_int_int_den (a0 a1 : Value) (R : Value → World → Prop) (w : World) : denF Tryd.prog Tryd.f84 (Tryd.f84.body.getD .skip) [] [] [a0, a1] R w = slices_ContainsFunc_int_int a0 a1 R w := by kernel_rfl
set_option maxRecDepth 100000 in
theorem slices_ContainsFunc_int_int_run {a0 a1 : Value} {R : Value → World → Prop} {w : World} (h : slices_ContainsFunc_int_int a0 a1 R w) : Calls Tryd.prog 84 #[a0, a1] w (rt R) :=
  run_sound (c := Tryd.f84.body.getD .skip) (la := []) (lb := []) (args := [a0, a1]) mixed Tryd.func84 (by kernel_rfl) (by kernel_rfl) (Nat.le_of_ble_eq_true (by kernel_rfl)) (Eq.mpr (slices_ContainsFunc_int_int_den a0 a1 R w) h)
theorem slices_ContainsFunc_int_int_body : hasBody Tryd.prog 84 = true := by kernel_rfl
theorem slices_ContainsFunc_int_int_call {a0 a1 : Value} {R : Value → World → Prop} {w : World} (h : Calls Tryd.prog 84 #[a0, a1] w (rt R)) : callW Tryd.prog (.func (.func 84) #[] #[]) [a0, a1] w R :=
  ⟨slices_ContainsFunc_int_int_body, h⟩
/-- `honeycomb/record.pages$1` -/
def record_pages_1 (a0 : Value) (R : Value → World → Prop) (w : World) : Prop :=
 callW Tryd.prog (.func (.func 54) #[] #[]) [a0, (.int .i64 65535)] w fun t4 w =>
 unW .not t4 fun t5 =>
 R t5 w
theorem record_pages_1_den (a0 : Value) (R : Value → World → Prop) (w : World) : denF Tryd.prog Tryd.f85 (Tryd.f85.body.getD .skip) [] [] [a0] R w = record_pages_1 a0 R w := by kernel_rfl
set_option maxRecDepth 100000 in
theorem record_pages_1_run {a0 : Value} {R : Value → World → Prop} {w : World} (h : record_pages_1 a0 R w) : Calls Tryd.prog 85 #[a0] w (rt R) :=
  run_sound (c := Tryd.f85.body.getD .skip) (la := []) (lb := []) (args := [a0]) mixed Tryd.func85 (by kernel_rfl) (by kernel_rfl) (Nat.le_of_ble_eq_true (by kernel_rfl)) (Eq.mpr (record_pages_1_den a0 R w) h)
theorem record_pages_1_body : hasBody Tryd.prog 85 = true := by kernel_rfl
theorem record_pages_1_call {a0 : Value} {R : Value → World → Prop} {w : World} (h : Calls Tryd.prog 85 #[a0] w (rt R)) : callW Tryd.prog (.func (.func 85) #[] #[]) [a0] w R :=
  ⟨record_pages_1_body, h⟩
def slices_IndexFunc_api_DirtyInfo_api_DirtyInfo_L2 (R : Value → World → Prop) : (List Value → World → Prop) → List Value → World → Prop := fun r2 l w =>
 unc l fun t0 l =>
 unc l fun t1 l =>
 unc l fun t7 l =>
 unc l fun t8 l =>
 intW .lss t8 t7 fun t9 =>
 brV t9
 (ixS 2 t0 t8 fun t14 =>
 ldN 2 t14 w fun t15 _ =>
 callW Tryd.prog t1 [t15] w fun t16 w =>
 brV t16
 (R t8 w)
 (intW .add t8 (.int .i64 1) fun t18 =>
 r2 [t0, t1, t7, t18] w))
 (R (.int .i64 (-1)) w)
/-- `slices.IndexFunc[[]honeycomb/api.DirtyInfo,honeycomb/api.DirtyInfo]` -/
def slices_IndexFunc_api_DirtyInfo_api_DirtyInfo (a0 a1 : Value) (R : Value → World → Prop) (w : World) : Prop :=
 lenSl a0 fun t7 =>
 lp (slices_IndexFunc_api_DirtyInfo_api_DirtyInfo_L2 R) [a0, a1, t7, (.int .i64 0)] w
theorem slices_IndexFunc_api_DirtyInfo_api_DirtyInfo_den (a0 a1 : Value) (R : Value → World → Prop) (w : World) : denF Tryd.prog Tryd.f86 (Tryd.f86.body.getD .skip) [] [(2, [0, 1, 7, 8])] [a0, a1] R w = slices_IndexFunc_api_DirtyInfo_api_DirtyInfo a0 a1 R w := by kernel_rfl
set_option maxRecDepth 100000 in
theorem slices_IndexFunc_api_DirtyInfo_api_DirtyInfo_run {a0 a1 : Value} {R : Value → World → Prop} {w : World} (h : slices_IndexFunc_api_DirtyInfo_api_DirtyInfo a0 a1 R w) : Calls Tryd.prog 86 #[a0, a1] w (rt R) :=
  run_sound (c := Tryd.f86.body.getD .skip) (la := []) (lb := [(2, [0, 1, 7, 8])]) (args := [a0, a1]) mixed Tryd.func86 (by kernel_rfl) (by kernel_rfl) (Nat.le_of_ble_eq_true (by kernel_rfl)) (Eq.mpr (slices_IndexFunc_api_DirtyInfo_api_DirtyInfo_den a0 a1 R w) h)
theorem slices_IndexFunc_api_DirtyInfo_api_DirtyInfo_body : hasBody Tryd.prog 86 = true := by kernel_rfl
theorem slices_IndexFunc_api_DirtyInfo_api_DirtyInfo_call {a0 a1 : Value} {R : Value → World → Prop} {w : World} (h : Calls Tryd.prog 86 #[a0, a1] w (rt R)) : callW Tryd.prog (.func (.func 86) #[] #[]) [a0, a1] w R :=
  ⟨slices_IndexFunc_api_DirtyInfo_api_DirtyInfo_body, h⟩
/-- `(*strings.Builder).WriteString` -/
def strings_Builder_WriteString (a0 a1 : Value) (R : Value → World → Prop) (w : World) : Prop :=
 callW Tryd.prog (.func (.func 118) #[] #[]) [a0] w fun t7 w =>
 nckW a0 fun t10 =>
 fld 1 t10 fun t11 =>
 ldC t11 w fun t12 _ =>
 sm Tryd.prog (bi .append #[44, 9] 44 [t12, a1]) w fun t14 w =>
 nckW a0 fun t15 =>
 fld 1 t15 fun t16 =>
 1 = 1 ∧ stC t16 t14 w fun w =>
 lenStr a1 fun t18 =>
 R (.tuple #[t18, .nilIface]) w
theorem strings_Builder_WriteString_den (a0 a1 : Value) (R : Value → World → Prop) (w : World) : denF Tryd.prog Tryd.f94 (Tryd.f94.body.getD .skip) [] [] [a0, a1] R w = strings_Builder_WriteString a0 a1 R w := by kernel_rfl
set_option maxRecDepth 100000 in
theorem strings_Builder_WriteString_run {a0 a1 : Value} {R : Value → World → Prop} {w : World} (h : strings_Builder_WriteString a0 a1 R w) : Calls Tryd.prog 94 #[a0, a1] w (rt R) :=
  run_sound (c := Tryd.f94.body.getD .skip) (la := []) (lb := []) (args := [a0, a1]) mixed Tryd.func94 (by kernel_rfl) (by kernel_rfl) (Nat.le_of_ble_eq_true (by kernel_rfl)) (Eq.mpr (strings_Builder_WriteString_den a0 a1 R w) h)
theorem strings_Builder_WriteString_body : hasBody Tryd.prog 94 = true := by kernel_rfl
theorem strings_Builder_WriteString_call {a0 a1 : Value} {R : Value → World → Prop} {w : World} (h : Calls Tryd.prog 94 #[a0, a1] w (rt R)) : callW Tryd.prog (.func (.func 94) #[] #[]) [a0, a1] w R :=
  ⟨strings_Builder_WriteString_body, h⟩
/-- `(*honeycomb/disk.Disk).is` -/
def disk_Disk_is (a0 a1 : Value) (R : Value → World → Prop) (w : World) : Prop :=
 intW .geq a1 (.int .i64 0) fun t6 =>
 brV t6
 (nckW a0 fun t10 =>
 fld 0 t10 fun t11 =>
 ldC t11 w fun t12 _ =>
 lenSl t12 fun t13 =>
 intW .lss a1 t13 fun t14 =>
 R t14 w)
 (R (.bool false) w)
theorem disk_Disk_is_den (a0 a1 : Value) (R : Value → World → Prop) (w : World) : denF Tryd.prog Tryd.f97 (Tryd.f97.body.getD .skip) [] [] [a0, a1] R w = disk_Disk_is a0 a1 R w := by kernel_rfl
set_option maxRecDepth 100000 in
theorem disk_Disk_is_run {a0 a1 : Value} {R : Value → World → Prop} {w : World} (h : disk_Disk_is a0 a1 R w) : Calls Tryd.prog 97 #[a0, a1] w (rt R) :=
  run_sound (c := Tryd.f97.body.getD .skip) (la := []) (lb := []) (args := [a0, a1]) mixed Tryd.func97 (by kernel_rfl) (by kernel_rfl) (Nat.le_of_ble_eq_true (by kernel_rfl)) (Eq.mpr (disk_Disk_is_den a0 a1 R w) h)
theorem disk_Disk_is_body : hasBody Tryd.prog 97 = true := by kernel_rfl
theorem disk_Disk_is_call {a0 a1 : Value} {R : Value → World → Prop} {w : World} (h : Calls Tryd.prog 97 #[a0, a1] w (rt R)) : callW Tryd.prog (.func (.func 97) #[] #[]) [a0, a1] w R :=
  ⟨disk_Disk_is_body, h⟩
def frame_scan_take_J3 (R : Value → World → Prop) : List Value → World → Prop := fun l w =>
 R (.bool false) w
def frame_scan_take_J17 (R : Value → World → Prop) : List Value → World → Prop := fun l w =>
 R (.bool true) w
def frame_scan_take_J13 (R : Value → World → Prop) (r9 : List Value → World → Prop) : List Value → World → Prop := fun l w =>
 unc l fun t0 l =>
 unc l fun t7 l =>
 nckW t0 fun t100 =>
 fld 1 t100 fun t101 =>
 ldC t101 w fun t102 _ =>
 unW .not t102 fun t103 =>
 brV t103
 (jn (frame_scan_take_J17 R) [] w)
 (nckW t0 fun t106 =>
 fld 0 t106 fun t107 =>
 ldC t107 w fun t108 _ =>
 lenStr t108 fun t109 =>
 intW .add (.int .i64 2) t7 fun t111 =>
 intW .lss t109 t111 fun t112 =>
 brV t112
 (jn (frame_scan_take_J17 R) [] w)
 (nckW t0 fun t116 =>
 fld 4 t116 fun t117 =>
 nckW t0 fun t120 =>
 fld 0 t120 fun t121 =>
 intW .add (.int .i64 2) t7 fun t124 =>
 ldC t117 w.drew fun t118 c4 =>
 ldC t121 w.drew fun t122 c8 =>
 slStr t122 (some (.int .i64 2)) (some t124) none fun t125 =>
 blS 9 1 #[(.string ⟨#[]⟩)] 1 [(0, t125)] w.drew fun t126 w =>
 heldC [(8, c8), (4, c4)] w (sm Tryd.prog (bi .append #[90, 90] 90 [t118, t126]) w fun t127 w =>
 heldC [(8, c8)] w (nckW t0 fun t128 =>
 fld 4 t128 fun t129 =>
 1 = 1 ∧ stC t129 t127 w fun w =>
 nckW t0 fun t132 =>
 fld 0 t132 fun t133 =>
 ldC t133 w fun t134 _ =>
 intW .add (.int .i64 2) t7 fun t136 =>
 slStr t134 (some t136) none none fun t137 =>
 nckW t0 fun t138 =>
 fld 0 t138 fun t139 =>
 1 = 1 ∧ stC t139 t137 w fun w =>
 nckW t0 fun t143 =>
 fld 2 t143 fun t144 =>
 nckW t0 fun t147 =>
 fld 3 t147 fun t148 =>
 ldC t144 w.drew fun t145 c5 =>
 ldC t148 w.drew fun t149 c9 =>
 nckW t0 fun t150 =>
 fld 5 t150 fun t151 =>
 1 = 1 ∧ stC t151 t145 w.drew fun w =>
 nckW t0 fun t152 =>
 fld 6 t152 fun t153 =>
 1 = 1 ∧ stC t153 t149 w fun w =>
 r9 [t0] w))))
def frame_scan_take_L9 (R : Value → World → Prop) : (List Value → World → Prop) → List Value → World → Prop := fun r9 l w =>
 unc l fun t0 l =>
 nckW t0 fun t77 =>
 fld 1 t77 fun t78 =>
 ldC t78 w fun t79 _ =>
 brV t79
 (nckW t0 fun t82 =>
 fld 0 t82 fun t83 =>
 ldC t83 w fun t84 _ =>
 lenStr t84 fun t85 =>
 intW .geq t85 (.int .i64 2) fun t86 =>
 brV t86
 (nckW t0 fun t89 =>
 fld 0 t89 fun t90 =>
 ldC t90 w fun t91 _ =>
 slStr t91 none (some (.int .i64 2)) none fun t92 =>
 callW Tryd.prog (.func (.func 121) #[] #[]) [t92] w fun t93 w =>
 intW .eql t93 (.int .i64 0) fun t95 =>
 brV t95
 (nckW t0 fun t97 =>
 fld 1 t97 fun t98 =>
 1 = 1 ∧ stC t98 (.bool false) w fun w =>
 jn (frame_scan_take_J13 R r9) [t0, t93] w)
 (jn (frame_scan_take_J13 R r9) [t0, t93] w))
 (jn (frame_scan_take_J17 R) [] w))
 (jn (frame_scan_take_J17 R) [] w)
def frame_scan_take_J6 (R : Value → World → Prop) : List Value → World → Prop := fun l w =>
 unc l fun t0 l =>
 unc l fun t5 l =>
 nckW t0 fun t56 =>
 fld 0 t56 fun t57 =>
 fld 3 t5 fun t59 =>
 ldC t57 w.drew fun t58 c3 =>
 ldC t59 w.drew fun t60 c5 =>
 strW .add t58 t60 fun t61 =>
 nckW t0 fun t62 =>
 fld 0 t62 fun t63 =>
 1 = 1 ∧ stC t63 t61 w.drew fun w =>
 nckW t0 fun t65 =>
 fld 2 t65 fun t66 =>
 ldC t66 w fun t67 _ =>
 intW .add t67 (.int .i64 1) fun t68 =>
 nckW t0 fun t69 =>
 fld 2 t69 fun t70 =>
 1 = 1 ∧ stC t70 t68 w fun w =>
 fld 0 t5 fun t72 =>
 ldC t72 w fun t73 _ =>
 nckW t0 fun t74 =>
 fld 3 t74 fun t75 =>
 1 = 1 ∧ stC t75 t73 w fun w =>
 lp (frame_scan_take_L9 R) [t0] w
def frame_scan_take_J4 (R : Value → World → Prop) : List Value → World → Prop := fun l w =>
 unc l fun t0 l =>
 unc l fun t5 l =>
 fld 2 t5 fun t47 =>
 ldC t47 w fun t48 _ =>
 brV t48
 (nckW t0 fun t51 =>
 fld 0 t51 fun t52 =>
 1 = 1 ∧ stC t52 (.string ⟨#[]⟩) w fun w =>
 nckW t0 fun t53 =>
 fld 1 t53 fun t54 =>
 1 = 1 ∧ stC t54 (.bool true) w fun w =>
 jn (frame_scan_take_J6 R) [t0, t5] w)
 (jn (frame_scan_take_J6 R) [t0, t5] w)
/-- `(*honeycomb/frame.scan).take` -/
def frame_scan_take (a0 a1 : Value) (R : Value → World → Prop) (w : World) : Prop :=
 callW Tryd.prog (.func (.func 120) #[] #[]) [a1] w fun t10 w =>
 exW t10 0 fun t11 =>
 exW t10 1 fun t12 =>
 alW #[(.int .i64 0), (.int .i64 0), (.bool false), (.string ⟨#[]⟩)] 142 w fun t5 w =>
 stN 4 t5 t11 w fun w =>
 unW .not t12 fun t14 =>
 brV t14
 (jn (frame_scan_take_J3 R) [] w.drew)
 (fld 1 t5 fun t16 =>
 nckW a0 fun t19 =>
 fld 2 t19 fun t20 =>
 ldC t16 w.drew fun t17 c4 =>
 ldC t20 w.drew fun t21 c8 =>
 intW .neq t17 t21 fun t22 =>
 brV t22
 (jn (frame_scan_take_J3 R) [] w.drew)
 (fld 0 t5 fun t25 =>
 nckW a0 fun t28 =>
 fld 3 t28 fun t29 =>
 ldC t25 w.drew fun t26 c13 =>
 ldC t29 w.drew fun t30 c17 =>
 intW .lss t26 t30 fun t31 =>
 brV t31
 (jn (frame_scan_take_J3 R) [] w.drew)
 (fld 0 t5 fun t34 =>
 nckW a0 fun t37 =>
 fld 3 t37 fun t38 =>
 ldC t34 w.drew fun t35 c22 =>
 ldC t38 w.drew fun t39 c26 =>
 intW .neq t35 t39 fun t40 =>
 brV t40
 (fld 2 t5 fun t42 =>
 ldC t42 w.drew fun t43 c30 =>
 unW .not t43 fun t44 =>
 brV t44
 (jn (frame_scan_take_J3 R) [] w.drew)
 (jn (frame_scan_take_J4 R) [a0, t5] w.drew))
 (jn (frame_scan_take_J4 R) [a0, t5] w.drew))))
theorem frame_scan_take_den (a0 a1 : Value) (R : Value → World → Prop) (w : World) : denF Tryd.prog Tryd.f98 (Tryd.f98.body.getD .skip) [(3, []), (4, [0, 5]), (6, [0, 5]), (13, [0, 7]), (17, [])] [(9, [0])] [a0, a1] R w = frame_scan_take a0 a1 R w := by kernel_rfl
set_option maxRecDepth 100000 in
theorem frame_scan_take_run {a0 a1 : Value} {R : Value → World → Prop} {w : World} (h : frame_scan_take a0 a1 R w) : Calls Tryd.prog 98 #[a0, a1] w (rt R) :=
  run_sound (c := Tryd.f98.body.getD .skip) (la := [(3, []), (4, [0, 5]), (6, [0, 5]), (13, [0, 7]), (17, [])]) (lb := [(9, [0])]) (args := [a0, a1]) mixed Tryd.func98 (by kernel_rfl) (by kernel_rfl) (Nat.le_of_ble_eq_true (by kernel_rfl)) (Eq.mpr (frame_scan_take_den a0 a1 R w) h)
theorem frame_scan_take_body : hasBody Tryd.prog 98 = true := by kernel_rfl
theorem frame_scan_take_call {a0 a1 : Value} {R : Value → World → Prop} {w : World} (h : Calls Tryd.prog 98 #[a0, a1] w (rt R)) : callW Tryd.prog (.func (.func 98) #[] #[]) [a0, a1] w R :=
  ⟨frame_scan_take_body, h⟩
def frame_bytes_J6 (R : Value → World → Prop) (r3 : List Value → World → Prop) : List Value → World → Prop := fun l w =>
 R (.string ⟨#[]⟩) w
def frame_bytes_L3 (R : Value → World → Prop) : (List Value → World → Prop) → List Value → World → Prop := fun r3 l w =>
 unc l fun t3 l =>
 unc l fun t6 l =>
 unc l fun t7 l =>
 unc l fun t8 l =>
 intW .lss t8 t7 fun t9 =>
 brV t9
 (ixS 1 t6 t8 fun t10 =>
 ldC t10 w fun t11 _ =>
 strW .eql t11 (.string ⟨#[]⟩) fun t13 =>
 brV t13
 (jn (frame_bytes_J6 R r3) [] w)
 (lenStr t11 fun t16 =>
 intW .gtr t16 (.int .i64 65535) fun t17 =>
 brV t17
 (jn (frame_bytes_J6 R r3) [] w)
 (lenStr t11 fun t20 =>
 callW Tryd.prog (.func (.func 122) #[] #[]) [t20, (.int .i64 2)] w fun t21 w =>
 strW .add t21 t11 fun t23 =>
 callW Tryd.prog (.func (.func 94) #[] #[]) [t3, t23] w fun t24 w =>
 intW .add t8 (.int .i64 1) fun t25 =>
 r3 [t3, t6, t7, t25] w)))
 (callW Tryd.prog (.func (.func 96) #[] #[]) [t3] w fun t26 w =>
 R t26 w)
/-- `honeycomb/frame.bytes` -/
def frame_bytes (a0 : Value) (R : Value → World → Prop) (w : World) : Prop :=
 alW #[(.pointer none), (.slice none 0 0)] 132 w fun t3 w =>
 lenSl a0 fun t7 =>
 lp (frame_bytes_L3 R) [t3, a0, t7, (.int .i64 0)] w
theorem frame_bytes_den (a0 : Value) (R : Value → World → Prop) (w : World) : denF Tryd.prog Tryd.f99 (Tryd.f99.body.getD .skip) [(6, [])] [(3, [3, 6, 7, 8])] [a0] R w = frame_bytes a0 R w := by kernel_rfl
set_option maxRecDepth 100000 in
theorem frame_bytes_run {a0 : Value} {R : Value → World → Prop} {w : World} (h : frame_bytes a0 R w) : Calls Tryd.prog 99 #[a0] w (rt R) :=
  run_sound (c := Tryd.f99.body.getD .skip) (la := [(6, [])]) (lb := [(3, [3, 6, 7, 8])]) (args := [a0]) mixed Tryd.func99 (by kernel_rfl) (by kernel_rfl) (Nat.le_of_ble_eq_true (by kernel_rfl)) (Eq.mpr (frame_bytes_den a0 R w) h)
theorem frame_bytes_body : hasBody Tryd.prog 99 = true := by kernel_rfl
theorem frame_bytes_call {a0 : Value} {R : Value → World → Prop} {w : World} (h : Calls Tryd.prog 99 #[a0] w (rt R)) : callW Tryd.prog (.func (.func 99) #[] #[]) [a0] w R :=
  ⟨frame_bytes_body, h⟩
def frame_Put_J2 (R : Value → World → Prop) : List Value → World → Prop := fun l w =>
 R (.tuple #[(.string ⟨#[]⟩), (.bool false)]) w
def frame_Put_J6 (R : Value → World → Prop) : List Value → World → Prop := fun l w =>
 unc l fun t1 l =>
 unc l fun t4 l =>
 fld 0 t1 fun t36 =>
 fld 1 t1 fun t39 =>
 cvI .u8 t4 fun t44 =>
 fld 3 t1 fun t45 =>
 fld 3 t1 fun t52 =>
 fld 3 t1 fun t55 =>
 ldC t36 w.drew fun t37 c1 =>
 ldC t39 w.drew fun t40 c4 =>
 ldC t45 w.drew fun t46 c10 =>
 lenStr t46 fun t47 =>
 cvI .u8 t47 fun t48 =>
 ldC t52 w.drew fun t53 c17 =>
 ldC t55 w.drew fun t56 c20 =>
 lenStr t56 fun t57 =>
 intW .sub (.int .i64 56) t57 fun t58 =>
 (callW Tryd.prog (.func (.func 122) #[] #[]) [t37, (.int .i64 4)] w.drew fun t38 w =>
 heldC [(20, c20), (17, c17), (10, c10), (4, c4)] w ((callW Tryd.prog (.func (.func 122) #[] #[]) [t40, (.int .i64 2)] w fun t41 w =>
 heldC [(20, c20), (17, c17), (10, c10)] w (strW .add t38 t41 fun t42 =>
 (blS 5 1 #[(.int .u8 0)] 2 [(0, t44), (1, t48)] w fun t49 w =>
 heldC [(20, c20), (17, c17), (10, c10)] w ((sm Tryd.prog (convert 44 9 t49) w fun t50 w =>
 heldC [(20, c20), (17, c17), (10, c10)] w (strW .add t42 t50 fun t51 =>
 strW .add t51 t53 fun t54 =>
 callW Tryd.prog (.func (.func 64) #[] #[]) [(.string ⟨#[0]⟩), t58] w fun t59 w =>
 heldC [(20, c20), (17, c17), (10, c10)] w (strW .add t54 t59 fun t60 =>
 R (.tuple #[t60, (.bool true)]) w))) ∧
 (callW Tryd.prog (.func (.func 64) #[] #[]) [(.string ⟨#[0]⟩), t58] w fun t59 w =>
 heldC [(20, c20), (17, c17), (10, c10)] w (sm Tryd.prog (convert 44 9 t49) w fun t50 w =>
 heldC [(20, c20), (17, c17), (10, c10)] w (strW .add t42 t50 fun t51 =>
 strW .add t51 t53 fun t54 =>
 strW .add t54 t59 fun t60 =>
 R (.tuple #[t60, (.bool true)]) w))))) ∧
 (callW Tryd.prog (.func (.func 64) #[] #[]) [(.string ⟨#[0]⟩), t58] w fun t59 w =>
 heldC [(20, c20), (17, c17), (10, c10)] w (blS 5 1 #[(.int .u8 0)] 2 [(0, t44), (1, t48)] w fun t49 w =>
 heldC [(20, c20), (17, c17), (10, c10)] w (sm Tryd.prog (convert 44 9 t49) w fun t50 w =>
 heldC [(20, c20), (17, c17), (10, c10)] w (strW .add t42 t50 fun t51 =>
 strW .add t51 t53 fun t54 =>
 strW .add t54 t59 fun t60 =>
 R (.tuple #[t60, (.bool true)]) w)))))) ∧
 (blS 5 1 #[(.int .u8 0)] 2 [(0, t44), (1, t48)] w fun t49 w =>
 heldC [(20, c20), (17, c17), (10, c10), (4, c4)] w ((callW Tryd.prog (.func (.func 122) #[] #[]) [t40, (.int .i64 2)] w fun t41 w =>
 heldC [(20, c20), (17, c17), (10, c10)] w (strW .add t38 t41 fun t42 =>
 (sm Tryd.prog (convert 44 9 t49) w fun t50 w =>
 heldC [(20, c20), (17, c17), (10, c10)] w (strW .add t42 t50 fun t51 =>
 strW .add t51 t53 fun t54 =>
 callW Tryd.prog (.func (.func 64) #[] #[]) [(.string ⟨#[0]⟩), t58] w fun t59 w =>
 heldC [(20, c20), (17, c17), (10, c10)] w (strW .add t54 t59 fun t60 =>
 R (.tuple #[t60, (.bool true)]) w))) ∧
 (callW Tryd.prog (.func (.func 64) #[] #[]) [(.string ⟨#[0]⟩), t58] w fun t59 w =>
 heldC [(20, c20), (17, c17), (10, c10)] w (sm Tryd.prog (convert 44 9 t49) w fun t50 w =>
 heldC [(20, c20), (17, c17), (10, c10)] w (strW .add t42 t50 fun t51 =>
 strW .add t51 t53 fun t54 =>
 strW .add t54 t59 fun t60 =>
 R (.tuple #[t60, (.bool true)]) w))))) ∧
 (sm Tryd.prog (convert 44 9 t49) w fun t50 w =>
 heldC [(20, c20), (17, c17), (10, c10), (4, c4)] w (callW Tryd.prog (.func (.func 122) #[] #[]) [t40, (.int .i64 2)] w fun t41 w =>
 heldC [(20, c20), (17, c17), (10, c10)] w (strW .add t38 t41 fun t42 =>
 strW .add t42 t50 fun t51 =>
 strW .add t51 t53 fun t54 =>
 callW Tryd.prog (.func (.func 64) #[] #[]) [(.string ⟨#[0]⟩), t58] w fun t59 w =>
 heldC [(20, c20), (17, c17), (10, c10)] w (strW .add t54 t59 fun t60 =>
 R (.tuple #[t60, (.bool true)]) w)))))))) ∧
 (blS 5 1 #[(.int .u8 0)] 2 [(0, t44), (1, t48)] w.drew fun t49 w =>
 heldC [(20, c20), (17, c17), (10, c10), (4, c4), (1, c1)] w ((callW Tryd.prog (.func (.func 122) #[] #[]) [t37, (.int .i64 4)] w fun t38 w =>
 heldC [(20, c20), (17, c17), (10, c10), (4, c4)] w ((callW Tryd.prog (.func (.func 122) #[] #[]) [t40, (.int .i64 2)] w fun t41 w =>
 heldC [(20, c20), (17, c17), (10, c10)] w (strW .add t38 t41 fun t42 =>
 (sm Tryd.prog (convert 44 9 t49) w fun t50 w =>
 heldC [(20, c20), (17, c17), (10, c10)] w (strW .add t42 t50 fun t51 =>
 strW .add t51 t53 fun t54 =>
 callW Tryd.prog (.func (.func 64) #[] #[]) [(.string ⟨#[0]⟩), t58] w fun t59 w =>
 heldC [(20, c20), (17, c17), (10, c10)] w (strW .add t54 t59 fun t60 =>
 R (.tuple #[t60, (.bool true)]) w))) ∧
 (callW Tryd.prog (.func (.func 64) #[] #[]) [(.string ⟨#[0]⟩), t58] w fun t59 w =>
 heldC [(20, c20), (17, c17), (10, c10)] w (sm Tryd.prog (convert 44 9 t49) w fun t50 w =>
 heldC [(20, c20), (17, c17), (10, c10)] w (strW .add t42 t50 fun t51 =>
 strW .add t51 t53 fun t54 =>
 strW .add t54 t59 fun t60 =>
 R (.tuple #[t60, (.bool true)]) w))))) ∧
 (sm Tryd.prog (convert 44 9 t49) w fun t50 w =>
 heldC [(20, c20), (17, c17), (10, c10), (4, c4)] w (callW Tryd.prog (.func (.func 122) #[] #[]) [t40, (.int .i64 2)] w fun t41 w =>
 heldC [(20, c20), (17, c17), (10, c10)] w (strW .add t38 t41 fun t42 =>
 strW .add t42 t50 fun t51 =>
 strW .add t51 t53 fun t54 =>
 callW Tryd.prog (.func (.func 64) #[] #[]) [(.string ⟨#[0]⟩), t58] w fun t59 w =>
 heldC [(20, c20), (17, c17), (10, c10)] w (strW .add t54 t59 fun t60 =>
 R (.tuple #[t60, (.bool true)]) w)))))) ∧
 (sm Tryd.prog (convert 44 9 t49) w fun t50 w =>
 heldC [(20, c20), (17, c17), (10, c10), (4, c4), (1, c1)] w (callW Tryd.prog (.func (.func 122) #[] #[]) [t37, (.int .i64 4)] w fun t38 w =>
 heldC [(20, c20), (17, c17), (10, c10), (4, c4)] w (callW Tryd.prog (.func (.func 122) #[] #[]) [t40, (.int .i64 2)] w fun t41 w =>
 heldC [(20, c20), (17, c17), (10, c10)] w (strW .add t38 t41 fun t42 =>
 strW .add t42 t50 fun t51 =>
 strW .add t51 t53 fun t54 =>
 callW Tryd.prog (.func (.func 64) #[] #[]) [(.string ⟨#[0]⟩), t58] w fun t59 w =>
 heldC [(20, c20), (17, c17), (10, c10)] w (strW .add t54 t59 fun t60 =>
 R (.tuple #[t60, (.bool true)]) w)))))))
/-- `honeycomb/frame.Put` -/
def frame_Put (a0 : Value) (R : Value → World → Prop) (w : World) : Prop :=
 alW (Value.cells a0) 142 w fun t1 w =>
 fld 0 t1 fun t5 =>
 ldC t5 w fun t6 _ =>
 intW .lss t6 (.int .i64 1) fun t7 =>
 brV t7
 (jn (frame_Put_J2 R) [] w)
 (fld 0 t1 fun t9 =>
 ldC t9 w fun t10 _ =>
 intW .gtr t10 (.int .i64 4294967295) fun t11 =>
 brV t11
 (jn (frame_Put_J2 R) [] w)
 (fld 1 t1 fun t14 =>
 ldC t14 w fun t15 _ =>
 intW .lss t15 (.int .i64 0) fun t16 =>
 brV t16
 (jn (frame_Put_J2 R) [] w)
 (fld 1 t1 fun t19 =>
 ldC t19 w fun t20 _ =>
 intW .gtr t20 (.int .i64 65535) fun t21 =>
 brV t21
 (jn (frame_Put_J2 R) [] w)
 (fld 3 t1 fun t24 =>
 ldC t24 w fun t25 _ =>
 strW .eql t25 (.string ⟨#[]⟩) fun t26 =>
 brV t26
 (jn (frame_Put_J2 R) [] w)
 (fld 3 t1 fun t29 =>
 ldC t29 w fun t30 _ =>
 lenStr t30 fun t31 =>
 intW .gtr t31 (.int .i64 56) fun t32 =>
 brV t32
 (jn (frame_Put_J2 R) [] w)
 (fld 2 t1 fun t34 =>
 ldC t34 w fun t35 _ =>
 brV t35
 (jn (frame_Put_J6 R) [t1, (.int .i64 2)] w)
 (jn (frame_Put_J6 R) [t1, (.int .i64 1)] w)))))))
theorem frame_Put_den (a0 : Value) (R : Value → World → Prop) (w : World) : denF Tryd.prog Tryd.f100 (Tryd.f100.body.getD .skip) [(2, []), (6, [1, 4])] [] [a0] R w = frame_Put a0 R w := by kernel_rfl
set_option maxRecDepth 100000 in
theorem frame_Put_run {a0 : Value} {R : Value → World → Prop} {w : World} (h : frame_Put a0 R w) : Calls Tryd.prog 100 #[a0] w (rt R) :=
  run_sound (c := Tryd.f100.body.getD .skip) (la := [(2, []), (6, [1, 4])]) (lb := []) (args := [a0]) mixed Tryd.func100 (by kernel_rfl) (by kernel_rfl) (Nat.le_of_ble_eq_true (by kernel_rfl)) (Eq.mpr (frame_Put_den a0 R w) h)
theorem frame_Put_body : hasBody Tryd.prog 100 = true := by kernel_rfl
theorem frame_Put_call {a0 : Value} {R : Value → World → Prop} {w : World} (h : Calls Tryd.prog 100 #[a0] w (rt R)) : callW Tryd.prog (.func (.func 100) #[] #[]) [a0] w R :=
  ⟨frame_Put_body, h⟩
/-- `honeycomb/honeycombref1.Key` -/
def honeycombref1_Key (a0 : Value) (R : Value → World → Prop) (w : World) : Prop :=
 lenStr a0 fun t4 =>
 intW .geq t4 (.int .i64 1) fun t5 =>
 brV t5
 (lenStr a0 fun t8 =>
 intW .leq t8 (.int .i64 16) fun t9 =>
 R t9 w)
 (R (.bool false) w)
theorem honeycombref1_Key_den (a0 : Value) (R : Value → World → Prop) (w : World) : denF Tryd.prog Tryd.f101 (Tryd.f101.body.getD .skip) [] [] [a0] R w = honeycombref1_Key a0 R w := by kernel_rfl
set_option maxRecDepth 100000 in
theorem honeycombref1_Key_run {a0 : Value} {R : Value → World → Prop} {w : World} (h : honeycombref1_Key a0 R w) : Calls Tryd.prog 101 #[a0] w (rt R) :=
  run_sound (c := Tryd.f101.body.getD .skip) (la := []) (lb := []) (args := [a0]) mixed Tryd.func101 (by kernel_rfl) (by kernel_rfl) (Nat.le_of_ble_eq_true (by kernel_rfl)) (Eq.mpr (honeycombref1_Key_den a0 R w) h)
theorem honeycombref1_Key_body : hasBody Tryd.prog 101 = true := by kernel_rfl
theorem honeycombref1_Key_call {a0 : Value} {R : Value → World → Prop} {w : World} (h : Calls Tryd.prog 101 #[a0] w (rt R)) : callW Tryd.prog (.func (.func 101) #[] #[]) [a0] w R :=
  ⟨honeycombref1_Key_body, h⟩
def slices_IndexFunc_int_int_L2 (R : Value → World → Prop) : (List Value → World → Prop) → List Value → World → Prop := fun r2 l w =>
 unc l fun t0 l =>
 unc l fun t1 l =>
 unc l fun t7 l =>
 unc l fun t8 l =>
 intW .lss t8 t7 fun t9 =>
 brV t9
 (ixS 1 t0 t8 fun t14 =>
 ldC t14 w fun t15 _ =>
 callW Tryd.prog t1 [t15] w fun t16 w =>
 brV t16
 (R t8 w)
 (intW .add t8 (.int .i64 1) fun t18 =>
 r2 [t0, t1, t7, t18] w))
 (R (.int .i64 (-1)) w)
/-- `slices.IndexFunc[[]int,int]` -/
def slices_IndexFunc_int_int (a0 a1 : Value) (R : Value → World → Prop) (w : World) : Prop :=
 lenSl a0 fun t7 =>
 lp (slices_IndexFunc_int_int_L2 R) [a0, a1, t7, (.int .i64 0)] w
theorem slices_IndexFunc_int_int_den (a0 a1 : Value) (R : Value → World → Prop) (w : World) : denF Tryd.prog Tryd.f102 (Tryd.f102.body.getD .skip) [] [(2, [0, 1, 7, 8])] [a0, a1] R w = slices_IndexFunc_int_int a0 a1 R w := by kernel_rfl
set_option maxRecDepth 100000 in
theorem slices_IndexFunc_int_int_run {a0 a1 : Value} {R : Value → World → Prop} {w : World} (h : slices_IndexFunc_int_int a0 a1 R w) : Calls Tryd.prog 102 #[a0, a1] w (rt R) :=
  run_sound (c := Tryd.f102.body.getD .skip) (la := []) (lb := [(2, [0, 1, 7, 8])]) (args := [a0, a1]) mixed Tryd.func102 (by kernel_rfl) (by kernel_rfl) (Nat.le_of_ble_eq_true (by kernel_rfl)) (Eq.mpr (slices_IndexFunc_int_int_den a0 a1 R w) h)
theorem slices_IndexFunc_int_int_body : hasBody Tryd.prog 102 = true := by kernel_rfl
theorem slices_IndexFunc_int_int_call {a0 a1 : Value} {R : Value → World → Prop} {w : World} (h : Calls Tryd.prog 102 #[a0, a1] w (rt R)) : callW Tryd.prog (.func (.func 102) #[] #[]) [a0, a1] w R :=
  ⟨slices_IndexFunc_int_int_body, h⟩
def frame_Get_J2 (R : Value → World → Prop) : List Value → World → Prop := fun l w =>
 unc l fun t2 l =>
 fillL [(0, 1), (1, 1), (2, 1), (3, 1)] #[(.int .i64 0), (.int .i64 0), (.bool false), (.string ⟨#[]⟩)] [] fun t16 =>
 stN 4 t2 t16 w fun w =>
 ldN 4 t2 w fun v_4 _ =>
 R (.tuple #[v_4, (.bool false)]) w
def frame_Get_J6 (R : Value → World → Prop) : List Value → World → Prop := fun l w =>
 unc l fun t2 l =>
 fillL [(0, 1), (1, 1), (2, 1), (3, 1)] #[(.int .i64 0), (.int .i64 0), (.bool false), (.string ⟨#[]⟩)] [] fun t45 =>
 stN 4 t2 t45 w fun w =>
 ldN 4 t2 w fun v_5 _ =>
 R (.tuple #[v_5, (.bool false)]) w
def frame_Get_J4 (R : Value → World → Prop) : List Value → World → Prop := fun l w =>
 unc l fun t0 l =>
 unc l fun t2 l =>
 unc l fun t4 l =>
 ldN 4 t4 w fun t34 _ =>
 callW Tryd.prog (.func (.func 100) #[] #[]) [t34] w fun t35 w =>
 exW t35 0 fun t36 =>
 exW t35 1 fun t37 =>
 unW .not t37 fun t39 =>
 brV t39
 (jn (frame_Get_J6 R) [t2] w)
 (strW .neq t36 t0 fun t43 =>
 brV t43
 (jn (frame_Get_J6 R) [t2] w)
 (ldN 4 t4 w fun t46 _ =>
 stN 4 t2 t46 w fun w =>
 ldN 4 t2 w fun v_6 _ =>
 R (.tuple #[v_6, (.bool true)]) w))
/-- `honeycomb/frame.Get` -/
def frame_Get (a0 : Value) (R : Value → World → Prop) (w : World) : Prop :=
 alW #[(.int .i64 0), (.int .i64 0), (.bool false), (.string ⟨#[]⟩)] 142 w fun t2 w =>
 lenStr a0 fun t8 =>
 intW .neq t8 (.int .i64 64) fun t9 =>
 brV t9
 (jn (frame_Get_J2 R) [t2] w)
 (ixStr a0 (.int .i64 7) fun t12 =>
 cvI .i64 t12 fun t13 =>
 intW .gtr t13 (.int .i64 56) fun t14 =>
 brV t14
 (jn (frame_Get_J2 R) [t2] w)
 (slStr a0 none (some (.int .i64 4)) none fun t18 =>
 slStr a0 (some (.int .i64 4)) (some (.int .i64 6)) none fun t21 =>
 ixStr a0 (.int .i64 6) fun t24 =>
 intW .eql t24 (.int .u8 2) fun t25 =>
 ixStr a0 (.int .i64 7) fun t28 =>
 cvI .i64 t28 fun t29 =>
 intW .add (.int .i64 8) t29 fun t30 =>
 slStr a0 (some (.int .i64 8)) (some t30) none fun t31 =>
 (callW Tryd.prog (.func (.func 121) #[] #[]) [t18] w.drew fun t19 w =>
 (callW Tryd.prog (.func (.func 121) #[] #[]) [t21] w fun t22 w =>
 fillL [(0, 1), (1, 1), (2, 1), (3, 1)] #[(.int .i64 0), (.int .i64 0), (.bool false), (.string ⟨#[]⟩)] [(0, t19), (1, t22), (2, t25), (3, t31)] fun t32 =>
 alW #[(.int .i64 0), (.int .i64 0), (.bool false), (.string ⟨#[]⟩)] 142 w fun t4 w =>
 stN 4 t4 t32 w fun w =>
 jn (frame_Get_J4 R) [a0, t2, t4] w) ∧
 (alW #[(.int .i64 0), (.int .i64 0), (.bool false), (.string ⟨#[]⟩)] 142 w fun t4 w =>
 callW Tryd.prog (.func (.func 121) #[] #[]) [t21] w fun t22 w =>
 fillL [(0, 1), (1, 1), (2, 1), (3, 1)] #[(.int .i64 0), (.int .i64 0), (.bool false), (.string ⟨#[]⟩)] [(0, t19), (1, t22), (2, t25), (3, t31)] fun t32 =>
 stN 4 t4 t32 w fun w =>
 jn (frame_Get_J4 R) [a0, t2, t4] w)) ∧
 (alW #[(.int .i64 0), (.int .i64 0), (.bool false), (.string ⟨#[]⟩)] 142 w.drew fun t4 w =>
 callW Tryd.prog (.func (.func 121) #[] #[]) [t18] w fun t19 w =>
 callW Tryd.prog (.func (.func 121) #[] #[]) [t21] w fun t22 w =>
 fillL [(0, 1), (1, 1), (2, 1), (3, 1)] #[(.int .i64 0), (.int .i64 0), (.bool false), (.string ⟨#[]⟩)] [(0, t19), (1, t22), (2, t25), (3, t31)] fun t32 =>
 stN 4 t4 t32 w fun w =>
 jn (frame_Get_J4 R) [a0, t2, t4] w)))
theorem frame_Get_den (a0 : Value) (R : Value → World → Prop) (w : World) : denF Tryd.prog Tryd.f120 (Tryd.f120.body.getD .skip) [(2, [2]), (4, [0, 2, 4]), (6, [2])] [] [a0] R w = frame_Get a0 R w := by kernel_rfl
set_option maxRecDepth 100000 in
theorem frame_Get_run {a0 : Value} {R : Value → World → Prop} {w : World} (h : frame_Get a0 R w) : Calls Tryd.prog 120 #[a0] w (rt R) :=
  run_sound (c := Tryd.f120.body.getD .skip) (la := [(2, [2]), (4, [0, 2, 4]), (6, [2])]) (lb := []) (args := [a0]) mixed Tryd.func120 (by kernel_rfl) (by kernel_rfl) (Nat.le_of_ble_eq_true (by kernel_rfl)) (Eq.mpr (frame_Get_den a0 R w) h)
theorem frame_Get_body : hasBody Tryd.prog 120 = true := by kernel_rfl
theorem frame_Get_call {a0 : Value} {R : Value → World → Prop} {w : World} (h : Calls Tryd.prog 120 #[a0] w (rt R)) : callW Tryd.prog (.func (.func 120) #[] #[]) [a0] w R :=
  ⟨frame_Get_body, h⟩
def frame_value_L3 (R : Value → World → Prop) : (List Value → World → Prop) → List Value → World → Prop := fun r3 l w =>
 unc l fun t0 l =>
 unc l fun t3 l =>
 unc l fun t6 l =>
 unc l fun t7 l =>
 intW .lss t7 t6 fun t8 =>
 brV t8
 (shW .shl t3 (.int .u64 8) fun t11 =>
 ixStr t0 t7 fun t14 =>
 cvI .i64 t14 fun t15 =>
 intW .or t11 t15 fun t16 =>
 intW .add t7 (.int .i64 1) fun t17 =>
 r3 [t0, t16, t6, t17] w)
 (R t3 w)
/-- `honeycomb/frame.value` -/
def frame_value (a0 : Value) (R : Value → World → Prop) (w : World) : Prop :=
 lenStr a0 fun t6 =>
 lp (frame_value_L3 R) [a0, (.int .i64 0), t6, (.int .i64 0)] w
theorem frame_value_den (a0 : Value) (R : Value → World → Prop) (w : World) : denF Tryd.prog Tryd.f121 (Tryd.f121.body.getD .skip) [] [(3, [0, 3, 6, 7])] [a0] R w = frame_value a0 R w := by kernel_rfl
set_option maxRecDepth 100000 in
theorem frame_value_run {a0 : Value} {R : Value → World → Prop} {w : World} (h : frame_value a0 R w) : Calls Tryd.prog 121 #[a0] w (rt R) :=
  run_sound (c := Tryd.f121.body.getD .skip) (la := []) (lb := [(3, [0, 3, 6, 7])]) (args := [a0]) mixed Tryd.func121 (by kernel_rfl) (by kernel_rfl) (Nat.le_of_ble_eq_true (by kernel_rfl)) (Eq.mpr (frame_value_den a0 R w) h)
theorem frame_value_body : hasBody Tryd.prog 121 = true := by kernel_rfl
theorem frame_value_call {a0 : Value} {R : Value → World → Prop} {w : World} (h : Calls Tryd.prog 121 #[a0] w (rt R)) : callW Tryd.prog (.func (.func 121) #[] #[]) [a0] w R :=
  ⟨frame_value_body, h⟩
def frame_number_L3 (R : Value → World → Prop) : (List Value → World → Prop) → List Value → World → Prop := fun r3 l w =>
 unc l fun t0 l =>
 unc l fun t1 l =>
 unc l fun t5 l =>
 intW .geq t1 (.int .i64 0) fun t9 =>
 brV t9
 (intW .mul (.int .i64 8) t1 fun t15 =>
 shW .shr t0 t15 fun t16 =>
 cvI .u8 t16 fun t17 =>
 blS 5 1 #[(.int .u8 0)] 1 [(0, t17)] w fun t18 w =>
 sm Tryd.prog (bi .append #[44, 44] 44 [t5, t18]) w fun t19 w =>
 intW .sub t1 (.int .i64 1) fun t11 =>
 r3 [t0, t11, t19] w)
 (sm Tryd.prog (convert 44 9 t5) w fun t21 w =>
 R t21 w)
/-- `honeycomb/frame.number` -/
def frame_number (a0 a1 : Value) (R : Value → World → Prop) (w : World) : Prop :=
 intW .sub a1 (.int .i64 1) fun t7 =>
 lp (frame_number_L3 R) [a0, t7, (.slice none 0 0)] w
theorem frame_number_den (a0 a1 : Value) (R : Value → World → Prop) (w : World) : denF Tryd.prog Tryd.f122 (Tryd.f122.body.getD .skip) [] [(3, [0, 1, 5])] [a0, a1] R w = frame_number a0 a1 R w := by kernel_rfl
set_option maxRecDepth 100000 in
theorem frame_number_run {a0 a1 : Value} {R : Value → World → Prop} {w : World} (h : frame_number a0 a1 R w) : Calls Tryd.prog 122 #[a0, a1] w (rt R) :=
  run_sound (c := Tryd.f122.body.getD .skip) (la := []) (lb := [(3, [0, 1, 5])]) (args := [a0, a1]) mixed Tryd.func122 (by kernel_rfl) (by kernel_rfl) (Nat.le_of_ble_eq_true (by kernel_rfl)) (Eq.mpr (frame_number_den a0 a1 R w) h)
theorem frame_number_body : hasBody Tryd.prog 122 = true := by kernel_rfl
theorem frame_number_call {a0 a1 : Value} {R : Value → World → Prop} {w : World} (h : Calls Tryd.prog 122 #[a0, a1] w (rt R)) : callW Tryd.prog (.func (.func 122) #[] #[]) [a0, a1] w R :=
  ⟨frame_number_body, h⟩
end Go.Proofs.YtlicdhdpngahgaaDoor
