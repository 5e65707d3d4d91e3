/- The texts of functions over the engine's words, each with the theorem that the machine's call does what it tells. Written by eng.py out of Lean's print of the loaded program; Lean's kernel checks them against it. -/
import Derived.Test.YtlicdhdpngahgaaGreatEngD
import Derived.Test.YtlicdhdpngahgaaGreatProg
set_option linter.unusedVariables false
namespace Go.Proofs.YtlicdhdpngahgaaGreat
open Go.Eng
theorem mixed : Tryz.prog.follows .mixedOrders = true := by kernel_rfl
def honeycomblaw13_FrameTells_J2 (R : Value → World → Prop) : List Value → World → Prop := fun l w =>
 callW Tryz.prog (.func (.func 5) #[] #[]) [] w fun t58 w =>
 R t58 w
def honeycomblaw13_FrameTells_J14 (R : Value → World → Prop) : List Value → World → Prop := fun l w =>
 R (.bool false) w
def honeycomblaw13_FrameTells_L4 (R : Value → World → Prop) : (List Value → World → Prop) → List Value → World → Prop := fun r4 l w =>
 unc l fun t1 l =>
 unc l fun t2 l =>
 unc l fun t3 l =>
 unc l fun t4 l =>
 unc l fun t5 l =>
 unc l fun t6 l =>
 unc l fun t60 l =>
 unc l fun t61 l =>
 intW .lss t61 t60 fun t62 =>
 brV t62
 (ixS 1 t5 t61 fun t66 =>
 ldC t66 w fun t67 _ =>
 lenStr t67 fun t68 =>
 intW .gtr t68 (.int .i64 100) fun t69 =>
 brV t69
 (R (.bool true) w)
 (intW .add t61 (.int .i64 1) fun t70 =>
 r4 [t1, t2, t3, t4, t5, t6, t60, t70] w))
 (ldN 4 t6 w fun t72 _ =>
 callW Tryz.prog (.func (.func 6) #[] #[]) [t72] w fun t73 w =>
 exW t73 0 fun t74 =>
 exW t73 1 fun t75 =>
 fld 0 t6 fun t77 =>
 ldC t77 w fun t78 _ =>
 fld 1 t6 fun t79 =>
 ldC t79 w fun t80 _ =>
 fld 2 t6 fun t81 =>
 ldC t81 w fun t82 _ =>
 fld 3 t6 fun t83 =>
 ldC t83 w fun t84 _ =>
 fillL [(0, 1), (1, 1), (2, 1), (3, 1)] #[(.int .i64 0), (.int .i64 0), (.bool false), (.string ⟨#[]⟩)] [(0, t78), (1, t80), (2, t82), (3, t84)] fun t85 =>
 callW Tryz.prog (.func (.func 7) #[] #[]) [t85] w fun t86 w =>
 exW t86 0 fun t87 =>
 exW t86 1 fun t88 =>
 callW Tryz.prog (.func (.func 8) #[] #[]) [t1] w fun t91 w =>
 exW t91 0 fun t92 =>
 exW t91 1 fun t93 =>
 alW #[(.int .i64 0), (.int .i64 0), (.bool false), (.string ⟨#[]⟩)] 23 w fun t18 w =>
 stN 4 t18 t92 w fun w =>
 callW Tryz.prog (.func (.func 9) #[] #[]) [t1] w fun t96 w =>
 exW t96 0 fun t97 =>
 exW t96 1 fun t98 =>
 alW #[(.int .i64 0), (.int .i64 0), (.bool false), (.string ⟨#[]⟩)] 30 w fun t20 w =>
 stN 4 t20 t97 w fun w =>
 strW .neq t74 t87 fun t101 =>
 brV t101
 (jn (honeycomblaw13_FrameTells_J14 R) [] w)
 (nilW 6 .neq t75 t88 fun t105 =>
 brV t105
 (jn (honeycomblaw13_FrameTells_J14 R) [] w)
 (nilW 6 .neq t93 t98 fun t110 =>
 brV t110
 (jn (honeycomblaw13_FrameTells_J14 R) [] w)
 (ldN 4 t18 w fun t113 _ =>
 fld 0 t20 fun t114 =>
 ldC t114 w fun t115 _ =>
 fld 1 t20 fun t116 =>
 ldC t116 w fun t117 _ =>
 fld 2 t20 fun t118 =>
 ldC t118 w fun t119 _ =>
 fld 3 t20 fun t120 =>
 ldC t120 w fun t121 _ =>
 fillL [(0, 1), (1, 1), (2, 1), (3, 1)] #[(.int .i64 0), (.int .i64 0), (.bool false), (.string ⟨#[]⟩)] [(0, t115), (1, t117), (2, t119), (3, t121)] fun t122 =>
 yl Tryz.prog (semBin .neq 23 (.tmp 113) (.tmp 122) t113 t122) fun t123 =>
 brV t123
 (jn (honeycomblaw13_FrameTells_J14 R) [] w)
 (fillL [(0, 1), (1, 1), (2, 1), (3, 1), (4, 1), (5, 1), (6, 1), (7, 1), (8, 1), (9, 1), (10, 1), (11, 1), (12, 1), (13, 1), (14, 1), (15, 1), (16, 1), (17, 1)] #[(.slice none 0 0), (.slice none 0 0), (.slice none 0 0), (.slice none 0 0), (.slice none 0 0), (.slice none 0 0), (.slice none 0 0), (.slice none 0 0), (.slice none 0 0), (.slice none 0 0), (.slice none 0 0), (.slice none 0 0), (.slice none 0 0), (.slice none 0 0), (.slice none 0 0), (.slice none 0 0), (.slice none 0 0), (.slice none 0 0)] [] fun t125 =>
 alW (Value.cells t125) 46 w fun t126 w =>
 callW Tryz.prog (.func (.func 10) #[] #[]) [t4] w fun t128 w =>
 callW Tryz.prog (.func (.func 10) #[] #[]) [t5] w fun t130 w =>
 callW Tryz.prog (.func (.func 11) #[] #[]) [t2, t3, t128] w fun t135 w =>
 exW t135 0 fun t136 =>
 exW t135 1 fun t137 =>
 callW Tryz.prog (.func (.func 12) #[] #[]) [t2, t3, t4] w fun t142 w =>
 exW t142 0 fun t143 =>
 exW t142 1 fun t144 =>
 callW Tryz.prog (.func (.func 13) #[] #[]) [t126, t136] w fun t147 w =>
 callW Tryz.prog (.func (.func 14) #[] #[]) [t130] w fun t150 w =>
 exW t150 0 fun t151 =>
 exW t150 1 fun t152 =>
 exW t150 2 fun t153 =>
 callW Tryz.prog (.func (.func 15) #[] #[]) [t5] w fun t156 w =>
 exW t156 0 fun t157 =>
 exW t156 1 fun t158 =>
 exW t156 2 fun t159 =>
 callW Tryz.prog (.func (.func 13) #[] #[]) [t126, t151] w fun t162 w =>
 callW Tryz.prog (.func (.func 16) #[] #[]) [t136, t143] w fun t165 w =>
 brV t165
 (nilW 6 .eql t137 t144 fun t169 =>
 brV t169
 (callW Tryz.prog (.func (.func 17) #[] #[]) [t128] w fun t173 w =>
 callW Tryz.prog (.func (.func 18) #[] #[]) [t4] w fun t175 w =>
 intW .eql t173 t175 fun t176 =>
 brV t176
 (callW Tryz.prog (.func (.func 16) #[] #[]) [t151, t157] w fun t181 w =>
 brV t181
 (intW .eql t152 t158 fun t186 =>
 brV t186
 (intW .eql t153 t159 fun t191 =>
 brV t191
 (callW Tryz.prog (.func (.func 19) #[] #[]) [t128, t4] w fun t196 w =>
 brV t196
 (callW Tryz.prog (.func (.func 19) #[] #[]) [t130, t5] w fun t201 w =>
 brV t201
 (callW Tryz.prog (.func (.func 20) #[] #[]) [t126] w fun t205 w =>
 R t205 w)
 (R (.bool false) w))
 (R (.bool false) w))
 (R (.bool false) w))
 (R (.bool false) w))
 (R (.bool false) w))
 (R (.bool false) w))
 (R (.bool false) w))
 (R (.bool false) w))))))
/-- `honeycomb/honeycomblaw13.FrameTells` -/
def honeycomblaw13_FrameTells (a0 a1 a2 a3 a4 a5 : Value) (R : Value → World → Prop) (w : World) : Prop :=
 alW (Value.cells a0) 23 w fun t6 w =>
 fld 3 t6 fun t35 =>
 ldC t35 w fun t36 _ =>
 lenStr t36 fun t37 =>
 intW .gtr t37 (.int .i64 100) fun t38 =>
 brV t38
 (jn (honeycomblaw13_FrameTells_J2 R) [] w)
 (lenStr a1 fun t41 =>
 intW .gtr t41 (.int .i64 100) fun t42 =>
 brV t42
 (jn (honeycomblaw13_FrameTells_J2 R) [] w)
 (callW Tryz.prog (.func (.func 4) #[] #[]) [a4] w fun t46 w =>
 unW .not t46 fun t47 =>
 brV t47
 (jn (honeycomblaw13_FrameTells_J2 R) [] w)
 (lenSl a5 fun t51 =>
 intW .gtr t51 (.int .i64 40) fun t52 =>
 brV t52
 (jn (honeycomblaw13_FrameTells_J2 R) [] w)
 (callW Tryz.prog (.func (.func 5) #[] #[]) [] w fun t55 w =>
 unW .not t55 fun t56 =>
 brV t56
 (jn (honeycomblaw13_FrameTells_J2 R) [] w)
 (lenSl a5 fun t60 =>
 lp (honeycomblaw13_FrameTells_L4 R) [a1, a2, a3, a4, a5, t6, t60, (.int .i64 0)] w)))))
theorem honeycomblaw13_FrameTells_den (a0 a1 a2 a3 a4 a5 : Value) (R : Value → World → Prop) (w : World) : denF Tryz.prog Tryz.f3 (Tryz.f3.body.getD .skip) [(2, []), (14, [])] [(4, [1, 2, 3, 4, 5, 6, 60, 61])] [a0, a1, a2, a3, a4, a5] R w = honeycomblaw13_FrameTells a0 a1 a2 a3 a4 a5 R w := by kernel_rfl
set_option maxRecDepth 100000 in
theorem honeycomblaw13_FrameTells_run {a0 a1 a2 a3 a4 a5 : Value} {R : Value → World → Prop} {w : World} (h : honeycomblaw13_FrameTells a0 a1 a2 a3 a4 a5 R w) : Calls Tryz.prog 3 #[a0, a1, a2, a3, a4, a5] w (rt R) :=
  run_sound (c := Tryz.f3.body.getD .skip) (la := [(2, []), (14, [])]) (lb := [(4, [1, 2, 3, 4, 5, 6, 60, 61])]) (args := [a0, a1, a2, a3, a4, a5]) mixed Tryz.func3 (by kernel_rfl) (by kernel_rfl) (Nat.le_of_ble_eq_true (by kernel_rfl)) (Eq.mpr (honeycomblaw13_FrameTells_den a0 a1 a2 a3 a4 a5 R w) h)
theorem honeycomblaw13_FrameTells_body : hasBody Tryz.prog 3 = true := by kernel_rfl
theorem honeycomblaw13_FrameTells_call {a0 a1 a2 a3 a4 a5 : Value} {R : Value → World → Prop} {w : World} (h : Calls Tryz.prog 3 #[a0, a1, a2, a3, a4, a5] w (rt R)) : callW Tryz.prog (.func (.func 3) #[] #[]) [a0, a1, a2, a3, a4, a5] w R :=
  ⟨honeycomblaw13_FrameTells_body, h⟩
def honeycomblaw13_Few_L3 (R : Value → World → Prop) : (List Value → World → Prop) → List Value → World → Prop := fun r3 l w =>
 unc l fun t0 l =>
 unc l fun t3 l =>
 unc l fun t6 l =>
 unc l fun t7 l =>
 intW .lss t7 t6 fun t8 =>
 brV t8
 (ixS 1 t0 t7 fun t13 =>
 ldC t13 w fun t14 _ =>
 lenStr t14 fun t15 =>
 intW .add t3 t15 fun t16 =>
 intW .add t7 (.int .i64 1) fun t17 =>
 r3 [t0, t16, t6, t17] w)
 (lenSl t0 fun t19 =>
 intW .leq t19 (.int .i64 20) fun t20 =>
 brV t20
 (intW .leq t3 (.int .i64 1500) fun t23 =>
 R t23 w)
 (R (.bool false) w))
/-- `honeycomb/honeycomblaw13.Few` -/
def honeycomblaw13_Few (a0 : Value) (R : Value → World → Prop) (w : World) : Prop :=
 lenSl a0 fun t6 =>
 lp (honeycomblaw13_Few_L3 R) [a0, (.int .i64 0), t6, (.int .i64 0)] w
theorem honeycomblaw13_Few_den (a0 : Value) (R : Value → World → Prop) (w : World) : denF Tryz.prog Tryz.f4 (Tryz.f4.body.getD .skip) [] [(3, [0, 3, 6, 7])] [a0] R w = honeycomblaw13_Few a0 R w := by kernel_rfl
set_option maxRecDepth 100000 in
theorem honeycomblaw13_Few_run {a0 : Value} {R : Value → World → Prop} {w : World} (h : honeycomblaw13_Few a0 R w) : Calls Tryz.prog 4 #[a0] w (rt R) :=
  run_sound (c := Tryz.f4.body.getD .skip) (la := []) (lb := [(3, [0, 3, 6, 7])]) (args := [a0]) mixed Tryz.func4 (by kernel_rfl) (by kernel_rfl) (Nat.le_of_ble_eq_true (by kernel_rfl)) (Eq.mpr (honeycomblaw13_Few_den a0 R w) h)
theorem honeycomblaw13_Few_body : hasBody Tryz.prog 4 = true := by kernel_rfl
theorem honeycomblaw13_Few_call {a0 : Value} {R : Value → World → Prop} {w : World} (h : Calls Tryz.prog 4 #[a0] w (rt R)) : callW Tryz.prog (.func (.func 4) #[] #[]) [a0] w R :=
  ⟨honeycomblaw13_Few_body, h⟩
/-- `honeycomb/honeycomblaw13.alive` -/
def honeycomblaw13_alive (R : Value → World → Prop) (w : World) : Prop :=
 blS 9 1 #[(.string ⟨#[]⟩)] 2 [(0, (.string ⟨#[97, 98, 99]⟩)), (1, (.string ⟨#[100]⟩))] w fun t7 w =>
 callW Tryz.prog (.func (.func 11) #[] #[]) [(.int .i64 3), (.int .i64 0), t7] w fun t8 w =>
 exW t8 0 fun t9 =>
 exW t8 1 fun t10 =>
 callW Tryz.prog (.func (.func 14) #[] #[]) [t9] w fun t13 w =>
 exW t13 0 fun t14 =>
 exW t13 1 fun t15 =>
 exW t13 2 fun t16 =>
 brV t10
 (lenSl t9 fun t20 =>
 intW .eql t20 (.int .i64 1) fun t21 =>
 brV t21
 (ixS 1 t9 (.int .i64 0) fun t25 =>
 ldC t25 w fun t26 _ =>
 lenStr t26 fun t27 =>
 intW .eql t27 (.int .i64 64) fun t28 =>
 brV t28
 (ixS 1 t9 (.int .i64 0) fun t32 =>
 ldC t32 w fun t33 _ =>
 slStr t33 none (some (.int .i64 14)) none fun t34 =>
 strW .eql t34 (.string ⟨#[0, 0, 0, 3, 0, 0, 2, 8, 0, 3, 97, 98, 99, 0]⟩) fun t35 =>
 brV t35
 (blS 9 1 #[(.string ⟨#[]⟩)] 2 [(0, (.string ⟨#[97, 98, 99]⟩)), (1, (.string ⟨#[100]⟩))] w fun t39 w =>
 callW Tryz.prog (.func (.func 16) #[] #[]) [t14, t39] w fun t40 w =>
 brV t40
 (intW .eql t15 (.int .i64 1) fun t44 =>
 brV t44
 (intW .eql t16 (.int .i64 3) fun t48 =>
 brV t48
 (blS 9 1 #[(.string ⟨#[]⟩)] 1 [(0, (.string ⟨#[97, 98, 99]⟩))] w fun t51 w =>
 callW Tryz.prog (.func (.func 17) #[] #[]) [t51] w fun t52 w =>
 intW .eql t52 (.int .i64 1) fun t53 =>
 R t53 w)
 (R (.bool false) w))
 (R (.bool false) w))
 (R (.bool false) w))
 (R (.bool false) w))
 (R (.bool false) w))
 (R (.bool false) w))
 (R (.bool false) w)
theorem honeycomblaw13_alive_den (R : Value → World → Prop) (w : World) : denF Tryz.prog Tryz.f5 (Tryz.f5.body.getD .skip) [] [] [] R w = honeycomblaw13_alive  R w := by kernel_rfl
set_option maxRecDepth 100000 in
theorem honeycomblaw13_alive_run {R : Value → World → Prop} {w : World} (h : honeycomblaw13_alive  R w) : Calls Tryz.prog 5 #[] w (rt R) :=
  run_sound (c := Tryz.f5.body.getD .skip) (la := []) (lb := []) (args := []) mixed Tryz.func5 (by kernel_rfl) (by kernel_rfl) (Nat.le_of_ble_eq_true (by kernel_rfl)) (Eq.mpr (honeycomblaw13_alive_den  R w) h)
theorem honeycomblaw13_alive_body : hasBody Tryz.prog 5 = true := by kernel_rfl
theorem honeycomblaw13_alive_call {R : Value → World → Prop} {w : World} (h : Calls Tryz.prog 5 #[] w (rt R)) : callW Tryz.prog (.func (.func 5) #[] #[]) [] w R :=
  ⟨honeycomblaw13_alive_body, h⟩
def frame_Put_J2 (R : Value → World → Prop) : List Value → World → Prop := fun l w =>
 R (.tuple #[(.string ⟨#[]⟩), (.bool false)]) w
def frame_Put_J6 (R : Value → World → Prop) : List Value → World → Prop := fun l w =>
 unc l fun t1 l =>
 unc l fun t4 l =>
 fld 0 t1 fun t36 =>
 fld 1 t1 fun t39 =>
 cvI .u8 t4 fun t44 =>
 fld 3 t1 fun t45 =>
 fld 3 t1 fun t52 =>
 fld 3 t1 fun t55 =>
 ldC t36 w.drew fun t37 c1 =>
 ldC t39 w.drew fun t40 c4 =>
 ldC t45 w.drew fun t46 c10 =>
 lenStr t46 fun t47 =>
 cvI .u8 t47 fun t48 =>
 ldC t52 w.drew fun t53 c17 =>
 ldC t55 w.drew fun t56 c20 =>
 lenStr t56 fun t57 =>
 intW .sub (.int .i64 56) t57 fun t58 =>
 (callW Tryz.prog (.func (.func 21) #[] #[]) [t37, (.int .i64 4)] w.drew fun t38 w =>
 heldC [(20, c20), (17, c17), (10, c10), (4, c4)] w ((callW Tryz.prog (.func (.func 21) #[] #[]) [t40, (.int .i64 2)] w fun t41 w =>
 heldC [(20, c20), (17, c17), (10, c10)] w (strW .add t38 t41 fun t42 =>
 (blS 5 1 #[(.int .u8 0)] 2 [(0, t44), (1, t48)] w fun t49 w =>
 heldC [(20, c20), (17, c17), (10, c10)] w ((sm Tryz.prog (convert 60 9 t49) w fun t50 w =>
 heldC [(20, c20), (17, c17), (10, c10)] w (strW .add t42 t50 fun t51 =>
 strW .add t51 t53 fun t54 =>
 callW Tryz.prog (.func (.func 22) #[] #[]) [(.string ⟨#[0]⟩), t58] w fun t59 w =>
 heldC [(20, c20), (17, c17), (10, c10)] w (strW .add t54 t59 fun t60 =>
 R (.tuple #[t60, (.bool true)]) w))) ∧
 (callW Tryz.prog (.func (.func 22) #[] #[]) [(.string ⟨#[0]⟩), t58] w fun t59 w =>
 heldC [(20, c20), (17, c17), (10, c10)] w (sm Tryz.prog (convert 60 9 t49) w fun t50 w =>
 heldC [(20, c20), (17, c17), (10, c10)] w (strW .add t42 t50 fun t51 =>
 strW .add t51 t53 fun t54 =>
 strW .add t54 t59 fun t60 =>
 R (.tuple #[t60, (.bool true)]) w))))) ∧
 (callW Tryz.prog (.func (.func 22) #[] #[]) [(.string ⟨#[0]⟩), t58] w fun t59 w =>
 heldC [(20, c20), (17, c17), (10, c10)] w (blS 5 1 #[(.int .u8 0)] 2 [(0, t44), (1, t48)] w fun t49 w =>
 heldC [(20, c20), (17, c17), (10, c10)] w (sm Tryz.prog (convert 60 9 t49) w fun t50 w =>
 heldC [(20, c20), (17, c17), (10, c10)] w (strW .add t42 t50 fun t51 =>
 strW .add t51 t53 fun t54 =>
 strW .add t54 t59 fun t60 =>
 R (.tuple #[t60, (.bool true)]) w)))))) ∧
 (blS 5 1 #[(.int .u8 0)] 2 [(0, t44), (1, t48)] w fun t49 w =>
 heldC [(20, c20), (17, c17), (10, c10), (4, c4)] w ((callW Tryz.prog (.func (.func 21) #[] #[]) [t40, (.int .i64 2)] w fun t41 w =>
 heldC [(20, c20), (17, c17), (10, c10)] w (strW .add t38 t41 fun t42 =>
 (sm Tryz.prog (convert 60 9 t49) w fun t50 w =>
 heldC [(20, c20), (17, c17), (10, c10)] w (strW .add t42 t50 fun t51 =>
 strW .add t51 t53 fun t54 =>
 callW Tryz.prog (.func (.func 22) #[] #[]) [(.string ⟨#[0]⟩), t58] w fun t59 w =>
 heldC [(20, c20), (17, c17), (10, c10)] w (strW .add t54 t59 fun t60 =>
 R (.tuple #[t60, (.bool true)]) w))) ∧
 (callW Tryz.prog (.func (.func 22) #[] #[]) [(.string ⟨#[0]⟩), t58] w fun t59 w =>
 heldC [(20, c20), (17, c17), (10, c10)] w (sm Tryz.prog (convert 60 9 t49) w fun t50 w =>
 heldC [(20, c20), (17, c17), (10, c10)] w (strW .add t42 t50 fun t51 =>
 strW .add t51 t53 fun t54 =>
 strW .add t54 t59 fun t60 =>
 R (.tuple #[t60, (.bool true)]) w))))) ∧
 (sm Tryz.prog (convert 60 9 t49) w fun t50 w =>
 heldC [(20, c20), (17, c17), (10, c10), (4, c4)] w (callW Tryz.prog (.func (.func 21) #[] #[]) [t40, (.int .i64 2)] w fun t41 w =>
 heldC [(20, c20), (17, c17), (10, c10)] w (strW .add t38 t41 fun t42 =>
 strW .add t42 t50 fun t51 =>
 strW .add t51 t53 fun t54 =>
 callW Tryz.prog (.func (.func 22) #[] #[]) [(.string ⟨#[0]⟩), t58] w fun t59 w =>
 heldC [(20, c20), (17, c17), (10, c10)] w (strW .add t54 t59 fun t60 =>
 R (.tuple #[t60, (.bool true)]) w)))))))) ∧
 (blS 5 1 #[(.int .u8 0)] 2 [(0, t44), (1, t48)] w.drew fun t49 w =>
 heldC [(20, c20), (17, c17), (10, c10), (4, c4), (1, c1)] w ((callW Tryz.prog (.func (.func 21) #[] #[]) [t37, (.int .i64 4)] w fun t38 w =>
 heldC [(20, c20), (17, c17), (10, c10), (4, c4)] w ((callW Tryz.prog (.func (.func 21) #[] #[]) [t40, (.int .i64 2)] w fun t41 w =>
 heldC [(20, c20), (17, c17), (10, c10)] w (strW .add t38 t41 fun t42 =>
 (sm Tryz.prog (convert 60 9 t49) w fun t50 w =>
 heldC [(20, c20), (17, c17), (10, c10)] w (strW .add t42 t50 fun t51 =>
 strW .add t51 t53 fun t54 =>
 callW Tryz.prog (.func (.func 22) #[] #[]) [(.string ⟨#[0]⟩), t58] w fun t59 w =>
 heldC [(20, c20), (17, c17), (10, c10)] w (strW .add t54 t59 fun t60 =>
 R (.tuple #[t60, (.bool true)]) w))) ∧
 (callW Tryz.prog (.func (.func 22) #[] #[]) [(.string ⟨#[0]⟩), t58] w fun t59 w =>
 heldC [(20, c20), (17, c17), (10, c10)] w (sm Tryz.prog (convert 60 9 t49) w fun t50 w =>
 heldC [(20, c20), (17, c17), (10, c10)] w (strW .add t42 t50 fun t51 =>
 strW .add t51 t53 fun t54 =>
 strW .add t54 t59 fun t60 =>
 R (.tuple #[t60, (.bool true)]) w))))) ∧
 (sm Tryz.prog (convert 60 9 t49) w fun t50 w =>
 heldC [(20, c20), (17, c17), (10, c10), (4, c4)] w (callW Tryz.prog (.func (.func 21) #[] #[]) [t40, (.int .i64 2)] w fun t41 w =>
 heldC [(20, c20), (17, c17), (10, c10)] w (strW .add t38 t41 fun t42 =>
 strW .add t42 t50 fun t51 =>
 strW .add t51 t53 fun t54 =>
 callW Tryz.prog (.func (.func 22) #[] #[]) [(.string ⟨#[0]⟩), t58] w fun t59 w =>
 heldC [(20, c20), (17, c17), (10, c10)] w (strW .add t54 t59 fun t60 =>
 R (.tuple #[t60, (.bool true)]) w)))))) ∧
 (sm Tryz.prog (convert 60 9 t49) w fun t50 w =>
 heldC [(20, c20), (17, c17), (10, c10), (4, c4), (1, c1)] w (callW Tryz.prog (.func (.func 21) #[] #[]) [t37, (.int .i64 4)] w fun t38 w =>
 heldC [(20, c20), (17, c17), (10, c10), (4, c4)] w (callW Tryz.prog (.func (.func 21) #[] #[]) [t40, (.int .i64 2)] w fun t41 w =>
 heldC [(20, c20), (17, c17), (10, c10)] w (strW .add t38 t41 fun t42 =>
 strW .add t42 t50 fun t51 =>
 strW .add t51 t53 fun t54 =>
 callW Tryz.prog (.func (.func 22) #[] #[]) [(.string ⟨#[0]⟩), t58] w fun t59 w =>
 heldC [(20, c20), (17, c17), (10, c10)] w (strW .add t54 t59 fun t60 =>
 R (.tuple #[t60, (.bool true)]) w)))))))
/-- `honeycomb/frame.Put` -/
def frame_Put (a0 : Value) (R : Value → World → Prop) (w : World) : Prop :=
 alW (Value.cells a0) 23 w fun t1 w =>
 fld 0 t1 fun t5 =>
 ldC t5 w fun t6 _ =>
 intW .lss t6 (.int .i64 1) fun t7 =>
 brV t7
 (jn (frame_Put_J2 R) [] w)
 (fld 0 t1 fun t9 =>
 ldC t9 w fun t10 _ =>
 intW .gtr t10 (.int .i64 4294967295) fun t11 =>
 brV t11
 (jn (frame_Put_J2 R) [] w)
 (fld 1 t1 fun t14 =>
 ldC t14 w fun t15 _ =>
 intW .lss t15 (.int .i64 0) fun t16 =>
 brV t16
 (jn (frame_Put_J2 R) [] w)
 (fld 1 t1 fun t19 =>
 ldC t19 w fun t20 _ =>
 intW .gtr t20 (.int .i64 65535) fun t21 =>
 brV t21
 (jn (frame_Put_J2 R) [] w)
 (fld 3 t1 fun t24 =>
 ldC t24 w fun t25 _ =>
 strW .eql t25 (.string ⟨#[]⟩) fun t26 =>
 brV t26
 (jn (frame_Put_J2 R) [] w)
 (fld 3 t1 fun t29 =>
 ldC t29 w fun t30 _ =>
 lenStr t30 fun t31 =>
 intW .gtr t31 (.int .i64 56) fun t32 =>
 brV t32
 (jn (frame_Put_J2 R) [] w)
 (fld 2 t1 fun t34 =>
 ldC t34 w fun t35 _ =>
 brV t35
 (jn (frame_Put_J6 R) [t1, (.int .i64 2)] w)
 (jn (frame_Put_J6 R) [t1, (.int .i64 1)] w)))))))
theorem frame_Put_den (a0 : Value) (R : Value → World → Prop) (w : World) : denF Tryz.prog Tryz.f6 (Tryz.f6.body.getD .skip) [(2, []), (6, [1, 4])] [] [a0] R w = frame_Put a0 R w := by kernel_rfl
set_option maxRecDepth 100000 in
theorem frame_Put_run {a0 : Value} {R : Value → World → Prop} {w : World} (h : frame_Put a0 R w) : Calls Tryz.prog 6 #[a0] w (rt R) :=
  run_sound (c := Tryz.f6.body.getD .skip) (la := [(2, []), (6, [1, 4])]) (lb := []) (args := [a0]) mixed Tryz.func6 (by kernel_rfl) (by kernel_rfl) (Nat.le_of_ble_eq_true (by kernel_rfl)) (Eq.mpr (frame_Put_den a0 R w) h)
theorem frame_Put_body : hasBody Tryz.prog 6 = true := by kernel_rfl
theorem frame_Put_call {a0 : Value} {R : Value → World → Prop} {w : World} (h : Calls Tryz.prog 6 #[a0] w (rt R)) : callW Tryz.prog (.func (.func 6) #[] #[]) [a0] w R :=
  ⟨frame_Put_body, h⟩
def honeycombref1_SectorPut_J2 (R : Value → World → Prop) : List Value → World → Prop := fun l w =>
 R (.tuple #[(.string ⟨#[]⟩), (.bool false)]) w
def honeycombref1_SectorPut_J7 (R : Value → World → Prop) : List Value → World → Prop := fun l w =>
 unc l fun t5 l =>
 lenStr t5 fun t55 =>
 intW .sub (.int .i64 64) t55 fun t56 =>
 callW Tryz.prog (.func (.func 27) #[] #[]) [t56] w fun t57 w =>
 strW .add t5 t57 fun t58 =>
 R (.tuple #[t58, (.bool true)]) w
def honeycombref1_SectorPut_J6 (R : Value → World → Prop) : List Value → World → Prop := fun l w =>
 unc l fun t1 l =>
 unc l fun t4 l =>
 fld 0 t1 fun t35 =>
 fld 1 t1 fun t38 =>
 fld 3 t1 fun t43 =>
 fld 3 t1 fun t50 =>
 ldC t35 w.drew fun t36 c1 =>
 ldC t38 w.drew fun t39 c4 =>
 ldC t43 w.drew fun t44 c9 =>
 lenStr t44 fun t45 =>
 cvI .u8 t45 fun t46 =>
 ldC t50 w.drew fun t51 c16 =>
 (callW Tryz.prog (.func (.func 25) #[] #[]) [t36] w.drew fun t37 w =>
 heldC [(16, c16), (9, c9), (4, c4)] w ((callW Tryz.prog (.func (.func 26) #[] #[]) [t39] w fun t40 w =>
 heldC [(16, c16), (9, c9)] w (strW .add t37 t40 fun t41 =>
 blS 5 1 #[(.int .u8 0)] 2 [(0, t4), (1, t46)] w fun t47 w =>
 heldC [(16, c16), (9, c9)] w (sm Tryz.prog (convert 60 9 t47) w fun t48 w =>
 heldC [(16, c16), (9, c9)] w (strW .add t41 t48 fun t49 =>
 strW .add t49 t51 fun t52 =>
 jn (honeycombref1_SectorPut_J7 R) [t52] w)))) ∧
 (blS 5 1 #[(.int .u8 0)] 2 [(0, t4), (1, t46)] w fun t47 w =>
 heldC [(16, c16), (9, c9), (4, c4)] w ((callW Tryz.prog (.func (.func 26) #[] #[]) [t39] w fun t40 w =>
 heldC [(16, c16), (9, c9)] w (strW .add t37 t40 fun t41 =>
 sm Tryz.prog (convert 60 9 t47) w fun t48 w =>
 heldC [(16, c16), (9, c9)] w (strW .add t41 t48 fun t49 =>
 strW .add t49 t51 fun t52 =>
 jn (honeycombref1_SectorPut_J7 R) [t52] w))) ∧
 (sm Tryz.prog (convert 60 9 t47) w fun t48 w =>
 heldC [(16, c16), (9, c9), (4, c4)] w (callW Tryz.prog (.func (.func 26) #[] #[]) [t39] w fun t40 w =>
 heldC [(16, c16), (9, c9)] w (strW .add t37 t40 fun t41 =>
 strW .add t41 t48 fun t49 =>
 strW .add t49 t51 fun t52 =>
 jn (honeycombref1_SectorPut_J7 R) [t52] w))))))) ∧
 (blS 5 1 #[(.int .u8 0)] 2 [(0, t4), (1, t46)] w.drew fun t47 w =>
 heldC [(16, c16), (9, c9), (4, c4), (1, c1)] w ((callW Tryz.prog (.func (.func 25) #[] #[]) [t36] w fun t37 w =>
 heldC [(16, c16), (9, c9), (4, c4)] w ((callW Tryz.prog (.func (.func 26) #[] #[]) [t39] w fun t40 w =>
 heldC [(16, c16), (9, c9)] w (strW .add t37 t40 fun t41 =>
 sm Tryz.prog (convert 60 9 t47) w fun t48 w =>
 heldC [(16, c16), (9, c9)] w (strW .add t41 t48 fun t49 =>
 strW .add t49 t51 fun t52 =>
 jn (honeycombref1_SectorPut_J7 R) [t52] w))) ∧
 (sm Tryz.prog (convert 60 9 t47) w fun t48 w =>
 heldC [(16, c16), (9, c9), (4, c4)] w (callW Tryz.prog (.func (.func 26) #[] #[]) [t39] w fun t40 w =>
 heldC [(16, c16), (9, c9)] w (strW .add t37 t40 fun t41 =>
 strW .add t41 t48 fun t49 =>
 strW .add t49 t51 fun t52 =>
 jn (honeycombref1_SectorPut_J7 R) [t52] w))))) ∧
 (sm Tryz.prog (convert 60 9 t47) w fun t48 w =>
 heldC [(16, c16), (9, c9), (4, c4), (1, c1)] w (callW Tryz.prog (.func (.func 25) #[] #[]) [t36] w fun t37 w =>
 heldC [(16, c16), (9, c9), (4, c4)] w (callW Tryz.prog (.func (.func 26) #[] #[]) [t39] w fun t40 w =>
 heldC [(16, c16), (9, c9)] w (strW .add t37 t40 fun t41 =>
 strW .add t41 t48 fun t49 =>
 strW .add t49 t51 fun t52 =>
 jn (honeycombref1_SectorPut_J7 R) [t52] w))))))
/-- `honeycomb/honeycombref1.SectorPut` -/
def honeycombref1_SectorPut (a0 : Value) (R : Value → World → Prop) (w : World) : Prop :=
 alW (Value.cells a0) 30 w fun t1 w =>
 fld 0 t1 fun t6 =>
 ldC t6 w fun t7 _ =>
 intW .lss t7 (.int .i64 1) fun t8 =>
 brV t8
 (jn (honeycombref1_SectorPut_J2 R) [] w)
 (fld 0 t1 fun t10 =>
 ldC t10 w fun t11 _ =>
 callW Tryz.prog (.func (.func 23) #[] #[]) [t11] w fun t12 w =>
 unW .not t12 fun t13 =>
 brV t13
 (jn (honeycombref1_SectorPut_J2 R) [] w)
 (fld 1 t1 fun t16 =>
 ldC t16 w fun t17 _ =>
 callW Tryz.prog (.func (.func 24) #[] #[]) [t17] w fun t18 w =>
 unW .not t18 fun t19 =>
 brV t19
 (jn (honeycombref1_SectorPut_J2 R) [] w)
 (fld 3 t1 fun t22 =>
 ldC t22 w fun t23 _ =>
 lenStr t23 fun t24 =>
 intW .lss t24 (.int .i64 1) fun t25 =>
 brV t25
 (jn (honeycombref1_SectorPut_J2 R) [] w)
 (fld 3 t1 fun t28 =>
 ldC t28 w fun t29 _ =>
 lenStr t29 fun t30 =>
 intW .gtr t30 (.int .i64 56) fun t31 =>
 brV t31
 (jn (honeycombref1_SectorPut_J2 R) [] w)
 (fld 2 t1 fun t33 =>
 ldC t33 w fun t34 _ =>
 brV t34
 (jn (honeycombref1_SectorPut_J6 R) [t1, (.int .u8 2)] w)
 (jn (honeycombref1_SectorPut_J6 R) [t1, (.int .u8 1)] w))))))
theorem honeycombref1_SectorPut_den (a0 : Value) (R : Value → World → Prop) (w : World) : denF Tryz.prog Tryz.f7 (Tryz.f7.body.getD .skip) [(2, []), (6, [1, 4]), (7, [5])] [] [a0] R w = honeycombref1_SectorPut a0 R w := by kernel_rfl
set_option maxRecDepth 100000 in
theorem honeycombref1_SectorPut_run {a0 : Value} {R : Value → World → Prop} {w : World} (h : honeycombref1_SectorPut a0 R w) : Calls Tryz.prog 7 #[a0] w (rt R) :=
  run_sound (c := Tryz.f7.body.getD .skip) (la := [(2, []), (6, [1, 4]), (7, [5])]) (lb := []) (args := [a0]) mixed Tryz.func7 (by kernel_rfl) (by kernel_rfl) (Nat.le_of_ble_eq_true (by kernel_rfl)) (Eq.mpr (honeycombref1_SectorPut_den a0 R w) h)
theorem honeycombref1_SectorPut_body : hasBody Tryz.prog 7 = true := by kernel_rfl
theorem honeycombref1_SectorPut_call {a0 : Value} {R : Value → World → Prop} {w : World} (h : Calls Tryz.prog 7 #[a0] w (rt R)) : callW Tryz.prog (.func (.func 7) #[] #[]) [a0] w R :=
  ⟨honeycombref1_SectorPut_body, h⟩
def frame_Get_J2 (R : Value → World → Prop) : List Value → World → Prop := fun l w =>
 unc l fun t2 l =>
 fillL [(0, 1), (1, 1), (2, 1), (3, 1)] #[(.int .i64 0), (.int .i64 0), (.bool false), (.string ⟨#[]⟩)] [] fun t16 =>
 stN 4 t2 t16 w fun w =>
 ldN 4 t2 w fun v_4 _ =>
 R (.tuple #[v_4, (.bool false)]) w
def frame_Get_J6 (R : Value → World → Prop) : List Value → World → Prop := fun l w =>
 unc l fun t2 l =>
 fillL [(0, 1), (1, 1), (2, 1), (3, 1)] #[(.int .i64 0), (.int .i64 0), (.bool false), (.string ⟨#[]⟩)] [] fun t45 =>
 stN 4 t2 t45 w fun w =>
 ldN 4 t2 w fun v_5 _ =>
 R (.tuple #[v_5, (.bool false)]) w
def frame_Get_J4 (R : Value → World → Prop) : List Value → World → Prop := fun l w =>
 unc l fun t0 l =>
 unc l fun t2 l =>
 unc l fun t4 l =>
 ldN 4 t4 w fun t34 _ =>
 callW Tryz.prog (.func (.func 6) #[] #[]) [t34] w fun t35 w =>
 exW t35 0 fun t36 =>
 exW t35 1 fun t37 =>
 unW .not t37 fun t39 =>
 brV t39
 (jn (frame_Get_J6 R) [t2] w)
 (strW .neq t36 t0 fun t43 =>
 brV t43
 (jn (frame_Get_J6 R) [t2] w)
 (ldN 4 t4 w fun t46 _ =>
 stN 4 t2 t46 w fun w =>
 ldN 4 t2 w fun v_6 _ =>
 R (.tuple #[v_6, (.bool true)]) w))
/-- `honeycomb/frame.Get` -/
def frame_Get (a0 : Value) (R : Value → World → Prop) (w : World) : Prop :=
 alW #[(.int .i64 0), (.int .i64 0), (.bool false), (.string ⟨#[]⟩)] 23 w fun t2 w =>
 lenStr a0 fun t8 =>
 intW .neq t8 (.int .i64 64) fun t9 =>
 brV t9
 (jn (frame_Get_J2 R) [t2] w)
 (ixStr a0 (.int .i64 7) fun t12 =>
 cvI .i64 t12 fun t13 =>
 intW .gtr t13 (.int .i64 56) fun t14 =>
 brV t14
 (jn (frame_Get_J2 R) [t2] w)
 (slStr a0 none (some (.int .i64 4)) none fun t18 =>
 slStr a0 (some (.int .i64 4)) (some (.int .i64 6)) none fun t21 =>
 ixStr a0 (.int .i64 6) fun t24 =>
 intW .eql t24 (.int .u8 2) fun t25 =>
 ixStr a0 (.int .i64 7) fun t28 =>
 cvI .i64 t28 fun t29 =>
 intW .add (.int .i64 8) t29 fun t30 =>
 slStr a0 (some (.int .i64 8)) (some t30) none fun t31 =>
 (callW Tryz.prog (.func (.func 28) #[] #[]) [t18] w.drew fun t19 w =>
 (callW Tryz.prog (.func (.func 28) #[] #[]) [t21] w fun t22 w =>
 fillL [(0, 1), (1, 1), (2, 1), (3, 1)] #[(.int .i64 0), (.int .i64 0), (.bool false), (.string ⟨#[]⟩)] [(0, t19), (1, t22), (2, t25), (3, t31)] fun t32 =>
 alW #[(.int .i64 0), (.int .i64 0), (.bool false), (.string ⟨#[]⟩)] 23 w fun t4 w =>
 stN 4 t4 t32 w fun w =>
 jn (frame_Get_J4 R) [a0, t2, t4] w) ∧
 (alW #[(.int .i64 0), (.int .i64 0), (.bool false), (.string ⟨#[]⟩)] 23 w fun t4 w =>
 callW Tryz.prog (.func (.func 28) #[] #[]) [t21] w fun t22 w =>
 fillL [(0, 1), (1, 1), (2, 1), (3, 1)] #[(.int .i64 0), (.int .i64 0), (.bool false), (.string ⟨#[]⟩)] [(0, t19), (1, t22), (2, t25), (3, t31)] fun t32 =>
 stN 4 t4 t32 w fun w =>
 jn (frame_Get_J4 R) [a0, t2, t4] w)) ∧
 (alW #[(.int .i64 0), (.int .i64 0), (.bool false), (.string ⟨#[]⟩)] 23 w.drew fun t4 w =>
 callW Tryz.prog (.func (.func 28) #[] #[]) [t18] w fun t19 w =>
 callW Tryz.prog (.func (.func 28) #[] #[]) [t21] w fun t22 w =>
 fillL [(0, 1), (1, 1), (2, 1), (3, 1)] #[(.int .i64 0), (.int .i64 0), (.bool false), (.string ⟨#[]⟩)] [(0, t19), (1, t22), (2, t25), (3, t31)] fun t32 =>
 stN 4 t4 t32 w fun w =>
 jn (frame_Get_J4 R) [a0, t2, t4] w)))
theorem frame_Get_den (a0 : Value) (R : Value → World → Prop) (w : World) : denF Tryz.prog Tryz.f8 (Tryz.f8.body.getD .skip) [(2, [2]), (4, [0, 2, 4]), (6, [2])] [] [a0] R w = frame_Get a0 R w := by kernel_rfl
set_option maxRecDepth 100000 in
theorem frame_Get_run {a0 : Value} {R : Value → World → Prop} {w : World} (h : frame_Get a0 R w) : Calls Tryz.prog 8 #[a0] w (rt R) :=
  run_sound (c := Tryz.f8.body.getD .skip) (la := [(2, [2]), (4, [0, 2, 4]), (6, [2])]) (lb := []) (args := [a0]) mixed Tryz.func8 (by kernel_rfl) (by kernel_rfl) (Nat.le_of_ble_eq_true (by kernel_rfl)) (Eq.mpr (frame_Get_den a0 R w) h)
theorem frame_Get_body : hasBody Tryz.prog 8 = true := by kernel_rfl
theorem frame_Get_call {a0 : Value} {R : Value → World → Prop} {w : World} (h : Calls Tryz.prog 8 #[a0] w (rt R)) : callW Tryz.prog (.func (.func 8) #[] #[]) [a0] w R :=
  ⟨frame_Get_body, h⟩
def honeycombref1_SectorGet_J2 (R : Value → World → Prop) : List Value → World → Prop := fun l w =>
 unc l fun t2 l =>
 fillL [(0, 1), (1, 1), (2, 1), (3, 1)] #[(.int .i64 0), (.int .i64 0), (.bool false), (.string ⟨#[]⟩)] [] fun t16 =>
 stN 4 t2 t16 w fun w =>
 ldN 4 t2 w fun v_4 _ =>
 R (.tuple #[v_4, (.bool false)]) w
def honeycombref1_SectorGet_J6 (R : Value → World → Prop) : List Value → World → Prop := fun l w =>
 unc l fun t2 l =>
 fillL [(0, 1), (1, 1), (2, 1), (3, 1)] #[(.int .i64 0), (.int .i64 0), (.bool false), (.string ⟨#[]⟩)] [] fun t45 =>
 stN 4 t2 t45 w fun w =>
 ldN 4 t2 w fun v_5 _ =>
 R (.tuple #[v_5, (.bool false)]) w
def honeycombref1_SectorGet_J4 (R : Value → World → Prop) : List Value → World → Prop := fun l w =>
 unc l fun t0 l =>
 unc l fun t2 l =>
 unc l fun t4 l =>
 ldN 4 t4 w fun t34 _ =>
 callW Tryz.prog (.func (.func 7) #[] #[]) [t34] w fun t35 w =>
 exW t35 0 fun t36 =>
 exW t35 1 fun t37 =>
 unW .not t37 fun t39 =>
 brV t39
 (jn (honeycombref1_SectorGet_J6 R) [t2] w)
 (strW .neq t36 t0 fun t43 =>
 brV t43
 (jn (honeycombref1_SectorGet_J6 R) [t2] w)
 (ldN 4 t4 w fun t46 _ =>
 stN 4 t2 t46 w fun w =>
 ldN 4 t2 w fun v_6 _ =>
 R (.tuple #[v_6, (.bool true)]) w))
/-- `honeycomb/honeycombref1.SectorGet` -/
def honeycombref1_SectorGet (a0 : Value) (R : Value → World → Prop) (w : World) : Prop :=
 alW #[(.int .i64 0), (.int .i64 0), (.bool false), (.string ⟨#[]⟩)] 30 w fun t2 w =>
 lenStr a0 fun t8 =>
 intW .neq t8 (.int .i64 64) fun t9 =>
 brV t9
 (jn (honeycombref1_SectorGet_J2 R) [t2] w)
 (ixStr a0 (.int .i64 7) fun t12 =>
 cvI .i64 t12 fun t13 =>
 intW .gtr t13 (.int .i64 56) fun t14 =>
 brV t14
 (jn (honeycombref1_SectorGet_J2 R) [t2] w)
 (slStr a0 none (some (.int .i64 4)) none fun t18 =>
 slStr a0 (some (.int .i64 4)) (some (.int .i64 6)) none fun t21 =>
 ixStr a0 (.int .i64 6) fun t24 =>
 intW .eql t24 (.int .u8 2) fun t25 =>
 ixStr a0 (.int .i64 7) fun t28 =>
 cvI .i64 t28 fun t29 =>
 intW .add (.int .i64 8) t29 fun t30 =>
 slStr a0 (some (.int .i64 8)) (some t30) none fun t31 =>
 (callW Tryz.prog (.func (.func 29) #[] #[]) [t18] w.drew fun t19 w =>
 (callW Tryz.prog (.func (.func 29) #[] #[]) [t21] w fun t22 w =>
 fillL [(0, 1), (1, 1), (2, 1), (3, 1)] #[(.int .i64 0), (.int .i64 0), (.bool false), (.string ⟨#[]⟩)] [(0, t19), (1, t22), (2, t25), (3, t31)] fun t32 =>
 alW #[(.int .i64 0), (.int .i64 0), (.bool false), (.string ⟨#[]⟩)] 30 w fun t4 w =>
 stN 4 t4 t32 w fun w =>
 jn (honeycombref1_SectorGet_J4 R) [a0, t2, t4] w) ∧
 (alW #[(.int .i64 0), (.int .i64 0), (.bool false), (.string ⟨#[]⟩)] 30 w fun t4 w =>
 callW Tryz.prog (.func (.func 29) #[] #[]) [t21] w fun t22 w =>
 fillL [(0, 1), (1, 1), (2, 1), (3, 1)] #[(.int .i64 0), (.int .i64 0), (.bool false), (.string ⟨#[]⟩)] [(0, t19), (1, t22), (2, t25), (3, t31)] fun t32 =>
 stN 4 t4 t32 w fun w =>
 jn (honeycombref1_SectorGet_J4 R) [a0, t2, t4] w)) ∧
 (alW #[(.int .i64 0), (.int .i64 0), (.bool false), (.string ⟨#[]⟩)] 30 w.drew fun t4 w =>
 callW Tryz.prog (.func (.func 29) #[] #[]) [t18] w fun t19 w =>
 callW Tryz.prog (.func (.func 29) #[] #[]) [t21] w fun t22 w =>
 fillL [(0, 1), (1, 1), (2, 1), (3, 1)] #[(.int .i64 0), (.int .i64 0), (.bool false), (.string ⟨#[]⟩)] [(0, t19), (1, t22), (2, t25), (3, t31)] fun t32 =>
 stN 4 t4 t32 w fun w =>
 jn (honeycombref1_SectorGet_J4 R) [a0, t2, t4] w)))
theorem honeycombref1_SectorGet_den (a0 : Value) (R : Value → World → Prop) (w : World) : denF Tryz.prog Tryz.f9 (Tryz.f9.body.getD .skip) [(2, [2]), (4, [0, 2, 4]), (6, [2])] [] [a0] R w = honeycombref1_SectorGet a0 R w := by kernel_rfl
set_option maxRecDepth 100000 in
theorem honeycombref1_SectorGet_run {a0 : Value} {R : Value → World → Prop} {w : World} (h : honeycombref1_SectorGet a0 R w) : Calls Tryz.prog 9 #[a0] w (rt R) :=
  run_sound (c := Tryz.f9.body.getD .skip) (la := [(2, [2]), (4, [0, 2, 4]), (6, [2])]) (lb := []) (args := [a0]) mixed Tryz.func9 (by kernel_rfl) (by kernel_rfl) (Nat.le_of_ble_eq_true (by kernel_rfl)) (Eq.mpr (honeycombref1_SectorGet_den a0 R w) h)
theorem honeycombref1_SectorGet_body : hasBody Tryz.prog 9 = true := by kernel_rfl
theorem honeycombref1_SectorGet_call {a0 : Value} {R : Value → World → Prop} {w : World} (h : Calls Tryz.prog 9 #[a0] w (rt R)) : callW Tryz.prog (.func (.func 9) #[] #[]) [a0] w R :=
  ⟨honeycombref1_SectorGet_body, h⟩
/-- `honeycomb/honeycombbook.LentTexts` -/
def honeycombbook_LentTexts (a0 : Value) (R : Value → World → Prop) (w : World) : Prop :=
 callW Tryz.prog (.func (.func 30) #[] #[]) [a0] w fun t4 w =>
 blS 9 1 #[(.string ⟨#[]⟩)] 1 [(0, (.string ⟨#[109, 97, 114, 107]⟩))] w fun t5 w =>
 sm Tryz.prog (bi .append #[24, 24] 24 [t4, t5]) w fun t6 w =>
 lenSl a0 fun t8 =>
 slSl 1 t6 none (some t8) none fun t9 =>
 R t9 w
theorem honeycombbook_LentTexts_den (a0 : Value) (R : Value → World → Prop) (w : World) : denF Tryz.prog Tryz.f10 (Tryz.f10.body.getD .skip) [] [] [a0] R w = honeycombbook_LentTexts a0 R w := by kernel_rfl
set_option maxRecDepth 100000 in
theorem honeycombbook_LentTexts_run {a0 : Value} {R : Value → World → Prop} {w : World} (h : honeycombbook_LentTexts a0 R w) : Calls Tryz.prog 10 #[a0] w (rt R) :=
  run_sound (c := Tryz.f10.body.getD .skip) (la := []) (lb := []) (args := [a0]) mixed Tryz.func10 (by kernel_rfl) (by kernel_rfl) (Nat.le_of_ble_eq_true (by kernel_rfl)) (Eq.mpr (honeycombbook_LentTexts_den a0 R w) h)
theorem honeycombbook_LentTexts_body : hasBody Tryz.prog 10 = true := by kernel_rfl
theorem honeycombbook_LentTexts_call {a0 : Value} {R : Value → World → Prop} {w : World} (h : Calls Tryz.prog 10 #[a0] w (rt R)) : callW Tryz.prog (.func (.func 10) #[] #[]) [a0] w R :=
  ⟨honeycombbook_LentTexts_body, h⟩
def frame_Batch_L6 (R : Value → World → Prop) : (List Value → World → Prop) → List Value → World → Prop := fun r6 l w =>
 unc l fun t0 l =>
 unc l fun t1 l =>
 unc l fun t8 l =>
 unc l fun t9 l =>
 unc l fun t10 l =>
 strW .neq t8 (.string ⟨#[]⟩) fun t19 =>
 brV t19
 (lenStr t8 fun t21 =>
 yl Tryz.prog (Builtin.min_ #[3, 3] 3 [t21, (.int .i64 56)].toArray) fun t22 =>
 slStr t8 none (some t22) none fun t29 =>
 fillL [(0, 1), (1, 1), (2, 1), (3, 1)] #[(.int .i64 0), (.int .i64 0), (.bool false), (.string ⟨#[]⟩)] [(0, t0), (1, t1), (2, t10), (3, t29)] fun t30 =>
 callW Tryz.prog (.func (.func 6) #[] #[]) [t30] w fun t31 w =>
 exW t31 0 fun t32 =>
 exW t31 1 fun t33 =>
 unW .not t33 fun t35 =>
 brV t35
 (R (.tuple #[(.slice none 0 0), (.bool false)]) w)
 (blS 9 1 #[(.string ⟨#[]⟩)] 1 [(0, t32)] w fun t38 w =>
 sm Tryz.prog (bi .append #[24, 24] 24 [t9, t38]) w fun t39 w =>
 slStr t8 (some t22) none none fun t42 =>
 intW .add t1 (.int .i64 1) fun t44 =>
 r6 [t0, t44, t42, t39, (.bool false)] w))
 (R (.tuple #[t9, (.bool true)]) w)
/-- `honeycomb/frame.Batch` -/
def frame_Batch (a0 a1 a2 : Value) (R : Value → World → Prop) (w : World) : Prop :=
 callW Tryz.prog (.func (.func 31) #[] #[]) [a2] w fun t15 w =>
 strW .eql t15 (.string ⟨#[]⟩) fun t17 =>
 brV t17
 (R (.tuple #[(.slice none 0 0), (.bool false)]) w)
 (lp (frame_Batch_L6 R) [a0, a1, t15, (.slice none 0 0), (.bool true)] w)
theorem frame_Batch_den (a0 a1 a2 : Value) (R : Value → World → Prop) (w : World) : denF Tryz.prog Tryz.f11 (Tryz.f11.body.getD .skip) [] [(6, [0, 1, 8, 9, 10])] [a0, a1, a2] R w = frame_Batch a0 a1 a2 R w := by kernel_rfl
set_option maxRecDepth 100000 in
theorem frame_Batch_run {a0 a1 a2 : Value} {R : Value → World → Prop} {w : World} (h : frame_Batch a0 a1 a2 R w) : Calls Tryz.prog 11 #[a0, a1, a2] w (rt R) :=
  run_sound (c := Tryz.f11.body.getD .skip) (la := []) (lb := [(6, [0, 1, 8, 9, 10])]) (args := [a0, a1, a2]) mixed Tryz.func11 (by kernel_rfl) (by kernel_rfl) (Nat.le_of_ble_eq_true (by kernel_rfl)) (Eq.mpr (frame_Batch_den a0 a1 a2 R w) h)
theorem frame_Batch_body : hasBody Tryz.prog 11 = true := by kernel_rfl
theorem frame_Batch_call {a0 a1 a2 : Value} {R : Value → World → Prop} {w : World} (h : Calls Tryz.prog 11 #[a0, a1, a2] w (rt R)) : callW Tryz.prog (.func (.func 11) #[] #[]) [a0, a1, a2] w R :=
  ⟨frame_Batch_body, h⟩
def honeycombref1_Batch_L6 (R : Value → World → Prop) : (List Value → World → Prop) → List Value → World → Prop := fun r6 l w =>
 unc l fun t0 l =>
 unc l fun t1 l =>
 unc l fun t8 l =>
 unc l fun t10 l =>
 unc l fun t11 l =>
 lenStr t8 fun t23 =>
 intW .lss t11 t23 fun t24 =>
 brV t24
 (intW .quo t11 (.int .i64 56) fun t31 =>
 intW .add t1 t31 fun t32 =>
 intW .eql t11 (.int .i64 0) fun t34 =>
 intW .add t11 (.int .i64 56) fun t38 =>
 lenStr t8 fun t40 =>
 yl Tryz.prog (Builtin.min_ #[3, 3] 3 [t38, t40].toArray) fun t41 =>
 slStr t8 (some t11) (some t41) none fun t42 =>
 fillL [(0, 1), (1, 1), (2, 1), (3, 1)] #[(.int .i64 0), (.int .i64 0), (.bool false), (.string ⟨#[]⟩)] [(0, t0), (1, t32), (2, t34), (3, t42)] fun t43 =>
 callW Tryz.prog (.func (.func 7) #[] #[]) [t43] w fun t44 w =>
 exW t44 0 fun t45 =>
 exW t44 1 fun t46 =>
 unW .not t46 fun t48 =>
 brV t48
 (R (.tuple #[(.slice none 0 0), (.bool false)]) w)
 (blS 9 1 #[(.string ⟨#[]⟩)] 1 [(0, t45)] w fun t51 w =>
 sm Tryz.prog (bi .append #[24, 24] 24 [t10, t51]) w fun t52 w =>
 intW .add t11 (.int .i64 56) fun t26 =>
 r6 [t0, t1, t8, t52, t26] w))
 (R (.tuple #[t10, (.bool true)]) w)
/-- `honeycomb/honeycombref1.Batch` -/
def honeycombref1_Batch (a0 a1 a2 : Value) (R : Value → World → Prop) (w : World) : Prop :=
 callW Tryz.prog (.func (.func 32) #[] #[]) [a2] w fun t16 w =>
 exW t16 0 fun t17 =>
 exW t16 1 fun t18 =>
 unW .not t18 fun t20 =>
 brV t20
 (R (.tuple #[(.slice none 0 0), (.bool false)]) w)
 (lp (honeycombref1_Batch_L6 R) [a0, a1, t17, (.slice none 0 0), (.int .i64 0)] w)
theorem honeycombref1_Batch_den (a0 a1 a2 : Value) (R : Value → World → Prop) (w : World) : denF Tryz.prog Tryz.f12 (Tryz.f12.body.getD .skip) [] [(6, [0, 1, 8, 10, 11])] [a0, a1, a2] R w = honeycombref1_Batch a0 a1 a2 R w := by kernel_rfl
set_option maxRecDepth 100000 in
theorem honeycombref1_Batch_run {a0 a1 a2 : Value} {R : Value → World → Prop} {w : World} (h : honeycombref1_Batch a0 a1 a2 R w) : Calls Tryz.prog 12 #[a0, a1, a2] w (rt R) :=
  run_sound (c := Tryz.f12.body.getD .skip) (la := []) (lb := [(6, [0, 1, 8, 10, 11])]) (args := [a0, a1, a2]) mixed Tryz.func12 (by kernel_rfl) (by kernel_rfl) (Nat.le_of_ble_eq_true (by kernel_rfl)) (Eq.mpr (honeycombref1_Batch_den a0 a1 a2 R w) h)
theorem honeycombref1_Batch_body : hasBody Tryz.prog 12 = true := by kernel_rfl
theorem honeycombref1_Batch_call {a0 a1 a2 : Value} {R : Value → World → Prop} {w : World} (h : Calls Tryz.prog 12 #[a0, a1, a2] w (rt R)) : callW Tryz.prog (.func (.func 12) #[] #[]) [a0, a1, a2] w R :=
  ⟨honeycombref1_Batch_body, h⟩
/-- `(*honeycomb/honeycombbook.Book).Texts` -/
def honeycombbook_Book_Texts (a0 a1 : Value) (R : Value → World → Prop) (w : World) : Prop :=
 nckW a0 fun t5 =>
 fld 2 t5 fun t6 =>
 ldC t6 w fun t7 _ =>
 lenSl t7 fun t8 =>
 intW .lss t8 (.int .i64 250) fun t9 =>
 brV t9
 (nckW a0 fun t12 =>
 fld 2 t12 fun t13 =>
 ldC t13 w fun t14 _ =>
 blS 24 1 #[(.slice none 0 0)] 1 [(0, a1)] w fun t16 w =>
 sm Tryz.prog (bi .append #[37, 37] 37 [t14, t16]) w fun t17 w =>
 nckW a0 fun t18 =>
 fld 2 t18 fun t19 =>
 1 = 1 ∧ stC t19 t17 w fun w =>
 nckW a0 fun t22 =>
 fld 3 t22 fun t23 =>
 ldC t23 w.drew fun t24 c4 =>
 callW Tryz.prog (.func (.func 30) #[] #[]) [a1] w.drew fun t26 w =>
 heldC [(4, c4)] w (blS 24 1 #[(.slice none 0 0)] 1 [(0, t26)] w fun t27 w =>
 heldC [(4, c4)] w (sm Tryz.prog (bi .append #[37, 37] 37 [t24, t27]) w fun t28 w =>
 nckW a0 fun t29 =>
 fld 3 t29 fun t30 =>
 1 = 1 ∧ stC t30 t28 w fun w =>
 R (.tuple #[]) w)))
 (R (.tuple #[]) w)
theorem honeycombbook_Book_Texts_den (a0 a1 : Value) (R : Value → World → Prop) (w : World) : denF Tryz.prog Tryz.f13 (Tryz.f13.body.getD .skip) [] [] [a0, a1] R w = honeycombbook_Book_Texts a0 a1 R w := by kernel_rfl
set_option maxRecDepth 100000 in
theorem honeycombbook_Book_Texts_run {a0 a1 : Value} {R : Value → World → Prop} {w : World} (h : honeycombbook_Book_Texts a0 a1 R w) : Calls Tryz.prog 13 #[a0, a1] w (rt R) :=
  run_sound (c := Tryz.f13.body.getD .skip) (la := []) (lb := []) (args := [a0, a1]) mixed Tryz.func13 (by kernel_rfl) (by kernel_rfl) (Nat.le_of_ble_eq_true (by kernel_rfl)) (Eq.mpr (honeycombbook_Book_Texts_den a0 a1 R w) h)
theorem honeycombbook_Book_Texts_body : hasBody Tryz.prog 13 = true := by kernel_rfl
theorem honeycombbook_Book_Texts_call {a0 a1 : Value} {R : Value → World → Prop} {w : World} (h : Calls Tryz.prog 13 #[a0, a1] w (rt R)) : callW Tryz.prog (.func (.func 13) #[] #[]) [a0, a1] w R :=
  ⟨honeycombbook_Book_Texts_body, h⟩
def frame_Scan_J8 (R : Value → World → Prop) : List Value → World → Prop := fun l w =>
 unc l fun t5 l =>
 fld 4 t5 fun t21 =>
 fld 5 t5 fun t23 =>
 fld 6 t5 fun t25 =>
 ldC t21 w.drew fun t22 c1 =>
 ldC t23 w.drew fun t24 c3 =>
 ldC t25 w.drew fun t26 c5 =>
 R (.tuple #[t22, t24, t26]) w.drew
def frame_Scan_L4 (R : Value → World → Prop) : (List Value → World → Prop) → List Value → World → Prop := fun r4 l w =>
 unc l fun t5 l =>
 unc l fun t6 l =>
 unc l fun t10 l =>
 unc l fun t11 l =>
 unc l fun t12 l =>
 intW .lss t12 t11 fun t13 =>
 brV t13
 (ixS 1 t10 t12 fun t14 =>
 ldC t14 w fun t15 _ =>
 callW Tryz.prog t6 [t15] w fun t18 w =>
 unW .not t18 fun t19 =>
 brV t19
 (jn (frame_Scan_J8 R) [t5] w)
 (intW .add t12 (.int .i64 1) fun t20 =>
 r4 [t5, t6, t10, t11, t20] w))
 (jn (frame_Scan_J8 R) [t5] w)
/-- `honeycomb/frame.Scan` -/
def frame_Scan (a0 : Value) (R : Value → World → Prop) (w : World) : Prop :=
 alW #[(.string ⟨#[]⟩), (.bool false), (.int .i64 0), (.int .i64 0), (.slice none 0 0), (.int .i64 0), (.int .i64 0)] 68 w fun t5 w =>
 lenSl a0 fun t11 =>
 lp (frame_Scan_L4 R) [t5, (.func (.func 33) #[t5] #[]), a0, t11, (.int .i64 0)] w
theorem frame_Scan_den (a0 : Value) (R : Value → World → Prop) (w : World) : denF Tryz.prog Tryz.f14 (Tryz.f14.body.getD .skip) [(8, [5])] [(4, [5, 6, 10, 11, 12])] [a0] R w = frame_Scan a0 R w := by kernel_rfl
set_option maxRecDepth 100000 in
theorem frame_Scan_run {a0 : Value} {R : Value → World → Prop} {w : World} (h : frame_Scan a0 R w) : Calls Tryz.prog 14 #[a0] w (rt R) :=
  run_sound (c := Tryz.f14.body.getD .skip) (la := [(8, [5])]) (lb := [(4, [5, 6, 10, 11, 12])]) (args := [a0]) mixed Tryz.func14 (by kernel_rfl) (by kernel_rfl) (Nat.le_of_ble_eq_true (by kernel_rfl)) (Eq.mpr (frame_Scan_den a0 R w) h)
theorem frame_Scan_body : hasBody Tryz.prog 14 = true := by kernel_rfl
theorem frame_Scan_call {a0 : Value} {R : Value → World → Prop} {w : World} (h : Calls Tryz.prog 14 #[a0] w (rt R)) : callW Tryz.prog (.func (.func 14) #[] #[]) [a0] w R :=
  ⟨frame_Scan_body, h⟩
def honeycombref1_Scan_J21 (R : Value → World → Prop) : List Value → World → Prop := fun l w =>
 unc l fun t5 l =>
 unc l fun t6 l =>
 unc l fun t7 l =>
 R (.tuple #[t5, t6, t7]) w
def honeycombref1_Scan_J7 (R : Value → World → Prop) (r6 : List Value → World → Prop) : List Value → World → Prop := fun l w =>
 unc l fun t0 l =>
 unc l fun t5 l =>
 unc l fun t6 l =>
 unc l fun t7 l =>
 unc l fun t8 l =>
 unc l fun t9 l =>
 unc l fun t10 l =>
 unc l fun t11 l =>
 intW .add t11 (.int .i64 1) fun t20 =>
 r6 [t0, t5, t6, t7, t8, t9, t10, t20] w
def honeycombref1_Scan_L14 (R : Value → World → Prop) (r6 : List Value → World → Prop) : (List Value → World → Prop) → List Value → World → Prop := fun r14 l w =>
 unc l fun t0 l =>
 unc l fun t5 l =>
 unc l fun t6 l =>
 unc l fun t7 l =>
 unc l fun t8 l =>
 unc l fun t9 l =>
 unc l fun t10 l =>
 unc l fun t11 l =>
 unc l fun t12 l =>
 unW .not t10 fun t63 =>
 brV t63
 (lenStr t9 fun t66 =>
 intW .geq t66 (.int .i64 2) fun t67 =>
 brV t67
 (lenStr t9 fun t71 =>
 slStr t9 none (some (.int .i64 2)) none fun t73 =>
 callW Tryz.prog (.func (.func 29) #[] #[]) [t73] w fun t74 w =>
 intW .add (.int .i64 2) t74 fun t75 =>
 intW .geq t71 t75 fun t76 =>
 brV t76
 (slStr t9 none (some (.int .i64 2)) none fun t79 =>
 callW Tryz.prog (.func (.func 29) #[] #[]) [t79] w fun t80 w =>
 intW .eql t80 (.int .i64 0) fun t82 =>
 brV t82
 (jn (honeycombref1_Scan_J7 R r6) [t0, t5, t6, t7, t8, t9, (.bool true), t11] w)
 (intW .add (.int .i64 2) t80 fun t86 =>
 slStr t9 (some (.int .i64 2)) (some t86) none fun t87 =>
 blS 9 1 #[(.string ⟨#[]⟩)] 1 [(0, t87)] w fun t88 w =>
 sm Tryz.prog (bi .append #[24, 24] 24 [t5, t88]) w fun t89 w =>
 intW .add (.int .i64 2) t80 fun t92 =>
 slStr t9 (some t92) none none fun t93 =>
 intW .add t11 (.int .i64 1) fun t95 =>
 fld 0 t12 fun t96 =>
 ldC t96 w.drew fun t97 c3 =>
 r14 [t0, t89, t95, t97, t8, t93, t10, t11, t12] w.drew))
 (jn (honeycombref1_Scan_J7 R r6) [t0, t5, t6, t7, t8, t9, t10, t11] w))
 (jn (honeycombref1_Scan_J7 R r6) [t0, t5, t6, t7, t8, t9, t10, t11] w))
 (jn (honeycombref1_Scan_J7 R r6) [t0, t5, t6, t7, t8, t9, t10, t11] w)
def honeycombref1_Scan_J12 (R : Value → World → Prop) (r6 : List Value → World → Prop) : List Value → World → Prop := fun l w =>
 unc l fun t0 l =>
 unc l fun t5 l =>
 unc l fun t6 l =>
 unc l fun t7 l =>
 unc l fun t9 l =>
 unc l fun t10 l =>
 unc l fun t11 l =>
 unc l fun t12 l =>
 fld 0 t12 fun t56 =>
 ldC t56 w fun t57 _ =>
 fld 3 t12 fun t59 =>
 ldC t59 w fun t60 _ =>
 strW .add t9 t60 fun t61 =>
 lp (honeycombref1_Scan_L14 R r6) [t0, t5, t6, t7, t57, t61, t10, t11, t12] w
def honeycombref1_Scan_J10 (R : Value → World → Prop) (r6 : List Value → World → Prop) : List Value → World → Prop := fun l w =>
 unc l fun t0 l =>
 unc l fun t5 l =>
 unc l fun t6 l =>
 unc l fun t7 l =>
 unc l fun t9 l =>
 unc l fun t10 l =>
 unc l fun t11 l =>
 unc l fun t12 l =>
 fld 2 t12 fun t54 =>
 ldC t54 w fun t55 _ =>
 brV t55
 (jn (honeycombref1_Scan_J12 R r6) [t0, t5, t6, t7, (.string ⟨#[]⟩), (.bool false), t11, t12] w)
 (jn (honeycombref1_Scan_J12 R r6) [t0, t5, t6, t7, t9, t10, t11, t12] w)
def honeycombref1_Scan_L6 (R : Value → World → Prop) : (List Value → World → Prop) → List Value → World → Prop := fun r6 l w =>
 unc l fun t0 l =>
 unc l fun t5 l =>
 unc l fun t6 l =>
 unc l fun t7 l =>
 unc l fun t8 l =>
 unc l fun t9 l =>
 unc l fun t10 l =>
 unc l fun t11 l =>
 lenSl t0 fun t17 =>
 intW .lss t11 t17 fun t18 =>
 brV t18
 (ixS 1 t0 t11 fun t24 =>
 ldC t24 w fun t25 _ =>
 callW Tryz.prog (.func (.func 9) #[] #[]) [t25] w fun t26 w =>
 exW t26 0 fun t27 =>
 exW t26 1 fun t28 =>
 alW #[(.int .i64 0), (.int .i64 0), (.bool false), (.string ⟨#[]⟩)] 30 w fun t12 w =>
 stN 4 t12 t27 w fun w =>
 unW .not t28 fun t30 =>
 brV t30
 (jn (honeycombref1_Scan_J21 R) [t5, t6, t7] w)
 (fld 1 t12 fun t32 =>
 ldC t32 w fun t33 _ =>
 intW .neq t33 t11 fun t35 =>
 brV t35
 (jn (honeycombref1_Scan_J21 R) [t5, t6, t7] w)
 (fld 0 t12 fun t38 =>
 ldC t38 w fun t39 _ =>
 intW .lss t39 t8 fun t41 =>
 brV t41
 (jn (honeycombref1_Scan_J21 R) [t5, t6, t7] w)
 (fld 0 t12 fun t44 =>
 ldC t44 w fun t45 _ =>
 intW .neq t45 t8 fun t47 =>
 brV t47
 (fld 2 t12 fun t49 =>
 ldC t49 w fun t50 _ =>
 unW .not t50 fun t51 =>
 brV t51
 (jn (honeycombref1_Scan_J21 R) [t5, t6, t7] w)
 (jn (honeycombref1_Scan_J10 R r6) [t0, t5, t6, t7, t9, t10, t11, t12] w))
 (jn (honeycombref1_Scan_J10 R r6) [t0, t5, t6, t7, t9, t10, t11, t12] w)))))
 (jn (honeycombref1_Scan_J21 R) [t5, t6, t7] w)
/-- `honeycomb/honeycombref1.Scan` -/
def honeycombref1_Scan (a0 : Value) (R : Value → World → Prop) (w : World) : Prop :=
 lp (honeycombref1_Scan_L6 R) [a0, (.slice none 0 0), (.int .i64 0), (.int .i64 0), (.int .i64 0), (.string ⟨#[]⟩), (.bool false), (.int .i64 0)] w
theorem honeycombref1_Scan_den (a0 : Value) (R : Value → World → Prop) (w : World) : denF Tryz.prog Tryz.f15 (Tryz.f15.body.getD .skip) [(7, [0, 5, 6, 7, 8, 9, 10, 11]), (10, [0, 5, 6, 7, 9, 10, 11, 12]), (12, [0, 5, 6, 7, 9, 10, 11, 12]), (21, [5, 6, 7])] [(6, [0, 5, 6, 7, 8, 9, 10, 11]), (14, [0, 5, 6, 7, 8, 9, 10, 11, 12])] [a0] R w = honeycombref1_Scan a0 R w := by kernel_rfl
set_option maxRecDepth 100000 in
theorem honeycombref1_Scan_run {a0 : Value} {R : Value → World → Prop} {w : World} (h : honeycombref1_Scan a0 R w) : Calls Tryz.prog 15 #[a0] w (rt R) :=
  run_sound (c := Tryz.f15.body.getD .skip) (la := [(7, [0, 5, 6, 7, 8, 9, 10, 11]), (10, [0, 5, 6, 7, 9, 10, 11, 12]), (12, [0, 5, 6, 7, 9, 10, 11, 12]), (21, [5, 6, 7])]) (lb := [(6, [0, 5, 6, 7, 8, 9, 10, 11]), (14, [0, 5, 6, 7, 8, 9, 10, 11, 12])]) (args := [a0]) mixed Tryz.func15 (by kernel_rfl) (by kernel_rfl) (Nat.le_of_ble_eq_true (by kernel_rfl)) (Eq.mpr (honeycombref1_Scan_den a0 R w) h)
theorem honeycombref1_Scan_body : hasBody Tryz.prog 15 = true := by kernel_rfl
theorem honeycombref1_Scan_call {a0 : Value} {R : Value → World → Prop} {w : World} (h : Calls Tryz.prog 15 #[a0] w (rt R)) : callW Tryz.prog (.func (.func 15) #[] #[]) [a0] w R :=
  ⟨honeycombref1_Scan_body, h⟩
def honeycombbook_SameTexts_L4 (R : Value → World → Prop) : (List Value → World → Prop) → List Value → World → Prop := fun r4 l w =>
 unc l fun t0 l =>
 unc l fun t1 l =>
 unc l fun t5 l =>
 lenSl t0 fun t13 =>
 intW .lss t5 t13 fun t14 =>
 brV t14
 (ixS 1 t0 t5 fun t19 =>
 ixS 1 t1 t5 fun t23 =>
 ldC t19 w.drew fun t20 c3 =>
 ldC t23 w.drew fun t24 c7 =>
 strW .eql t20 t24 fun t25 =>
 unW .not t25 fun t26 =>
 brV t26
 (R (.bool false) w.drew)
 (intW .add t5 (.int .i64 1) fun t16 =>
 r4 [t0, t1, t16] w.drew))
 (R (.bool true) w)
/-- `honeycomb/honeycombbook.SameTexts` -/
def honeycombbook_SameTexts (a0 a1 : Value) (R : Value → World → Prop) (w : World) : Prop :=
 lenSl a0 fun t7 =>
 lenSl a1 fun t9 =>
 intW .neq t7 t9 fun t10 =>
 brV t10
 (R (.bool false) w)
 (lp (honeycombbook_SameTexts_L4 R) [a0, a1, (.int .i64 0)] w)
theorem honeycombbook_SameTexts_den (a0 a1 : Value) (R : Value → World → Prop) (w : World) : denF Tryz.prog Tryz.f16 (Tryz.f16.body.getD .skip) [] [(4, [0, 1, 5])] [a0, a1] R w = honeycombbook_SameTexts a0 a1 R w := by kernel_rfl
set_option maxRecDepth 100000 in
theorem honeycombbook_SameTexts_run {a0 a1 : Value} {R : Value → World → Prop} {w : World} (h : honeycombbook_SameTexts a0 a1 R w) : Calls Tryz.prog 16 #[a0, a1] w (rt R) :=
  run_sound (c := Tryz.f16.body.getD .skip) (la := []) (lb := [(4, [0, 1, 5])]) (args := [a0, a1]) mixed Tryz.func16 (by kernel_rfl) (by kernel_rfl) (Nat.le_of_ble_eq_true (by kernel_rfl)) (Eq.mpr (honeycombbook_SameTexts_den a0 a1 R w) h)
theorem honeycombbook_SameTexts_body : hasBody Tryz.prog 16 = true := by kernel_rfl
theorem honeycombbook_SameTexts_call {a0 a1 : Value} {R : Value → World → Prop} {w : World} (h : Calls Tryz.prog 16 #[a0, a1] w (rt R)) : callW Tryz.prog (.func (.func 16) #[] #[]) [a0, a1] w R :=
  ⟨honeycombbook_SameTexts_body, h⟩
/-- `honeycomb/frame.Count` -/
def frame_Count (a0 : Value) (R : Value → World → Prop) (w : World) : Prop :=
 callW Tryz.prog (.func (.func 31) #[] #[]) [a0] w fun t4 w =>
 lenStr t4 fun t5 =>
 intW .add t5 (.int .i64 56) fun t6 =>
 intW .sub t6 (.int .i64 1) fun t7 =>
 intW .quo t7 (.int .i64 56) fun t8 =>
 R t8 w
theorem frame_Count_den (a0 : Value) (R : Value → World → Prop) (w : World) : denF Tryz.prog Tryz.f17 (Tryz.f17.body.getD .skip) [] [] [a0] R w = frame_Count a0 R w := by kernel_rfl
set_option maxRecDepth 100000 in
theorem frame_Count_run {a0 : Value} {R : Value → World → Prop} {w : World} (h : frame_Count a0 R w) : Calls Tryz.prog 17 #[a0] w (rt R) :=
  run_sound (c := Tryz.f17.body.getD .skip) (la := []) (lb := []) (args := [a0]) mixed Tryz.func17 (by kernel_rfl) (by kernel_rfl) (Nat.le_of_ble_eq_true (by kernel_rfl)) (Eq.mpr (frame_Count_den a0 R w) h)
theorem frame_Count_body : hasBody Tryz.prog 17 = true := by kernel_rfl
theorem frame_Count_call {a0 : Value} {R : Value → World → Prop} {w : World} (h : Calls Tryz.prog 17 #[a0] w (rt R)) : callW Tryz.prog (.func (.func 17) #[] #[]) [a0] w R :=
  ⟨frame_Count_body, h⟩
/-- `honeycomb/honeycombref1.Count` -/
def honeycombref1_Count (a0 : Value) (R : Value → World → Prop) (w : World) : Prop :=
 callW Tryz.prog (.func (.func 32) #[] #[]) [a0] w fun t7 w =>
 exW t7 0 fun t8 =>
 exW t7 1 fun t9 =>
 unW .not t9 fun t11 =>
 brV t11
 (R (.int .i64 0) w)
 (lenStr t8 fun t13 =>
 intW .add t13 (.int .i64 56) fun t14 =>
 intW .sub t14 (.int .i64 1) fun t15 =>
 intW .quo t15 (.int .i64 56) fun t16 =>
 R t16 w)
theorem honeycombref1_Count_den (a0 : Value) (R : Value → World → Prop) (w : World) : denF Tryz.prog Tryz.f18 (Tryz.f18.body.getD .skip) [] [] [a0] R w = honeycombref1_Count a0 R w := by kernel_rfl
set_option maxRecDepth 100000 in
theorem honeycombref1_Count_run {a0 : Value} {R : Value → World → Prop} {w : World} (h : honeycombref1_Count a0 R w) : Calls Tryz.prog 18 #[a0] w (rt R) :=
  run_sound (c := Tryz.f18.body.getD .skip) (la := []) (lb := []) (args := [a0]) mixed Tryz.func18 (by kernel_rfl) (by kernel_rfl) (Nat.le_of_ble_eq_true (by kernel_rfl)) (Eq.mpr (honeycombref1_Count_den a0 R w) h)
theorem honeycombref1_Count_body : hasBody Tryz.prog 18 = true := by kernel_rfl
theorem honeycombref1_Count_call {a0 : Value} {R : Value → World → Prop} {w : World} (h : Calls Tryz.prog 18 #[a0] w (rt R)) : callW Tryz.prog (.func (.func 18) #[] #[]) [a0] w R :=
  ⟨honeycombref1_Count_body, h⟩
/-- `honeycomb/honeycombbook.StaysTexts` -/
def honeycombbook_StaysTexts (a0 a1 : Value) (R : Value → World → Prop) (w : World) : Prop :=
 callW Tryz.prog (.func (.func 16) #[] #[]) [a0, a1] w fun t7 w =>
 brV t7
 (lenSl a0 fun t11 =>
 intW .add t11 (.int .i64 1) fun t12 =>
 slSl 1 a0 none (some t12) none fun t13 =>
 lenSl a0 fun t15 =>
 ixS 1 t13 t15 fun t16 =>
 ldC t16 w fun t17 _ =>
 strW .eql t17 (.string ⟨#[109, 97, 114, 107]⟩) fun t18 =>
 R t18 w)
 (R (.bool false) w)
theorem honeycombbook_StaysTexts_den (a0 a1 : Value) (R : Value → World → Prop) (w : World) : denF Tryz.prog Tryz.f19 (Tryz.f19.body.getD .skip) [] [] [a0, a1] R w = honeycombbook_StaysTexts a0 a1 R w := by kernel_rfl
set_option maxRecDepth 100000 in
theorem honeycombbook_StaysTexts_run {a0 a1 : Value} {R : Value → World → Prop} {w : World} (h : honeycombbook_StaysTexts a0 a1 R w) : Calls Tryz.prog 19 #[a0, a1] w (rt R) :=
  run_sound (c := Tryz.f19.body.getD .skip) (la := []) (lb := []) (args := [a0, a1]) mixed Tryz.func19 (by kernel_rfl) (by kernel_rfl) (Nat.le_of_ble_eq_true (by kernel_rfl)) (Eq.mpr (honeycombbook_StaysTexts_den a0 a1 R w) h)
theorem honeycombbook_StaysTexts_body : hasBody Tryz.prog 19 = true := by kernel_rfl
theorem honeycombbook_StaysTexts_call {a0 a1 : Value} {R : Value → World → Prop} {w : World} (h : Calls Tryz.prog 19 #[a0, a1] w (rt R)) : callW Tryz.prog (.func (.func 19) #[] #[]) [a0, a1] w R :=
  ⟨honeycombbook_StaysTexts_body, h⟩
/-- `(*honeycomb/honeycombbook.Book).Apart` -/
def honeycombbook_Book_Apart (a0 : Value) (R : Value → World → Prop) (w : World) : Prop :=
 callW Tryz.prog (.func (.func 34) #[] #[]) [a0] w fun t13 w =>
 unW .not t13 fun t14 =>
 brV t14
 (R (.bool false) w)
 (callW Tryz.prog (.func (.func 35) #[] #[]) [a0] w fun t16 w =>
 unW .not t16 fun t17 =>
 brV t17
 (R (.bool false) w)
 (callW Tryz.prog (.func (.func 36) #[] #[]) [a0] w fun t19 w =>
 unW .not t19 fun t20 =>
 brV t20
 (R (.bool false) w)
 (callW Tryz.prog (.func (.func 37) #[] #[]) [a0] w fun t22 w =>
 unW .not t22 fun t23 =>
 brV t23
 (R (.bool false) w)
 (callW Tryz.prog (.func (.func 38) #[] #[]) [a0] w fun t25 w =>
 unW .not t25 fun t26 =>
 brV t26
 (R (.bool false) w)
 (callW Tryz.prog (.func (.func 39) #[] #[]) [a0] w fun t28 w =>
 unW .not t28 fun t29 =>
 brV t29
 (R (.bool false) w)
 (callW Tryz.prog (.func (.func 40) #[] #[]) [a0] w fun t31 w =>
 unW .not t31 fun t32 =>
 brV t32
 (R (.bool false) w)
 (callW Tryz.prog (.func (.func 41) #[] #[]) [a0] w fun t34 w =>
 unW .not t34 fun t35 =>
 brV t35
 (R (.bool false) w)
 (callW Tryz.prog (.func (.func 42) #[] #[]) [a0] w fun t37 w =>
 unW .not t37 fun t38 =>
 brV t38
 (R (.bool false) w)
 (callW Tryz.prog (.func (.func 43) #[] #[]) [a0] w fun t40 w =>
 callW Tryz.prog (.func (.func 44) #[] #[]) [a0] w fun t42 w =>
 callW Tryz.prog (.func (.func 45) #[] #[]) [a0] w fun t44 w =>
 callW Tryz.prog (.func (.func 46) #[] #[]) [a0] w fun t46 w =>
 callW Tryz.prog (.func (.func 47) #[] #[]) [a0] w fun t48 w =>
 callW Tryz.prog (.func (.func 48) #[] #[]) [a0] w fun t50 w =>
 callW Tryz.prog (.func (.func 49) #[] #[]) [a0] w fun t52 w =>
 callW Tryz.prog (.func (.func 50) #[] #[]) [a0] w fun t54 w =>
 callW Tryz.prog (.func (.func 51) #[] #[]) [a0] w fun t56 w =>
 callW Tryz.prog (.func (.func 52) #[] #[]) [a0] w fun t58 w =>
 callW Tryz.prog (.func (.func 53) #[] #[]) [a0] w fun t60 w =>
 callW Tryz.prog (.func (.func 54) #[] #[]) [a0] w fun t62 w =>
 callW Tryz.prog (.func (.func 55) #[] #[]) [a0] w fun t64 w =>
 callW Tryz.prog (.func (.func 56) #[] #[]) [a0] w fun t66 w =>
 callW Tryz.prog (.func (.func 57) #[] #[]) [a0] w fun t68 w =>
 callW Tryz.prog (.func (.func 58) #[] #[]) [a0] w fun t70 w =>
 callW Tryz.prog (.func (.func 59) #[] #[]) [a0] w fun t72 w =>
 callW Tryz.prog (.func (.func 60) #[] #[]) [a0] w fun t74 w =>
 callW Tryz.prog (.func (.func 61) #[] #[]) [t58] w fun t76 w =>
 brV t76
 (nckW a0 fun t79 =>
 fld 0 t79 fun t80 =>
 ldC t80 w fun t81 _ =>
 callW Tryz.prog (.func (.func 61) #[] #[]) [t81] w fun t82 w =>
 brV t82
 (callW Tryz.prog (.func (.func 62) #[] #[]) [t60] w fun t86 w =>
 brV t86
 (nckW a0 fun t90 =>
 fld 2 t90 fun t91 =>
 ldC t91 w fun t92 _ =>
 callW Tryz.prog (.func (.func 62) #[] #[]) [t92] w fun t93 w =>
 brV t93
 (callW Tryz.prog (.func (.func 63) #[] #[]) [t62] w fun t97 w =>
 brV t97
 (nckW a0 fun t101 =>
 fld 4 t101 fun t102 =>
 ldC t102 w fun t103 _ =>
 callW Tryz.prog (.func (.func 63) #[] #[]) [t103] w fun t104 w =>
 brV t104
 (callW Tryz.prog (.func (.func 64) #[] #[]) [t64] w fun t108 w =>
 brV t108
 (nckW a0 fun t112 =>
 fld 6 t112 fun t113 =>
 ldC t113 w fun t114 _ =>
 callW Tryz.prog (.func (.func 64) #[] #[]) [t114] w fun t115 w =>
 brV t115
 (callW Tryz.prog (.func (.func 65) #[] #[]) [t66] w fun t119 w =>
 brV t119
 (nckW a0 fun t123 =>
 fld 8 t123 fun t124 =>
 ldC t124 w fun t125 _ =>
 callW Tryz.prog (.func (.func 65) #[] #[]) [t125] w fun t126 w =>
 brV t126
 (callW Tryz.prog (.func (.func 66) #[] #[]) [t68] w fun t130 w =>
 brV t130
 (nckW a0 fun t134 =>
 fld 10 t134 fun t135 =>
 ldC t135 w fun t136 _ =>
 callW Tryz.prog (.func (.func 66) #[] #[]) [t136] w fun t137 w =>
 brV t137
 (callW Tryz.prog (.func (.func 67) #[] #[]) [t70] w fun t141 w =>
 brV t141
 (nckW a0 fun t145 =>
 fld 12 t145 fun t146 =>
 ldC t146 w fun t147 _ =>
 callW Tryz.prog (.func (.func 67) #[] #[]) [t147] w fun t148 w =>
 brV t148
 (callW Tryz.prog (.func (.func 68) #[] #[]) [t72] w fun t152 w =>
 brV t152
 (nckW a0 fun t156 =>
 fld 14 t156 fun t157 =>
 ldC t157 w fun t158 _ =>
 callW Tryz.prog (.func (.func 68) #[] #[]) [t158] w fun t159 w =>
 brV t159
 (callW Tryz.prog (.func (.func 69) #[] #[]) [t74] w fun t163 w =>
 brV t163
 (nckW a0 fun t167 =>
 fld 16 t167 fun t168 =>
 ldC t168 w fun t169 _ =>
 callW Tryz.prog (.func (.func 69) #[] #[]) [t169] w fun t170 w =>
 R t170 w)
 (R (.bool false) w))
 (R (.bool false) w))
 (R (.bool false) w))
 (R (.bool false) w))
 (R (.bool false) w))
 (R (.bool false) w))
 (R (.bool false) w))
 (R (.bool false) w))
 (R (.bool false) w))
 (R (.bool false) w))
 (R (.bool false) w))
 (R (.bool false) w))
 (R (.bool false) w))
 (R (.bool false) w))
 (R (.bool false) w))
 (R (.bool false) w))
 (R (.bool false) w))))))))))
theorem honeycombbook_Book_Apart_den (a0 : Value) (R : Value → World → Prop) (w : World) : denF Tryz.prog Tryz.f20 (Tryz.f20.body.getD .skip) [] [] [a0] R w = honeycombbook_Book_Apart a0 R w := by kernel_rfl
set_option maxRecDepth 100000 in
theorem honeycombbook_Book_Apart_run {a0 : Value} {R : Value → World → Prop} {w : World} (h : honeycombbook_Book_Apart a0 R w) : Calls Tryz.prog 20 #[a0] w (rt R) :=
  run_sound (c := Tryz.f20.body.getD .skip) (la := []) (lb := []) (args := [a0]) mixed Tryz.func20 (by kernel_rfl) (by kernel_rfl) (Nat.le_of_ble_eq_true (by kernel_rfl)) (Eq.mpr (honeycombbook_Book_Apart_den a0 R w) h)
theorem honeycombbook_Book_Apart_body : hasBody Tryz.prog 20 = true := by kernel_rfl
theorem honeycombbook_Book_Apart_call {a0 : Value} {R : Value → World → Prop} {w : World} (h : Calls Tryz.prog 20 #[a0] w (rt R)) : callW Tryz.prog (.func (.func 20) #[] #[]) [a0] w R :=
  ⟨honeycombbook_Book_Apart_body, h⟩
def frame_number_L3 (R : Value → World → Prop) : (List Value → World → Prop) → List Value → World → Prop := fun r3 l w =>
 unc l fun t0 l =>
 unc l fun t1 l =>
 unc l fun t5 l =>
 intW .geq t1 (.int .i64 0) fun t9 =>
 brV t9
 (intW .mul (.int .i64 8) t1 fun t15 =>
 shW .shr t0 t15 fun t16 =>
 cvI .u8 t16 fun t17 =>
 blS 5 1 #[(.int .u8 0)] 1 [(0, t17)] w fun t18 w =>
 sm Tryz.prog (bi .append #[60, 60] 60 [t5, t18]) w fun t19 w =>
 intW .sub t1 (.int .i64 1) fun t11 =>
 r3 [t0, t11, t19] w)
 (sm Tryz.prog (convert 60 9 t5) w fun t21 w =>
 R t21 w)
/-- `honeycomb/frame.number` -/
def frame_number (a0 a1 : Value) (R : Value → World → Prop) (w : World) : Prop :=
 intW .sub a1 (.int .i64 1) fun t7 =>
 lp (frame_number_L3 R) [a0, t7, (.slice none 0 0)] w
theorem frame_number_den (a0 a1 : Value) (R : Value → World → Prop) (w : World) : denF Tryz.prog Tryz.f21 (Tryz.f21.body.getD .skip) [] [(3, [0, 1, 5])] [a0, a1] R w = frame_number a0 a1 R w := by kernel_rfl
set_option maxRecDepth 100000 in
theorem frame_number_run {a0 a1 : Value} {R : Value → World → Prop} {w : World} (h : frame_number a0 a1 R w) : Calls Tryz.prog 21 #[a0, a1] w (rt R) :=
  run_sound (c := Tryz.f21.body.getD .skip) (la := []) (lb := [(3, [0, 1, 5])]) (args := [a0, a1]) mixed Tryz.func21 (by kernel_rfl) (by kernel_rfl) (Nat.le_of_ble_eq_true (by kernel_rfl)) (Eq.mpr (frame_number_den a0 a1 R w) h)
theorem frame_number_body : hasBody Tryz.prog 21 = true := by kernel_rfl
theorem frame_number_call {a0 a1 : Value} {R : Value → World → Prop} {w : World} (h : Calls Tryz.prog 21 #[a0, a1] w (rt R)) : callW Tryz.prog (.func (.func 21) #[] #[]) [a0, a1] w R :=
  ⟨frame_number_body, h⟩
/-- `honeycomb/honeycombref1.four` -/
def honeycombref1_four (a0 : Value) (R : Value → World → Prop) (w : World) : Prop :=
 intW .geq a0 (.int .i64 0) fun t4 =>
 brV t4
 (intW .leq a0 (.int .i64 4294967295) fun t7 =>
 R t7 w)
 (R (.bool false) w)
theorem honeycombref1_four_den (a0 : Value) (R : Value → World → Prop) (w : World) : denF Tryz.prog Tryz.f23 (Tryz.f23.body.getD .skip) [] [] [a0] R w = honeycombref1_four a0 R w := by kernel_rfl
set_option maxRecDepth 100000 in
theorem honeycombref1_four_run {a0 : Value} {R : Value → World → Prop} {w : World} (h : honeycombref1_four a0 R w) : Calls Tryz.prog 23 #[a0] w (rt R) :=
  run_sound (c := Tryz.f23.body.getD .skip) (la := []) (lb := []) (args := [a0]) mixed Tryz.func23 (by kernel_rfl) (by kernel_rfl) (Nat.le_of_ble_eq_true (by kernel_rfl)) (Eq.mpr (honeycombref1_four_den a0 R w) h)
theorem honeycombref1_four_body : hasBody Tryz.prog 23 = true := by kernel_rfl
theorem honeycombref1_four_call {a0 : Value} {R : Value → World → Prop} {w : World} (h : Calls Tryz.prog 23 #[a0] w (rt R)) : callW Tryz.prog (.func (.func 23) #[] #[]) [a0] w R :=
  ⟨honeycombref1_four_body, h⟩
/-- `honeycomb/honeycombref1.two` -/
def honeycombref1_two (a0 : Value) (R : Value → World → Prop) (w : World) : Prop :=
 intW .geq a0 (.int .i64 0) fun t4 =>
 brV t4
 (intW .leq a0 (.int .i64 65535) fun t7 =>
 R t7 w)
 (R (.bool false) w)
theorem honeycombref1_two_den (a0 : Value) (R : Value → World → Prop) (w : World) : denF Tryz.prog Tryz.f24 (Tryz.f24.body.getD .skip) [] [] [a0] R w = honeycombref1_two a0 R w := by kernel_rfl
set_option maxRecDepth 100000 in
theorem honeycombref1_two_run {a0 : Value} {R : Value → World → Prop} {w : World} (h : honeycombref1_two a0 R w) : Calls Tryz.prog 24 #[a0] w (rt R) :=
  run_sound (c := Tryz.f24.body.getD .skip) (la := []) (lb := []) (args := [a0]) mixed Tryz.func24 (by kernel_rfl) (by kernel_rfl) (Nat.le_of_ble_eq_true (by kernel_rfl)) (Eq.mpr (honeycombref1_two_den a0 R w) h)
theorem honeycombref1_two_body : hasBody Tryz.prog 24 = true := by kernel_rfl
theorem honeycombref1_two_call {a0 : Value} {R : Value → World → Prop} {w : World} (h : Calls Tryz.prog 24 #[a0] w (rt R)) : callW Tryz.prog (.func (.func 24) #[] #[]) [a0] w R :=
  ⟨honeycombref1_two_body, h⟩
/-- `honeycomb/honeycombref1.long` -/
def honeycombref1_long (a0 : Value) (R : Value → World → Prop) (w : World) : Prop :=
 callW Tryz.prog (.func (.func 76) #[] #[]) [a0, (.int .i64 4)] w fun t7 w =>
 exW t7 0 fun t8 =>
 exW t7 1 fun t9 =>
 R t8 w
theorem honeycombref1_long_den (a0 : Value) (R : Value → World → Prop) (w : World) : denF Tryz.prog Tryz.f25 (Tryz.f25.body.getD .skip) [] [] [a0] R w = honeycombref1_long a0 R w := by kernel_rfl
set_option maxRecDepth 100000 in
theorem honeycombref1_long_run {a0 : Value} {R : Value → World → Prop} {w : World} (h : honeycombref1_long a0 R w) : Calls Tryz.prog 25 #[a0] w (rt R) :=
  run_sound (c := Tryz.f25.body.getD .skip) (la := []) (lb := []) (args := [a0]) mixed Tryz.func25 (by kernel_rfl) (by kernel_rfl) (Nat.le_of_ble_eq_true (by kernel_rfl)) (Eq.mpr (honeycombref1_long_den a0 R w) h)
theorem honeycombref1_long_body : hasBody Tryz.prog 25 = true := by kernel_rfl
theorem honeycombref1_long_call {a0 : Value} {R : Value → World → Prop} {w : World} (h : Calls Tryz.prog 25 #[a0] w (rt R)) : callW Tryz.prog (.func (.func 25) #[] #[]) [a0] w R :=
  ⟨honeycombref1_long_body, h⟩
/-- `honeycomb/honeycombref1.num` -/
def honeycombref1_num (a0 : Value) (R : Value → World → Prop) (w : World) : Prop :=
 callW Tryz.prog (.func (.func 76) #[] #[]) [a0, (.int .i64 2)] w fun t7 w =>
 exW t7 0 fun t8 =>
 exW t7 1 fun t9 =>
 R t8 w
theorem honeycombref1_num_den (a0 : Value) (R : Value → World → Prop) (w : World) : denF Tryz.prog Tryz.f26 (Tryz.f26.body.getD .skip) [] [] [a0] R w = honeycombref1_num a0 R w := by kernel_rfl
set_option maxRecDepth 100000 in
theorem honeycombref1_num_run {a0 : Value} {R : Value → World → Prop} {w : World} (h : honeycombref1_num a0 R w) : Calls Tryz.prog 26 #[a0] w (rt R) :=
  run_sound (c := Tryz.f26.body.getD .skip) (la := []) (lb := []) (args := [a0]) mixed Tryz.func26 (by kernel_rfl) (by kernel_rfl) (Nat.le_of_ble_eq_true (by kernel_rfl)) (Eq.mpr (honeycombref1_num_den a0 R w) h)
theorem honeycombref1_num_body : hasBody Tryz.prog 26 = true := by kernel_rfl
theorem honeycombref1_num_call {a0 : Value} {R : Value → World → Prop} {w : World} (h : Calls Tryz.prog 26 #[a0] w (rt R)) : callW Tryz.prog (.func (.func 26) #[] #[]) [a0] w R :=
  ⟨honeycombref1_num_body, h⟩
/-- `honeycomb/honeycombref1.Zeros` -/
def honeycombref1_Zeros (a0 : Value) (R : Value → World → Prop) (w : World) : Prop :=
 yl Tryz.prog (Builtin.max_ #[3, 3] 3 [a0, (.int .i64 0)].toArray) fun t4 =>
 sm Tryz.prog (Instr.makeSlice 60 t4 t4) w fun t5 w =>
 sm Tryz.prog (convert 60 9 t5) w fun t6 w =>
 R t6 w
theorem honeycombref1_Zeros_den (a0 : Value) (R : Value → World → Prop) (w : World) : denF Tryz.prog Tryz.f27 (Tryz.f27.body.getD .skip) [] [] [a0] R w = honeycombref1_Zeros a0 R w := by kernel_rfl
set_option maxRecDepth 100000 in
theorem honeycombref1_Zeros_run {a0 : Value} {R : Value → World → Prop} {w : World} (h : honeycombref1_Zeros a0 R w) : Calls Tryz.prog 27 #[a0] w (rt R) :=
  run_sound (c := Tryz.f27.body.getD .skip) (la := []) (lb := []) (args := [a0]) mixed Tryz.func27 (by kernel_rfl) (by kernel_rfl) (Nat.le_of_ble_eq_true (by kernel_rfl)) (Eq.mpr (honeycombref1_Zeros_den a0 R w) h)
theorem honeycombref1_Zeros_body : hasBody Tryz.prog 27 = true := by kernel_rfl
theorem honeycombref1_Zeros_call {a0 : Value} {R : Value → World → Prop} {w : World} (h : Calls Tryz.prog 27 #[a0] w (rt R)) : callW Tryz.prog (.func (.func 27) #[] #[]) [a0] w R :=
  ⟨honeycombref1_Zeros_body, h⟩
def frame_value_L3 (R : Value → World → Prop) : (List Value → World → Prop) → List Value → World → Prop := fun r3 l w =>
 unc l fun t0 l =>
 unc l fun t3 l =>
 unc l fun t6 l =>
 unc l fun t7 l =>
 intW .lss t7 t6 fun t8 =>
 brV t8
 (shW .shl t3 (.int .u64 8) fun t11 =>
 ixStr t0 t7 fun t14 =>
 cvI .i64 t14 fun t15 =>
 intW .or t11 t15 fun t16 =>
 intW .add t7 (.int .i64 1) fun t17 =>
 r3 [t0, t16, t6, t17] w)
 (R t3 w)
/-- `honeycomb/frame.value` -/
def frame_value (a0 : Value) (R : Value → World → Prop) (w : World) : Prop :=
 lenStr a0 fun t6 =>
 lp (frame_value_L3 R) [a0, (.int .i64 0), t6, (.int .i64 0)] w
theorem frame_value_den (a0 : Value) (R : Value → World → Prop) (w : World) : denF Tryz.prog Tryz.f28 (Tryz.f28.body.getD .skip) [] [(3, [0, 3, 6, 7])] [a0] R w = frame_value a0 R w := by kernel_rfl
set_option maxRecDepth 100000 in
theorem frame_value_run {a0 : Value} {R : Value → World → Prop} {w : World} (h : frame_value a0 R w) : Calls Tryz.prog 28 #[a0] w (rt R) :=
  run_sound (c := Tryz.f28.body.getD .skip) (la := []) (lb := [(3, [0, 3, 6, 7])]) (args := [a0]) mixed Tryz.func28 (by kernel_rfl) (by kernel_rfl) (Nat.le_of_ble_eq_true (by kernel_rfl)) (Eq.mpr (frame_value_den a0 R w) h)
theorem frame_value_body : hasBody Tryz.prog 28 = true := by kernel_rfl
theorem frame_value_call {a0 : Value} {R : Value → World → Prop} {w : World} (h : Calls Tryz.prog 28 #[a0] w (rt R)) : callW Tryz.prog (.func (.func 28) #[] #[]) [a0] w R :=
  ⟨frame_value_body, h⟩
def honeycombref1_Of_L3 (R : Value → World → Prop) : (List Value → World → Prop) → List Value → World → Prop := fun r3 l w =>
 unc l fun t0 l =>
 unc l fun t3 l =>
 unc l fun t4 l =>
 lenStr t0 fun t7 =>
 intW .lss t4 t7 fun t8 =>
 brV t8
 (intW .mul t3 (.int .i64 256) fun t12 =>
 ixStr t0 t4 fun t15 =>
 cvI .i64 t15 fun t16 =>
 intW .add t12 t16 fun t17 =>
 intW .add t4 (.int .i64 1) fun t10 =>
 r3 [t0, t17, t10] w)
 (R t3 w)
/-- `honeycomb/honeycombref1.Of` -/
def honeycombref1_Of (a0 : Value) (R : Value → World → Prop) (w : World) : Prop :=
 lp (honeycombref1_Of_L3 R) [a0, (.int .i64 0), (.int .i64 0)] w
theorem honeycombref1_Of_den (a0 : Value) (R : Value → World → Prop) (w : World) : denF Tryz.prog Tryz.f29 (Tryz.f29.body.getD .skip) [] [(3, [0, 3, 4])] [a0] R w = honeycombref1_Of a0 R w := by kernel_rfl
set_option maxRecDepth 100000 in
theorem honeycombref1_Of_run {a0 : Value} {R : Value → World → Prop} {w : World} (h : honeycombref1_Of a0 R w) : Calls Tryz.prog 29 #[a0] w (rt R) :=
  run_sound (c := Tryz.f29.body.getD .skip) (la := []) (lb := [(3, [0, 3, 4])]) (args := [a0]) mixed Tryz.func29 (by kernel_rfl) (by kernel_rfl) (Nat.le_of_ble_eq_true (by kernel_rfl)) (Eq.mpr (honeycombref1_Of_den a0 R w) h)
theorem honeycombref1_Of_body : hasBody Tryz.prog 29 = true := by kernel_rfl
theorem honeycombref1_Of_call {a0 : Value} {R : Value → World → Prop} {w : World} (h : Calls Tryz.prog 29 #[a0] w (rt R)) : callW Tryz.prog (.func (.func 29) #[] #[]) [a0] w R :=
  ⟨honeycombref1_Of_body, h⟩
/-- `honeycomb/honeycombbook.copyTexts` -/
def honeycombbook_copyTexts (a0 : Value) (R : Value → World → Prop) (w : World) : Prop :=
 sm Tryz.prog (bi .append #[24, 24] 24 [(.slice none 0 0), a0]) w fun t4 w =>
 R t4 w
theorem honeycombbook_copyTexts_den (a0 : Value) (R : Value → World → Prop) (w : World) : denF Tryz.prog Tryz.f30 (Tryz.f30.body.getD .skip) [] [] [a0] R w = honeycombbook_copyTexts a0 R w := by kernel_rfl
set_option maxRecDepth 100000 in
theorem honeycombbook_copyTexts_run {a0 : Value} {R : Value → World → Prop} {w : World} (h : honeycombbook_copyTexts a0 R w) : Calls Tryz.prog 30 #[a0] w (rt R) :=
  run_sound (c := Tryz.f30.body.getD .skip) (la := []) (lb := []) (args := [a0]) mixed Tryz.func30 (by kernel_rfl) (by kernel_rfl) (Nat.le_of_ble_eq_true (by kernel_rfl)) (Eq.mpr (honeycombbook_copyTexts_den a0 R w) h)
theorem honeycombbook_copyTexts_body : hasBody Tryz.prog 30 = true := by kernel_rfl
theorem honeycombbook_copyTexts_call {a0 : Value} {R : Value → World → Prop} {w : World} (h : Calls Tryz.prog 30 #[a0] w (rt R)) : callW Tryz.prog (.func (.func 30) #[] #[]) [a0] w R :=
  ⟨honeycombbook_copyTexts_body, h⟩
def frame_bytes_J6 (R : Value → World → Prop) (r3 : List Value → World → Prop) : List Value → World → Prop := fun l w =>
 R (.string ⟨#[]⟩) w
def frame_bytes_L3 (R : Value → World → Prop) : (List Value → World → Prop) → List Value → World → Prop := fun r3 l w =>
 unc l fun t3 l =>
 unc l fun t6 l =>
 unc l fun t7 l =>
 unc l fun t8 l =>
 intW .lss t8 t7 fun t9 =>
 brV t9
 (ixS 1 t6 t8 fun t10 =>
 ldC t10 w fun t11 _ =>
 strW .eql t11 (.string ⟨#[]⟩) fun t13 =>
 brV t13
 (jn (frame_bytes_J6 R r3) [] w)
 (lenStr t11 fun t16 =>
 intW .gtr t16 (.int .i64 65535) fun t17 =>
 brV t17
 (jn (frame_bytes_J6 R r3) [] w)
 (lenStr t11 fun t20 =>
 callW Tryz.prog (.func (.func 21) #[] #[]) [t20, (.int .i64 2)] w fun t21 w =>
 strW .add t21 t11 fun t23 =>
 callW Tryz.prog (.func (.func 73) #[] #[]) [t3, t23] w fun t24 w =>
 intW .add t8 (.int .i64 1) fun t25 =>
 r3 [t3, t6, t7, t25] w)))
 (callW Tryz.prog (.func (.func 75) #[] #[]) [t3] w fun t26 w =>
 R t26 w)
/-- `honeycomb/frame.bytes` -/
def frame_bytes (a0 : Value) (R : Value → World → Prop) (w : World) : Prop :=
 alW #[(.pointer none), (.slice none 0 0)] 94 w fun t3 w =>
 lenSl a0 fun t7 =>
 lp (frame_bytes_L3 R) [t3, a0, t7, (.int .i64 0)] w
theorem frame_bytes_den (a0 : Value) (R : Value → World → Prop) (w : World) : denF Tryz.prog Tryz.f31 (Tryz.f31.body.getD .skip) [(6, [])] [(3, [3, 6, 7, 8])] [a0] R w = frame_bytes a0 R w := by kernel_rfl
set_option maxRecDepth 100000 in
theorem frame_bytes_run {a0 : Value} {R : Value → World → Prop} {w : World} (h : frame_bytes a0 R w) : Calls Tryz.prog 31 #[a0] w (rt R) :=
  run_sound (c := Tryz.f31.body.getD .skip) (la := [(6, [])]) (lb := [(3, [3, 6, 7, 8])]) (args := [a0]) mixed Tryz.func31 (by kernel_rfl) (by kernel_rfl) (Nat.le_of_ble_eq_true (by kernel_rfl)) (Eq.mpr (frame_bytes_den a0 R w) h)
theorem frame_bytes_body : hasBody Tryz.prog 31 = true := by kernel_rfl
theorem frame_bytes_call {a0 : Value} {R : Value → World → Prop} {w : World} (h : Calls Tryz.prog 31 #[a0] w (rt R)) : callW Tryz.prog (.func (.func 31) #[] #[]) [a0] w R :=
  ⟨frame_bytes_body, h⟩
def honeycombref1_stream_J6 (R : Value → World → Prop) (r3 : List Value → World → Prop) : List Value → World → Prop := fun l w =>
 R (.tuple #[(.string ⟨#[]⟩), (.bool false)]) w
def honeycombref1_stream_L3 (R : Value → World → Prop) : (List Value → World → Prop) → List Value → World → Prop := fun r3 l w =>
 unc l fun t0 l =>
 unc l fun t4 l =>
 unc l fun t5 l =>
 lenSl t0 fun t8 =>
 intW .lss t5 t8 fun t9 =>
 brV t9
 (ixS 1 t0 t5 fun t14 =>
 ldC t14 w fun t15 _ =>
 strW .eql t15 (.string ⟨#[]⟩) fun t16 =>
 brV t16
 (jn (honeycombref1_stream_J6 R r3) [] w)
 (ixS 1 t0 t5 fun t20 =>
 ldC t20 w fun t21 _ =>
 lenStr t21 fun t22 =>
 intW .gtr t22 (.int .i64 65535) fun t23 =>
 brV t23
 (jn (honeycombref1_stream_J6 R r3) [] w)
 (ixS 1 t0 t5 fun t28 =>
 ldC t28 w fun t29 _ =>
 callW Tryz.prog (.func (.func 77) #[] #[]) [t29] w fun t30 w =>
 strW .add t4 t30 fun t31 =>
 intW .add t5 (.int .i64 1) fun t11 =>
 r3 [t0, t31, t11] w)))
 (lenSl t0 fun t34 =>
 intW .gtr t34 (.int .i64 0) fun t35 =>
 R (.tuple #[t4, t35]) w)
/-- `honeycomb/honeycombref1.stream` -/
def honeycombref1_stream (a0 : Value) (R : Value → World → Prop) (w : World) : Prop :=
 lp (honeycombref1_stream_L3 R) [a0, (.string ⟨#[]⟩), (.int .i64 0)] w
theorem honeycombref1_stream_den (a0 : Value) (R : Value → World → Prop) (w : World) : denF Tryz.prog Tryz.f32 (Tryz.f32.body.getD .skip) [(6, [])] [(3, [0, 4, 5])] [a0] R w = honeycombref1_stream a0 R w := by kernel_rfl
set_option maxRecDepth 100000 in
theorem honeycombref1_stream_run {a0 : Value} {R : Value → World → Prop} {w : World} (h : honeycombref1_stream a0 R w) : Calls Tryz.prog 32 #[a0] w (rt R) :=
  run_sound (c := Tryz.f32.body.getD .skip) (la := [(6, [])]) (lb := [(3, [0, 4, 5])]) (args := [a0]) mixed Tryz.func32 (by kernel_rfl) (by kernel_rfl) (Nat.le_of_ble_eq_true (by kernel_rfl)) (Eq.mpr (honeycombref1_stream_den a0 R w) h)
theorem honeycombref1_stream_body : hasBody Tryz.prog 32 = true := by kernel_rfl
theorem honeycombref1_stream_call {a0 : Value} {R : Value → World → Prop} {w : World} (h : Calls Tryz.prog 32 #[a0] w (rt R)) : callW Tryz.prog (.func (.func 32) #[] #[]) [a0] w R :=
  ⟨honeycombref1_stream_body, h⟩
def frame_scan_take_J3 (R : Value → World → Prop) : List Value → World → Prop := fun l w =>
 R (.bool false) w
def frame_scan_take_J17 (R : Value → World → Prop) : List Value → World → Prop := fun l w =>
 R (.bool true) w
def frame_scan_take_J13 (R : Value → World → Prop) (r9 : List Value → World → Prop) : List Value → World → Prop := fun l w =>
 unc l fun t0 l =>
 unc l fun t7 l =>
 nckW t0 fun t100 =>
 fld 1 t100 fun t101 =>
 ldC t101 w fun t102 _ =>
 unW .not t102 fun t103 =>
 brV t103
 (jn (frame_scan_take_J17 R) [] w)
 (nckW t0 fun t106 =>
 fld 0 t106 fun t107 =>
 ldC t107 w fun t108 _ =>
 lenStr t108 fun t109 =>
 intW .add (.int .i64 2) t7 fun t111 =>
 intW .lss t109 t111 fun t112 =>
 brV t112
 (jn (frame_scan_take_J17 R) [] w)
 (nckW t0 fun t116 =>
 fld 4 t116 fun t117 =>
 nckW t0 fun t120 =>
 fld 0 t120 fun t121 =>
 intW .add (.int .i64 2) t7 fun t124 =>
 ldC t117 w.drew fun t118 c4 =>
 ldC t121 w.drew fun t122 c8 =>
 slStr t122 (some (.int .i64 2)) (some t124) none fun t125 =>
 blS 9 1 #[(.string ⟨#[]⟩)] 1 [(0, t125)] w.drew fun t126 w =>
 heldC [(8, c8), (4, c4)] w (sm Tryz.prog (bi .append #[24, 24] 24 [t118, t126]) w fun t127 w =>
 heldC [(8, c8)] w (nckW t0 fun t128 =>
 fld 4 t128 fun t129 =>
 1 = 1 ∧ stC t129 t127 w fun w =>
 nckW t0 fun t132 =>
 fld 0 t132 fun t133 =>
 ldC t133 w fun t134 _ =>
 intW .add (.int .i64 2) t7 fun t136 =>
 slStr t134 (some t136) none none fun t137 =>
 nckW t0 fun t138 =>
 fld 0 t138 fun t139 =>
 1 = 1 ∧ stC t139 t137 w fun w =>
 nckW t0 fun t143 =>
 fld 2 t143 fun t144 =>
 nckW t0 fun t147 =>
 fld 3 t147 fun t148 =>
 ldC t144 w.drew fun t145 c5 =>
 ldC t148 w.drew fun t149 c9 =>
 nckW t0 fun t150 =>
 fld 5 t150 fun t151 =>
 1 = 1 ∧ stC t151 t145 w.drew fun w =>
 nckW t0 fun t152 =>
 fld 6 t152 fun t153 =>
 1 = 1 ∧ stC t153 t149 w fun w =>
 r9 [t0] w))))
def frame_scan_take_L9 (R : Value → World → Prop) : (List Value → World → Prop) → List Value → World → Prop := fun r9 l w =>
 unc l fun t0 l =>
 nckW t0 fun t77 =>
 fld 1 t77 fun t78 =>
 ldC t78 w fun t79 _ =>
 brV t79
 (nckW t0 fun t82 =>
 fld 0 t82 fun t83 =>
 ldC t83 w fun t84 _ =>
 lenStr t84 fun t85 =>
 intW .geq t85 (.int .i64 2) fun t86 =>
 brV t86
 (nckW t0 fun t89 =>
 fld 0 t89 fun t90 =>
 ldC t90 w fun t91 _ =>
 slStr t91 none (some (.int .i64 2)) none fun t92 =>
 callW Tryz.prog (.func (.func 28) #[] #[]) [t92] w fun t93 w =>
 intW .eql t93 (.int .i64 0) fun t95 =>
 brV t95
 (nckW t0 fun t97 =>
 fld 1 t97 fun t98 =>
 1 = 1 ∧ stC t98 (.bool false) w fun w =>
 jn (frame_scan_take_J13 R r9) [t0, t93] w)
 (jn (frame_scan_take_J13 R r9) [t0, t93] w))
 (jn (frame_scan_take_J17 R) [] w))
 (jn (frame_scan_take_J17 R) [] w)
def frame_scan_take_J6 (R : Value → World → Prop) : List Value → World → Prop := fun l w =>
 unc l fun t0 l =>
 unc l fun t5 l =>
 nckW t0 fun t56 =>
 fld 0 t56 fun t57 =>
 fld 3 t5 fun t59 =>
 ldC t57 w.drew fun t58 c3 =>
 ldC t59 w.drew fun t60 c5 =>
 strW .add t58 t60 fun t61 =>
 nckW t0 fun t62 =>
 fld 0 t62 fun t63 =>
 1 = 1 ∧ stC t63 t61 w.drew fun w =>
 nckW t0 fun t65 =>
 fld 2 t65 fun t66 =>
 ldC t66 w fun t67 _ =>
 intW .add t67 (.int .i64 1) fun t68 =>
 nckW t0 fun t69 =>
 fld 2 t69 fun t70 =>
 1 = 1 ∧ stC t70 t68 w fun w =>
 fld 0 t5 fun t72 =>
 ldC t72 w fun t73 _ =>
 nckW t0 fun t74 =>
 fld 3 t74 fun t75 =>
 1 = 1 ∧ stC t75 t73 w fun w =>
 lp (frame_scan_take_L9 R) [t0] w
def frame_scan_take_J4 (R : Value → World → Prop) : List Value → World → Prop := fun l w =>
 unc l fun t0 l =>
 unc l fun t5 l =>
 fld 2 t5 fun t47 =>
 ldC t47 w fun t48 _ =>
 brV t48
 (nckW t0 fun t51 =>
 fld 0 t51 fun t52 =>
 1 = 1 ∧ stC t52 (.string ⟨#[]⟩) w fun w =>
 nckW t0 fun t53 =>
 fld 1 t53 fun t54 =>
 1 = 1 ∧ stC t54 (.bool true) w fun w =>
 jn (frame_scan_take_J6 R) [t0, t5] w)
 (jn (frame_scan_take_J6 R) [t0, t5] w)
/-- `(*honeycomb/frame.scan).take` -/
def frame_scan_take (a0 a1 : Value) (R : Value → World → Prop) (w : World) : Prop :=
 callW Tryz.prog (.func (.func 8) #[] #[]) [a1] w fun t10 w =>
 exW t10 0 fun t11 =>
 exW t10 1 fun t12 =>
 alW #[(.int .i64 0), (.int .i64 0), (.bool false), (.string ⟨#[]⟩)] 23 w fun t5 w =>
 stN 4 t5 t11 w fun w =>
 unW .not t12 fun t14 =>
 brV t14
 (jn (frame_scan_take_J3 R) [] w.drew)
 (fld 1 t5 fun t16 =>
 nckW a0 fun t19 =>
 fld 2 t19 fun t20 =>
 ldC t16 w.drew fun t17 c4 =>
 ldC t20 w.drew fun t21 c8 =>
 intW .neq t17 t21 fun t22 =>
 brV t22
 (jn (frame_scan_take_J3 R) [] w.drew)
 (fld 0 t5 fun t25 =>
 nckW a0 fun t28 =>
 fld 3 t28 fun t29 =>
 ldC t25 w.drew fun t26 c13 =>
 ldC t29 w.drew fun t30 c17 =>
 intW .lss t26 t30 fun t31 =>
 brV t31
 (jn (frame_scan_take_J3 R) [] w.drew)
 (fld 0 t5 fun t34 =>
 nckW a0 fun t37 =>
 fld 3 t37 fun t38 =>
 ldC t34 w.drew fun t35 c22 =>
 ldC t38 w.drew fun t39 c26 =>
 intW .neq t35 t39 fun t40 =>
 brV t40
 (fld 2 t5 fun t42 =>
 ldC t42 w.drew fun t43 c30 =>
 unW .not t43 fun t44 =>
 brV t44
 (jn (frame_scan_take_J3 R) [] w.drew)
 (jn (frame_scan_take_J4 R) [a0, t5] w.drew))
 (jn (frame_scan_take_J4 R) [a0, t5] w.drew))))
theorem frame_scan_take_den (a0 a1 : Value) (R : Value → World → Prop) (w : World) : denF Tryz.prog Tryz.f33 (Tryz.f33.body.getD .skip) [(3, []), (4, [0, 5]), (6, [0, 5]), (13, [0, 7]), (17, [])] [(9, [0])] [a0, a1] R w = frame_scan_take a0 a1 R w := by kernel_rfl
set_option maxRecDepth 100000 in
theorem frame_scan_take_run {a0 a1 : Value} {R : Value → World → Prop} {w : World} (h : frame_scan_take a0 a1 R w) : Calls Tryz.prog 33 #[a0, a1] w (rt R) :=
  run_sound (c := Tryz.f33.body.getD .skip) (la := [(3, []), (4, [0, 5]), (6, [0, 5]), (13, [0, 7]), (17, [])]) (lb := [(9, [0])]) (args := [a0, a1]) mixed Tryz.func33 (by kernel_rfl) (by kernel_rfl) (Nat.le_of_ble_eq_true (by kernel_rfl)) (Eq.mpr (frame_scan_take_den a0 a1 R w) h)
theorem frame_scan_take_body : hasBody Tryz.prog 33 = true := by kernel_rfl
theorem frame_scan_take_call {a0 a1 : Value} {R : Value → World → Prop} {w : World} (h : Calls Tryz.prog 33 #[a0, a1] w (rt R)) : callW Tryz.prog (.func (.func 33) #[] #[]) [a0, a1] w R :=
  ⟨frame_scan_take_body, h⟩
def honeycombbook_Book_stillInts_L2 (R : Value → World → Prop) : (List Value → World → Prop) → List Value → World → Prop := fun r2 l w =>
 unc l fun t0 l =>
 unc l fun t3 l =>
 nckW t0 fun t6 =>
 fld 0 t6 fun t7 =>
 ldC t7 w fun t8 _ =>
 lenSl t8 fun t9 =>
 intW .lss t3 t9 fun t10 =>
 brV t10
 (nckW t0 fun t14 =>
 fld 0 t14 fun t15 =>
 nckW t0 fun t21 =>
 fld 1 t21 fun t22 =>
 ldC t15 w.drew fun t16 c3 =>
 ixS 1 t16 t3 fun t18 =>
 ldC t18 w.drew fun t19 c6 =>
 ldC t22 w.drew fun t23 c10 =>
 ixS 1 t23 t3 fun t25 =>
 ldC t25 w.drew fun t26 c13 =>
 callW Tryz.prog (.func (.func 78) #[] #[]) [t19, t26] w.drew fun t27 w =>
 heldC [(10, c10), (3, c3)] w (unW .not t27 fun t28 =>
 brV t28
 (R (.bool false) w)
 (intW .add t3 (.int .i64 1) fun t12 =>
 r2 [t0, t12] w)))
 (R (.bool true) w)
/-- `(*honeycomb/honeycombbook.Book).stillInts` -/
def honeycombbook_Book_stillInts (a0 : Value) (R : Value → World → Prop) (w : World) : Prop :=
 lp (honeycombbook_Book_stillInts_L2 R) [a0, (.int .i64 0)] w
theorem honeycombbook_Book_stillInts_den (a0 : Value) (R : Value → World → Prop) (w : World) : denF Tryz.prog Tryz.f34 (Tryz.f34.body.getD .skip) [] [(2, [0, 3])] [a0] R w = honeycombbook_Book_stillInts a0 R w := by kernel_rfl
set_option maxRecDepth 100000 in
theorem honeycombbook_Book_stillInts_run {a0 : Value} {R : Value → World → Prop} {w : World} (h : honeycombbook_Book_stillInts a0 R w) : Calls Tryz.prog 34 #[a0] w (rt R) :=
  run_sound (c := Tryz.f34.body.getD .skip) (la := []) (lb := [(2, [0, 3])]) (args := [a0]) mixed Tryz.func34 (by kernel_rfl) (by kernel_rfl) (Nat.le_of_ble_eq_true (by kernel_rfl)) (Eq.mpr (honeycombbook_Book_stillInts_den a0 R w) h)
theorem honeycombbook_Book_stillInts_body : hasBody Tryz.prog 34 = true := by kernel_rfl
theorem honeycombbook_Book_stillInts_call {a0 : Value} {R : Value → World → Prop} {w : World} (h : Calls Tryz.prog 34 #[a0] w (rt R)) : callW Tryz.prog (.func (.func 34) #[] #[]) [a0] w R :=
  ⟨honeycombbook_Book_stillInts_body, h⟩
def honeycombbook_Book_stillTexts_L2 (R : Value → World → Prop) : (List Value → World → Prop) → List Value → World → Prop := fun r2 l w =>
 unc l fun t0 l =>
 unc l fun t3 l =>
 nckW t0 fun t6 =>
 fld 2 t6 fun t7 =>
 ldC t7 w fun t8 _ =>
 lenSl t8 fun t9 =>
 intW .lss t3 t9 fun t10 =>
 brV t10
 (nckW t0 fun t14 =>
 fld 2 t14 fun t15 =>
 nckW t0 fun t21 =>
 fld 3 t21 fun t22 =>
 ldC t15 w.drew fun t16 c3 =>
 ixS 1 t16 t3 fun t18 =>
 ldC t18 w.drew fun t19 c6 =>
 ldC t22 w.drew fun t23 c10 =>
 ixS 1 t23 t3 fun t25 =>
 ldC t25 w.drew fun t26 c13 =>
 callW Tryz.prog (.func (.func 16) #[] #[]) [t19, t26] w.drew fun t27 w =>
 heldC [(10, c10), (3, c3)] w (unW .not t27 fun t28 =>
 brV t28
 (R (.bool false) w)
 (intW .add t3 (.int .i64 1) fun t12 =>
 r2 [t0, t12] w)))
 (R (.bool true) w)
/-- `(*honeycomb/honeycombbook.Book).stillTexts` -/
def honeycombbook_Book_stillTexts (a0 : Value) (R : Value → World → Prop) (w : World) : Prop :=
 lp (honeycombbook_Book_stillTexts_L2 R) [a0, (.int .i64 0)] w
theorem honeycombbook_Book_stillTexts_den (a0 : Value) (R : Value → World → Prop) (w : World) : denF Tryz.prog Tryz.f35 (Tryz.f35.body.getD .skip) [] [(2, [0, 3])] [a0] R w = honeycombbook_Book_stillTexts a0 R w := by kernel_rfl
set_option maxRecDepth 100000 in
theorem honeycombbook_Book_stillTexts_run {a0 : Value} {R : Value → World → Prop} {w : World} (h : honeycombbook_Book_stillTexts a0 R w) : Calls Tryz.prog 35 #[a0] w (rt R) :=
  run_sound (c := Tryz.f35.body.getD .skip) (la := []) (lb := [(2, [0, 3])]) (args := [a0]) mixed Tryz.func35 (by kernel_rfl) (by kernel_rfl) (Nat.le_of_ble_eq_true (by kernel_rfl)) (Eq.mpr (honeycombbook_Book_stillTexts_den a0 R w) h)
theorem honeycombbook_Book_stillTexts_body : hasBody Tryz.prog 35 = true := by kernel_rfl
theorem honeycombbook_Book_stillTexts_call {a0 : Value} {R : Value → World → Prop} {w : World} (h : Calls Tryz.prog 35 #[a0] w (rt R)) : callW Tryz.prog (.func (.func 35) #[] #[]) [a0] w R :=
  ⟨honeycombbook_Book_stillTexts_body, h⟩
def honeycombbook_Book_stillCells_L2 (R : Value → World → Prop) : (List Value → World → Prop) → List Value → World → Prop := fun r2 l w =>
 unc l fun t0 l =>
 unc l fun t3 l =>
 nckW t0 fun t6 =>
 fld 4 t6 fun t7 =>
 ldC t7 w fun t8 _ =>
 lenSl t8 fun t9 =>
 intW .lss t3 t9 fun t10 =>
 brV t10
 (nckW t0 fun t14 =>
 fld 4 t14 fun t15 =>
 nckW t0 fun t21 =>
 fld 5 t21 fun t22 =>
 ldC t15 w.drew fun t16 c3 =>
 ixS 1 t16 t3 fun t18 =>
 ldC t18 w.drew fun t19 c6 =>
 ldC t22 w.drew fun t23 c10 =>
 ixS 1 t23 t3 fun t25 =>
 ldC t25 w.drew fun t26 c13 =>
 callW Tryz.prog (.func (.func 79) #[] #[]) [t19, t26] w.drew fun t27 w =>
 heldC [(10, c10), (3, c3)] w (unW .not t27 fun t28 =>
 brV t28
 (R (.bool false) w)
 (intW .add t3 (.int .i64 1) fun t12 =>
 r2 [t0, t12] w)))
 (R (.bool true) w)
/-- `(*honeycomb/honeycombbook.Book).stillCells` -/
def honeycombbook_Book_stillCells (a0 : Value) (R : Value → World → Prop) (w : World) : Prop :=
 lp (honeycombbook_Book_stillCells_L2 R) [a0, (.int .i64 0)] w
theorem honeycombbook_Book_stillCells_den (a0 : Value) (R : Value → World → Prop) (w : World) : denF Tryz.prog Tryz.f36 (Tryz.f36.body.getD .skip) [] [(2, [0, 3])] [a0] R w = honeycombbook_Book_stillCells a0 R w := by kernel_rfl
set_option maxRecDepth 100000 in
theorem honeycombbook_Book_stillCells_run {a0 : Value} {R : Value → World → Prop} {w : World} (h : honeycombbook_Book_stillCells a0 R w) : Calls Tryz.prog 36 #[a0] w (rt R) :=
  run_sound (c := Tryz.f36.body.getD .skip) (la := []) (lb := [(2, [0, 3])]) (args := [a0]) mixed Tryz.func36 (by kernel_rfl) (by kernel_rfl) (Nat.le_of_ble_eq_true (by kernel_rfl)) (Eq.mpr (honeycombbook_Book_stillCells_den a0 R w) h)
theorem honeycombbook_Book_stillCells_body : hasBody Tryz.prog 36 = true := by kernel_rfl
theorem honeycombbook_Book_stillCells_call {a0 : Value} {R : Value → World → Prop} {w : World} (h : Calls Tryz.prog 36 #[a0] w (rt R)) : callW Tryz.prog (.func (.func 36) #[] #[]) [a0] w R :=
  ⟨honeycombbook_Book_stillCells_body, h⟩
def honeycombbook_Book_stillPages_L2 (R : Value → World → Prop) : (List Value → World → Prop) → List Value → World → Prop := fun r2 l w =>
 unc l fun t0 l =>
 unc l fun t3 l =>
 nckW t0 fun t6 =>
 fld 6 t6 fun t7 =>
 ldC t7 w fun t8 _ =>
 lenSl t8 fun t9 =>
 intW .lss t3 t9 fun t10 =>
 brV t10
 (nckW t0 fun t14 =>
 fld 6 t14 fun t15 =>
 nckW t0 fun t21 =>
 fld 7 t21 fun t22 =>
 ldC t15 w.drew fun t16 c3 =>
 ixS 1 t16 t3 fun t18 =>
 ldC t18 w.drew fun t19 c6 =>
 ldC t22 w.drew fun t23 c10 =>
 ixS 1 t23 t3 fun t25 =>
 ldC t25 w.drew fun t26 c13 =>
 callW Tryz.prog (.func (.func 80) #[] #[]) [t19, t26] w.drew fun t27 w =>
 heldC [(10, c10), (3, c3)] w (unW .not t27 fun t28 =>
 brV t28
 (R (.bool false) w)
 (intW .add t3 (.int .i64 1) fun t12 =>
 r2 [t0, t12] w)))
 (R (.bool true) w)
/-- `(*honeycomb/honeycombbook.Book).stillPages` -/
def honeycombbook_Book_stillPages (a0 : Value) (R : Value → World → Prop) (w : World) : Prop :=
 lp (honeycombbook_Book_stillPages_L2 R) [a0, (.int .i64 0)] w
theorem honeycombbook_Book_stillPages_den (a0 : Value) (R : Value → World → Prop) (w : World) : denF Tryz.prog Tryz.f37 (Tryz.f37.body.getD .skip) [] [(2, [0, 3])] [a0] R w = honeycombbook_Book_stillPages a0 R w := by kernel_rfl
set_option maxRecDepth 100000 in
theorem honeycombbook_Book_stillPages_run {a0 : Value} {R : Value → World → Prop} {w : World} (h : honeycombbook_Book_stillPages a0 R w) : Calls Tryz.prog 37 #[a0] w (rt R) :=
  run_sound (c := Tryz.f37.body.getD .skip) (la := []) (lb := [(2, [0, 3])]) (args := [a0]) mixed Tryz.func37 (by kernel_rfl) (by kernel_rfl) (Nat.le_of_ble_eq_true (by kernel_rfl)) (Eq.mpr (honeycombbook_Book_stillPages_den a0 R w) h)
theorem honeycombbook_Book_stillPages_body : hasBody Tryz.prog 37 = true := by kernel_rfl
theorem honeycombbook_Book_stillPages_call {a0 : Value} {R : Value → World → Prop} {w : World} (h : Calls Tryz.prog 37 #[a0] w (rt R)) : callW Tryz.prog (.func (.func 37) #[] #[]) [a0] w R :=
  ⟨honeycombbook_Book_stillPages_body, h⟩
def honeycombbook_Book_stillPatches_L2 (R : Value → World → Prop) : (List Value → World → Prop) → List Value → World → Prop := fun r2 l w =>
 unc l fun t0 l =>
 unc l fun t3 l =>
 nckW t0 fun t6 =>
 fld 8 t6 fun t7 =>
 ldC t7 w fun t8 _ =>
 lenSl t8 fun t9 =>
 intW .lss t3 t9 fun t10 =>
 brV t10
 (nckW t0 fun t14 =>
 fld 8 t14 fun t15 =>
 nckW t0 fun t21 =>
 fld 9 t21 fun t22 =>
 ldC t15 w.drew fun t16 c3 =>
 ixS 1 t16 t3 fun t18 =>
 ldC t18 w.drew fun t19 c6 =>
 ldC t22 w.drew fun t23 c10 =>
 ixS 1 t23 t3 fun t25 =>
 ldC t25 w.drew fun t26 c13 =>
 callW Tryz.prog (.func (.func 81) #[] #[]) [t19, t26] w.drew fun t27 w =>
 heldC [(10, c10), (3, c3)] w (unW .not t27 fun t28 =>
 brV t28
 (R (.bool false) w)
 (intW .add t3 (.int .i64 1) fun t12 =>
 r2 [t0, t12] w)))
 (R (.bool true) w)
/-- `(*honeycomb/honeycombbook.Book).stillPatches` -/
def honeycombbook_Book_stillPatches (a0 : Value) (R : Value → World → Prop) (w : World) : Prop :=
 lp (honeycombbook_Book_stillPatches_L2 R) [a0, (.int .i64 0)] w
theorem honeycombbook_Book_stillPatches_den (a0 : Value) (R : Value → World → Prop) (w : World) : denF Tryz.prog Tryz.f38 (Tryz.f38.body.getD .skip) [] [(2, [0, 3])] [a0] R w = honeycombbook_Book_stillPatches a0 R w := by kernel_rfl
set_option maxRecDepth 100000 in
theorem honeycombbook_Book_stillPatches_run {a0 : Value} {R : Value → World → Prop} {w : World} (h : honeycombbook_Book_stillPatches a0 R w) : Calls Tryz.prog 38 #[a0] w (rt R) :=
  run_sound (c := Tryz.f38.body.getD .skip) (la := []) (lb := [(2, [0, 3])]) (args := [a0]) mixed Tryz.func38 (by kernel_rfl) (by kernel_rfl) (Nat.le_of_ble_eq_true (by kernel_rfl)) (Eq.mpr (honeycombbook_Book_stillPatches_den a0 R w) h)
theorem honeycombbook_Book_stillPatches_body : hasBody Tryz.prog 38 = true := by kernel_rfl
theorem honeycombbook_Book_stillPatches_call {a0 : Value} {R : Value → World → Prop} {w : World} (h : Calls Tryz.prog 38 #[a0] w (rt R)) : callW Tryz.prog (.func (.func 38) #[] #[]) [a0] w R :=
  ⟨honeycombbook_Book_stillPatches_body, h⟩
def honeycombbook_Book_stillDirty_L2 (R : Value → World → Prop) : (List Value → World → Prop) → List Value → World → Prop := fun r2 l w =>
 unc l fun t0 l =>
 unc l fun t3 l =>
 nckW t0 fun t6 =>
 fld 10 t6 fun t7 =>
 ldC t7 w fun t8 _ =>
 lenSl t8 fun t9 =>
 intW .lss t3 t9 fun t10 =>
 brV t10
 (nckW t0 fun t14 =>
 fld 10 t14 fun t15 =>
 nckW t0 fun t21 =>
 fld 11 t21 fun t22 =>
 ldC t15 w.drew fun t16 c3 =>
 ixS 1 t16 t3 fun t18 =>
 ldC t18 w.drew fun t19 c6 =>
 ldC t22 w.drew fun t23 c10 =>
 ixS 1 t23 t3 fun t25 =>
 ldC t25 w.drew fun t26 c13 =>
 callW Tryz.prog (.func (.func 82) #[] #[]) [t19, t26] w.drew fun t27 w =>
 heldC [(10, c10), (3, c3)] w (unW .not t27 fun t28 =>
 brV t28
 (R (.bool false) w)
 (intW .add t3 (.int .i64 1) fun t12 =>
 r2 [t0, t12] w)))
 (R (.bool true) w)
/-- `(*honeycomb/honeycombbook.Book).stillDirty` -/
def honeycombbook_Book_stillDirty (a0 : Value) (R : Value → World → Prop) (w : World) : Prop :=
 lp (honeycombbook_Book_stillDirty_L2 R) [a0, (.int .i64 0)] w
theorem honeycombbook_Book_stillDirty_den (a0 : Value) (R : Value → World → Prop) (w : World) : denF Tryz.prog Tryz.f39 (Tryz.f39.body.getD .skip) [] [(2, [0, 3])] [a0] R w = honeycombbook_Book_stillDirty a0 R w := by kernel_rfl
set_option maxRecDepth 100000 in
theorem honeycombbook_Book_stillDirty_run {a0 : Value} {R : Value → World → Prop} {w : World} (h : honeycombbook_Book_stillDirty a0 R w) : Calls Tryz.prog 39 #[a0] w (rt R) :=
  run_sound (c := Tryz.f39.body.getD .skip) (la := []) (lb := [(2, [0, 3])]) (args := [a0]) mixed Tryz.func39 (by kernel_rfl) (by kernel_rfl) (Nat.le_of_ble_eq_true (by kernel_rfl)) (Eq.mpr (honeycombbook_Book_stillDirty_den a0 R w) h)
theorem honeycombbook_Book_stillDirty_body : hasBody Tryz.prog 39 = true := by kernel_rfl
theorem honeycombbook_Book_stillDirty_call {a0 : Value} {R : Value → World → Prop} {w : World} (h : Calls Tryz.prog 39 #[a0] w (rt R)) : callW Tryz.prog (.func (.func 39) #[] #[]) [a0] w R :=
  ⟨honeycombbook_Book_stillDirty_body, h⟩
def honeycombbook_Book_stillEntries_L2 (R : Value → World → Prop) : (List Value → World → Prop) → List Value → World → Prop := fun r2 l w =>
 unc l fun t0 l =>
 unc l fun t3 l =>
 nckW t0 fun t6 =>
 fld 12 t6 fun t7 =>
 ldC t7 w fun t8 _ =>
 lenSl t8 fun t9 =>
 intW .lss t3 t9 fun t10 =>
 brV t10
 (nckW t0 fun t14 =>
 fld 12 t14 fun t15 =>
 nckW t0 fun t21 =>
 fld 13 t21 fun t22 =>
 ldC t15 w.drew fun t16 c3 =>
 ixS 1 t16 t3 fun t18 =>
 ldC t18 w.drew fun t19 c6 =>
 ldC t22 w.drew fun t23 c10 =>
 ixS 1 t23 t3 fun t25 =>
 ldC t25 w.drew fun t26 c13 =>
 callW Tryz.prog (.func (.func 83) #[] #[]) [t19, t26] w.drew fun t27 w =>
 heldC [(10, c10), (3, c3)] w (unW .not t27 fun t28 =>
 brV t28
 (R (.bool false) w)
 (intW .add t3 (.int .i64 1) fun t12 =>
 r2 [t0, t12] w)))
 (R (.bool true) w)
/-- `(*honeycomb/honeycombbook.Book).stillEntries` -/
def honeycombbook_Book_stillEntries (a0 : Value) (R : Value → World → Prop) (w : World) : Prop :=
 lp (honeycombbook_Book_stillEntries_L2 R) [a0, (.int .i64 0)] w
theorem honeycombbook_Book_stillEntries_den (a0 : Value) (R : Value → World → Prop) (w : World) : denF Tryz.prog Tryz.f40 (Tryz.f40.body.getD .skip) [] [(2, [0, 3])] [a0] R w = honeycombbook_Book_stillEntries a0 R w := by kernel_rfl
set_option maxRecDepth 100000 in
theorem honeycombbook_Book_stillEntries_run {a0 : Value} {R : Value → World → Prop} {w : World} (h : honeycombbook_Book_stillEntries a0 R w) : Calls Tryz.prog 40 #[a0] w (rt R) :=
  run_sound (c := Tryz.f40.body.getD .skip) (la := []) (lb := [(2, [0, 3])]) (args := [a0]) mixed Tryz.func40 (by kernel_rfl) (by kernel_rfl) (Nat.le_of_ble_eq_true (by kernel_rfl)) (Eq.mpr (honeycombbook_Book_stillEntries_den a0 R w) h)
theorem honeycombbook_Book_stillEntries_body : hasBody Tryz.prog 40 = true := by kernel_rfl
theorem honeycombbook_Book_stillEntries_call {a0 : Value} {R : Value → World → Prop} {w : World} (h : Calls Tryz.prog 40 #[a0] w (rt R)) : callW Tryz.prog (.func (.func 40) #[] #[]) [a0] w R :=
  ⟨honeycombbook_Book_stillEntries_body, h⟩
def honeycombbook_Book_stillPairs_L2 (R : Value → World → Prop) : (List Value → World → Prop) → List Value → World → Prop := fun r2 l w =>
 unc l fun t0 l =>
 unc l fun t3 l =>
 nckW t0 fun t6 =>
 fld 14 t6 fun t7 =>
 ldC t7 w fun t8 _ =>
 lenSl t8 fun t9 =>
 intW .lss t3 t9 fun t10 =>
 brV t10
 (nckW t0 fun t14 =>
 fld 14 t14 fun t15 =>
 nckW t0 fun t21 =>
 fld 15 t21 fun t22 =>
 ldC t15 w.drew fun t16 c3 =>
 ixS 1 t16 t3 fun t18 =>
 ldC t18 w.drew fun t19 c6 =>
 ldC t22 w.drew fun t23 c10 =>
 ixS 1 t23 t3 fun t25 =>
 ldC t25 w.drew fun t26 c13 =>
 callW Tryz.prog (.func (.func 84) #[] #[]) [t19, t26] w.drew fun t27 w =>
 heldC [(10, c10), (3, c3)] w (unW .not t27 fun t28 =>
 brV t28
 (R (.bool false) w)
 (intW .add t3 (.int .i64 1) fun t12 =>
 r2 [t0, t12] w)))
 (R (.bool true) w)
/-- `(*honeycomb/honeycombbook.Book).stillPairs` -/
def honeycombbook_Book_stillPairs (a0 : Value) (R : Value → World → Prop) (w : World) : Prop :=
 lp (honeycombbook_Book_stillPairs_L2 R) [a0, (.int .i64 0)] w
theorem honeycombbook_Book_stillPairs_den (a0 : Value) (R : Value → World → Prop) (w : World) : denF Tryz.prog Tryz.f41 (Tryz.f41.body.getD .skip) [] [(2, [0, 3])] [a0] R w = honeycombbook_Book_stillPairs a0 R w := by kernel_rfl
set_option maxRecDepth 100000 in
theorem honeycombbook_Book_stillPairs_run {a0 : Value} {R : Value → World → Prop} {w : World} (h : honeycombbook_Book_stillPairs a0 R w) : Calls Tryz.prog 41 #[a0] w (rt R) :=
  run_sound (c := Tryz.f41.body.getD .skip) (la := []) (lb := [(2, [0, 3])]) (args := [a0]) mixed Tryz.func41 (by kernel_rfl) (by kernel_rfl) (Nat.le_of_ble_eq_true (by kernel_rfl)) (Eq.mpr (honeycombbook_Book_stillPairs_den a0 R w) h)
theorem honeycombbook_Book_stillPairs_body : hasBody Tryz.prog 41 = true := by kernel_rfl
theorem honeycombbook_Book_stillPairs_call {a0 : Value} {R : Value → World → Prop} {w : World} (h : Calls Tryz.prog 41 #[a0] w (rt R)) : callW Tryz.prog (.func (.func 41) #[] #[]) [a0] w R :=
  ⟨honeycombbook_Book_stillPairs_body, h⟩
def honeycombbook_Book_stillTxs_L2 (R : Value → World → Prop) : (List Value → World → Prop) → List Value → World → Prop := fun r2 l w =>
 unc l fun t0 l =>
 unc l fun t3 l =>
 nckW t0 fun t6 =>
 fld 16 t6 fun t7 =>
 ldC t7 w fun t8 _ =>
 lenSl t8 fun t9 =>
 intW .lss t3 t9 fun t10 =>
 brV t10
 (nckW t0 fun t14 =>
 fld 16 t14 fun t15 =>
 nckW t0 fun t21 =>
 fld 17 t21 fun t22 =>
 ldC t15 w.drew fun t16 c3 =>
 ixS 1 t16 t3 fun t18 =>
 ldC t18 w.drew fun t19 c6 =>
 ldC t22 w.drew fun t23 c10 =>
 ixS 1 t23 t3 fun t25 =>
 ldC t25 w.drew fun t26 c13 =>
 callW Tryz.prog (.func (.func 85) #[] #[]) [t19, t26] w.drew fun t27 w =>
 heldC [(10, c10), (3, c3)] w (unW .not t27 fun t28 =>
 brV t28
 (R (.bool false) w)
 (intW .add t3 (.int .i64 1) fun t12 =>
 r2 [t0, t12] w)))
 (R (.bool true) w)
/-- `(*honeycomb/honeycombbook.Book).stillTxs` -/
def honeycombbook_Book_stillTxs (a0 : Value) (R : Value → World → Prop) (w : World) : Prop :=
 lp (honeycombbook_Book_stillTxs_L2 R) [a0, (.int .i64 0)] w
theorem honeycombbook_Book_stillTxs_den (a0 : Value) (R : Value → World → Prop) (w : World) : denF Tryz.prog Tryz.f42 (Tryz.f42.body.getD .skip) [] [(2, [0, 3])] [a0] R w = honeycombbook_Book_stillTxs a0 R w := by kernel_rfl
set_option maxRecDepth 100000 in
theorem honeycombbook_Book_stillTxs_run {a0 : Value} {R : Value → World → Prop} {w : World} (h : honeycombbook_Book_stillTxs a0 R w) : Calls Tryz.prog 42 #[a0] w (rt R) :=
  run_sound (c := Tryz.f42.body.getD .skip) (la := []) (lb := [(2, [0, 3])]) (args := [a0]) mixed Tryz.func42 (by kernel_rfl) (by kernel_rfl) (Nat.le_of_ble_eq_true (by kernel_rfl)) (Eq.mpr (honeycombbook_Book_stillTxs_den a0 R w) h)
theorem honeycombbook_Book_stillTxs_body : hasBody Tryz.prog 42 = true := by kernel_rfl
theorem honeycombbook_Book_stillTxs_call {a0 : Value} {R : Value → World → Prop} {w : World} (h : Calls Tryz.prog 42 #[a0] w (rt R)) : callW Tryz.prog (.func (.func 42) #[] #[]) [a0] w R :=
  ⟨honeycombbook_Book_stillTxs_body, h⟩
def honeycombbook_Book_putTxs_L5 (R : Value → World → Prop) (r1 : List Value → World → Prop) : (List Value → World → Prop) → List Value → World → Prop := fun r5 l w =>
 unc l fun t0 l =>
 unc l fun t2 l =>
 unc l fun t3 l =>
 unc l fun t4 l =>
 lenSl t3 fun t26 =>
 intW .lss t4 t26 fun t27 =>
 brV t27
 (nckW t0 fun t31 =>
 fld 16 t31 fun t32 =>
 ixS 4 t3 t4 fun t40 =>
 ldC t32 w.drew fun t33 c3 =>
 ixS 1 t33 t2 fun t35 =>
 ldC t35 w.drew fun t36 c6 =>
 ldN 4 t40 w.drew fun t41 c11 =>
 ixS 4 t36 t4 fun t42 =>
 stN 4 t42 t41 w.drew fun w =>
 intW .add t4 (.int .i64 1) fun t29 =>
 r5 [t0, t2, t3, t29] w)
 (intW .add t2 (.int .i64 1) fun t13 =>
 r1 [t0, t13] w)
def honeycombbook_Book_putTxs_L1 (R : Value → World → Prop) : (List Value → World → Prop) → List Value → World → Prop := fun r1 l w =>
 unc l fun t0 l =>
 unc l fun t2 l =>
 nckW t0 fun t7 =>
 fld 16 t7 fun t8 =>
 ldC t8 w fun t9 _ =>
 lenSl t9 fun t10 =>
 intW .lss t2 t10 fun t11 =>
 brV t11
 (nckW t0 fun t16 =>
 fld 16 t16 fun t17 =>
 ldC t17 w fun t18 _ =>
 ixS 1 t18 t2 fun t20 =>
 ldC t20 w fun t21 _ =>
 lenSl t21 fun t22 =>
 callW Tryz.prog (.func (.func 86) #[] #[]) [t2, (.int .i64 0), t22] w fun t23 w =>
 lp (honeycombbook_Book_putTxs_L5 R r1) [t0, t2, t23, (.int .i64 0)] w)
 (R (.tuple #[]) w)
/-- `(*honeycomb/honeycombbook.Book).putTxs` -/
def honeycombbook_Book_putTxs (a0 : Value) (R : Value → World → Prop) (w : World) : Prop :=
 lp (honeycombbook_Book_putTxs_L1 R) [a0, (.int .i64 0)] w
theorem honeycombbook_Book_putTxs_den (a0 : Value) (R : Value → World → Prop) (w : World) : denF Tryz.prog Tryz.f43 (Tryz.f43.body.getD .skip) [] [(1, [0, 2]), (5, [0, 2, 3, 4])] [a0] R w = honeycombbook_Book_putTxs a0 R w := by kernel_rfl
set_option maxRecDepth 100000 in
theorem honeycombbook_Book_putTxs_run {a0 : Value} {R : Value → World → Prop} {w : World} (h : honeycombbook_Book_putTxs a0 R w) : Calls Tryz.prog 43 #[a0] w (rt R) :=
  run_sound (c := Tryz.f43.body.getD .skip) (la := []) (lb := [(1, [0, 2]), (5, [0, 2, 3, 4])]) (args := [a0]) mixed Tryz.func43 (by kernel_rfl) (by kernel_rfl) (Nat.le_of_ble_eq_true (by kernel_rfl)) (Eq.mpr (honeycombbook_Book_putTxs_den a0 R w) h)
theorem honeycombbook_Book_putTxs_body : hasBody Tryz.prog 43 = true := by kernel_rfl
theorem honeycombbook_Book_putTxs_call {a0 : Value} {R : Value → World → Prop} {w : World} (h : Calls Tryz.prog 43 #[a0] w (rt R)) : callW Tryz.prog (.func (.func 43) #[] #[]) [a0] w R :=
  ⟨honeycombbook_Book_putTxs_body, h⟩
def honeycombbook_Book_putInts_L5 (R : Value → World → Prop) (r1 : List Value → World → Prop) : (List Value → World → Prop) → List Value → World → Prop := fun r5 l w =>
 unc l fun t0 l =>
 unc l fun t2 l =>
 unc l fun t3 l =>
 unc l fun t4 l =>
 lenSl t3 fun t26 =>
 intW .lss t4 t26 fun t27 =>
 brV t27
 (nckW t0 fun t31 =>
 fld 0 t31 fun t32 =>
 ixS 1 t3 t4 fun t40 =>
 ldC t32 w.drew fun t33 c3 =>
 ixS 1 t33 t2 fun t35 =>
 ldC t35 w.drew fun t36 c6 =>
 ldC t40 w.drew fun t41 c11 =>
 ixS 1 t36 t4 fun t42 =>
 1 = 1 ∧ stC t42 t41 w.drew fun w =>
 intW .add t4 (.int .i64 1) fun t29 =>
 r5 [t0, t2, t3, t29] w)
 (intW .add t2 (.int .i64 1) fun t13 =>
 r1 [t0, t13] w)
def honeycombbook_Book_putInts_L1 (R : Value → World → Prop) : (List Value → World → Prop) → List Value → World → Prop := fun r1 l w =>
 unc l fun t0 l =>
 unc l fun t2 l =>
 nckW t0 fun t7 =>
 fld 0 t7 fun t8 =>
 ldC t8 w fun t9 _ =>
 lenSl t9 fun t10 =>
 intW .lss t2 t10 fun t11 =>
 brV t11
 (nckW t0 fun t16 =>
 fld 0 t16 fun t17 =>
 ldC t17 w fun t18 _ =>
 ixS 1 t18 t2 fun t20 =>
 ldC t20 w fun t21 _ =>
 lenSl t21 fun t22 =>
 callW Tryz.prog (.func (.func 87) #[] #[]) [t2, (.int .i64 0), t22] w fun t23 w =>
 lp (honeycombbook_Book_putInts_L5 R r1) [t0, t2, t23, (.int .i64 0)] w)
 (R (.tuple #[]) w)
/-- `(*honeycomb/honeycombbook.Book).putInts` -/
def honeycombbook_Book_putInts (a0 : Value) (R : Value → World → Prop) (w : World) : Prop :=
 lp (honeycombbook_Book_putInts_L1 R) [a0, (.int .i64 0)] w
theorem honeycombbook_Book_putInts_den (a0 : Value) (R : Value → World → Prop) (w : World) : denF Tryz.prog Tryz.f44 (Tryz.f44.body.getD .skip) [] [(1, [0, 2]), (5, [0, 2, 3, 4])] [a0] R w = honeycombbook_Book_putInts a0 R w := by kernel_rfl
set_option maxRecDepth 100000 in
theorem honeycombbook_Book_putInts_run {a0 : Value} {R : Value → World → Prop} {w : World} (h : honeycombbook_Book_putInts a0 R w) : Calls Tryz.prog 44 #[a0] w (rt R) :=
  run_sound (c := Tryz.f44.body.getD .skip) (la := []) (lb := [(1, [0, 2]), (5, [0, 2, 3, 4])]) (args := [a0]) mixed Tryz.func44 (by kernel_rfl) (by kernel_rfl) (Nat.le_of_ble_eq_true (by kernel_rfl)) (Eq.mpr (honeycombbook_Book_putInts_den a0 R w) h)
theorem honeycombbook_Book_putInts_body : hasBody Tryz.prog 44 = true := by kernel_rfl
theorem honeycombbook_Book_putInts_call {a0 : Value} {R : Value → World → Prop} {w : World} (h : Calls Tryz.prog 44 #[a0] w (rt R)) : callW Tryz.prog (.func (.func 44) #[] #[]) [a0] w R :=
  ⟨honeycombbook_Book_putInts_body, h⟩
def honeycombbook_Book_putTexts_L5 (R : Value → World → Prop) (r1 : List Value → World → Prop) : (List Value → World → Prop) → List Value → World → Prop := fun r5 l w =>
 unc l fun t0 l =>
 unc l fun t2 l =>
 unc l fun t3 l =>
 unc l fun t4 l =>
 lenSl t3 fun t26 =>
 intW .lss t4 t26 fun t27 =>
 brV t27
 (nckW t0 fun t31 =>
 fld 2 t31 fun t32 =>
 ixS 1 t3 t4 fun t40 =>
 ldC t32 w.drew fun t33 c3 =>
 ixS 1 t33 t2 fun t35 =>
 ldC t35 w.drew fun t36 c6 =>
 ldC t40 w.drew fun t41 c11 =>
 ixS 1 t36 t4 fun t42 =>
 1 = 1 ∧ stC t42 t41 w.drew fun w =>
 intW .add t4 (.int .i64 1) fun t29 =>
 r5 [t0, t2, t3, t29] w)
 (intW .add t2 (.int .i64 1) fun t13 =>
 r1 [t0, t13] w)
def honeycombbook_Book_putTexts_L1 (R : Value → World → Prop) : (List Value → World → Prop) → List Value → World → Prop := fun r1 l w =>
 unc l fun t0 l =>
 unc l fun t2 l =>
 nckW t0 fun t7 =>
 fld 2 t7 fun t8 =>
 ldC t8 w fun t9 _ =>
 lenSl t9 fun t10 =>
 intW .lss t2 t10 fun t11 =>
 brV t11
 (nckW t0 fun t16 =>
 fld 2 t16 fun t17 =>
 ldC t17 w fun t18 _ =>
 ixS 1 t18 t2 fun t20 =>
 ldC t20 w fun t21 _ =>
 lenSl t21 fun t22 =>
 callW Tryz.prog (.func (.func 88) #[] #[]) [t2, (.int .i64 0), t22] w fun t23 w =>
 lp (honeycombbook_Book_putTexts_L5 R r1) [t0, t2, t23, (.int .i64 0)] w)
 (R (.tuple #[]) w)
/-- `(*honeycomb/honeycombbook.Book).putTexts` -/
def honeycombbook_Book_putTexts (a0 : Value) (R : Value → World → Prop) (w : World) : Prop :=
 lp (honeycombbook_Book_putTexts_L1 R) [a0, (.int .i64 0)] w
theorem honeycombbook_Book_putTexts_den (a0 : Value) (R : Value → World → Prop) (w : World) : denF Tryz.prog Tryz.f45 (Tryz.f45.body.getD .skip) [] [(1, [0, 2]), (5, [0, 2, 3, 4])] [a0] R w = honeycombbook_Book_putTexts a0 R w := by kernel_rfl
set_option maxRecDepth 100000 in
theorem honeycombbook_Book_putTexts_run {a0 : Value} {R : Value → World → Prop} {w : World} (h : honeycombbook_Book_putTexts a0 R w) : Calls Tryz.prog 45 #[a0] w (rt R) :=
  run_sound (c := Tryz.f45.body.getD .skip) (la := []) (lb := [(1, [0, 2]), (5, [0, 2, 3, 4])]) (args := [a0]) mixed Tryz.func45 (by kernel_rfl) (by kernel_rfl) (Nat.le_of_ble_eq_true (by kernel_rfl)) (Eq.mpr (honeycombbook_Book_putTexts_den a0 R w) h)
theorem honeycombbook_Book_putTexts_body : hasBody Tryz.prog 45 = true := by kernel_rfl
theorem honeycombbook_Book_putTexts_call {a0 : Value} {R : Value → World → Prop} {w : World} (h : Calls Tryz.prog 45 #[a0] w (rt R)) : callW Tryz.prog (.func (.func 45) #[] #[]) [a0] w R :=
  ⟨honeycombbook_Book_putTexts_body, h⟩
def honeycombbook_Book_putCells_L5 (R : Value → World → Prop) (r1 : List Value → World → Prop) : (List Value → World → Prop) → List Value → World → Prop := fun r5 l w =>
 unc l fun t0 l =>
 unc l fun t2 l =>
 unc l fun t3 l =>
 unc l fun t4 l =>
 lenSl t3 fun t26 =>
 intW .lss t4 t26 fun t27 =>
 brV t27
 (nckW t0 fun t31 =>
 fld 4 t31 fun t32 =>
 ixS 4 t3 t4 fun t40 =>
 ldC t32 w.drew fun t33 c3 =>
 ixS 1 t33 t2 fun t35 =>
 ldC t35 w.drew fun t36 c6 =>
 ldN 4 t40 w.drew fun t41 c11 =>
 ixS 4 t36 t4 fun t42 =>
 stN 4 t42 t41 w.drew fun w =>
 intW .add t4 (.int .i64 1) fun t29 =>
 r5 [t0, t2, t3, t29] w)
 (intW .add t2 (.int .i64 1) fun t13 =>
 r1 [t0, t13] w)
def honeycombbook_Book_putCells_L1 (R : Value → World → Prop) : (List Value → World → Prop) → List Value → World → Prop := fun r1 l w =>
 unc l fun t0 l =>
 unc l fun t2 l =>
 nckW t0 fun t7 =>
 fld 4 t7 fun t8 =>
 ldC t8 w fun t9 _ =>
 lenSl t9 fun t10 =>
 intW .lss t2 t10 fun t11 =>
 brV t11
 (nckW t0 fun t16 =>
 fld 4 t16 fun t17 =>
 ldC t17 w fun t18 _ =>
 ixS 1 t18 t2 fun t20 =>
 ldC t20 w fun t21 _ =>
 lenSl t21 fun t22 =>
 callW Tryz.prog (.func (.func 89) #[] #[]) [t2, (.int .i64 0), t22] w fun t23 w =>
 lp (honeycombbook_Book_putCells_L5 R r1) [t0, t2, t23, (.int .i64 0)] w)
 (R (.tuple #[]) w)
/-- `(*honeycomb/honeycombbook.Book).putCells` -/
def honeycombbook_Book_putCells (a0 : Value) (R : Value → World → Prop) (w : World) : Prop :=
 lp (honeycombbook_Book_putCells_L1 R) [a0, (.int .i64 0)] w
theorem honeycombbook_Book_putCells_den (a0 : Value) (R : Value → World → Prop) (w : World) : denF Tryz.prog Tryz.f46 (Tryz.f46.body.getD .skip) [] [(1, [0, 2]), (5, [0, 2, 3, 4])] [a0] R w = honeycombbook_Book_putCells a0 R w := by kernel_rfl
set_option maxRecDepth 100000 in
theorem honeycombbook_Book_putCells_run {a0 : Value} {R : Value → World → Prop} {w : World} (h : honeycombbook_Book_putCells a0 R w) : Calls Tryz.prog 46 #[a0] w (rt R) :=
  run_sound (c := Tryz.f46.body.getD .skip) (la := []) (lb := [(1, [0, 2]), (5, [0, 2, 3, 4])]) (args := [a0]) mixed Tryz.func46 (by kernel_rfl) (by kernel_rfl) (Nat.le_of_ble_eq_true (by kernel_rfl)) (Eq.mpr (honeycombbook_Book_putCells_den a0 R w) h)
theorem honeycombbook_Book_putCells_body : hasBody Tryz.prog 46 = true := by kernel_rfl
theorem honeycombbook_Book_putCells_call {a0 : Value} {R : Value → World → Prop} {w : World} (h : Calls Tryz.prog 46 #[a0] w (rt R)) : callW Tryz.prog (.func (.func 46) #[] #[]) [a0] w R :=
  ⟨honeycombbook_Book_putCells_body, h⟩
def honeycombbook_Book_putPages_L5 (R : Value → World → Prop) (r1 : List Value → World → Prop) : (List Value → World → Prop) → List Value → World → Prop := fun r5 l w =>
 unc l fun t0 l =>
 unc l fun t2 l =>
 unc l fun t3 l =>
 unc l fun t4 l =>
 lenSl t3 fun t26 =>
 intW .lss t4 t26 fun t27 =>
 brV t27
 (nckW t0 fun t31 =>
 fld 6 t31 fun t32 =>
 ixS 4 t3 t4 fun t40 =>
 ldC t32 w.drew fun t33 c3 =>
 ixS 1 t33 t2 fun t35 =>
 ldC t35 w.drew fun t36 c6 =>
 ldN 4 t40 w.drew fun t41 c11 =>
 ixS 4 t36 t4 fun t42 =>
 stN 4 t42 t41 w.drew fun w =>
 intW .add t4 (.int .i64 1) fun t29 =>
 r5 [t0, t2, t3, t29] w)
 (intW .add t2 (.int .i64 1) fun t13 =>
 r1 [t0, t13] w)
def honeycombbook_Book_putPages_L1 (R : Value → World → Prop) : (List Value → World → Prop) → List Value → World → Prop := fun r1 l w =>
 unc l fun t0 l =>
 unc l fun t2 l =>
 nckW t0 fun t7 =>
 fld 6 t7 fun t8 =>
 ldC t8 w fun t9 _ =>
 lenSl t9 fun t10 =>
 intW .lss t2 t10 fun t11 =>
 brV t11
 (nckW t0 fun t16 =>
 fld 6 t16 fun t17 =>
 ldC t17 w fun t18 _ =>
 ixS 1 t18 t2 fun t20 =>
 ldC t20 w fun t21 _ =>
 lenSl t21 fun t22 =>
 callW Tryz.prog (.func (.func 90) #[] #[]) [t2, (.int .i64 0), t22] w fun t23 w =>
 lp (honeycombbook_Book_putPages_L5 R r1) [t0, t2, t23, (.int .i64 0)] w)
 (R (.tuple #[]) w)
/-- `(*honeycomb/honeycombbook.Book).putPages` -/
def honeycombbook_Book_putPages (a0 : Value) (R : Value → World → Prop) (w : World) : Prop :=
 lp (honeycombbook_Book_putPages_L1 R) [a0, (.int .i64 0)] w
theorem honeycombbook_Book_putPages_den (a0 : Value) (R : Value → World → Prop) (w : World) : denF Tryz.prog Tryz.f47 (Tryz.f47.body.getD .skip) [] [(1, [0, 2]), (5, [0, 2, 3, 4])] [a0] R w = honeycombbook_Book_putPages a0 R w := by kernel_rfl
set_option maxRecDepth 100000 in
theorem honeycombbook_Book_putPages_run {a0 : Value} {R : Value → World → Prop} {w : World} (h : honeycombbook_Book_putPages a0 R w) : Calls Tryz.prog 47 #[a0] w (rt R) :=
  run_sound (c := Tryz.f47.body.getD .skip) (la := []) (lb := [(1, [0, 2]), (5, [0, 2, 3, 4])]) (args := [a0]) mixed Tryz.func47 (by kernel_rfl) (by kernel_rfl) (Nat.le_of_ble_eq_true (by kernel_rfl)) (Eq.mpr (honeycombbook_Book_putPages_den a0 R w) h)
theorem honeycombbook_Book_putPages_body : hasBody Tryz.prog 47 = true := by kernel_rfl
theorem honeycombbook_Book_putPages_call {a0 : Value} {R : Value → World → Prop} {w : World} (h : Calls Tryz.prog 47 #[a0] w (rt R)) : callW Tryz.prog (.func (.func 47) #[] #[]) [a0] w R :=
  ⟨honeycombbook_Book_putPages_body, h⟩
def honeycombbook_Book_putPatches_L5 (R : Value → World → Prop) (r1 : List Value → World → Prop) : (List Value → World → Prop) → List Value → World → Prop := fun r5 l w =>
 unc l fun t0 l =>
 unc l fun t2 l =>
 unc l fun t3 l =>
 unc l fun t4 l =>
 lenSl t3 fun t26 =>
 intW .lss t4 t26 fun t27 =>
 brV t27
 (nckW t0 fun t31 =>
 fld 8 t31 fun t32 =>
 ixS 3 t3 t4 fun t40 =>
 ldC t32 w.drew fun t33 c3 =>
 ixS 1 t33 t2 fun t35 =>
 ldC t35 w.drew fun t36 c6 =>
 ldN 3 t40 w.drew fun t41 c11 =>
 ixS 3 t36 t4 fun t42 =>
 stN 3 t42 t41 w.drew fun w =>
 intW .add t4 (.int .i64 1) fun t29 =>
 r5 [t0, t2, t3, t29] w)
 (intW .add t2 (.int .i64 1) fun t13 =>
 r1 [t0, t13] w)
def honeycombbook_Book_putPatches_L1 (R : Value → World → Prop) : (List Value → World → Prop) → List Value → World → Prop := fun r1 l w =>
 unc l fun t0 l =>
 unc l fun t2 l =>
 nckW t0 fun t7 =>
 fld 8 t7 fun t8 =>
 ldC t8 w fun t9 _ =>
 lenSl t9 fun t10 =>
 intW .lss t2 t10 fun t11 =>
 brV t11
 (nckW t0 fun t16 =>
 fld 8 t16 fun t17 =>
 ldC t17 w fun t18 _ =>
 ixS 1 t18 t2 fun t20 =>
 ldC t20 w fun t21 _ =>
 lenSl t21 fun t22 =>
 callW Tryz.prog (.func (.func 91) #[] #[]) [t2, (.int .i64 0), t22] w fun t23 w =>
 lp (honeycombbook_Book_putPatches_L5 R r1) [t0, t2, t23, (.int .i64 0)] w)
 (R (.tuple #[]) w)
/-- `(*honeycomb/honeycombbook.Book).putPatches` -/
def honeycombbook_Book_putPatches (a0 : Value) (R : Value → World → Prop) (w : World) : Prop :=
 lp (honeycombbook_Book_putPatches_L1 R) [a0, (.int .i64 0)] w
theorem honeycombbook_Book_putPatches_den (a0 : Value) (R : Value → World → Prop) (w : World) : denF Tryz.prog Tryz.f48 (Tryz.f48.body.getD .skip) [] [(1, [0, 2]), (5, [0, 2, 3, 4])] [a0] R w = honeycombbook_Book_putPatches a0 R w := by kernel_rfl
set_option maxRecDepth 100000 in
theorem honeycombbook_Book_putPatches_run {a0 : Value} {R : Value → World → Prop} {w : World} (h : honeycombbook_Book_putPatches a0 R w) : Calls Tryz.prog 48 #[a0] w (rt R) :=
  run_sound (c := Tryz.f48.body.getD .skip) (la := []) (lb := [(1, [0, 2]), (5, [0, 2, 3, 4])]) (args := [a0]) mixed Tryz.func48 (by kernel_rfl) (by kernel_rfl) (Nat.le_of_ble_eq_true (by kernel_rfl)) (Eq.mpr (honeycombbook_Book_putPatches_den a0 R w) h)
theorem honeycombbook_Book_putPatches_body : hasBody Tryz.prog 48 = true := by kernel_rfl
theorem honeycombbook_Book_putPatches_call {a0 : Value} {R : Value → World → Prop} {w : World} (h : Calls Tryz.prog 48 #[a0] w (rt R)) : callW Tryz.prog (.func (.func 48) #[] #[]) [a0] w R :=
  ⟨honeycombbook_Book_putPatches_body, h⟩
def honeycombbook_Book_putDirty_L5 (R : Value → World → Prop) (r1 : List Value → World → Prop) : (List Value → World → Prop) → List Value → World → Prop := fun r5 l w =>
 unc l fun t0 l =>
 unc l fun t2 l =>
 unc l fun t3 l =>
 unc l fun t4 l =>
 lenSl t3 fun t26 =>
 intW .lss t4 t26 fun t27 =>
 brV t27
 (nckW t0 fun t31 =>
 fld 10 t31 fun t32 =>
 ixS 2 t3 t4 fun t40 =>
 ldC t32 w.drew fun t33 c3 =>
 ixS 1 t33 t2 fun t35 =>
 ldC t35 w.drew fun t36 c6 =>
 ldN 2 t40 w.drew fun t41 c11 =>
 ixS 2 t36 t4 fun t42 =>
 stN 2 t42 t41 w.drew fun w =>
 intW .add t4 (.int .i64 1) fun t29 =>
 r5 [t0, t2, t3, t29] w)
 (intW .add t2 (.int .i64 1) fun t13 =>
 r1 [t0, t13] w)
def honeycombbook_Book_putDirty_L1 (R : Value → World → Prop) : (List Value → World → Prop) → List Value → World → Prop := fun r1 l w =>
 unc l fun t0 l =>
 unc l fun t2 l =>
 nckW t0 fun t7 =>
 fld 10 t7 fun t8 =>
 ldC t8 w fun t9 _ =>
 lenSl t9 fun t10 =>
 intW .lss t2 t10 fun t11 =>
 brV t11
 (nckW t0 fun t16 =>
 fld 10 t16 fun t17 =>
 ldC t17 w fun t18 _ =>
 ixS 1 t18 t2 fun t20 =>
 ldC t20 w fun t21 _ =>
 lenSl t21 fun t22 =>
 callW Tryz.prog (.func (.func 92) #[] #[]) [t2, (.int .i64 0), t22] w fun t23 w =>
 lp (honeycombbook_Book_putDirty_L5 R r1) [t0, t2, t23, (.int .i64 0)] w)
 (R (.tuple #[]) w)
/-- `(*honeycomb/honeycombbook.Book).putDirty` -/
def honeycombbook_Book_putDirty (a0 : Value) (R : Value → World → Prop) (w : World) : Prop :=
 lp (honeycombbook_Book_putDirty_L1 R) [a0, (.int .i64 0)] w
theorem honeycombbook_Book_putDirty_den (a0 : Value) (R : Value → World → Prop) (w : World) : denF Tryz.prog Tryz.f49 (Tryz.f49.body.getD .skip) [] [(1, [0, 2]), (5, [0, 2, 3, 4])] [a0] R w = honeycombbook_Book_putDirty a0 R w := by kernel_rfl
set_option maxRecDepth 100000 in
theorem honeycombbook_Book_putDirty_run {a0 : Value} {R : Value → World → Prop} {w : World} (h : honeycombbook_Book_putDirty a0 R w) : Calls Tryz.prog 49 #[a0] w (rt R) :=
  run_sound (c := Tryz.f49.body.getD .skip) (la := []) (lb := [(1, [0, 2]), (5, [0, 2, 3, 4])]) (args := [a0]) mixed Tryz.func49 (by kernel_rfl) (by kernel_rfl) (Nat.le_of_ble_eq_true (by kernel_rfl)) (Eq.mpr (honeycombbook_Book_putDirty_den a0 R w) h)
theorem honeycombbook_Book_putDirty_body : hasBody Tryz.prog 49 = true := by kernel_rfl
theorem honeycombbook_Book_putDirty_call {a0 : Value} {R : Value → World → Prop} {w : World} (h : Calls Tryz.prog 49 #[a0] w (rt R)) : callW Tryz.prog (.func (.func 49) #[] #[]) [a0] w R :=
  ⟨honeycombbook_Book_putDirty_body, h⟩
def honeycombbook_Book_putEntries_L5 (R : Value → World → Prop) (r1 : List Value → World → Prop) : (List Value → World → Prop) → List Value → World → Prop := fun r5 l w =>
 unc l fun t0 l =>
 unc l fun t2 l =>
 unc l fun t3 l =>
 unc l fun t4 l =>
 lenSl t3 fun t26 =>
 intW .lss t4 t26 fun t27 =>
 brV t27
 (nckW t0 fun t31 =>
 fld 12 t31 fun t32 =>
 ixS 2 t3 t4 fun t40 =>
 ldC t32 w.drew fun t33 c3 =>
 ixS 1 t33 t2 fun t35 =>
 ldC t35 w.drew fun t36 c6 =>
 ldN 2 t40 w.drew fun t41 c11 =>
 ixS 2 t36 t4 fun t42 =>
 stN 2 t42 t41 w.drew fun w =>
 intW .add t4 (.int .i64 1) fun t29 =>
 r5 [t0, t2, t3, t29] w)
 (intW .add t2 (.int .i64 1) fun t13 =>
 r1 [t0, t13] w)
def honeycombbook_Book_putEntries_L1 (R : Value → World → Prop) : (List Value → World → Prop) → List Value → World → Prop := fun r1 l w =>
 unc l fun t0 l =>
 unc l fun t2 l =>
 nckW t0 fun t7 =>
 fld 12 t7 fun t8 =>
 ldC t8 w fun t9 _ =>
 lenSl t9 fun t10 =>
 intW .lss t2 t10 fun t11 =>
 brV t11
 (nckW t0 fun t16 =>
 fld 12 t16 fun t17 =>
 ldC t17 w fun t18 _ =>
 ixS 1 t18 t2 fun t20 =>
 ldC t20 w fun t21 _ =>
 lenSl t21 fun t22 =>
 callW Tryz.prog (.func (.func 93) #[] #[]) [t2, (.int .i64 0), t22] w fun t23 w =>
 lp (honeycombbook_Book_putEntries_L5 R r1) [t0, t2, t23, (.int .i64 0)] w)
 (R (.tuple #[]) w)
/-- `(*honeycomb/honeycombbook.Book).putEntries` -/
def honeycombbook_Book_putEntries (a0 : Value) (R : Value → World → Prop) (w : World) : Prop :=
 lp (honeycombbook_Book_putEntries_L1 R) [a0, (.int .i64 0)] w
theorem honeycombbook_Book_putEntries_den (a0 : Value) (R : Value → World → Prop) (w : World) : denF Tryz.prog Tryz.f50 (Tryz.f50.body.getD .skip) [] [(1, [0, 2]), (5, [0, 2, 3, 4])] [a0] R w = honeycombbook_Book_putEntries a0 R w := by kernel_rfl
set_option maxRecDepth 100000 in
theorem honeycombbook_Book_putEntries_run {a0 : Value} {R : Value → World → Prop} {w : World} (h : honeycombbook_Book_putEntries a0 R w) : Calls Tryz.prog 50 #[a0] w (rt R) :=
  run_sound (c := Tryz.f50.body.getD .skip) (la := []) (lb := [(1, [0, 2]), (5, [0, 2, 3, 4])]) (args := [a0]) mixed Tryz.func50 (by kernel_rfl) (by kernel_rfl) (Nat.le_of_ble_eq_true (by kernel_rfl)) (Eq.mpr (honeycombbook_Book_putEntries_den a0 R w) h)
theorem honeycombbook_Book_putEntries_body : hasBody Tryz.prog 50 = true := by kernel_rfl
theorem honeycombbook_Book_putEntries_call {a0 : Value} {R : Value → World → Prop} {w : World} (h : Calls Tryz.prog 50 #[a0] w (rt R)) : callW Tryz.prog (.func (.func 50) #[] #[]) [a0] w R :=
  ⟨honeycombbook_Book_putEntries_body, h⟩
def honeycombbook_Book_putPairs_L5 (R : Value → World → Prop) (r1 : List Value → World → Prop) : (List Value → World → Prop) → List Value → World → Prop := fun r5 l w =>
 unc l fun t0 l =>
 unc l fun t2 l =>
 unc l fun t3 l =>
 unc l fun t4 l =>
 lenSl t3 fun t26 =>
 intW .lss t4 t26 fun t27 =>
 brV t27
 (nckW t0 fun t31 =>
 fld 14 t31 fun t32 =>
 ixS 2 t3 t4 fun t40 =>
 ldC t32 w.drew fun t33 c3 =>
 ixS 1 t33 t2 fun t35 =>
 ldC t35 w.drew fun t36 c6 =>
 ldN 2 t40 w.drew fun t41 c11 =>
 ixS 2 t36 t4 fun t42 =>
 stN 2 t42 t41 w.drew fun w =>
 intW .add t4 (.int .i64 1) fun t29 =>
 r5 [t0, t2, t3, t29] w)
 (intW .add t2 (.int .i64 1) fun t13 =>
 r1 [t0, t13] w)
def honeycombbook_Book_putPairs_L1 (R : Value → World → Prop) : (List Value → World → Prop) → List Value → World → Prop := fun r1 l w =>
 unc l fun t0 l =>
 unc l fun t2 l =>
 nckW t0 fun t7 =>
 fld 14 t7 fun t8 =>
 ldC t8 w fun t9 _ =>
 lenSl t9 fun t10 =>
 intW .lss t2 t10 fun t11 =>
 brV t11
 (nckW t0 fun t16 =>
 fld 14 t16 fun t17 =>
 ldC t17 w fun t18 _ =>
 ixS 1 t18 t2 fun t20 =>
 ldC t20 w fun t21 _ =>
 lenSl t21 fun t22 =>
 callW Tryz.prog (.func (.func 94) #[] #[]) [t2, (.int .i64 0), t22] w fun t23 w =>
 lp (honeycombbook_Book_putPairs_L5 R r1) [t0, t2, t23, (.int .i64 0)] w)
 (R (.tuple #[]) w)
/-- `(*honeycomb/honeycombbook.Book).putPairs` -/
def honeycombbook_Book_putPairs (a0 : Value) (R : Value → World → Prop) (w : World) : Prop :=
 lp (honeycombbook_Book_putPairs_L1 R) [a0, (.int .i64 0)] w
theorem honeycombbook_Book_putPairs_den (a0 : Value) (R : Value → World → Prop) (w : World) : denF Tryz.prog Tryz.f51 (Tryz.f51.body.getD .skip) [] [(1, [0, 2]), (5, [0, 2, 3, 4])] [a0] R w = honeycombbook_Book_putPairs a0 R w := by kernel_rfl
set_option maxRecDepth 100000 in
theorem honeycombbook_Book_putPairs_run {a0 : Value} {R : Value → World → Prop} {w : World} (h : honeycombbook_Book_putPairs a0 R w) : Calls Tryz.prog 51 #[a0] w (rt R) :=
  run_sound (c := Tryz.f51.body.getD .skip) (la := []) (lb := [(1, [0, 2]), (5, [0, 2, 3, 4])]) (args := [a0]) mixed Tryz.func51 (by kernel_rfl) (by kernel_rfl) (Nat.le_of_ble_eq_true (by kernel_rfl)) (Eq.mpr (honeycombbook_Book_putPairs_den a0 R w) h)
theorem honeycombbook_Book_putPairs_body : hasBody Tryz.prog 51 = true := by kernel_rfl
theorem honeycombbook_Book_putPairs_call {a0 : Value} {R : Value → World → Prop} {w : World} (h : Calls Tryz.prog 51 #[a0] w (rt R)) : callW Tryz.prog (.func (.func 51) #[] #[]) [a0] w R :=
  ⟨honeycombbook_Book_putPairs_body, h⟩
def honeycombbook_Book_growInts_L7 (R : Value → World → Prop) (r3 : List Value → World → Prop) : (List Value → World → Prop) → List Value → World → Prop := fun r7 l w =>
 unc l fun t0 l =>
 unc l fun t3 l =>
 unc l fun t4 l =>
 unc l fun t5 l =>
 unc l fun t6 l =>
 intW .lss t6 (.int .i64 12) fun t24 =>
 brV t24
 (lenSl t5 fun t30 =>
 callW Tryz.prog (.func (.func 87) #[] #[]) [t4, t30, (.int .i64 1)] w fun t31 w =>
 sm Tryz.prog (bi .append #[106, 106] 106 [t5, t31]) w fun t32 w =>
 intW .add t6 (.int .i64 1) fun t26 =>
 r7 [t0, t3, t4, t32, t26] w)
 (lenSl t5 fun t37 =>
 callW Tryz.prog (.func (.func 87) #[] #[]) [t4, t37, (.int .i64 60)] w fun t38 w =>
 sm Tryz.prog (bi .append #[106, 106] 106 [t5, t38]) w fun t39 w =>
 blS 106 1 #[(.slice none 0 0)] 1 [(0, t39)] w fun t40 w =>
 sm Tryz.prog (bi .append #[36, 36] 36 [t3, t40]) w fun t41 w =>
 intW .add t4 (.int .i64 1) fun t15 =>
 r3 [t0, t41, t15] w)
def honeycombbook_Book_growInts_L3 (R : Value → World → Prop) : (List Value → World → Prop) → List Value → World → Prop := fun r3 l w =>
 unc l fun t0 l =>
 unc l fun t3 l =>
 unc l fun t4 l =>
 nckW t0 fun t9 =>
 fld 0 t9 fun t10 =>
 ldC t10 w fun t11 _ =>
 lenSl t11 fun t12 =>
 intW .lss t4 t12 fun t13 =>
 brV t13
 (nckW t0 fun t17 =>
 fld 0 t17 fun t18 =>
 ldC t18 w fun t19 _ =>
 ixS 1 t19 t4 fun t21 =>
 ldC t21 w fun t22 _ =>
 lp (honeycombbook_Book_growInts_L7 R r3) [t0, t3, t4, t22, (.int .i64 0)] w)
 (R t3 w)
/-- `(*honeycomb/honeycombbook.Book).growInts` -/
def honeycombbook_Book_growInts (a0 : Value) (R : Value → World → Prop) (w : World) : Prop :=
 lp (honeycombbook_Book_growInts_L3 R) [a0, (.slice none 0 0), (.int .i64 0)] w
theorem honeycombbook_Book_growInts_den (a0 : Value) (R : Value → World → Prop) (w : World) : denF Tryz.prog Tryz.f52 (Tryz.f52.body.getD .skip) [] [(3, [0, 3, 4]), (7, [0, 3, 4, 5, 6])] [a0] R w = honeycombbook_Book_growInts a0 R w := by kernel_rfl
set_option maxRecDepth 100000 in
theorem honeycombbook_Book_growInts_run {a0 : Value} {R : Value → World → Prop} {w : World} (h : honeycombbook_Book_growInts a0 R w) : Calls Tryz.prog 52 #[a0] w (rt R) :=
  run_sound (c := Tryz.f52.body.getD .skip) (la := []) (lb := [(3, [0, 3, 4]), (7, [0, 3, 4, 5, 6])]) (args := [a0]) mixed Tryz.func52 (by kernel_rfl) (by kernel_rfl) (Nat.le_of_ble_eq_true (by kernel_rfl)) (Eq.mpr (honeycombbook_Book_growInts_den a0 R w) h)
theorem honeycombbook_Book_growInts_body : hasBody Tryz.prog 52 = true := by kernel_rfl
theorem honeycombbook_Book_growInts_call {a0 : Value} {R : Value → World → Prop} {w : World} (h : Calls Tryz.prog 52 #[a0] w (rt R)) : callW Tryz.prog (.func (.func 52) #[] #[]) [a0] w R :=
  ⟨honeycombbook_Book_growInts_body, h⟩
def honeycombbook_Book_growTexts_L7 (R : Value → World → Prop) (r3 : List Value → World → Prop) : (List Value → World → Prop) → List Value → World → Prop := fun r7 l w =>
 unc l fun t0 l =>
 unc l fun t3 l =>
 unc l fun t4 l =>
 unc l fun t5 l =>
 unc l fun t6 l =>
 intW .lss t6 (.int .i64 12) fun t24 =>
 brV t24
 (lenSl t5 fun t30 =>
 callW Tryz.prog (.func (.func 88) #[] #[]) [t4, t30, (.int .i64 1)] w fun t31 w =>
 sm Tryz.prog (bi .append #[24, 24] 24 [t5, t31]) w fun t32 w =>
 intW .add t6 (.int .i64 1) fun t26 =>
 r7 [t0, t3, t4, t32, t26] w)
 (lenSl t5 fun t37 =>
 callW Tryz.prog (.func (.func 88) #[] #[]) [t4, t37, (.int .i64 60)] w fun t38 w =>
 sm Tryz.prog (bi .append #[24, 24] 24 [t5, t38]) w fun t39 w =>
 blS 24 1 #[(.slice none 0 0)] 1 [(0, t39)] w fun t40 w =>
 sm Tryz.prog (bi .append #[37, 37] 37 [t3, t40]) w fun t41 w =>
 intW .add t4 (.int .i64 1) fun t15 =>
 r3 [t0, t41, t15] w)
def honeycombbook_Book_growTexts_L3 (R : Value → World → Prop) : (List Value → World → Prop) → List Value → World → Prop := fun r3 l w =>
 unc l fun t0 l =>
 unc l fun t3 l =>
 unc l fun t4 l =>
 nckW t0 fun t9 =>
 fld 2 t9 fun t10 =>
 ldC t10 w fun t11 _ =>
 lenSl t11 fun t12 =>
 intW .lss t4 t12 fun t13 =>
 brV t13
 (nckW t0 fun t17 =>
 fld 2 t17 fun t18 =>
 ldC t18 w fun t19 _ =>
 ixS 1 t19 t4 fun t21 =>
 ldC t21 w fun t22 _ =>
 lp (honeycombbook_Book_growTexts_L7 R r3) [t0, t3, t4, t22, (.int .i64 0)] w)
 (R t3 w)
/-- `(*honeycomb/honeycombbook.Book).growTexts` -/
def honeycombbook_Book_growTexts (a0 : Value) (R : Value → World → Prop) (w : World) : Prop :=
 lp (honeycombbook_Book_growTexts_L3 R) [a0, (.slice none 0 0), (.int .i64 0)] w
theorem honeycombbook_Book_growTexts_den (a0 : Value) (R : Value → World → Prop) (w : World) : denF Tryz.prog Tryz.f53 (Tryz.f53.body.getD .skip) [] [(3, [0, 3, 4]), (7, [0, 3, 4, 5, 6])] [a0] R w = honeycombbook_Book_growTexts a0 R w := by kernel_rfl
set_option maxRecDepth 100000 in
theorem honeycombbook_Book_growTexts_run {a0 : Value} {R : Value → World → Prop} {w : World} (h : honeycombbook_Book_growTexts a0 R w) : Calls Tryz.prog 53 #[a0] w (rt R) :=
  run_sound (c := Tryz.f53.body.getD .skip) (la := []) (lb := [(3, [0, 3, 4]), (7, [0, 3, 4, 5, 6])]) (args := [a0]) mixed Tryz.func53 (by kernel_rfl) (by kernel_rfl) (Nat.le_of_ble_eq_true (by kernel_rfl)) (Eq.mpr (honeycombbook_Book_growTexts_den a0 R w) h)
theorem honeycombbook_Book_growTexts_body : hasBody Tryz.prog 53 = true := by kernel_rfl
theorem honeycombbook_Book_growTexts_call {a0 : Value} {R : Value → World → Prop} {w : World} (h : Calls Tryz.prog 53 #[a0] w (rt R)) : callW Tryz.prog (.func (.func 53) #[] #[]) [a0] w R :=
  ⟨honeycombbook_Book_growTexts_body, h⟩
def honeycombbook_Book_growCells_L7 (R : Value → World → Prop) (r3 : List Value → World → Prop) : (List Value → World → Prop) → List Value → World → Prop := fun r7 l w =>
 unc l fun t0 l =>
 unc l fun t3 l =>
 unc l fun t4 l =>
 unc l fun t5 l =>
 unc l fun t6 l =>
 intW .lss t6 (.int .i64 12) fun t24 =>
 brV t24
 (lenSl t5 fun t30 =>
 callW Tryz.prog (.func (.func 89) #[] #[]) [t4, t30, (.int .i64 1)] w fun t31 w =>
 sm Tryz.prog (bi .append #[108, 108] 108 [t5, t31]) w fun t32 w =>
 intW .add t6 (.int .i64 1) fun t26 =>
 r7 [t0, t3, t4, t32, t26] w)
 (lenSl t5 fun t37 =>
 callW Tryz.prog (.func (.func 89) #[] #[]) [t4, t37, (.int .i64 60)] w fun t38 w =>
 sm Tryz.prog (bi .append #[108, 108] 108 [t5, t38]) w fun t39 w =>
 blS 108 1 #[(.slice none 0 0)] 1 [(0, t39)] w fun t40 w =>
 sm Tryz.prog (bi .append #[38, 38] 38 [t3, t40]) w fun t41 w =>
 intW .add t4 (.int .i64 1) fun t15 =>
 r3 [t0, t41, t15] w)
def honeycombbook_Book_growCells_L3 (R : Value → World → Prop) : (List Value → World → Prop) → List Value → World → Prop := fun r3 l w =>
 unc l fun t0 l =>
 unc l fun t3 l =>
 unc l fun t4 l =>
 nckW t0 fun t9 =>
 fld 4 t9 fun t10 =>
 ldC t10 w fun t11 _ =>
 lenSl t11 fun t12 =>
 intW .lss t4 t12 fun t13 =>
 brV t13
 (nckW t0 fun t17 =>
 fld 4 t17 fun t18 =>
 ldC t18 w fun t19 _ =>
 ixS 1 t19 t4 fun t21 =>
 ldC t21 w fun t22 _ =>
 lp (honeycombbook_Book_growCells_L7 R r3) [t0, t3, t4, t22, (.int .i64 0)] w)
 (R t3 w)
/-- `(*honeycomb/honeycombbook.Book).growCells` -/
def honeycombbook_Book_growCells (a0 : Value) (R : Value → World → Prop) (w : World) : Prop :=
 lp (honeycombbook_Book_growCells_L3 R) [a0, (.slice none 0 0), (.int .i64 0)] w
theorem honeycombbook_Book_growCells_den (a0 : Value) (R : Value → World → Prop) (w : World) : denF Tryz.prog Tryz.f54 (Tryz.f54.body.getD .skip) [] [(3, [0, 3, 4]), (7, [0, 3, 4, 5, 6])] [a0] R w = honeycombbook_Book_growCells a0 R w := by kernel_rfl
set_option maxRecDepth 100000 in
theorem honeycombbook_Book_growCells_run {a0 : Value} {R : Value → World → Prop} {w : World} (h : honeycombbook_Book_growCells a0 R w) : Calls Tryz.prog 54 #[a0] w (rt R) :=
  run_sound (c := Tryz.f54.body.getD .skip) (la := []) (lb := [(3, [0, 3, 4]), (7, [0, 3, 4, 5, 6])]) (args := [a0]) mixed Tryz.func54 (by kernel_rfl) (by kernel_rfl) (Nat.le_of_ble_eq_true (by kernel_rfl)) (Eq.mpr (honeycombbook_Book_growCells_den a0 R w) h)
theorem honeycombbook_Book_growCells_body : hasBody Tryz.prog 54 = true := by kernel_rfl
theorem honeycombbook_Book_growCells_call {a0 : Value} {R : Value → World → Prop} {w : World} (h : Calls Tryz.prog 54 #[a0] w (rt R)) : callW Tryz.prog (.func (.func 54) #[] #[]) [a0] w R :=
  ⟨honeycombbook_Book_growCells_body, h⟩
def honeycombbook_Book_growPages_L7 (R : Value → World → Prop) (r3 : List Value → World → Prop) : (List Value → World → Prop) → List Value → World → Prop := fun r7 l w =>
 unc l fun t0 l =>
 unc l fun t3 l =>
 unc l fun t4 l =>
 unc l fun t5 l =>
 unc l fun t6 l =>
 intW .lss t6 (.int .i64 12) fun t24 =>
 brV t24
 (lenSl t5 fun t30 =>
 callW Tryz.prog (.func (.func 90) #[] #[]) [t4, t30, (.int .i64 1)] w fun t31 w =>
 sm Tryz.prog (bi .append #[110, 110] 110 [t5, t31]) w fun t32 w =>
 intW .add t6 (.int .i64 1) fun t26 =>
 r7 [t0, t3, t4, t32, t26] w)
 (lenSl t5 fun t37 =>
 callW Tryz.prog (.func (.func 90) #[] #[]) [t4, t37, (.int .i64 60)] w fun t38 w =>
 sm Tryz.prog (bi .append #[110, 110] 110 [t5, t38]) w fun t39 w =>
 blS 110 1 #[(.slice none 0 0)] 1 [(0, t39)] w fun t40 w =>
 sm Tryz.prog (bi .append #[39, 39] 39 [t3, t40]) w fun t41 w =>
 intW .add t4 (.int .i64 1) fun t15 =>
 r3 [t0, t41, t15] w)
def honeycombbook_Book_growPages_L3 (R : Value → World → Prop) : (List Value → World → Prop) → List Value → World → Prop := fun r3 l w =>
 unc l fun t0 l =>
 unc l fun t3 l =>
 unc l fun t4 l =>
 nckW t0 fun t9 =>
 fld 6 t9 fun t10 =>
 ldC t10 w fun t11 _ =>
 lenSl t11 fun t12 =>
 intW .lss t4 t12 fun t13 =>
 brV t13
 (nckW t0 fun t17 =>
 fld 6 t17 fun t18 =>
 ldC t18 w fun t19 _ =>
 ixS 1 t19 t4 fun t21 =>
 ldC t21 w fun t22 _ =>
 lp (honeycombbook_Book_growPages_L7 R r3) [t0, t3, t4, t22, (.int .i64 0)] w)
 (R t3 w)
/-- `(*honeycomb/honeycombbook.Book).growPages` -/
def honeycombbook_Book_growPages (a0 : Value) (R : Value → World → Prop) (w : World) : Prop :=
 lp (honeycombbook_Book_growPages_L3 R) [a0, (.slice none 0 0), (.int .i64 0)] w
theorem honeycombbook_Book_growPages_den (a0 : Value) (R : Value → World → Prop) (w : World) : denF Tryz.prog Tryz.f55 (Tryz.f55.body.getD .skip) [] [(3, [0, 3, 4]), (7, [0, 3, 4, 5, 6])] [a0] R w = honeycombbook_Book_growPages a0 R w := by kernel_rfl
set_option maxRecDepth 100000 in
theorem honeycombbook_Book_growPages_run {a0 : Value} {R : Value → World → Prop} {w : World} (h : honeycombbook_Book_growPages a0 R w) : Calls Tryz.prog 55 #[a0] w (rt R) :=
  run_sound (c := Tryz.f55.body.getD .skip) (la := []) (lb := [(3, [0, 3, 4]), (7, [0, 3, 4, 5, 6])]) (args := [a0]) mixed Tryz.func55 (by kernel_rfl) (by kernel_rfl) (Nat.le_of_ble_eq_true (by kernel_rfl)) (Eq.mpr (honeycombbook_Book_growPages_den a0 R w) h)
theorem honeycombbook_Book_growPages_body : hasBody Tryz.prog 55 = true := by kernel_rfl
theorem honeycombbook_Book_growPages_call {a0 : Value} {R : Value → World → Prop} {w : World} (h : Calls Tryz.prog 55 #[a0] w (rt R)) : callW Tryz.prog (.func (.func 55) #[] #[]) [a0] w R :=
  ⟨honeycombbook_Book_growPages_body, h⟩
def honeycombbook_Book_growPatches_L7 (R : Value → World → Prop) (r3 : List Value → World → Prop) : (List Value → World → Prop) → List Value → World → Prop := fun r7 l w =>
 unc l fun t0 l =>
 unc l fun t3 l =>
 unc l fun t4 l =>
 unc l fun t5 l =>
 unc l fun t6 l =>
 intW .lss t6 (.int .i64 12) fun t24 =>
 brV t24
 (lenSl t5 fun t30 =>
 callW Tryz.prog (.func (.func 91) #[] #[]) [t4, t30, (.int .i64 1)] w fun t31 w =>
 sm Tryz.prog (bi .append #[112, 112] 112 [t5, t31]) w fun t32 w =>
 intW .add t6 (.int .i64 1) fun t26 =>
 r7 [t0, t3, t4, t32, t26] w)
 (lenSl t5 fun t37 =>
 callW Tryz.prog (.func (.func 91) #[] #[]) [t4, t37, (.int .i64 60)] w fun t38 w =>
 sm Tryz.prog (bi .append #[112, 112] 112 [t5, t38]) w fun t39 w =>
 blS 112 1 #[(.slice none 0 0)] 1 [(0, t39)] w fun t40 w =>
 sm Tryz.prog (bi .append #[40, 40] 40 [t3, t40]) w fun t41 w =>
 intW .add t4 (.int .i64 1) fun t15 =>
 r3 [t0, t41, t15] w)
def honeycombbook_Book_growPatches_L3 (R : Value → World → Prop) : (List Value → World → Prop) → List Value → World → Prop := fun r3 l w =>
 unc l fun t0 l =>
 unc l fun t3 l =>
 unc l fun t4 l =>
 nckW t0 fun t9 =>
 fld 8 t9 fun t10 =>
 ldC t10 w fun t11 _ =>
 lenSl t11 fun t12 =>
 intW .lss t4 t12 fun t13 =>
 brV t13
 (nckW t0 fun t17 =>
 fld 8 t17 fun t18 =>
 ldC t18 w fun t19 _ =>
 ixS 1 t19 t4 fun t21 =>
 ldC t21 w fun t22 _ =>
 lp (honeycombbook_Book_growPatches_L7 R r3) [t0, t3, t4, t22, (.int .i64 0)] w)
 (R t3 w)
/-- `(*honeycomb/honeycombbook.Book).growPatches` -/
def honeycombbook_Book_growPatches (a0 : Value) (R : Value → World → Prop) (w : World) : Prop :=
 lp (honeycombbook_Book_growPatches_L3 R) [a0, (.slice none 0 0), (.int .i64 0)] w
theorem honeycombbook_Book_growPatches_den (a0 : Value) (R : Value → World → Prop) (w : World) : denF Tryz.prog Tryz.f56 (Tryz.f56.body.getD .skip) [] [(3, [0, 3, 4]), (7, [0, 3, 4, 5, 6])] [a0] R w = honeycombbook_Book_growPatches a0 R w := by kernel_rfl
set_option maxRecDepth 100000 in
theorem honeycombbook_Book_growPatches_run {a0 : Value} {R : Value → World → Prop} {w : World} (h : honeycombbook_Book_growPatches a0 R w) : Calls Tryz.prog 56 #[a0] w (rt R) :=
  run_sound (c := Tryz.f56.body.getD .skip) (la := []) (lb := [(3, [0, 3, 4]), (7, [0, 3, 4, 5, 6])]) (args := [a0]) mixed Tryz.func56 (by kernel_rfl) (by kernel_rfl) (Nat.le_of_ble_eq_true (by kernel_rfl)) (Eq.mpr (honeycombbook_Book_growPatches_den a0 R w) h)
theorem honeycombbook_Book_growPatches_body : hasBody Tryz.prog 56 = true := by kernel_rfl
theorem honeycombbook_Book_growPatches_call {a0 : Value} {R : Value → World → Prop} {w : World} (h : Calls Tryz.prog 56 #[a0] w (rt R)) : callW Tryz.prog (.func (.func 56) #[] #[]) [a0] w R :=
  ⟨honeycombbook_Book_growPatches_body, h⟩
def honeycombbook_Book_growDirty_L7 (R : Value → World → Prop) (r3 : List Value → World → Prop) : (List Value → World → Prop) → List Value → World → Prop := fun r7 l w =>
 unc l fun t0 l =>
 unc l fun t3 l =>
 unc l fun t4 l =>
 unc l fun t5 l =>
 unc l fun t6 l =>
 intW .lss t6 (.int .i64 12) fun t24 =>
 brV t24
 (lenSl t5 fun t30 =>
 callW Tryz.prog (.func (.func 92) #[] #[]) [t4, t30, (.int .i64 1)] w fun t31 w =>
 sm Tryz.prog (bi .append #[114, 114] 114 [t5, t31]) w fun t32 w =>
 intW .add t6 (.int .i64 1) fun t26 =>
 r7 [t0, t3, t4, t32, t26] w)
 (lenSl t5 fun t37 =>
 callW Tryz.prog (.func (.func 92) #[] #[]) [t4, t37, (.int .i64 60)] w fun t38 w =>
 sm Tryz.prog (bi .append #[114, 114] 114 [t5, t38]) w fun t39 w =>
 blS 114 1 #[(.slice none 0 0)] 1 [(0, t39)] w fun t40 w =>
 sm Tryz.prog (bi .append #[41, 41] 41 [t3, t40]) w fun t41 w =>
 intW .add t4 (.int .i64 1) fun t15 =>
 r3 [t0, t41, t15] w)
def honeycombbook_Book_growDirty_L3 (R : Value → World → Prop) : (List Value → World → Prop) → List Value → World → Prop := fun r3 l w =>
 unc l fun t0 l =>
 unc l fun t3 l =>
 unc l fun t4 l =>
 nckW t0 fun t9 =>
 fld 10 t9 fun t10 =>
 ldC t10 w fun t11 _ =>
 lenSl t11 fun t12 =>
 intW .lss t4 t12 fun t13 =>
 brV t13
 (nckW t0 fun t17 =>
 fld 10 t17 fun t18 =>
 ldC t18 w fun t19 _ =>
 ixS 1 t19 t4 fun t21 =>
 ldC t21 w fun t22 _ =>
 lp (honeycombbook_Book_growDirty_L7 R r3) [t0, t3, t4, t22, (.int .i64 0)] w)
 (R t3 w)
/-- `(*honeycomb/honeycombbook.Book).growDirty` -/
def honeycombbook_Book_growDirty (a0 : Value) (R : Value → World → Prop) (w : World) : Prop :=
 lp (honeycombbook_Book_growDirty_L3 R) [a0, (.slice none 0 0), (.int .i64 0)] w
theorem honeycombbook_Book_growDirty_den (a0 : Value) (R : Value → World → Prop) (w : World) : denF Tryz.prog Tryz.f57 (Tryz.f57.body.getD .skip) [] [(3, [0, 3, 4]), (7, [0, 3, 4, 5, 6])] [a0] R w = honeycombbook_Book_growDirty a0 R w := by kernel_rfl
set_option maxRecDepth 100000 in
theorem honeycombbook_Book_growDirty_run {a0 : Value} {R : Value → World → Prop} {w : World} (h : honeycombbook_Book_growDirty a0 R w) : Calls Tryz.prog 57 #[a0] w (rt R) :=
  run_sound (c := Tryz.f57.body.getD .skip) (la := []) (lb := [(3, [0, 3, 4]), (7, [0, 3, 4, 5, 6])]) (args := [a0]) mixed Tryz.func57 (by kernel_rfl) (by kernel_rfl) (Nat.le_of_ble_eq_true (by kernel_rfl)) (Eq.mpr (honeycombbook_Book_growDirty_den a0 R w) h)
theorem honeycombbook_Book_growDirty_body : hasBody Tryz.prog 57 = true := by kernel_rfl
theorem honeycombbook_Book_growDirty_call {a0 : Value} {R : Value → World → Prop} {w : World} (h : Calls Tryz.prog 57 #[a0] w (rt R)) : callW Tryz.prog (.func (.func 57) #[] #[]) [a0] w R :=
  ⟨honeycombbook_Book_growDirty_body, h⟩
def honeycombbook_Book_growEntries_L7 (R : Value → World → Prop) (r3 : List Value → World → Prop) : (List Value → World → Prop) → List Value → World → Prop := fun r7 l w =>
 unc l fun t0 l =>
 unc l fun t3 l =>
 unc l fun t4 l =>
 unc l fun t5 l =>
 unc l fun t6 l =>
 intW .lss t6 (.int .i64 12) fun t24 =>
 brV t24
 (lenSl t5 fun t30 =>
 callW Tryz.prog (.func (.func 93) #[] #[]) [t4, t30, (.int .i64 1)] w fun t31 w =>
 sm Tryz.prog (bi .append #[116, 116] 116 [t5, t31]) w fun t32 w =>
 intW .add t6 (.int .i64 1) fun t26 =>
 r7 [t0, t3, t4, t32, t26] w)
 (lenSl t5 fun t37 =>
 callW Tryz.prog (.func (.func 93) #[] #[]) [t4, t37, (.int .i64 60)] w fun t38 w =>
 sm Tryz.prog (bi .append #[116, 116] 116 [t5, t38]) w fun t39 w =>
 blS 116 1 #[(.slice none 0 0)] 1 [(0, t39)] w fun t40 w =>
 sm Tryz.prog (bi .append #[42, 42] 42 [t3, t40]) w fun t41 w =>
 intW .add t4 (.int .i64 1) fun t15 =>
 r3 [t0, t41, t15] w)
def honeycombbook_Book_growEntries_L3 (R : Value → World → Prop) : (List Value → World → Prop) → List Value → World → Prop := fun r3 l w =>
 unc l fun t0 l =>
 unc l fun t3 l =>
 unc l fun t4 l =>
 nckW t0 fun t9 =>
 fld 12 t9 fun t10 =>
 ldC t10 w fun t11 _ =>
 lenSl t11 fun t12 =>
 intW .lss t4 t12 fun t13 =>
 brV t13
 (nckW t0 fun t17 =>
 fld 12 t17 fun t18 =>
 ldC t18 w fun t19 _ =>
 ixS 1 t19 t4 fun t21 =>
 ldC t21 w fun t22 _ =>
 lp (honeycombbook_Book_growEntries_L7 R r3) [t0, t3, t4, t22, (.int .i64 0)] w)
 (R t3 w)
/-- `(*honeycomb/honeycombbook.Book).growEntries` -/
def honeycombbook_Book_growEntries (a0 : Value) (R : Value → World → Prop) (w : World) : Prop :=
 lp (honeycombbook_Book_growEntries_L3 R) [a0, (.slice none 0 0), (.int .i64 0)] w
theorem honeycombbook_Book_growEntries_den (a0 : Value) (R : Value → World → Prop) (w : World) : denF Tryz.prog Tryz.f58 (Tryz.f58.body.getD .skip) [] [(3, [0, 3, 4]), (7, [0, 3, 4, 5, 6])] [a0] R w = honeycombbook_Book_growEntries a0 R w := by kernel_rfl
set_option maxRecDepth 100000 in
theorem honeycombbook_Book_growEntries_run {a0 : Value} {R : Value → World → Prop} {w : World} (h : honeycombbook_Book_growEntries a0 R w) : Calls Tryz.prog 58 #[a0] w (rt R) :=
  run_sound (c := Tryz.f58.body.getD .skip) (la := []) (lb := [(3, [0, 3, 4]), (7, [0, 3, 4, 5, 6])]) (args := [a0]) mixed Tryz.func58 (by kernel_rfl) (by kernel_rfl) (Nat.le_of_ble_eq_true (by kernel_rfl)) (Eq.mpr (honeycombbook_Book_growEntries_den a0 R w) h)
theorem honeycombbook_Book_growEntries_body : hasBody Tryz.prog 58 = true := by kernel_rfl
theorem honeycombbook_Book_growEntries_call {a0 : Value} {R : Value → World → Prop} {w : World} (h : Calls Tryz.prog 58 #[a0] w (rt R)) : callW Tryz.prog (.func (.func 58) #[] #[]) [a0] w R :=
  ⟨honeycombbook_Book_growEntries_body, h⟩
def honeycombbook_Book_growPairs_L7 (R : Value → World → Prop) (r3 : List Value → World → Prop) : (List Value → World → Prop) → List Value → World → Prop := fun r7 l w =>
 unc l fun t0 l =>
 unc l fun t3 l =>
 unc l fun t4 l =>
 unc l fun t5 l =>
 unc l fun t6 l =>
 intW .lss t6 (.int .i64 12) fun t24 =>
 brV t24
 (lenSl t5 fun t30 =>
 callW Tryz.prog (.func (.func 94) #[] #[]) [t4, t30, (.int .i64 1)] w fun t31 w =>
 sm Tryz.prog (bi .append #[118, 118] 118 [t5, t31]) w fun t32 w =>
 intW .add t6 (.int .i64 1) fun t26 =>
 r7 [t0, t3, t4, t32, t26] w)
 (lenSl t5 fun t37 =>
 callW Tryz.prog (.func (.func 94) #[] #[]) [t4, t37, (.int .i64 60)] w fun t38 w =>
 sm Tryz.prog (bi .append #[118, 118] 118 [t5, t38]) w fun t39 w =>
 blS 118 1 #[(.slice none 0 0)] 1 [(0, t39)] w fun t40 w =>
 sm Tryz.prog (bi .append #[43, 43] 43 [t3, t40]) w fun t41 w =>
 intW .add t4 (.int .i64 1) fun t15 =>
 r3 [t0, t41, t15] w)
def honeycombbook_Book_growPairs_L3 (R : Value → World → Prop) : (List Value → World → Prop) → List Value → World → Prop := fun r3 l w =>
 unc l fun t0 l =>
 unc l fun t3 l =>
 unc l fun t4 l =>
 nckW t0 fun t9 =>
 fld 14 t9 fun t10 =>
 ldC t10 w fun t11 _ =>
 lenSl t11 fun t12 =>
 intW .lss t4 t12 fun t13 =>
 brV t13
 (nckW t0 fun t17 =>
 fld 14 t17 fun t18 =>
 ldC t18 w fun t19 _ =>
 ixS 1 t19 t4 fun t21 =>
 ldC t21 w fun t22 _ =>
 lp (honeycombbook_Book_growPairs_L7 R r3) [t0, t3, t4, t22, (.int .i64 0)] w)
 (R t3 w)
/-- `(*honeycomb/honeycombbook.Book).growPairs` -/
def honeycombbook_Book_growPairs (a0 : Value) (R : Value → World → Prop) (w : World) : Prop :=
 lp (honeycombbook_Book_growPairs_L3 R) [a0, (.slice none 0 0), (.int .i64 0)] w
theorem honeycombbook_Book_growPairs_den (a0 : Value) (R : Value → World → Prop) (w : World) : denF Tryz.prog Tryz.f59 (Tryz.f59.body.getD .skip) [] [(3, [0, 3, 4]), (7, [0, 3, 4, 5, 6])] [a0] R w = honeycombbook_Book_growPairs a0 R w := by kernel_rfl
set_option maxRecDepth 100000 in
theorem honeycombbook_Book_growPairs_run {a0 : Value} {R : Value → World → Prop} {w : World} (h : honeycombbook_Book_growPairs a0 R w) : Calls Tryz.prog 59 #[a0] w (rt R) :=
  run_sound (c := Tryz.f59.body.getD .skip) (la := []) (lb := [(3, [0, 3, 4]), (7, [0, 3, 4, 5, 6])]) (args := [a0]) mixed Tryz.func59 (by kernel_rfl) (by kernel_rfl) (Nat.le_of_ble_eq_true (by kernel_rfl)) (Eq.mpr (honeycombbook_Book_growPairs_den a0 R w) h)
theorem honeycombbook_Book_growPairs_body : hasBody Tryz.prog 59 = true := by kernel_rfl
theorem honeycombbook_Book_growPairs_call {a0 : Value} {R : Value → World → Prop} {w : World} (h : Calls Tryz.prog 59 #[a0] w (rt R)) : callW Tryz.prog (.func (.func 59) #[] #[]) [a0] w R :=
  ⟨honeycombbook_Book_growPairs_body, h⟩
def honeycombbook_Book_growTxs_L7 (R : Value → World → Prop) (r3 : List Value → World → Prop) : (List Value → World → Prop) → List Value → World → Prop := fun r7 l w =>
 unc l fun t0 l =>
 unc l fun t3 l =>
 unc l fun t4 l =>
 unc l fun t5 l =>
 unc l fun t6 l =>
 intW .lss t6 (.int .i64 12) fun t24 =>
 brV t24
 (lenSl t5 fun t30 =>
 callW Tryz.prog (.func (.func 86) #[] #[]) [t4, t30, (.int .i64 1)] w fun t31 w =>
 sm Tryz.prog (bi .append #[120, 120] 120 [t5, t31]) w fun t32 w =>
 intW .add t6 (.int .i64 1) fun t26 =>
 r7 [t0, t3, t4, t32, t26] w)
 (lenSl t5 fun t37 =>
 callW Tryz.prog (.func (.func 86) #[] #[]) [t4, t37, (.int .i64 60)] w fun t38 w =>
 sm Tryz.prog (bi .append #[120, 120] 120 [t5, t38]) w fun t39 w =>
 blS 120 1 #[(.slice none 0 0)] 1 [(0, t39)] w fun t40 w =>
 sm Tryz.prog (bi .append #[44, 44] 44 [t3, t40]) w fun t41 w =>
 intW .add t4 (.int .i64 1) fun t15 =>
 r3 [t0, t41, t15] w)
def honeycombbook_Book_growTxs_L3 (R : Value → World → Prop) : (List Value → World → Prop) → List Value → World → Prop := fun r3 l w =>
 unc l fun t0 l =>
 unc l fun t3 l =>
 unc l fun t4 l =>
 nckW t0 fun t9 =>
 fld 16 t9 fun t10 =>
 ldC t10 w fun t11 _ =>
 lenSl t11 fun t12 =>
 intW .lss t4 t12 fun t13 =>
 brV t13
 (nckW t0 fun t17 =>
 fld 16 t17 fun t18 =>
 ldC t18 w fun t19 _ =>
 ixS 1 t19 t4 fun t21 =>
 ldC t21 w fun t22 _ =>
 lp (honeycombbook_Book_growTxs_L7 R r3) [t0, t3, t4, t22, (.int .i64 0)] w)
 (R t3 w)
/-- `(*honeycomb/honeycombbook.Book).growTxs` -/
def honeycombbook_Book_growTxs (a0 : Value) (R : Value → World → Prop) (w : World) : Prop :=
 lp (honeycombbook_Book_growTxs_L3 R) [a0, (.slice none 0 0), (.int .i64 0)] w
theorem honeycombbook_Book_growTxs_den (a0 : Value) (R : Value → World → Prop) (w : World) : denF Tryz.prog Tryz.f60 (Tryz.f60.body.getD .skip) [] [(3, [0, 3, 4]), (7, [0, 3, 4, 5, 6])] [a0] R w = honeycombbook_Book_growTxs a0 R w := by kernel_rfl
set_option maxRecDepth 100000 in
theorem honeycombbook_Book_growTxs_run {a0 : Value} {R : Value → World → Prop} {w : World} (h : honeycombbook_Book_growTxs a0 R w) : Calls Tryz.prog 60 #[a0] w (rt R) :=
  run_sound (c := Tryz.f60.body.getD .skip) (la := []) (lb := [(3, [0, 3, 4]), (7, [0, 3, 4, 5, 6])]) (args := [a0]) mixed Tryz.func60 (by kernel_rfl) (by kernel_rfl) (Nat.le_of_ble_eq_true (by kernel_rfl)) (Eq.mpr (honeycombbook_Book_growTxs_den a0 R w) h)
theorem honeycombbook_Book_growTxs_body : hasBody Tryz.prog 60 = true := by kernel_rfl
theorem honeycombbook_Book_growTxs_call {a0 : Value} {R : Value → World → Prop} {w : World} (h : Calls Tryz.prog 60 #[a0] w (rt R)) : callW Tryz.prog (.func (.func 60) #[] #[]) [a0] w R :=
  ⟨honeycombbook_Book_growTxs_body, h⟩
def honeycombbook_markedInts_L2 (R : Value → World → Prop) : (List Value → World → Prop) → List Value → World → Prop := fun r2 l w =>
 unc l fun t0 l =>
 unc l fun t3 l =>
 lenSl t0 fun t6 =>
 intW .lss t3 t6 fun t7 =>
 brV t7
 (ixS 1 t0 t3 fun t12 =>
 ixS 1 t0 t3 fun t17 =>
 ldC t12 w.drew fun t13 c3 =>
 ldC t17 w.drew fun t18 c8 =>
 lenSl t18 fun t19 =>
 callW Tryz.prog (.func (.func 87) #[] #[]) [t3, (.int .i64 0), t19] w.drew fun t20 w =>
 heldC [(8, c8), (3, c3)] w (callW Tryz.prog (.func (.func 78) #[] #[]) [t13, t20] w fun t21 w =>
 heldC [(8, c8)] w (unW .not t21 fun t22 =>
 brV t22
 (R (.bool false) w)
 (intW .add t3 (.int .i64 1) fun t9 =>
 r2 [t0, t9] w))))
 (R (.bool true) w)
/-- `honeycomb/honeycombbook.markedInts` -/
def honeycombbook_markedInts (a0 : Value) (R : Value → World → Prop) (w : World) : Prop :=
 lp (honeycombbook_markedInts_L2 R) [a0, (.int .i64 0)] w
theorem honeycombbook_markedInts_den (a0 : Value) (R : Value → World → Prop) (w : World) : denF Tryz.prog Tryz.f61 (Tryz.f61.body.getD .skip) [] [(2, [0, 3])] [a0] R w = honeycombbook_markedInts a0 R w := by kernel_rfl
set_option maxRecDepth 100000 in
theorem honeycombbook_markedInts_run {a0 : Value} {R : Value → World → Prop} {w : World} (h : honeycombbook_markedInts a0 R w) : Calls Tryz.prog 61 #[a0] w (rt R) :=
  run_sound (c := Tryz.f61.body.getD .skip) (la := []) (lb := [(2, [0, 3])]) (args := [a0]) mixed Tryz.func61 (by kernel_rfl) (by kernel_rfl) (Nat.le_of_ble_eq_true (by kernel_rfl)) (Eq.mpr (honeycombbook_markedInts_den a0 R w) h)
theorem honeycombbook_markedInts_body : hasBody Tryz.prog 61 = true := by kernel_rfl
theorem honeycombbook_markedInts_call {a0 : Value} {R : Value → World → Prop} {w : World} (h : Calls Tryz.prog 61 #[a0] w (rt R)) : callW Tryz.prog (.func (.func 61) #[] #[]) [a0] w R :=
  ⟨honeycombbook_markedInts_body, h⟩
def honeycombbook_markedTexts_L2 (R : Value → World → Prop) : (List Value → World → Prop) → List Value → World → Prop := fun r2 l w =>
 unc l fun t0 l =>
 unc l fun t3 l =>
 lenSl t0 fun t6 =>
 intW .lss t3 t6 fun t7 =>
 brV t7
 (ixS 1 t0 t3 fun t12 =>
 ixS 1 t0 t3 fun t17 =>
 ldC t12 w.drew fun t13 c3 =>
 ldC t17 w.drew fun t18 c8 =>
 lenSl t18 fun t19 =>
 callW Tryz.prog (.func (.func 88) #[] #[]) [t3, (.int .i64 0), t19] w.drew fun t20 w =>
 heldC [(8, c8), (3, c3)] w (callW Tryz.prog (.func (.func 16) #[] #[]) [t13, t20] w fun t21 w =>
 heldC [(8, c8)] w (unW .not t21 fun t22 =>
 brV t22
 (R (.bool false) w)
 (intW .add t3 (.int .i64 1) fun t9 =>
 r2 [t0, t9] w))))
 (R (.bool true) w)
/-- `honeycomb/honeycombbook.markedTexts` -/
def honeycombbook_markedTexts (a0 : Value) (R : Value → World → Prop) (w : World) : Prop :=
 lp (honeycombbook_markedTexts_L2 R) [a0, (.int .i64 0)] w
theorem honeycombbook_markedTexts_den (a0 : Value) (R : Value → World → Prop) (w : World) : denF Tryz.prog Tryz.f62 (Tryz.f62.body.getD .skip) [] [(2, [0, 3])] [a0] R w = honeycombbook_markedTexts a0 R w := by kernel_rfl
set_option maxRecDepth 100000 in
theorem honeycombbook_markedTexts_run {a0 : Value} {R : Value → World → Prop} {w : World} (h : honeycombbook_markedTexts a0 R w) : Calls Tryz.prog 62 #[a0] w (rt R) :=
  run_sound (c := Tryz.f62.body.getD .skip) (la := []) (lb := [(2, [0, 3])]) (args := [a0]) mixed Tryz.func62 (by kernel_rfl) (by kernel_rfl) (Nat.le_of_ble_eq_true (by kernel_rfl)) (Eq.mpr (honeycombbook_markedTexts_den a0 R w) h)
theorem honeycombbook_markedTexts_body : hasBody Tryz.prog 62 = true := by kernel_rfl
theorem honeycombbook_markedTexts_call {a0 : Value} {R : Value → World → Prop} {w : World} (h : Calls Tryz.prog 62 #[a0] w (rt R)) : callW Tryz.prog (.func (.func 62) #[] #[]) [a0] w R :=
  ⟨honeycombbook_markedTexts_body, h⟩
def honeycombbook_markedCells_L2 (R : Value → World → Prop) : (List Value → World → Prop) → List Value → World → Prop := fun r2 l w =>
 unc l fun t0 l =>
 unc l fun t3 l =>
 lenSl t0 fun t6 =>
 intW .lss t3 t6 fun t7 =>
 brV t7
 (ixS 1 t0 t3 fun t12 =>
 ixS 1 t0 t3 fun t17 =>
 ldC t12 w.drew fun t13 c3 =>
 ldC t17 w.drew fun t18 c8 =>
 lenSl t18 fun t19 =>
 callW Tryz.prog (.func (.func 89) #[] #[]) [t3, (.int .i64 0), t19] w.drew fun t20 w =>
 heldC [(8, c8), (3, c3)] w (callW Tryz.prog (.func (.func 79) #[] #[]) [t13, t20] w fun t21 w =>
 heldC [(8, c8)] w (unW .not t21 fun t22 =>
 brV t22
 (R (.bool false) w)
 (intW .add t3 (.int .i64 1) fun t9 =>
 r2 [t0, t9] w))))
 (R (.bool true) w)
/-- `honeycomb/honeycombbook.markedCells` -/
def honeycombbook_markedCells (a0 : Value) (R : Value → World → Prop) (w : World) : Prop :=
 lp (honeycombbook_markedCells_L2 R) [a0, (.int .i64 0)] w
theorem honeycombbook_markedCells_den (a0 : Value) (R : Value → World → Prop) (w : World) : denF Tryz.prog Tryz.f63 (Tryz.f63.body.getD .skip) [] [(2, [0, 3])] [a0] R w = honeycombbook_markedCells a0 R w := by kernel_rfl
set_option maxRecDepth 100000 in
theorem honeycombbook_markedCells_run {a0 : Value} {R : Value → World → Prop} {w : World} (h : honeycombbook_markedCells a0 R w) : Calls Tryz.prog 63 #[a0] w (rt R) :=
  run_sound (c := Tryz.f63.body.getD .skip) (la := []) (lb := [(2, [0, 3])]) (args := [a0]) mixed Tryz.func63 (by kernel_rfl) (by kernel_rfl) (Nat.le_of_ble_eq_true (by kernel_rfl)) (Eq.mpr (honeycombbook_markedCells_den a0 R w) h)
theorem honeycombbook_markedCells_body : hasBody Tryz.prog 63 = true := by kernel_rfl
theorem honeycombbook_markedCells_call {a0 : Value} {R : Value → World → Prop} {w : World} (h : Calls Tryz.prog 63 #[a0] w (rt R)) : callW Tryz.prog (.func (.func 63) #[] #[]) [a0] w R :=
  ⟨honeycombbook_markedCells_body, h⟩
def honeycombbook_markedPages_L2 (R : Value → World → Prop) : (List Value → World → Prop) → List Value → World → Prop := fun r2 l w =>
 unc l fun t0 l =>
 unc l fun t3 l =>
 lenSl t0 fun t6 =>
 intW .lss t3 t6 fun t7 =>
 brV t7
 (ixS 1 t0 t3 fun t12 =>
 ixS 1 t0 t3 fun t17 =>
 ldC t12 w.drew fun t13 c3 =>
 ldC t17 w.drew fun t18 c8 =>
 lenSl t18 fun t19 =>
 callW Tryz.prog (.func (.func 90) #[] #[]) [t3, (.int .i64 0), t19] w.drew fun t20 w =>
 heldC [(8, c8), (3, c3)] w (callW Tryz.prog (.func (.func 80) #[] #[]) [t13, t20] w fun t21 w =>
 heldC [(8, c8)] w (unW .not t21 fun t22 =>
 brV t22
 (R (.bool false) w)
 (intW .add t3 (.int .i64 1) fun t9 =>
 r2 [t0, t9] w))))
 (R (.bool true) w)
/-- `honeycomb/honeycombbook.markedPages` -/
def honeycombbook_markedPages (a0 : Value) (R : Value → World → Prop) (w : World) : Prop :=
 lp (honeycombbook_markedPages_L2 R) [a0, (.int .i64 0)] w
theorem honeycombbook_markedPages_den (a0 : Value) (R : Value → World → Prop) (w : World) : denF Tryz.prog Tryz.f64 (Tryz.f64.body.getD .skip) [] [(2, [0, 3])] [a0] R w = honeycombbook_markedPages a0 R w := by kernel_rfl
set_option maxRecDepth 100000 in
theorem honeycombbook_markedPages_run {a0 : Value} {R : Value → World → Prop} {w : World} (h : honeycombbook_markedPages a0 R w) : Calls Tryz.prog 64 #[a0] w (rt R) :=
  run_sound (c := Tryz.f64.body.getD .skip) (la := []) (lb := [(2, [0, 3])]) (args := [a0]) mixed Tryz.func64 (by kernel_rfl) (by kernel_rfl) (Nat.le_of_ble_eq_true (by kernel_rfl)) (Eq.mpr (honeycombbook_markedPages_den a0 R w) h)
theorem honeycombbook_markedPages_body : hasBody Tryz.prog 64 = true := by kernel_rfl
theorem honeycombbook_markedPages_call {a0 : Value} {R : Value → World → Prop} {w : World} (h : Calls Tryz.prog 64 #[a0] w (rt R)) : callW Tryz.prog (.func (.func 64) #[] #[]) [a0] w R :=
  ⟨honeycombbook_markedPages_body, h⟩
def honeycombbook_markedPatches_L2 (R : Value → World → Prop) : (List Value → World → Prop) → List Value → World → Prop := fun r2 l w =>
 unc l fun t0 l =>
 unc l fun t3 l =>
 lenSl t0 fun t6 =>
 intW .lss t3 t6 fun t7 =>
 brV t7
 (ixS 1 t0 t3 fun t12 =>
 ixS 1 t0 t3 fun t17 =>
 ldC t12 w.drew fun t13 c3 =>
 ldC t17 w.drew fun t18 c8 =>
 lenSl t18 fun t19 =>
 callW Tryz.prog (.func (.func 91) #[] #[]) [t3, (.int .i64 0), t19] w.drew fun t20 w =>
 heldC [(8, c8), (3, c3)] w (callW Tryz.prog (.func (.func 81) #[] #[]) [t13, t20] w fun t21 w =>
 heldC [(8, c8)] w (unW .not t21 fun t22 =>
 brV t22
 (R (.bool false) w)
 (intW .add t3 (.int .i64 1) fun t9 =>
 r2 [t0, t9] w))))
 (R (.bool true) w)
/-- `honeycomb/honeycombbook.markedPatches` -/
def honeycombbook_markedPatches (a0 : Value) (R : Value → World → Prop) (w : World) : Prop :=
 lp (honeycombbook_markedPatches_L2 R) [a0, (.int .i64 0)] w
theorem honeycombbook_markedPatches_den (a0 : Value) (R : Value → World → Prop) (w : World) : denF Tryz.prog Tryz.f65 (Tryz.f65.body.getD .skip) [] [(2, [0, 3])] [a0] R w = honeycombbook_markedPatches a0 R w := by kernel_rfl
set_option maxRecDepth 100000 in
theorem honeycombbook_markedPatches_run {a0 : Value} {R : Value → World → Prop} {w : World} (h : honeycombbook_markedPatches a0 R w) : Calls Tryz.prog 65 #[a0] w (rt R) :=
  run_sound (c := Tryz.f65.body.getD .skip) (la := []) (lb := [(2, [0, 3])]) (args := [a0]) mixed Tryz.func65 (by kernel_rfl) (by kernel_rfl) (Nat.le_of_ble_eq_true (by kernel_rfl)) (Eq.mpr (honeycombbook_markedPatches_den a0 R w) h)
theorem honeycombbook_markedPatches_body : hasBody Tryz.prog 65 = true := by kernel_rfl
theorem honeycombbook_markedPatches_call {a0 : Value} {R : Value → World → Prop} {w : World} (h : Calls Tryz.prog 65 #[a0] w (rt R)) : callW Tryz.prog (.func (.func 65) #[] #[]) [a0] w R :=
  ⟨honeycombbook_markedPatches_body, h⟩
def honeycombbook_markedDirty_L2 (R : Value → World → Prop) : (List Value → World → Prop) → List Value → World → Prop := fun r2 l w =>
 unc l fun t0 l =>
 unc l fun t3 l =>
 lenSl t0 fun t6 =>
 intW .lss t3 t6 fun t7 =>
 brV t7
 (ixS 1 t0 t3 fun t12 =>
 ixS 1 t0 t3 fun t17 =>
 ldC t12 w.drew fun t13 c3 =>
 ldC t17 w.drew fun t18 c8 =>
 lenSl t18 fun t19 =>
 callW Tryz.prog (.func (.func 92) #[] #[]) [t3, (.int .i64 0), t19] w.drew fun t20 w =>
 heldC [(8, c8), (3, c3)] w (callW Tryz.prog (.func (.func 82) #[] #[]) [t13, t20] w fun t21 w =>
 heldC [(8, c8)] w (unW .not t21 fun t22 =>
 brV t22
 (R (.bool false) w)
 (intW .add t3 (.int .i64 1) fun t9 =>
 r2 [t0, t9] w))))
 (R (.bool true) w)
/-- `honeycomb/honeycombbook.markedDirty` -/
def honeycombbook_markedDirty (a0 : Value) (R : Value → World → Prop) (w : World) : Prop :=
 lp (honeycombbook_markedDirty_L2 R) [a0, (.int .i64 0)] w
theorem honeycombbook_markedDirty_den (a0 : Value) (R : Value → World → Prop) (w : World) : denF Tryz.prog Tryz.f66 (Tryz.f66.body.getD .skip) [] [(2, [0, 3])] [a0] R w = honeycombbook_markedDirty a0 R w := by kernel_rfl
set_option maxRecDepth 100000 in
theorem honeycombbook_markedDirty_run {a0 : Value} {R : Value → World → Prop} {w : World} (h : honeycombbook_markedDirty a0 R w) : Calls Tryz.prog 66 #[a0] w (rt R) :=
  run_sound (c := Tryz.f66.body.getD .skip) (la := []) (lb := [(2, [0, 3])]) (args := [a0]) mixed Tryz.func66 (by kernel_rfl) (by kernel_rfl) (Nat.le_of_ble_eq_true (by kernel_rfl)) (Eq.mpr (honeycombbook_markedDirty_den a0 R w) h)
theorem honeycombbook_markedDirty_body : hasBody Tryz.prog 66 = true := by kernel_rfl
theorem honeycombbook_markedDirty_call {a0 : Value} {R : Value → World → Prop} {w : World} (h : Calls Tryz.prog 66 #[a0] w (rt R)) : callW Tryz.prog (.func (.func 66) #[] #[]) [a0] w R :=
  ⟨honeycombbook_markedDirty_body, h⟩
def honeycombbook_markedEntries_L2 (R : Value → World → Prop) : (List Value → World → Prop) → List Value → World → Prop := fun r2 l w =>
 unc l fun t0 l =>
 unc l fun t3 l =>
 lenSl t0 fun t6 =>
 intW .lss t3 t6 fun t7 =>
 brV t7
 (ixS 1 t0 t3 fun t12 =>
 ixS 1 t0 t3 fun t17 =>
 ldC t12 w.drew fun t13 c3 =>
 ldC t17 w.drew fun t18 c8 =>
 lenSl t18 fun t19 =>
 callW Tryz.prog (.func (.func 93) #[] #[]) [t3, (.int .i64 0), t19] w.drew fun t20 w =>
 heldC [(8, c8), (3, c3)] w (callW Tryz.prog (.func (.func 83) #[] #[]) [t13, t20] w fun t21 w =>
 heldC [(8, c8)] w (unW .not t21 fun t22 =>
 brV t22
 (R (.bool false) w)
 (intW .add t3 (.int .i64 1) fun t9 =>
 r2 [t0, t9] w))))
 (R (.bool true) w)
/-- `honeycomb/honeycombbook.markedEntries` -/
def honeycombbook_markedEntries (a0 : Value) (R : Value → World → Prop) (w : World) : Prop :=
 lp (honeycombbook_markedEntries_L2 R) [a0, (.int .i64 0)] w
theorem honeycombbook_markedEntries_den (a0 : Value) (R : Value → World → Prop) (w : World) : denF Tryz.prog Tryz.f67 (Tryz.f67.body.getD .skip) [] [(2, [0, 3])] [a0] R w = honeycombbook_markedEntries a0 R w := by kernel_rfl
set_option maxRecDepth 100000 in
theorem honeycombbook_markedEntries_run {a0 : Value} {R : Value → World → Prop} {w : World} (h : honeycombbook_markedEntries a0 R w) : Calls Tryz.prog 67 #[a0] w (rt R) :=
  run_sound (c := Tryz.f67.body.getD .skip) (la := []) (lb := [(2, [0, 3])]) (args := [a0]) mixed Tryz.func67 (by kernel_rfl) (by kernel_rfl) (Nat.le_of_ble_eq_true (by kernel_rfl)) (Eq.mpr (honeycombbook_markedEntries_den a0 R w) h)
theorem honeycombbook_markedEntries_body : hasBody Tryz.prog 67 = true := by kernel_rfl
theorem honeycombbook_markedEntries_call {a0 : Value} {R : Value → World → Prop} {w : World} (h : Calls Tryz.prog 67 #[a0] w (rt R)) : callW Tryz.prog (.func (.func 67) #[] #[]) [a0] w R :=
  ⟨honeycombbook_markedEntries_body, h⟩
def honeycombbook_markedPairs_L2 (R : Value → World → Prop) : (List Value → World → Prop) → List Value → World → Prop := fun r2 l w =>
 unc l fun t0 l =>
 unc l fun t3 l =>
 lenSl t0 fun t6 =>
 intW .lss t3 t6 fun t7 =>
 brV t7
 (ixS 1 t0 t3 fun t12 =>
 ixS 1 t0 t3 fun t17 =>
 ldC t12 w.drew fun t13 c3 =>
 ldC t17 w.drew fun t18 c8 =>
 lenSl t18 fun t19 =>
 callW Tryz.prog (.func (.func 94) #[] #[]) [t3, (.int .i64 0), t19] w.drew fun t20 w =>
 heldC [(8, c8), (3, c3)] w (callW Tryz.prog (.func (.func 84) #[] #[]) [t13, t20] w fun t21 w =>
 heldC [(8, c8)] w (unW .not t21 fun t22 =>
 brV t22
 (R (.bool false) w)
 (intW .add t3 (.int .i64 1) fun t9 =>
 r2 [t0, t9] w))))
 (R (.bool true) w)
/-- `honeycomb/honeycombbook.markedPairs` -/
def honeycombbook_markedPairs (a0 : Value) (R : Value → World → Prop) (w : World) : Prop :=
 lp (honeycombbook_markedPairs_L2 R) [a0, (.int .i64 0)] w
theorem honeycombbook_markedPairs_den (a0 : Value) (R : Value → World → Prop) (w : World) : denF Tryz.prog Tryz.f68 (Tryz.f68.body.getD .skip) [] [(2, [0, 3])] [a0] R w = honeycombbook_markedPairs a0 R w := by kernel_rfl
set_option maxRecDepth 100000 in
theorem honeycombbook_markedPairs_run {a0 : Value} {R : Value → World → Prop} {w : World} (h : honeycombbook_markedPairs a0 R w) : Calls Tryz.prog 68 #[a0] w (rt R) :=
  run_sound (c := Tryz.f68.body.getD .skip) (la := []) (lb := [(2, [0, 3])]) (args := [a0]) mixed Tryz.func68 (by kernel_rfl) (by kernel_rfl) (Nat.le_of_ble_eq_true (by kernel_rfl)) (Eq.mpr (honeycombbook_markedPairs_den a0 R w) h)
theorem honeycombbook_markedPairs_body : hasBody Tryz.prog 68 = true := by kernel_rfl
theorem honeycombbook_markedPairs_call {a0 : Value} {R : Value → World → Prop} {w : World} (h : Calls Tryz.prog 68 #[a0] w (rt R)) : callW Tryz.prog (.func (.func 68) #[] #[]) [a0] w R :=
  ⟨honeycombbook_markedPairs_body, h⟩
def honeycombbook_markedTxs_L2 (R : Value → World → Prop) : (List Value → World → Prop) → List Value → World → Prop := fun r2 l w =>
 unc l fun t0 l =>
 unc l fun t3 l =>
 lenSl t0 fun t6 =>
 intW .lss t3 t6 fun t7 =>
 brV t7
 (ixS 1 t0 t3 fun t12 =>
 ixS 1 t0 t3 fun t17 =>
 ldC t12 w.drew fun t13 c3 =>
 ldC t17 w.drew fun t18 c8 =>
 lenSl t18 fun t19 =>
 callW Tryz.prog (.func (.func 86) #[] #[]) [t3, (.int .i64 0), t19] w.drew fun t20 w =>
 heldC [(8, c8), (3, c3)] w (callW Tryz.prog (.func (.func 85) #[] #[]) [t13, t20] w fun t21 w =>
 heldC [(8, c8)] w (unW .not t21 fun t22 =>
 brV t22
 (R (.bool false) w)
 (intW .add t3 (.int .i64 1) fun t9 =>
 r2 [t0, t9] w))))
 (R (.bool true) w)
/-- `honeycomb/honeycombbook.markedTxs` -/
def honeycombbook_markedTxs (a0 : Value) (R : Value → World → Prop) (w : World) : Prop :=
 lp (honeycombbook_markedTxs_L2 R) [a0, (.int .i64 0)] w
theorem honeycombbook_markedTxs_den (a0 : Value) (R : Value → World → Prop) (w : World) : denF Tryz.prog Tryz.f69 (Tryz.f69.body.getD .skip) [] [(2, [0, 3])] [a0] R w = honeycombbook_markedTxs a0 R w := by kernel_rfl
set_option maxRecDepth 100000 in
theorem honeycombbook_markedTxs_run {a0 : Value} {R : Value → World → Prop} {w : World} (h : honeycombbook_markedTxs a0 R w) : Calls Tryz.prog 69 #[a0] w (rt R) :=
  run_sound (c := Tryz.f69.body.getD .skip) (la := []) (lb := [(2, [0, 3])]) (args := [a0]) mixed Tryz.func69 (by kernel_rfl) (by kernel_rfl) (Nat.le_of_ble_eq_true (by kernel_rfl)) (Eq.mpr (honeycombbook_markedTxs_den a0 R w) h)
theorem honeycombbook_markedTxs_body : hasBody Tryz.prog 69 = true := by kernel_rfl
theorem honeycombbook_markedTxs_call {a0 : Value} {R : Value → World → Prop} {w : World} (h : Calls Tryz.prog 69 #[a0] w (rt R)) : callW Tryz.prog (.func (.func 69) #[] #[]) [a0] w R :=
  ⟨honeycombbook_markedTxs_body, h⟩
/-- `(*strings.Builder).WriteString` -/
def strings_Builder_WriteString (a0 a1 : Value) (R : Value → World → Prop) (w : World) : Prop :=
 callW Tryz.prog (.func (.func 98) #[] #[]) [a0] w fun t7 w =>
 nckW a0 fun t10 =>
 fld 1 t10 fun t11 =>
 ldC t11 w fun t12 _ =>
 sm Tryz.prog (bi .append #[60, 9] 60 [t12, a1]) w fun t14 w =>
 nckW a0 fun t15 =>
 fld 1 t15 fun t16 =>
 1 = 1 ∧ stC t16 t14 w fun w =>
 lenStr a1 fun t18 =>
 R (.tuple #[t18, .nilIface]) w
theorem strings_Builder_WriteString_den (a0 a1 : Value) (R : Value → World → Prop) (w : World) : denF Tryz.prog Tryz.f73 (Tryz.f73.body.getD .skip) [] [] [a0, a1] R w = strings_Builder_WriteString a0 a1 R w := by kernel_rfl
set_option maxRecDepth 100000 in
theorem strings_Builder_WriteString_run {a0 a1 : Value} {R : Value → World → Prop} {w : World} (h : strings_Builder_WriteString a0 a1 R w) : Calls Tryz.prog 73 #[a0, a1] w (rt R) :=
  run_sound (c := Tryz.f73.body.getD .skip) (la := []) (lb := []) (args := [a0, a1]) mixed Tryz.func73 (by kernel_rfl) (by kernel_rfl) (Nat.le_of_ble_eq_true (by kernel_rfl)) (Eq.mpr (strings_Builder_WriteString_den a0 a1 R w) h)
theorem strings_Builder_WriteString_body : hasBody Tryz.prog 73 = true := by kernel_rfl
theorem strings_Builder_WriteString_call {a0 a1 : Value} {R : Value → World → Prop} {w : World} (h : Calls Tryz.prog 73 #[a0, a1] w (rt R)) : callW Tryz.prog (.func (.func 73) #[] #[]) [a0, a1] w R :=
  ⟨strings_Builder_WriteString_body, h⟩
def honeycombref1_Big_L4 (R : Value → World → Prop) : (List Value → World → Prop) → List Value → World → Prop := fun r4 l w =>
 unc l fun t0 l =>
 unc l fun t6 l =>
 unc l fun t7 l =>
 unc l fun t8 l =>
 intW .geq t8 (.int .i64 0) fun t15 =>
 brV t15
 (intW .and t7 (.int .i64 255) fun t21 =>
 cvI .u8 t21 fun t22 =>
 ixS 1 t6 t8 fun t23 =>
 1 = 1 ∧ stC t23 t22 w fun w =>
 shW .shr t7 (.int .u64 8) fun t25 =>
 intW .sub t8 (.int .i64 1) fun t17 =>
 r4 [t0, t6, t25, t17] w)
 (sm Tryz.prog (convert 60 9 t6) w fun t27 w =>
 intW .geq t0 (.int .i64 0) fun t29 =>
 brV t29
 (intW .eql t7 (.int .i64 0) fun t32 =>
 R (.tuple #[t27, t32]) w)
 (R (.tuple #[t27, (.bool false)]) w))
/-- `honeycomb/honeycombref1.Big` -/
def honeycombref1_Big (a0 a1 : Value) (R : Value → World → Prop) (w : World) : Prop :=
 sm Tryz.prog (Instr.makeSlice 60 a1 a1) w fun t10 w =>
 intW .sub a1 (.int .i64 1) fun t13 =>
 lp (honeycombref1_Big_L4 R) [a0, t10, a0, t13] w
theorem honeycombref1_Big_den (a0 a1 : Value) (R : Value → World → Prop) (w : World) : denF Tryz.prog Tryz.f76 (Tryz.f76.body.getD .skip) [] [(4, [0, 6, 7, 8])] [a0, a1] R w = honeycombref1_Big a0 a1 R w := by kernel_rfl
set_option maxRecDepth 100000 in
theorem honeycombref1_Big_run {a0 a1 : Value} {R : Value → World → Prop} {w : World} (h : honeycombref1_Big a0 a1 R w) : Calls Tryz.prog 76 #[a0, a1] w (rt R) :=
  run_sound (c := Tryz.f76.body.getD .skip) (la := []) (lb := [(4, [0, 6, 7, 8])]) (args := [a0, a1]) mixed Tryz.func76 (by kernel_rfl) (by kernel_rfl) (Nat.le_of_ble_eq_true (by kernel_rfl)) (Eq.mpr (honeycombref1_Big_den a0 a1 R w) h)
theorem honeycombref1_Big_body : hasBody Tryz.prog 76 = true := by kernel_rfl
theorem honeycombref1_Big_call {a0 a1 : Value} {R : Value → World → Prop} {w : World} (h : Calls Tryz.prog 76 #[a0, a1] w (rt R)) : callW Tryz.prog (.func (.func 76) #[] #[]) [a0, a1] w R :=
  ⟨honeycombref1_Big_body, h⟩
/-- `honeycomb/honeycombref1.text` -/
def honeycombref1_text (a0 : Value) (R : Value → World → Prop) (w : World) : Prop :=
 lenStr a0 fun t4 =>
 callW Tryz.prog (.func (.func 26) #[] #[]) [t4] w fun t5 w =>
 strW .add t5 a0 fun t7 =>
 R t7 w
theorem honeycombref1_text_den (a0 : Value) (R : Value → World → Prop) (w : World) : denF Tryz.prog Tryz.f77 (Tryz.f77.body.getD .skip) [] [] [a0] R w = honeycombref1_text a0 R w := by kernel_rfl
set_option maxRecDepth 100000 in
theorem honeycombref1_text_run {a0 : Value} {R : Value → World → Prop} {w : World} (h : honeycombref1_text a0 R w) : Calls Tryz.prog 77 #[a0] w (rt R) :=
  run_sound (c := Tryz.f77.body.getD .skip) (la := []) (lb := []) (args := [a0]) mixed Tryz.func77 (by kernel_rfl) (by kernel_rfl) (Nat.le_of_ble_eq_true (by kernel_rfl)) (Eq.mpr (honeycombref1_text_den a0 R w) h)
theorem honeycombref1_text_body : hasBody Tryz.prog 77 = true := by kernel_rfl
theorem honeycombref1_text_call {a0 : Value} {R : Value → World → Prop} {w : World} (h : Calls Tryz.prog 77 #[a0] w (rt R)) : callW Tryz.prog (.func (.func 77) #[] #[]) [a0] w R :=
  ⟨honeycombref1_text_body, h⟩
def honeycombbook_SameInts_L4 (R : Value → World → Prop) : (List Value → World → Prop) → List Value → World → Prop := fun r4 l w =>
 unc l fun t0 l =>
 unc l fun t1 l =>
 unc l fun t5 l =>
 lenSl t0 fun t13 =>
 intW .lss t5 t13 fun t14 =>
 brV t14
 (ixS 1 t0 t5 fun t19 =>
 ixS 1 t1 t5 fun t23 =>
 ldC t19 w.drew fun t20 c3 =>
 ldC t23 w.drew fun t24 c7 =>
 intW .eql t20 t24 fun t25 =>
 unW .not t25 fun t26 =>
 brV t26
 (R (.bool false) w.drew)
 (intW .add t5 (.int .i64 1) fun t16 =>
 r4 [t0, t1, t16] w.drew))
 (R (.bool true) w)
/-- `honeycomb/honeycombbook.SameInts` -/
def honeycombbook_SameInts (a0 a1 : Value) (R : Value → World → Prop) (w : World) : Prop :=
 lenSl a0 fun t7 =>
 lenSl a1 fun t9 =>
 intW .neq t7 t9 fun t10 =>
 brV t10
 (R (.bool false) w)
 (lp (honeycombbook_SameInts_L4 R) [a0, a1, (.int .i64 0)] w)
theorem honeycombbook_SameInts_den (a0 a1 : Value) (R : Value → World → Prop) (w : World) : denF Tryz.prog Tryz.f78 (Tryz.f78.body.getD .skip) [] [(4, [0, 1, 5])] [a0, a1] R w = honeycombbook_SameInts a0 a1 R w := by kernel_rfl
set_option maxRecDepth 100000 in
theorem honeycombbook_SameInts_run {a0 a1 : Value} {R : Value → World → Prop} {w : World} (h : honeycombbook_SameInts a0 a1 R w) : Calls Tryz.prog 78 #[a0, a1] w (rt R) :=
  run_sound (c := Tryz.f78.body.getD .skip) (la := []) (lb := [(4, [0, 1, 5])]) (args := [a0, a1]) mixed Tryz.func78 (by kernel_rfl) (by kernel_rfl) (Nat.le_of_ble_eq_true (by kernel_rfl)) (Eq.mpr (honeycombbook_SameInts_den a0 a1 R w) h)
theorem honeycombbook_SameInts_body : hasBody Tryz.prog 78 = true := by kernel_rfl
theorem honeycombbook_SameInts_call {a0 a1 : Value} {R : Value → World → Prop} {w : World} (h : Calls Tryz.prog 78 #[a0, a1] w (rt R)) : callW Tryz.prog (.func (.func 78) #[] #[]) [a0, a1] w R :=
  ⟨honeycombbook_SameInts_body, h⟩
def honeycombbook_SameCells_L4 (R : Value → World → Prop) : (List Value → World → Prop) → List Value → World → Prop := fun r4 l w =>
 unc l fun t0 l =>
 unc l fun t1 l =>
 unc l fun t5 l =>
 lenSl t0 fun t13 =>
 intW .lss t5 t13 fun t14 =>
 brV t14
 (ixS 4 t0 t5 fun t19 =>
 ixS 4 t1 t5 fun t23 =>
 ldN 4 t19 w.drew fun t20 c3 =>
 ldN 4 t23 w.drew fun t24 c7 =>
 yl Tryz.prog (semBin .eql 128 (.tmp 20) (.tmp 24) t20 t24) fun t25 =>
 unW .not t25 fun t26 =>
 brV t26
 (R (.bool false) w.drew)
 (intW .add t5 (.int .i64 1) fun t16 =>
 r4 [t0, t1, t16] w.drew))
 (R (.bool true) w)
/-- `honeycomb/honeycombbook.SameCells` -/
def honeycombbook_SameCells (a0 a1 : Value) (R : Value → World → Prop) (w : World) : Prop :=
 lenSl a0 fun t7 =>
 lenSl a1 fun t9 =>
 intW .neq t7 t9 fun t10 =>
 brV t10
 (R (.bool false) w)
 (lp (honeycombbook_SameCells_L4 R) [a0, a1, (.int .i64 0)] w)
theorem honeycombbook_SameCells_den (a0 a1 : Value) (R : Value → World → Prop) (w : World) : denF Tryz.prog Tryz.f79 (Tryz.f79.body.getD .skip) [] [(4, [0, 1, 5])] [a0, a1] R w = honeycombbook_SameCells a0 a1 R w := by kernel_rfl
set_option maxRecDepth 100000 in
theorem honeycombbook_SameCells_run {a0 a1 : Value} {R : Value → World → Prop} {w : World} (h : honeycombbook_SameCells a0 a1 R w) : Calls Tryz.prog 79 #[a0, a1] w (rt R) :=
  run_sound (c := Tryz.f79.body.getD .skip) (la := []) (lb := [(4, [0, 1, 5])]) (args := [a0, a1]) mixed Tryz.func79 (by kernel_rfl) (by kernel_rfl) (Nat.le_of_ble_eq_true (by kernel_rfl)) (Eq.mpr (honeycombbook_SameCells_den a0 a1 R w) h)
theorem honeycombbook_SameCells_body : hasBody Tryz.prog 79 = true := by kernel_rfl
theorem honeycombbook_SameCells_call {a0 a1 : Value} {R : Value → World → Prop} {w : World} (h : Calls Tryz.prog 79 #[a0, a1] w (rt R)) : callW Tryz.prog (.func (.func 79) #[] #[]) [a0, a1] w R :=
  ⟨honeycombbook_SameCells_body, h⟩
def honeycombbook_SamePages_L4 (R : Value → World → Prop) : (List Value → World → Prop) → List Value → World → Prop := fun r4 l w =>
 unc l fun t0 l =>
 unc l fun t1 l =>
 unc l fun t5 l =>
 lenSl t0 fun t13 =>
 intW .lss t5 t13 fun t14 =>
 brV t14
 (ixS 4 t0 t5 fun t19 =>
 ixS 4 t1 t5 fun t23 =>
 ldN 4 t19 w.drew fun t20 c3 =>
 ldN 4 t23 w.drew fun t24 c7 =>
 yl Tryz.prog (semBin .eql 131 (.tmp 20) (.tmp 24) t20 t24) fun t25 =>
 unW .not t25 fun t26 =>
 brV t26
 (R (.bool false) w.drew)
 (intW .add t5 (.int .i64 1) fun t16 =>
 r4 [t0, t1, t16] w.drew))
 (R (.bool true) w)
/-- `honeycomb/honeycombbook.SamePages` -/
def honeycombbook_SamePages (a0 a1 : Value) (R : Value → World → Prop) (w : World) : Prop :=
 lenSl a0 fun t7 =>
 lenSl a1 fun t9 =>
 intW .neq t7 t9 fun t10 =>
 brV t10
 (R (.bool false) w)
 (lp (honeycombbook_SamePages_L4 R) [a0, a1, (.int .i64 0)] w)
theorem honeycombbook_SamePages_den (a0 a1 : Value) (R : Value → World → Prop) (w : World) : denF Tryz.prog Tryz.f80 (Tryz.f80.body.getD .skip) [] [(4, [0, 1, 5])] [a0, a1] R w = honeycombbook_SamePages a0 a1 R w := by kernel_rfl
set_option maxRecDepth 100000 in
theorem honeycombbook_SamePages_run {a0 a1 : Value} {R : Value → World → Prop} {w : World} (h : honeycombbook_SamePages a0 a1 R w) : Calls Tryz.prog 80 #[a0, a1] w (rt R) :=
  run_sound (c := Tryz.f80.body.getD .skip) (la := []) (lb := [(4, [0, 1, 5])]) (args := [a0, a1]) mixed Tryz.func80 (by kernel_rfl) (by kernel_rfl) (Nat.le_of_ble_eq_true (by kernel_rfl)) (Eq.mpr (honeycombbook_SamePages_den a0 a1 R w) h)
theorem honeycombbook_SamePages_body : hasBody Tryz.prog 80 = true := by kernel_rfl
theorem honeycombbook_SamePages_call {a0 a1 : Value} {R : Value → World → Prop} {w : World} (h : Calls Tryz.prog 80 #[a0, a1] w (rt R)) : callW Tryz.prog (.func (.func 80) #[] #[]) [a0, a1] w R :=
  ⟨honeycombbook_SamePages_body, h⟩
def honeycombbook_SamePatches_L4 (R : Value → World → Prop) : (List Value → World → Prop) → List Value → World → Prop := fun r4 l w =>
 unc l fun t0 l =>
 unc l fun t1 l =>
 unc l fun t5 l =>
 lenSl t0 fun t13 =>
 intW .lss t5 t13 fun t14 =>
 brV t14
 (ixS 3 t0 t5 fun t19 =>
 ixS 3 t1 t5 fun t23 =>
 ldN 3 t19 w.drew fun t20 c3 =>
 ldN 3 t23 w.drew fun t24 c7 =>
 yl Tryz.prog (semBin .eql 134 (.tmp 20) (.tmp 24) t20 t24) fun t25 =>
 unW .not t25 fun t26 =>
 brV t26
 (R (.bool false) w.drew)
 (intW .add t5 (.int .i64 1) fun t16 =>
 r4 [t0, t1, t16] w.drew))
 (R (.bool true) w)
/-- `honeycomb/honeycombbook.SamePatches` -/
def honeycombbook_SamePatches (a0 a1 : Value) (R : Value → World → Prop) (w : World) : Prop :=
 lenSl a0 fun t7 =>
 lenSl a1 fun t9 =>
 intW .neq t7 t9 fun t10 =>
 brV t10
 (R (.bool false) w)
 (lp (honeycombbook_SamePatches_L4 R) [a0, a1, (.int .i64 0)] w)
theorem honeycombbook_SamePatches_den (a0 a1 : Value) (R : Value → World → Prop) (w : World) : denF Tryz.prog Tryz.f81 (Tryz.f81.body.getD .skip) [] [(4, [0, 1, 5])] [a0, a1] R w = honeycombbook_SamePatches a0 a1 R w := by kernel_rfl
set_option maxRecDepth 100000 in
theorem honeycombbook_SamePatches_run {a0 a1 : Value} {R : Value → World → Prop} {w : World} (h : honeycombbook_SamePatches a0 a1 R w) : Calls Tryz.prog 81 #[a0, a1] w (rt R) :=
  run_sound (c := Tryz.f81.body.getD .skip) (la := []) (lb := [(4, [0, 1, 5])]) (args := [a0, a1]) mixed Tryz.func81 (by kernel_rfl) (by kernel_rfl) (Nat.le_of_ble_eq_true (by kernel_rfl)) (Eq.mpr (honeycombbook_SamePatches_den a0 a1 R w) h)
theorem honeycombbook_SamePatches_body : hasBody Tryz.prog 81 = true := by kernel_rfl
theorem honeycombbook_SamePatches_call {a0 a1 : Value} {R : Value → World → Prop} {w : World} (h : Calls Tryz.prog 81 #[a0, a1] w (rt R)) : callW Tryz.prog (.func (.func 81) #[] #[]) [a0, a1] w R :=
  ⟨honeycombbook_SamePatches_body, h⟩
def honeycombbook_SameDirty_L4 (R : Value → World → Prop) : (List Value → World → Prop) → List Value → World → Prop := fun r4 l w =>
 unc l fun t0 l =>
 unc l fun t1 l =>
 unc l fun t5 l =>
 lenSl t0 fun t13 =>
 intW .lss t5 t13 fun t14 =>
 brV t14
 (ixS 2 t0 t5 fun t19 =>
 ixS 2 t1 t5 fun t23 =>
 ldN 2 t19 w.drew fun t20 c3 =>
 ldN 2 t23 w.drew fun t24 c7 =>
 yl Tryz.prog (semBin .eql 137 (.tmp 20) (.tmp 24) t20 t24) fun t25 =>
 unW .not t25 fun t26 =>
 brV t26
 (R (.bool false) w.drew)
 (intW .add t5 (.int .i64 1) fun t16 =>
 r4 [t0, t1, t16] w.drew))
 (R (.bool true) w)
/-- `honeycomb/honeycombbook.SameDirty` -/
def honeycombbook_SameDirty (a0 a1 : Value) (R : Value → World → Prop) (w : World) : Prop :=
 lenSl a0 fun t7 =>
 lenSl a1 fun t9 =>
 intW .neq t7 t9 fun t10 =>
 brV t10
 (R (.bool false) w)
 (lp (honeycombbook_SameDirty_L4 R) [a0, a1, (.int .i64 0)] w)
theorem honeycombbook_SameDirty_den (a0 a1 : Value) (R : Value → World → Prop) (w : World) : denF Tryz.prog Tryz.f82 (Tryz.f82.body.getD .skip) [] [(4, [0, 1, 5])] [a0, a1] R w = honeycombbook_SameDirty a0 a1 R w := by kernel_rfl
set_option maxRecDepth 100000 in
theorem honeycombbook_SameDirty_run {a0 a1 : Value} {R : Value → World → Prop} {w : World} (h : honeycombbook_SameDirty a0 a1 R w) : Calls Tryz.prog 82 #[a0, a1] w (rt R) :=
  run_sound (c := Tryz.f82.body.getD .skip) (la := []) (lb := [(4, [0, 1, 5])]) (args := [a0, a1]) mixed Tryz.func82 (by kernel_rfl) (by kernel_rfl) (Nat.le_of_ble_eq_true (by kernel_rfl)) (Eq.mpr (honeycombbook_SameDirty_den a0 a1 R w) h)
theorem honeycombbook_SameDirty_body : hasBody Tryz.prog 82 = true := by kernel_rfl
theorem honeycombbook_SameDirty_call {a0 a1 : Value} {R : Value → World → Prop} {w : World} (h : Calls Tryz.prog 82 #[a0, a1] w (rt R)) : callW Tryz.prog (.func (.func 82) #[] #[]) [a0, a1] w R :=
  ⟨honeycombbook_SameDirty_body, h⟩
def honeycombbook_SameEntries_L4 (R : Value → World → Prop) : (List Value → World → Prop) → List Value → World → Prop := fun r4 l w =>
 unc l fun t0 l =>
 unc l fun t1 l =>
 unc l fun t5 l =>
 lenSl t0 fun t13 =>
 intW .lss t5 t13 fun t14 =>
 brV t14
 (ixS 2 t0 t5 fun t19 =>
 ixS 2 t1 t5 fun t23 =>
 ldN 2 t19 w.drew fun t20 c3 =>
 ldN 2 t23 w.drew fun t24 c7 =>
 yl Tryz.prog (semBin .eql 140 (.tmp 20) (.tmp 24) t20 t24) fun t25 =>
 unW .not t25 fun t26 =>
 brV t26
 (R (.bool false) w.drew)
 (intW .add t5 (.int .i64 1) fun t16 =>
 r4 [t0, t1, t16] w.drew))
 (R (.bool true) w)
/-- `honeycomb/honeycombbook.SameEntries` -/
def honeycombbook_SameEntries (a0 a1 : Value) (R : Value → World → Prop) (w : World) : Prop :=
 lenSl a0 fun t7 =>
 lenSl a1 fun t9 =>
 intW .neq t7 t9 fun t10 =>
 brV t10
 (R (.bool false) w)
 (lp (honeycombbook_SameEntries_L4 R) [a0, a1, (.int .i64 0)] w)
theorem honeycombbook_SameEntries_den (a0 a1 : Value) (R : Value → World → Prop) (w : World) : denF Tryz.prog Tryz.f83 (Tryz.f83.body.getD .skip) [] [(4, [0, 1, 5])] [a0, a1] R w = honeycombbook_SameEntries a0 a1 R w := by kernel_rfl
set_option maxRecDepth 100000 in
theorem honeycombbook_SameEntries_run {a0 a1 : Value} {R : Value → World → Prop} {w : World} (h : honeycombbook_SameEntries a0 a1 R w) : Calls Tryz.prog 83 #[a0, a1] w (rt R) :=
  run_sound (c := Tryz.f83.body.getD .skip) (la := []) (lb := [(4, [0, 1, 5])]) (args := [a0, a1]) mixed Tryz.func83 (by kernel_rfl) (by kernel_rfl) (Nat.le_of_ble_eq_true (by kernel_rfl)) (Eq.mpr (honeycombbook_SameEntries_den a0 a1 R w) h)
theorem honeycombbook_SameEntries_body : hasBody Tryz.prog 83 = true := by kernel_rfl
theorem honeycombbook_SameEntries_call {a0 a1 : Value} {R : Value → World → Prop} {w : World} (h : Calls Tryz.prog 83 #[a0, a1] w (rt R)) : callW Tryz.prog (.func (.func 83) #[] #[]) [a0, a1] w R :=
  ⟨honeycombbook_SameEntries_body, h⟩
def honeycombbook_SamePairs_L4 (R : Value → World → Prop) : (List Value → World → Prop) → List Value → World → Prop := fun r4 l w =>
 unc l fun t0 l =>
 unc l fun t1 l =>
 unc l fun t5 l =>
 lenSl t0 fun t13 =>
 intW .lss t5 t13 fun t14 =>
 brV t14
 (ixS 2 t0 t5 fun t19 =>
 ixS 2 t1 t5 fun t23 =>
 ldN 2 t19 w.drew fun t20 c3 =>
 ldN 2 t23 w.drew fun t24 c7 =>
 yl Tryz.prog (semBin .eql 142 (.tmp 20) (.tmp 24) t20 t24) fun t25 =>
 unW .not t25 fun t26 =>
 brV t26
 (R (.bool false) w.drew)
 (intW .add t5 (.int .i64 1) fun t16 =>
 r4 [t0, t1, t16] w.drew))
 (R (.bool true) w)
/-- `honeycomb/honeycombbook.SamePairs` -/
def honeycombbook_SamePairs (a0 a1 : Value) (R : Value → World → Prop) (w : World) : Prop :=
 lenSl a0 fun t7 =>
 lenSl a1 fun t9 =>
 intW .neq t7 t9 fun t10 =>
 brV t10
 (R (.bool false) w)
 (lp (honeycombbook_SamePairs_L4 R) [a0, a1, (.int .i64 0)] w)
theorem honeycombbook_SamePairs_den (a0 a1 : Value) (R : Value → World → Prop) (w : World) : denF Tryz.prog Tryz.f84 (Tryz.f84.body.getD .skip) [] [(4, [0, 1, 5])] [a0, a1] R w = honeycombbook_SamePairs a0 a1 R w := by kernel_rfl
set_option maxRecDepth 100000 in
theorem honeycombbook_SamePairs_run {a0 a1 : Value} {R : Value → World → Prop} {w : World} (h : honeycombbook_SamePairs a0 a1 R w) : Calls Tryz.prog 84 #[a0, a1] w (rt R) :=
  run_sound (c := Tryz.f84.body.getD .skip) (la := []) (lb := [(4, [0, 1, 5])]) (args := [a0, a1]) mixed Tryz.func84 (by kernel_rfl) (by kernel_rfl) (Nat.le_of_ble_eq_true (by kernel_rfl)) (Eq.mpr (honeycombbook_SamePairs_den a0 a1 R w) h)
theorem honeycombbook_SamePairs_body : hasBody Tryz.prog 84 = true := by kernel_rfl
theorem honeycombbook_SamePairs_call {a0 a1 : Value} {R : Value → World → Prop} {w : World} (h : Calls Tryz.prog 84 #[a0, a1] w (rt R)) : callW Tryz.prog (.func (.func 84) #[] #[]) [a0, a1] w R :=
  ⟨honeycombbook_SamePairs_body, h⟩
def honeycombbook_SameTxs_L4 (R : Value → World → Prop) : (List Value → World → Prop) → List Value → World → Prop := fun r4 l w =>
 unc l fun t0 l =>
 unc l fun t1 l =>
 unc l fun t5 l =>
 lenSl t0 fun t13 =>
 intW .lss t5 t13 fun t14 =>
 brV t14
 (ixS 4 t0 t5 fun t19 =>
 ixS 4 t1 t5 fun t23 =>
 ldN 4 t19 w.drew fun t20 c3 =>
 ldN 4 t23 w.drew fun t24 c7 =>
 callW Tryz.prog (.func (.func 100) #[] #[]) [t20, t24] w.drew fun t25 w =>
 unW .not t25 fun t26 =>
 brV t26
 (R (.bool false) w)
 (intW .add t5 (.int .i64 1) fun t16 =>
 r4 [t0, t1, t16] w))
 (R (.bool true) w)
/-- `honeycomb/honeycombbook.SameTxs` -/
def honeycombbook_SameTxs (a0 a1 : Value) (R : Value → World → Prop) (w : World) : Prop :=
 lenSl a0 fun t7 =>
 lenSl a1 fun t9 =>
 intW .neq t7 t9 fun t10 =>
 brV t10
 (R (.bool false) w)
 (lp (honeycombbook_SameTxs_L4 R) [a0, a1, (.int .i64 0)] w)
theorem honeycombbook_SameTxs_den (a0 a1 : Value) (R : Value → World → Prop) (w : World) : denF Tryz.prog Tryz.f85 (Tryz.f85.body.getD .skip) [] [(4, [0, 1, 5])] [a0, a1] R w = honeycombbook_SameTxs a0 a1 R w := by kernel_rfl
set_option maxRecDepth 100000 in
theorem honeycombbook_SameTxs_run {a0 a1 : Value} {R : Value → World → Prop} {w : World} (h : honeycombbook_SameTxs a0 a1 R w) : Calls Tryz.prog 85 #[a0, a1] w (rt R) :=
  run_sound (c := Tryz.f85.body.getD .skip) (la := []) (lb := [(4, [0, 1, 5])]) (args := [a0, a1]) mixed Tryz.func85 (by kernel_rfl) (by kernel_rfl) (Nat.le_of_ble_eq_true (by kernel_rfl)) (Eq.mpr (honeycombbook_SameTxs_den a0 a1 R w) h)
theorem honeycombbook_SameTxs_body : hasBody Tryz.prog 85 = true := by kernel_rfl
theorem honeycombbook_SameTxs_call {a0 a1 : Value} {R : Value → World → Prop} {w : World} (h : Calls Tryz.prog 85 #[a0, a1] w (rt R)) : callW Tryz.prog (.func (.func 85) #[] #[]) [a0, a1] w R :=
  ⟨honeycombbook_SameTxs_body, h⟩
def honeycombbook_markTxs_L3 (R : Value → World → Prop) : (List Value → World → Prop) → List Value → World → Prop := fun r3 l w =>
 unc l fun t0 l =>
 unc l fun t1 l =>
 unc l fun t2 l =>
 unc l fun t7 l =>
 unc l fun t8 l =>
 intW .add t1 t2 fun t13 =>
 intW .lss t8 t13 fun t14 =>
 brV t14
 (intW .mul (.int .i64 (-1000)) t0 fun t19 =>
 intW .sub t19 t8 fun t21 =>
 intW .sub t21 (.int .i64 1) fun t22 =>
 fillL [(0, 1), (1, 1), (2, 1), (3, 1)] #[(.int .i64 0), (.int .i64 0), (.bool false), (.slice none 0 0)] [(1, t22)] fun t23 =>
 blS 123 4 #[(.int .i64 0), (.int .i64 0), (.bool false), (.slice none 0 0)] 1 [(0, t23)] w fun t24 w =>
 sm Tryz.prog (bi .append #[120, 120] 120 [t7, t24]) w fun t25 w =>
 intW .add t8 (.int .i64 1) fun t16 =>
 r3 [t0, t1, t2, t25, t16] w)
 (R t7 w)
/-- `honeycomb/honeycombbook.markTxs` -/
def honeycombbook_markTxs (a0 a1 a2 : Value) (R : Value → World → Prop) (w : World) : Prop :=
 lp (honeycombbook_markTxs_L3 R) [a0, a1, a2, (.slice none 0 0), a1] w
theorem honeycombbook_markTxs_den (a0 a1 a2 : Value) (R : Value → World → Prop) (w : World) : denF Tryz.prog Tryz.f86 (Tryz.f86.body.getD .skip) [] [(3, [0, 1, 2, 7, 8])] [a0, a1, a2] R w = honeycombbook_markTxs a0 a1 a2 R w := by kernel_rfl
set_option maxRecDepth 100000 in
theorem honeycombbook_markTxs_run {a0 a1 a2 : Value} {R : Value → World → Prop} {w : World} (h : honeycombbook_markTxs a0 a1 a2 R w) : Calls Tryz.prog 86 #[a0, a1, a2] w (rt R) :=
  run_sound (c := Tryz.f86.body.getD .skip) (la := []) (lb := [(3, [0, 1, 2, 7, 8])]) (args := [a0, a1, a2]) mixed Tryz.func86 (by kernel_rfl) (by kernel_rfl) (Nat.le_of_ble_eq_true (by kernel_rfl)) (Eq.mpr (honeycombbook_markTxs_den a0 a1 a2 R w) h)
theorem honeycombbook_markTxs_body : hasBody Tryz.prog 86 = true := by kernel_rfl
theorem honeycombbook_markTxs_call {a0 a1 a2 : Value} {R : Value → World → Prop} {w : World} (h : Calls Tryz.prog 86 #[a0, a1, a2] w (rt R)) : callW Tryz.prog (.func (.func 86) #[] #[]) [a0, a1, a2] w R :=
  ⟨honeycombbook_markTxs_body, h⟩
def honeycombbook_markInts_L3 (R : Value → World → Prop) : (List Value → World → Prop) → List Value → World → Prop := fun r3 l w =>
 unc l fun t0 l =>
 unc l fun t1 l =>
 unc l fun t2 l =>
 unc l fun t7 l =>
 unc l fun t8 l =>
 intW .add t1 t2 fun t13 =>
 intW .lss t8 t13 fun t14 =>
 brV t14
 (intW .mul (.int .i64 (-1000000)) t0 fun t19 =>
 intW .sub t19 t8 fun t21 =>
 intW .sub t21 (.int .i64 7) fun t22 =>
 blS 3 1 #[(.int .i64 0)] 1 [(0, t22)] w fun t23 w =>
 sm Tryz.prog (bi .append #[106, 106] 106 [t7, t23]) w fun t24 w =>
 intW .add t8 (.int .i64 1) fun t16 =>
 r3 [t0, t1, t2, t24, t16] w)
 (R t7 w)
/-- `honeycomb/honeycombbook.markInts` -/
def honeycombbook_markInts (a0 a1 a2 : Value) (R : Value → World → Prop) (w : World) : Prop :=
 lp (honeycombbook_markInts_L3 R) [a0, a1, a2, (.slice none 0 0), a1] w
theorem honeycombbook_markInts_den (a0 a1 a2 : Value) (R : Value → World → Prop) (w : World) : denF Tryz.prog Tryz.f87 (Tryz.f87.body.getD .skip) [] [(3, [0, 1, 2, 7, 8])] [a0, a1, a2] R w = honeycombbook_markInts a0 a1 a2 R w := by kernel_rfl
set_option maxRecDepth 100000 in
theorem honeycombbook_markInts_run {a0 a1 a2 : Value} {R : Value → World → Prop} {w : World} (h : honeycombbook_markInts a0 a1 a2 R w) : Calls Tryz.prog 87 #[a0, a1, a2] w (rt R) :=
  run_sound (c := Tryz.f87.body.getD .skip) (la := []) (lb := [(3, [0, 1, 2, 7, 8])]) (args := [a0, a1, a2]) mixed Tryz.func87 (by kernel_rfl) (by kernel_rfl) (Nat.le_of_ble_eq_true (by kernel_rfl)) (Eq.mpr (honeycombbook_markInts_den a0 a1 a2 R w) h)
theorem honeycombbook_markInts_body : hasBody Tryz.prog 87 = true := by kernel_rfl
theorem honeycombbook_markInts_call {a0 a1 a2 : Value} {R : Value → World → Prop} {w : World} (h : Calls Tryz.prog 87 #[a0, a1, a2] w (rt R)) : callW Tryz.prog (.func (.func 87) #[] #[]) [a0, a1, a2] w R :=
  ⟨honeycombbook_markInts_body, h⟩
def honeycombbook_markTexts_L3 (R : Value → World → Prop) : (List Value → World → Prop) → List Value → World → Prop := fun r3 l w =>
 unc l fun t0 l =>
 unc l fun t1 l =>
 unc l fun t2 l =>
 unc l fun t7 l =>
 unc l fun t8 l =>
 intW .add t1 t2 fun t13 =>
 intW .lss t8 t13 fun t14 =>
 brV t14
 (callW Tryz.prog (.func (.func 101) #[] #[]) [t0, t8] w fun t20 w =>
 blS 9 1 #[(.string ⟨#[]⟩)] 1 [(0, t20)] w fun t21 w =>
 sm Tryz.prog (bi .append #[24, 24] 24 [t7, t21]) w fun t22 w =>
 intW .add t8 (.int .i64 1) fun t16 =>
 r3 [t0, t1, t2, t22, t16] w)
 (R t7 w)
/-- `honeycomb/honeycombbook.markTexts` -/
def honeycombbook_markTexts (a0 a1 a2 : Value) (R : Value → World → Prop) (w : World) : Prop :=
 lp (honeycombbook_markTexts_L3 R) [a0, a1, a2, (.slice none 0 0), a1] w
theorem honeycombbook_markTexts_den (a0 a1 a2 : Value) (R : Value → World → Prop) (w : World) : denF Tryz.prog Tryz.f88 (Tryz.f88.body.getD .skip) [] [(3, [0, 1, 2, 7, 8])] [a0, a1, a2] R w = honeycombbook_markTexts a0 a1 a2 R w := by kernel_rfl
set_option maxRecDepth 100000 in
theorem honeycombbook_markTexts_run {a0 a1 a2 : Value} {R : Value → World → Prop} {w : World} (h : honeycombbook_markTexts a0 a1 a2 R w) : Calls Tryz.prog 88 #[a0, a1, a2] w (rt R) :=
  run_sound (c := Tryz.f88.body.getD .skip) (la := []) (lb := [(3, [0, 1, 2, 7, 8])]) (args := [a0, a1, a2]) mixed Tryz.func88 (by kernel_rfl) (by kernel_rfl) (Nat.le_of_ble_eq_true (by kernel_rfl)) (Eq.mpr (honeycombbook_markTexts_den a0 a1 a2 R w) h)
theorem honeycombbook_markTexts_body : hasBody Tryz.prog 88 = true := by kernel_rfl
theorem honeycombbook_markTexts_call {a0 a1 a2 : Value} {R : Value → World → Prop} {w : World} (h : Calls Tryz.prog 88 #[a0, a1, a2] w (rt R)) : callW Tryz.prog (.func (.func 88) #[] #[]) [a0, a1, a2] w R :=
  ⟨honeycombbook_markTexts_body, h⟩
def honeycombbook_markCells_L3 (R : Value → World → Prop) : (List Value → World → Prop) → List Value → World → Prop := fun r3 l w =>
 unc l fun t0 l =>
 unc l fun t1 l =>
 unc l fun t2 l =>
 unc l fun t7 l =>
 unc l fun t8 l =>
 intW .add t1 t2 fun t13 =>
 intW .lss t8 t13 fun t14 =>
 brV t14
 (intW .mul (.int .i64 (-1000)) t0 fun t19 =>
 intW .sub t19 t8 fun t21 =>
 intW .sub t21 (.int .i64 1) fun t22 =>
 fillL [(0, 1), (1, 1), (2, 1), (3, 1)] #[(.string ⟨#[]⟩), (.string ⟨#[]⟩), (.int .i64 0), (.int .i64 0)] [(3, t22)] fun t23 =>
 blS 128 4 #[(.string ⟨#[]⟩), (.string ⟨#[]⟩), (.int .i64 0), (.int .i64 0)] 1 [(0, t23)] w fun t24 w =>
 sm Tryz.prog (bi .append #[108, 108] 108 [t7, t24]) w fun t25 w =>
 intW .add t8 (.int .i64 1) fun t16 =>
 r3 [t0, t1, t2, t25, t16] w)
 (R t7 w)
/-- `honeycomb/honeycombbook.markCells` -/
def honeycombbook_markCells (a0 a1 a2 : Value) (R : Value → World → Prop) (w : World) : Prop :=
 lp (honeycombbook_markCells_L3 R) [a0, a1, a2, (.slice none 0 0), a1] w
theorem honeycombbook_markCells_den (a0 a1 a2 : Value) (R : Value → World → Prop) (w : World) : denF Tryz.prog Tryz.f89 (Tryz.f89.body.getD .skip) [] [(3, [0, 1, 2, 7, 8])] [a0, a1, a2] R w = honeycombbook_markCells a0 a1 a2 R w := by kernel_rfl
set_option maxRecDepth 100000 in
theorem honeycombbook_markCells_run {a0 a1 a2 : Value} {R : Value → World → Prop} {w : World} (h : honeycombbook_markCells a0 a1 a2 R w) : Calls Tryz.prog 89 #[a0, a1, a2] w (rt R) :=
  run_sound (c := Tryz.f89.body.getD .skip) (la := []) (lb := [(3, [0, 1, 2, 7, 8])]) (args := [a0, a1, a2]) mixed Tryz.func89 (by kernel_rfl) (by kernel_rfl) (Nat.le_of_ble_eq_true (by kernel_rfl)) (Eq.mpr (honeycombbook_markCells_den a0 a1 a2 R w) h)
theorem honeycombbook_markCells_body : hasBody Tryz.prog 89 = true := by kernel_rfl
theorem honeycombbook_markCells_call {a0 a1 a2 : Value} {R : Value → World → Prop} {w : World} (h : Calls Tryz.prog 89 #[a0, a1, a2] w (rt R)) : callW Tryz.prog (.func (.func 89) #[] #[]) [a0, a1, a2] w R :=
  ⟨honeycombbook_markCells_body, h⟩
def honeycombbook_markPages_L3 (R : Value → World → Prop) : (List Value → World → Prop) → List Value → World → Prop := fun r3 l w =>
 unc l fun t0 l =>
 unc l fun t1 l =>
 unc l fun t2 l =>
 unc l fun t7 l =>
 unc l fun t8 l =>
 intW .add t1 t2 fun t13 =>
 intW .lss t8 t13 fun t14 =>
 brV t14
 (intW .mul (.int .i64 (-1000)) t0 fun t19 =>
 intW .sub t19 t8 fun t21 =>
 intW .sub t21 (.int .i64 1) fun t22 =>
 fillL [(0, 1), (1, 1), (2, 1), (3, 1)] #[(.int .i64 0), (.int .i64 0), (.int .i64 0), (.string ⟨#[]⟩)] [(1, t22)] fun t23 =>
 blS 131 4 #[(.int .i64 0), (.int .i64 0), (.int .i64 0), (.string ⟨#[]⟩)] 1 [(0, t23)] w fun t24 w =>
 sm Tryz.prog (bi .append #[110, 110] 110 [t7, t24]) w fun t25 w =>
 intW .add t8 (.int .i64 1) fun t16 =>
 r3 [t0, t1, t2, t25, t16] w)
 (R t7 w)
/-- `honeycomb/honeycombbook.markPages` -/
def honeycombbook_markPages (a0 a1 a2 : Value) (R : Value → World → Prop) (w : World) : Prop :=
 lp (honeycombbook_markPages_L3 R) [a0, a1, a2, (.slice none 0 0), a1] w
theorem honeycombbook_markPages_den (a0 a1 a2 : Value) (R : Value → World → Prop) (w : World) : denF Tryz.prog Tryz.f90 (Tryz.f90.body.getD .skip) [] [(3, [0, 1, 2, 7, 8])] [a0, a1, a2] R w = honeycombbook_markPages a0 a1 a2 R w := by kernel_rfl
set_option maxRecDepth 100000 in
theorem honeycombbook_markPages_run {a0 a1 a2 : Value} {R : Value → World → Prop} {w : World} (h : honeycombbook_markPages a0 a1 a2 R w) : Calls Tryz.prog 90 #[a0, a1, a2] w (rt R) :=
  run_sound (c := Tryz.f90.body.getD .skip) (la := []) (lb := [(3, [0, 1, 2, 7, 8])]) (args := [a0, a1, a2]) mixed Tryz.func90 (by kernel_rfl) (by kernel_rfl) (Nat.le_of_ble_eq_true (by kernel_rfl)) (Eq.mpr (honeycombbook_markPages_den a0 a1 a2 R w) h)
theorem honeycombbook_markPages_body : hasBody Tryz.prog 90 = true := by kernel_rfl
theorem honeycombbook_markPages_call {a0 a1 a2 : Value} {R : Value → World → Prop} {w : World} (h : Calls Tryz.prog 90 #[a0, a1, a2] w (rt R)) : callW Tryz.prog (.func (.func 90) #[] #[]) [a0, a1, a2] w R :=
  ⟨honeycombbook_markPages_body, h⟩
def honeycombbook_markPatches_L3 (R : Value → World → Prop) : (List Value → World → Prop) → List Value → World → Prop := fun r3 l w =>
 unc l fun t0 l =>
 unc l fun t1 l =>
 unc l fun t2 l =>
 unc l fun t7 l =>
 unc l fun t8 l =>
 intW .add t1 t2 fun t13 =>
 intW .lss t8 t13 fun t14 =>
 brV t14
 (intW .mul (.int .i64 (-1000)) t0 fun t19 =>
 intW .sub t19 t8 fun t21 =>
 intW .sub t21 (.int .i64 1) fun t22 =>
 fillL [(0, 1), (1, 1), (2, 1)] #[(.int .i64 0), (.int .i64 0), (.string ⟨#[]⟩)] [(1, t22)] fun t23 =>
 blS 134 3 #[(.int .i64 0), (.int .i64 0), (.string ⟨#[]⟩)] 1 [(0, t23)] w fun t24 w =>
 sm Tryz.prog (bi .append #[112, 112] 112 [t7, t24]) w fun t25 w =>
 intW .add t8 (.int .i64 1) fun t16 =>
 r3 [t0, t1, t2, t25, t16] w)
 (R t7 w)
/-- `honeycomb/honeycombbook.markPatches` -/
def honeycombbook_markPatches (a0 a1 a2 : Value) (R : Value → World → Prop) (w : World) : Prop :=
 lp (honeycombbook_markPatches_L3 R) [a0, a1, a2, (.slice none 0 0), a1] w
theorem honeycombbook_markPatches_den (a0 a1 a2 : Value) (R : Value → World → Prop) (w : World) : denF Tryz.prog Tryz.f91 (Tryz.f91.body.getD .skip) [] [(3, [0, 1, 2, 7, 8])] [a0, a1, a2] R w = honeycombbook_markPatches a0 a1 a2 R w := by kernel_rfl
set_option maxRecDepth 100000 in
theorem honeycombbook_markPatches_run {a0 a1 a2 : Value} {R : Value → World → Prop} {w : World} (h : honeycombbook_markPatches a0 a1 a2 R w) : Calls Tryz.prog 91 #[a0, a1, a2] w (rt R) :=
  run_sound (c := Tryz.f91.body.getD .skip) (la := []) (lb := [(3, [0, 1, 2, 7, 8])]) (args := [a0, a1, a2]) mixed Tryz.func91 (by kernel_rfl) (by kernel_rfl) (Nat.le_of_ble_eq_true (by kernel_rfl)) (Eq.mpr (honeycombbook_markPatches_den a0 a1 a2 R w) h)
theorem honeycombbook_markPatches_body : hasBody Tryz.prog 91 = true := by kernel_rfl
theorem honeycombbook_markPatches_call {a0 a1 a2 : Value} {R : Value → World → Prop} {w : World} (h : Calls Tryz.prog 91 #[a0, a1, a2] w (rt R)) : callW Tryz.prog (.func (.func 91) #[] #[]) [a0, a1, a2] w R :=
  ⟨honeycombbook_markPatches_body, h⟩
def honeycombbook_markDirty_L3 (R : Value → World → Prop) : (List Value → World → Prop) → List Value → World → Prop := fun r3 l w =>
 unc l fun t0 l =>
 unc l fun t1 l =>
 unc l fun t2 l =>
 unc l fun t7 l =>
 unc l fun t8 l =>
 intW .add t1 t2 fun t13 =>
 intW .lss t8 t13 fun t14 =>
 brV t14
 (intW .mul (.int .i64 (-1000)) t0 fun t19 =>
 intW .sub t19 t8 fun t21 =>
 intW .sub t21 (.int .i64 1) fun t22 =>
 fillL [(0, 1), (1, 1)] #[(.int .i64 0), (.int .i64 0)] [(1, t22)] fun t23 =>
 blS 137 2 #[(.int .i64 0), (.int .i64 0)] 1 [(0, t23)] w fun t24 w =>
 sm Tryz.prog (bi .append #[114, 114] 114 [t7, t24]) w fun t25 w =>
 intW .add t8 (.int .i64 1) fun t16 =>
 r3 [t0, t1, t2, t25, t16] w)
 (R t7 w)
/-- `honeycomb/honeycombbook.markDirty` -/
def honeycombbook_markDirty (a0 a1 a2 : Value) (R : Value → World → Prop) (w : World) : Prop :=
 lp (honeycombbook_markDirty_L3 R) [a0, a1, a2, (.slice none 0 0), a1] w
theorem honeycombbook_markDirty_den (a0 a1 a2 : Value) (R : Value → World → Prop) (w : World) : denF Tryz.prog Tryz.f92 (Tryz.f92.body.getD .skip) [] [(3, [0, 1, 2, 7, 8])] [a0, a1, a2] R w = honeycombbook_markDirty a0 a1 a2 R w := by kernel_rfl
set_option maxRecDepth 100000 in
theorem honeycombbook_markDirty_run {a0 a1 a2 : Value} {R : Value → World → Prop} {w : World} (h : honeycombbook_markDirty a0 a1 a2 R w) : Calls Tryz.prog 92 #[a0, a1, a2] w (rt R) :=
  run_sound (c := Tryz.f92.body.getD .skip) (la := []) (lb := [(3, [0, 1, 2, 7, 8])]) (args := [a0, a1, a2]) mixed Tryz.func92 (by kernel_rfl) (by kernel_rfl) (Nat.le_of_ble_eq_true (by kernel_rfl)) (Eq.mpr (honeycombbook_markDirty_den a0 a1 a2 R w) h)
theorem honeycombbook_markDirty_body : hasBody Tryz.prog 92 = true := by kernel_rfl
theorem honeycombbook_markDirty_call {a0 a1 a2 : Value} {R : Value → World → Prop} {w : World} (h : Calls Tryz.prog 92 #[a0, a1, a2] w (rt R)) : callW Tryz.prog (.func (.func 92) #[] #[]) [a0, a1, a2] w R :=
  ⟨honeycombbook_markDirty_body, h⟩
def honeycombbook_markEntries_L3 (R : Value → World → Prop) : (List Value → World → Prop) → List Value → World → Prop := fun r3 l w =>
 unc l fun t0 l =>
 unc l fun t1 l =>
 unc l fun t2 l =>
 unc l fun t7 l =>
 unc l fun t8 l =>
 intW .add t1 t2 fun t13 =>
 intW .lss t8 t13 fun t14 =>
 brV t14
 (callW Tryz.prog (.func (.func 101) #[] #[]) [t0, t8] w fun t20 w =>
 fillL [(0, 1), (1, 1)] #[(.string ⟨#[]⟩), (.string ⟨#[]⟩)] [(0, t20)] fun t21 =>
 blS 140 2 #[(.string ⟨#[]⟩), (.string ⟨#[]⟩)] 1 [(0, t21)] w fun t22 w =>
 sm Tryz.prog (bi .append #[116, 116] 116 [t7, t22]) w fun t23 w =>
 intW .add t8 (.int .i64 1) fun t16 =>
 r3 [t0, t1, t2, t23, t16] w)
 (R t7 w)
/-- `honeycomb/honeycombbook.markEntries` -/
def honeycombbook_markEntries (a0 a1 a2 : Value) (R : Value → World → Prop) (w : World) : Prop :=
 lp (honeycombbook_markEntries_L3 R) [a0, a1, a2, (.slice none 0 0), a1] w
theorem honeycombbook_markEntries_den (a0 a1 a2 : Value) (R : Value → World → Prop) (w : World) : denF Tryz.prog Tryz.f93 (Tryz.f93.body.getD .skip) [] [(3, [0, 1, 2, 7, 8])] [a0, a1, a2] R w = honeycombbook_markEntries a0 a1 a2 R w := by kernel_rfl
set_option maxRecDepth 100000 in
theorem honeycombbook_markEntries_run {a0 a1 a2 : Value} {R : Value → World → Prop} {w : World} (h : honeycombbook_markEntries a0 a1 a2 R w) : Calls Tryz.prog 93 #[a0, a1, a2] w (rt R) :=
  run_sound (c := Tryz.f93.body.getD .skip) (la := []) (lb := [(3, [0, 1, 2, 7, 8])]) (args := [a0, a1, a2]) mixed Tryz.func93 (by kernel_rfl) (by kernel_rfl) (Nat.le_of_ble_eq_true (by kernel_rfl)) (Eq.mpr (honeycombbook_markEntries_den a0 a1 a2 R w) h)
theorem honeycombbook_markEntries_body : hasBody Tryz.prog 93 = true := by kernel_rfl
theorem honeycombbook_markEntries_call {a0 a1 a2 : Value} {R : Value → World → Prop} {w : World} (h : Calls Tryz.prog 93 #[a0, a1, a2] w (rt R)) : callW Tryz.prog (.func (.func 93) #[] #[]) [a0, a1, a2] w R :=
  ⟨honeycombbook_markEntries_body, h⟩
def honeycombbook_markPairs_L3 (R : Value → World → Prop) : (List Value → World → Prop) → List Value → World → Prop := fun r3 l w =>
 unc l fun t0 l =>
 unc l fun t1 l =>
 unc l fun t2 l =>
 unc l fun t7 l =>
 unc l fun t8 l =>
 intW .add t1 t2 fun t13 =>
 intW .lss t8 t13 fun t14 =>
 brV t14
 (intW .mul (.int .i64 (-1000)) t0 fun t19 =>
 intW .sub t19 t8 fun t21 =>
 intW .sub t21 (.int .i64 1) fun t22 =>
 yl Tryz.prog (Instr.build 142 [(0, t22), (1, (.int .i64 3))].toArray) fun t23 =>
 blS 142 2 #[(.int .i64 0), (.int .i64 0)] 1 [(0, t23)] w fun t24 w =>
 sm Tryz.prog (bi .append #[118, 118] 118 [t7, t24]) w fun t25 w =>
 intW .add t8 (.int .i64 1) fun t16 =>
 r3 [t0, t1, t2, t25, t16] w)
 (R t7 w)
/-- `honeycomb/honeycombbook.markPairs` -/
def honeycombbook_markPairs (a0 a1 a2 : Value) (R : Value → World → Prop) (w : World) : Prop :=
 lp (honeycombbook_markPairs_L3 R) [a0, a1, a2, (.slice none 0 0), a1] w
theorem honeycombbook_markPairs_den (a0 a1 a2 : Value) (R : Value → World → Prop) (w : World) : denF Tryz.prog Tryz.f94 (Tryz.f94.body.getD .skip) [] [(3, [0, 1, 2, 7, 8])] [a0, a1, a2] R w = honeycombbook_markPairs a0 a1 a2 R w := by kernel_rfl
set_option maxRecDepth 100000 in
theorem honeycombbook_markPairs_run {a0 a1 a2 : Value} {R : Value → World → Prop} {w : World} (h : honeycombbook_markPairs a0 a1 a2 R w) : Calls Tryz.prog 94 #[a0, a1, a2] w (rt R) :=
  run_sound (c := Tryz.f94.body.getD .skip) (la := []) (lb := [(3, [0, 1, 2, 7, 8])]) (args := [a0, a1, a2]) mixed Tryz.func94 (by kernel_rfl) (by kernel_rfl) (Nat.le_of_ble_eq_true (by kernel_rfl)) (Eq.mpr (honeycombbook_markPairs_den a0 a1 a2 R w) h)
theorem honeycombbook_markPairs_body : hasBody Tryz.prog 94 = true := by kernel_rfl
theorem honeycombbook_markPairs_call {a0 a1 a2 : Value} {R : Value → World → Prop} {w : World} (h : Calls Tryz.prog 94 #[a0, a1, a2] w (rt R)) : callW Tryz.prog (.func (.func 94) #[] #[]) [a0, a1, a2] w R :=
  ⟨honeycombbook_markPairs_body, h⟩
/-- `honeycomb/honeycombbook.SameTx` -/
def honeycombbook_SameTx (a0 a1 : Value) (R : Value → World → Prop) (w : World) : Prop :=
 alW (Value.cells a0) 123 w fun t2 w =>
 alW (Value.cells a1) 123 w fun t3 w =>
 fld 0 t2 fun t5 =>
 ldC t5 w fun t6 _ =>
 fld 0 t3 fun t7 =>
 ldC t7 w fun t8 _ =>
 intW .eql t6 t8 fun t9 =>
 brV t9
 (fld 1 t2 fun t11 =>
 ldC t11 w fun t12 _ =>
 fld 1 t3 fun t13 =>
 ldC t13 w fun t14 _ =>
 intW .eql t12 t14 fun t15 =>
 brV t15
 (fld 2 t2 fun t18 =>
 ldC t18 w fun t19 _ =>
 fld 2 t3 fun t20 =>
 ldC t20 w fun t21 _ =>
 nilW 6 .eql t19 t21 fun t22 =>
 brV t22
 (fld 3 t2 fun t25 =>
 ldC t25 w fun t26 _ =>
 fld 3 t3 fun t27 =>
 ldC t27 w fun t28 _ =>
 callW Tryz.prog (.func (.func 78) #[] #[]) [t26, t28] w fun t29 w =>
 R t29 w)
 (R (.bool false) w))
 (R (.bool false) w))
 (R (.bool false) w)
theorem honeycombbook_SameTx_den (a0 a1 : Value) (R : Value → World → Prop) (w : World) : denF Tryz.prog Tryz.f100 (Tryz.f100.body.getD .skip) [] [] [a0, a1] R w = honeycombbook_SameTx a0 a1 R w := by kernel_rfl
set_option maxRecDepth 100000 in
theorem honeycombbook_SameTx_run {a0 a1 : Value} {R : Value → World → Prop} {w : World} (h : honeycombbook_SameTx a0 a1 R w) : Calls Tryz.prog 100 #[a0, a1] w (rt R) :=
  run_sound (c := Tryz.f100.body.getD .skip) (la := []) (lb := []) (args := [a0, a1]) mixed Tryz.func100 (by kernel_rfl) (by kernel_rfl) (Nat.le_of_ble_eq_true (by kernel_rfl)) (Eq.mpr (honeycombbook_SameTx_den a0 a1 R w) h)
theorem honeycombbook_SameTx_body : hasBody Tryz.prog 100 = true := by kernel_rfl
theorem honeycombbook_SameTx_call {a0 a1 : Value} {R : Value → World → Prop} {w : World} (h : Calls Tryz.prog 100 #[a0, a1] w (rt R)) : callW Tryz.prog (.func (.func 100) #[] #[]) [a0, a1] w R :=
  ⟨honeycombbook_SameTx_body, h⟩
/-- `honeycomb/honeycombbook.name` -/
def honeycombbook_name (a0 a1 : Value) (R : Value → World → Prop) (w : World) : Prop :=
 intW .rem a0 (.int .i64 26) fun t6 =>
 intW .add (.int .i64 65) t6 fun t7 =>
 cvI .u8 t7 fun t8 =>
 intW .quo a0 (.int .i64 26) fun t10 =>
 intW .rem t10 (.int .i64 26) fun t11 =>
 intW .add (.int .i64 65) t11 fun t12 =>
 cvI .u8 t12 fun t13 =>
 intW .rem a1 (.int .i64 10) fun t15 =>
 intW .add (.int .i64 48) t15 fun t16 =>
 cvI .u8 t16 fun t17 =>
 intW .quo a1 (.int .i64 10) fun t19 =>
 intW .rem t19 (.int .i64 10) fun t20 =>
 intW .add (.int .i64 48) t20 fun t21 =>
 cvI .u8 t21 fun t22 =>
 intW .quo a1 (.int .i64 100) fun t24 =>
 intW .rem t24 (.int .i64 10) fun t25 =>
 intW .add (.int .i64 48) t25 fun t26 =>
 cvI .u8 t26 fun t27 =>
 blS 5 1 #[(.int .u8 0)] 6 [(0, (.int .u8 109)), (1, t8), (2, t13), (3, t17), (4, t22), (5, t27)] w fun t28 w =>
 sm Tryz.prog (convert 60 9 t28) w fun t29 w =>
 R t29 w
theorem honeycombbook_name_den (a0 a1 : Value) (R : Value → World → Prop) (w : World) : denF Tryz.prog Tryz.f101 (Tryz.f101.body.getD .skip) [] [] [a0, a1] R w = honeycombbook_name a0 a1 R w := by kernel_rfl
set_option maxRecDepth 100000 in
theorem honeycombbook_name_run {a0 a1 : Value} {R : Value → World → Prop} {w : World} (h : honeycombbook_name a0 a1 R w) : Calls Tryz.prog 101 #[a0, a1] w (rt R) :=
  run_sound (c := Tryz.f101.body.getD .skip) (la := []) (lb := []) (args := [a0, a1]) mixed Tryz.func101 (by kernel_rfl) (by kernel_rfl) (Nat.le_of_ble_eq_true (by kernel_rfl)) (Eq.mpr (honeycombbook_name_den a0 a1 R w) h)
theorem honeycombbook_name_body : hasBody Tryz.prog 101 = true := by kernel_rfl
theorem honeycombbook_name_call {a0 a1 : Value} {R : Value → World → Prop} {w : World} (h : Calls Tryz.prog 101 #[a0, a1] w (rt R)) : callW Tryz.prog (.func (.func 101) #[] #[]) [a0, a1] w R :=
  ⟨honeycombbook_name_body, h⟩
end Go.Proofs.YtlicdhdpngahgaaGreat
