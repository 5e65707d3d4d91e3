/- The engine: what a loaded Go function does, told by its code as a predicate of its values and its world ('den'), and that the machine's call meets it ('run_sound'); no program in sight. -/
import Derived.Test.YtlicdhdpngahgaaDoorEngP
import Derived.LoopN
import Derived.Tactics
import Derived.KernelRfl
set_option linter.unusedVariables false
set_option linter.unusedSimpArgs false
namespace Go.Eng

/-! ### 1. What is known of a frame -/
abbrev Env := List (Nat × Option Value)
/-- What a slot holds; none: nothing yet. -/
def uv : Option Value → Value
  | some v => v
  | none => undef
def get : Env → Nat → Option Value
  | [], _ => none
  | (s, v) :: e, t => bif Nat.beq s t then some (uv v) else get e t
def isU : Env → Nat → Bool
  | [], _ => false
  | (s, v) :: e, t => bif Nat.beq s t then (match v with | none => true | some _ => false) else isU e t
def putO (N : Nat) (e : Env) : Option Nat → Option Value → Env
  | none, _ => e
  | some d, v => bif Nat.blt d N then (d, v) :: e else e
def put (N : Nat) (e : Env) (d : Option Nat) (v : Value) : Env := putO N e d (some v)
def putU (N : Nat) (e : Env) (d : Option Nat) : Env := putO N e d none
def ev (e : Env) : Operand → Option Value
  | .tmp t => get e t
  | .const v => some v
  | .global g => some (.pointer (some ⟨g, 0, none⟩))
  | .func f => some (.func (.func f) #[] #[])
structure Ag (N : Nat) (e : Env) (a : Act) : Prop where
  size : a.tmps.size = N
  defers : a.defers = []
  at_ : ∀ t v, get e t = some v → a.tmps[t]? = some v
theorem Ag.ev {N : Nat} {e : Env} {a : Act} (h : Ag N e a) {x : Operand} {v : Value} (hx : ev e x = some v) : a.eval x = v := by
  cases x with
  | tmp t => have := h.at_ t v hx; simp [Act.eval, this]
  | const u => simp [Eng.ev] at hx; exact hx
  | global g => simp [Eng.ev] at hx; exact hx
  | func f => simp [Eng.ev] at hx; exact hx
theorem get_cons (s t : Nat) (v : Option Value) (e : Env) : get ((s, v) :: e) t = if s = t then some (uv v) else get e t := by
  simp only [get]
  by_cases h : s = t
  · subst h; simp
  · rw [if_neg h]
    have : Nat.beq s t = false := by cases hb : Nat.beq s t with
      | false => rfl
      | true => exact absurd (Nat.eq_of_beq_eq_true hb) h
    simp [this]
theorem Ag.putO {N : Nat} {e : Env} {a : Act} (h : Ag N e a) (d : Option Nat) (v : Option Value) : Ag N (Eng.putO N e d v) (a.put d (uv v)) := by
  cases d with
  | none => exact h
  | some d =>
    simp only [Eng.putO, Act.put]
    cases hb : Nat.blt d N with
    | false =>
      have hd : ¬ d < N := by
        intro hlt; have : Nat.blt d N = true := Nat.ble_eq_true_of_le hlt; rw [this] at hb; cases hb
      refine ⟨by simpa using h.size, h.defers, fun t u hu => ?_⟩
      simp only [cond_false] at hu
      have := h.at_ t u hu
      rw [Array.setIfInBounds_eq_of_size_le (by rw [h.size]; omega)]
      exact this
    | true =>
      have hd : d < N := Nat.le_of_ble_eq_true hb
      refine ⟨by simpa using h.size, h.defers, fun t u hu => ?_⟩
      simp only [cond_true, get_cons] at hu
      by_cases hdt : d = t
      · subst hdt
        rw [if_pos rfl] at hu
        injection hu with hu
        subst hu
        simp [h.size, hd]
      · rw [if_neg hdt] at hu
        rw [Array.getElem?_setIfInBounds_ne hdt]
        exact h.at_ t u hu
theorem Ag.put {N : Nat} {e : Env} {a : Act} (h : Ag N e a) (d : Option Nat) (v : Value) : Ag N (Eng.put N e d v) (a.put d v) := h.putO d (some v)
theorem Ag.putU {N : Nat} {e : Env} {a : Act} (h : Ag N e a) (d : Option Nat) : Ag N (Eng.putU N e d) (a.put d undef) := h.putO d none
theorem isU_get : ∀ {e : Env} {t : Nat}, isU e t = true → get e t = some undef
  | [], _, h => by cases h
  | (s, v) :: e, t, h => by
    simp only [isU] at h
    simp only [get]
    cases hb : Nat.beq s t with
    | true =>
      rw [hb] at h
      cases v with
      | none => rfl
      | some v => cases h
    | false => rw [hb] at h; exact isU_get h
def v1 (e : Env) (x : Operand) (k : Value → Prop) : Prop := match ev e x with | some v => k v | none => False
def vs (e : Env) : List Operand → (List Value → Prop) → Prop
  | [], k => k []
  | x :: xs, k => v1 e x fun v => vs e xs fun l => k (v :: l)
def vo (e : Env) : Option Operand → (Option Value → Prop) → Prop
  | none, k => k none
  | some x, k => v1 e x fun v => k (some v)
def vp (e : Env) : List (Nat × Operand) → (List (Nat × Value) → Prop) → Prop
  | [], k => k []
  | (i, x) :: xs, k => v1 e x fun v => vp e xs fun l => k ((i, v) :: l)
section
variable {N : Nat} {e : Env} {a : Act}
theorem v1_spec (h : Ag N e a) {x : Operand} {k : Value → Prop} (hk : v1 e x k) : k (a.eval x) := by
  unfold v1 at hk
  cases hx : Eng.ev e x with
  | none => rw [hx] at hk; exact hk.elim
  | some v => rw [hx] at hk; rw [h.ev hx]; exact hk
theorem vs_spec (h : Ag N e a) : ∀ {xs : List Operand} {k : List Value → Prop}, vs e xs k → k (xs.map a.eval)
  | [], k, hk => hk
  | x :: xs, k, hk => by
    have h1 := v1_spec h hk
    exact vs_spec (xs := xs) (k := fun l => k (a.eval x :: l)) h h1
theorem vo_spec (h : Ag N e a) {x : Option Operand} {k : Option Value → Prop} (hk : vo e x k) : k (x.map a.eval) := by
  cases x with
  | none => exact hk
  | some x => exact v1_spec h hk
theorem vp_spec (h : Ag N e a) : ∀ {xs : List (Nat × Operand)} {k : List (Nat × Value) → Prop}, vp e xs k → k (xs.map fun p => (p.1, a.eval p.2))
  | [], k, hk => hk
  | (i, x) :: xs, k, hk => by
    have h1 := v1_spec h hk
    exact vp_spec (xs := xs) (k := fun l => k ((i, a.eval x) :: l)) h h1
end

/-! ### 2. Operations -/
/-- A test of a slot. -/
def brV (v : Value) (p q : Prop) : Prop := match v with | .bool true => p | .bool false => q | _ => False
def rt (k : Value → World → Prop) : Ending → World → Prop
  | .returned v, w => k v w
  | _, _ => False
def hasBody (P : Program) (f : FuncId) : Bool := match P.funcs[f]? with
  | some fn => fn.body.isSome && !(fn.name == "runtime.NumGoroutine")
  | none => false
/-- A call of a function value. -/
def callW (P : Program) (fv : Value) (args : List Value) (w : World) (k : Value → World → Prop) : Prop := match fv with
  | .func (.func f) first cap => hasBody P f = true ∧ Calls P f (first ++ args.toArray ++ cap) w (rt k)
  | _ => False
def nckW (v : Value) (k : Value → Prop) : Prop := match v with
  | .pointer (some a) => k (.pointer (some a))
  | .func (.func f) x y => k (.func (.func f) x y)
  | .map r => k (.map r)
  | .slice x y z => k (.slice x y z)
  | .iface t x => k (.iface t x)
  | _ => False
def exW (v : Value) (i : Nat) (k : Value → Prop) : Prop := match v with
  | .tuple vs => (match vs[i]? with | some v => k v | none => False)
  | _ => False
def overMem (P : Program) (t : TypeId) : Bool := match P.underlying t with
  | some (.map ..) => true
  | some (.chan ..) => true
  | some (.pointer _) => true
  | none => true
  | _ => false
def isSl (P : Program) (t : TypeId) : Bool := match P.underlying t with
  | some (.slice _) => true
  | some .unsafePointer => true
  | none => true
  | _ => false
def isPure (P : Program) : Op → Bool
  | .move _ | .assign _ | .pick .. | .nilCheck _ | .binOp .. | .unOp .. | .extract .. | .makeFunc .. | .index .. | .indexAddr .. | .fieldAddr .. | .field .. | .slice .. | .build .. | .makeInterface .. => true
  | .convert s d _ => !isSl P s && !isSl P d
  | .call { callee := .builtin .len, argTypes := ts, .. } => !overMem P (ts.getD 0 0)
  | .call { callee := .builtin .cap, argTypes := ts, .. } => !overMem P (ts.getD 0 0)
  | .call { callee := .builtin .min, .. } => true
  | .call { callee := .builtin .max, .. } => true
  | _ => false
def isLoad : Op → Bool
  | .load .. => true
  | _ => false
def pureW (P : Program) (e : Env) (o : Oper) (k : Value → Prop) : Prop := match o.op with
  | .move x | .assign x => v1 e x k
  | .pick c a b => v1 e c fun c => brV c (v1 e a k) (v1 e b k)
  | .nilCheck x => v1 e x fun v => nckW v k
  | .extract t i => v1 e t fun v => exW v i k
  | .makeFunc fn first cap => vs e first.toList fun f => vs e cap.toList fun c => k (.func fn f.toArray c.toArray)
  | .binOp op t x y _ => v1 e x fun a => v1 e y fun b => binD P op t x y a b k
  | .unOp op _ x => v1 e x fun a => unW op a k
  | .convert s d x => v1 e x fun a => cvD P s d a k
  | .index t x i => v1 e x fun a => v1 e i fun b => atD P t a b k
  | .indexAddr t x i => v1 e x fun a => v1 e i fun b => ixD P t a b k
  | .fieldAddr s x f => v1 e x fun a => fldD P s a f k
  | .field t x f => v1 e x fun a => yl P (Instr.field t a f) k
  | .slice t x lo hi mx => v1 e x fun a => vo e lo fun l => vo e hi fun h => vo e mx fun m => slD P t a l h m k
  | .build t ps => vp e ps.toList fun l => bldD P t l k
  | .makeInterface t x => v1 e x fun a => yl P (Instr.makeInterface t a) k
  | .call { callee := .builtin .len, args := xs, argTypes := ts } => vs e xs.toList fun l => bif Nat.blt 0 ts.size then lenD P ts o.type l k else False
  | .call { callee := .builtin .cap, args := xs, argTypes := ts } => vs e xs.toList fun l => yl P (Builtin.cap_ ts o.type l.toArray) k
  | .call { callee := .builtin .min, args := xs, argTypes := ts } => vs e xs.toList fun l => yl P (Builtin.min_ ts o.type l.toArray) k
  | .call { callee := .builtin .max, args := xs, argTypes := ts } => vs e xs.toList fun l => yl P (Builtin.max_ ts o.type l.toArray) k
  | _ => False
def loadW (P : Program) (e : Env) (o : Oper) (w : World) (k : Value → Cells → Prop) : Prop := match o.op with
  | .load t x => v1 e x fun a => ldD P t a w k
  | _ => False
def bi (b : Builtin) (ts : Array TypeId) (ty : TypeId) (l : List Value) : Sem Value := match b with
  | .append => Builtin.append_ ts ty l.toArray
  | .cap => Builtin.cap_ ts ty l.toArray
  | .clear => Builtin.clear_ ts ty l.toArray
  | .copy => Builtin.copy_ ts ty l.toArray
  | .delete => Builtin.delete_ ts ty l.toArray
  | .len => Builtin.len_ ts ty l.toArray
  | .unsafeSliceData => Builtin.unsafeSliceData_ ts ty l.toArray
  | .unsafeString => Builtin.unsafeString_ ts ty l.toArray
  | _ => stuck ""
def effW (P : Program) (e : Env) (o : Oper) (w : World) (k : Value → World → Prop) : Prop := match o.op with
  | .alloc t => alD P t w k
  | .box t x => v1 e x fun a => alW a.cells t w k
  | .buildSlice t n ps => vp e ps.toList fun l => blD P t n l w k
  | .store t x y => v1 e x fun a => v1 e y fun b => stD P t a b w (k undef)
  | .convert s d x => v1 e x fun a => sm P (convert s d a) w k
  | .makeMap t r => vo e r fun r => match r with | none => mkM w k | some _ => sm P (Instr.makeMap t r) w k
  | .makeSlice t l c => v1 e l fun a => v1 e c fun b => sm P (Instr.makeSlice t a b) w k
  | .lookup t x i ok => v1 e x fun a => v1 e i fun b => sm P (Instr.lookup t a b ok) w k
  | .mapUpdate t m x y | .insert t m x y => v1 e m fun m => v1 e x fun a => v1 e y fun b => su P (Instr.mapUpdate t m a b) w (k undef)
  | .mapEntry t m x => v1 e m fun m => v1 e x fun a => sm P (Instr.mapEntry t m a) w k
  | .entryStore t m s x => v1 e m fun m => v1 e s fun a => v1 e x fun b => su P (Instr.entryStore t m a b) w (k undef)
  | .range t x => v1 e x fun a => sm P (Instr.range t a) w k
  | .next i s => v1 e i fun a => sm P (Instr.next a s o.type) w k
  | .entry i => v1 e i fun a => sm P (Instr.entry a) w k
  | .typeAssert x t d ok => v1 e x fun a => sm P (Instr.typeAssert a t d ok) w k
  | .call { callee := .value f, args := xs, .. } => v1 e f fun f => vs e xs.toList fun l => callW P f l w k
  | .call { callee := .builtin b, args := xs, argTypes := ts } => vs e xs.toList fun l => sm P (bi b ts o.type l) w k
  | .call { callee := .invoke r m, args := xs, .. } => v1 e r fun r => vs e xs.toList fun l => ∃ f x, (callMethod r m l.toArray).run P w = .ok (.enter f x) w ∧ Calls P f x w (rt k)
  | _ => False

section
variable {P : Program} {N : Nat} {e : Env} {a : Act} {o : Oper}
theorem semBin_eq (op : BinOp) (t : TypeId) (x y : Operand) (u v : Value) (w : World) : (semBin op t x y u v).run P w = (do eqGuard op t x y u v; binOp op t u v : Sem Value).run P w := by
  cases op <;> first | rfl | simp [semBin, eqGuard]
theorem yl_run {s : Sem Value} {k : Value → Prop} (h : yl P s k) : ∃ v, k v ∧ ∀ w, (do pure (Next.value (← s)) : Sem Next).run P w = .ok (.value v) w := by
  obtain ⟨v, hv, hk⟩ := h
  exact ⟨v, hk, fun w => by simp [hv w]⟩
theorem pure_sound {k : Value → Prop} (h : Ag N e a) (hk : pureW P e o k) : ∃ v, k v ∧ ∀ w, (execOp a.eval o).run P w = .ok (.value v) w := by
  obtain ⟨dst, op, ty, pos, after, guard⟩ := o
  cases op <;> simp only [pureW] at hk <;> try exact hk.elim
  case move x => exact ⟨_, v1_spec h hk, fun w => rfl⟩
  case assign x => exact ⟨_, v1_spec h hk, fun w => rfl⟩
  case pick c x y =>
    have hc := v1_spec h hk
    unfold brV at hc
    split at hc
    · rename_i hb; exact ⟨_, v1_spec h hc, fun w => by show (do pure (Next.value (if ← asBool (a.eval c) then a.eval x else a.eval y)) : Sem Next).run P w = _; rw [hb]; rfl⟩
    · rename_i hb; exact ⟨_, v1_spec h hc, fun w => by show (do pure (Next.value (if ← asBool (a.eval c) then a.eval x else a.eval y)) : Sem Next).run P w = _; rw [hb]; rfl⟩
    · exact hc.elim
  case nilCheck x =>
    have hc := v1_spec h hk
    unfold nckW at hc
    split at hc <;> first | exact hc.elim | (rename_i hb; exact ⟨_, hc, fun w => by simp only [execOp]; rw [hb]; rfl⟩)
  case extract x i =>
    have hc := v1_spec h hk
    unfold exW at hc
    split at hc
    · rename_i l hb
      split at hc
      · rename_i v hv; exact ⟨_, hc, fun w => by show (do pure (Next.value (← Instr.extract (a.eval x) i)) : Sem Next).run P w = _; rw [hb]; simp only [Instr.extract]; rw [hv]; rfl⟩
      · exact hc.elim
    · exact hc.elim
  case makeFunc fn first cap =>
    have hc := vs_spec h (vs_spec h hk)
    refine ⟨_, hc, fun w => ?_⟩
    simp only [execOp, Instr.makeFunc]
    have e1 : (List.map a.eval first.toList).toArray = first.map a.eval := Array.ext' (by simp)
    have e2 : (List.map a.eval cap.toList).toArray = cap.map a.eval := Array.ext' (by simp)
    rw [e1, e2]
    rfl
  case binOp op t x y yt =>
    obtain ⟨v, hv, hr⟩ := binD_yl (v1_spec h (v1_spec h hk))
    exact ⟨v, hr, fun w => by
      have := hv w; rw [semBin_eq] at this
      show (do pure (Next.value (← (do eqGuard op t x y (a.eval x) (a.eval y); binOp op t (a.eval x) (a.eval y)))) : Sem Next).run P w = _
      rw [Sem.run_bind, this]; rfl⟩
  case unOp op t x => exact yl_run (unW_yl (v1_spec h hk))
  case convert s d x => exact yl_run (cvD_yl (v1_spec h hk))
  case index t x i => exact yl_run (atD_yl (v1_spec h (v1_spec h hk)))
  case indexAddr t x i => exact yl_run (ixD_yl (v1_spec h (v1_spec h hk)))
  case fieldAddr s x f => exact yl_run (fldD_yl (v1_spec h hk))
  case field t x f => exact yl_run (v1_spec h hk)
  case slice t x lo hi mx => exact yl_run (slD_yl (vo_spec h (vo_spec h (vo_spec h (v1_spec h hk)))))
  case build t ps =>
    have hc := vp_spec h hk
    have e1 : (List.map (fun p : Nat × Operand => (p.1, a.eval p.2)) ps.toList).toArray = ps.map fun (i, x) => (i, a.eval x) := by
      apply Array.ext'; simp
    have hc := bldD_yl hc
    rw [e1] at hc
    exact yl_run hc
  case makeInterface t x => exact yl_run (v1_spec h hk)
  case call c =>
    obtain ⟨callee, xs, ts⟩ := c
    cases callee with
    | value f => exact hk.elim
    | invoke r m => exact hk.elim
    | builtin b =>
      have e1 : ∀ xs : Array Operand, (List.map a.eval xs.toList).toArray = xs.map a.eval := fun xs => Array.ext' (by simp)
      cases b <;> first | exact hk.elim | skip
      case len =>
        have hc := vs_spec h hk
        cases hb : Nat.blt 0 ts.size with
        | false => rw [hb] at hc; exact hc.elim
        | true =>
          rw [hb] at hc
          have hc := lenD_yl hc (Nat.le_of_ble_eq_true hb)
          rw [e1] at hc
          obtain ⟨v, hr, hv⟩ := yl_run hc
          exact ⟨v, hr, fun w => hv w⟩
      all_goals
        have hc := vs_spec h hk
        rw [e1] at hc
        obtain ⟨v, hr, hv⟩ := yl_run hc
        exact ⟨v, hr, fun w => hv w⟩
theorem wp_value {k : Value → World → Prop} {w w' : World} {v : Value} {Q : Exit → Act → World → Prop} {K : Act → World → Prop} (hr : (execOp a.eval o).run P w = .ok (.value v) w') (hk : K (a.put o.dst v) w') : o.wp P a w K Q := by
  unfold Oper.wp; rw [hr]; exact hk
theorem sm_wp {s : Sem Value} {k : Value → World → Prop} {w : World} {Q : Exit → Act → World → Prop} (hs : execOp a.eval o = (do pure (Next.value (← s)))) (h : sm P s w k) : o.wp P a w (fun a' w' => ∃ v, a' = a.put o.dst v ∧ k v w') Q := by
  obtain ⟨v, w', hr, hk⟩ := h
  exact wp_value (k := k) (by rw [hs, Sem.run_bind, hr]; rfl) ⟨v, rfl, hk⟩
theorem su_wp {s : Sem Unit} {k : Value → World → Prop} {w : World} {Q : Exit → Act → World → Prop} (hs : execOp a.eval o = (do s; pure Next.skip)) (h : su P s w (k undef)) : o.wp P a w (fun a' w' => ∃ v, a' = a.put o.dst v ∧ k v w') Q := by
  obtain ⟨w', hr, hk⟩ := h
  unfold Oper.wp
  rw [hs, Sem.run_bind, hr]
  exact ⟨undef, rfl, hk⟩
theorem callFunc_run {f : FuncId} (h : hasBody P f = true) (args : Array Value) (w : World) : (callFunc f args).run P w = .ok (.enter f args) w := by
  unfold hasBody at h
  split at h
  · rename_i fn hf
    simp only [Bool.and_eq_true, Bool.not_eq_true'] at h
    obtain ⟨h1, h2⟩ := h
    simp only [callFunc, program, Sem.run_bind]
    show ((Sem.program .pure).run P w).andThen _ = _
    simp only [Sem.run, Result.andThen, hf, h2, Bool.false_eq_true, if_false]
    have : fn.body.isNone = false := by cases hb : fn.body <;> simp [hb] at h1 ⊢
    simp only [this, Bool.false_eq_true, if_false]
    rfl
  · cases h
theorem upon_calls {k : Value → World → Prop} {w w' : World} {f : FuncId} {x : Array Value} {Q : Exit → Act → World → Prop} (hr : (execOp a.eval o).run P w = .ok (.enter f x) w') (h : Calls P f x w' (rt k)) : o.wp P a w (fun a' w' => ∃ v, a' = a.put o.dst v ∧ k v w') Q := by
  unfold Oper.wp; rw [hr]
  rw [Oper.upon_enter]
  exact h.mono fun e w'' he => by
    cases e with
    | returned v => exact ⟨v, rfl, he⟩
    | panicked c => exact he.elim
    | outgrown => exact he.elim
theorem eff_sound {k : Value → World → Prop} {w : World} {Q : Exit → Act → World → Prop} (h : Ag N e a) (hk : effW P e o w k) : o.wp P a w (fun a' w' => ∃ v, a' = a.put o.dst v ∧ k v w') Q := by
  obtain ⟨dst, op, ty, pos, after, guard⟩ := o
  cases op <;> simp only [effW] at hk <;> try exact hk.elim
  case alloc t => exact sm_wp rfl (alD_sm hk)
  case box t x => exact sm_wp rfl (boxW_sm (v1_spec h hk))
  case buildSlice t n ps =>
    have hc := vp_spec h hk
    have e1 : (List.map (fun p : Nat × Operand => (p.1, a.eval p.2)) ps.toList).toArray = ps.map fun (i, x) => (i, a.eval x) := by
      apply Array.ext'; simp
    have hc := blD_sm hc
    rw [e1] at hc
    exact sm_wp rfl hc
  case store t x y => exact su_wp rfl (stD_su (v1_spec h (v1_spec h hk)))
  case convert s d x => exact sm_wp rfl (v1_spec h hk)
  case makeMap t r =>
    have hc := vo_spec h hk
    cases r with
    | none => exact sm_wp rfl (mkM_sm hc)
    | some x => exact sm_wp rfl hc
  case makeSlice t l c => exact sm_wp rfl (v1_spec h (v1_spec h hk))
  case lookup t x i ok => exact sm_wp rfl (v1_spec h (v1_spec h hk))
  case mapUpdate t m x y => exact su_wp rfl (v1_spec h (v1_spec h (v1_spec h hk)))
  case insert t m x y => exact su_wp rfl (v1_spec h (v1_spec h (v1_spec h hk)))
  case mapEntry t m x => exact sm_wp rfl (v1_spec h (v1_spec h hk))
  case entryStore t m s x => exact su_wp rfl (v1_spec h (v1_spec h (v1_spec h hk)))
  case range t x => exact sm_wp rfl (v1_spec h hk)
  case next i s => exact sm_wp rfl (v1_spec h hk)
  case entry i => exact sm_wp rfl (v1_spec h hk)
  case typeAssert x t d ok => exact sm_wp rfl (v1_spec h hk)
  case call c =>
    obtain ⟨callee, xs, ts⟩ := c
    have e1 : ∀ xs : Array Operand, (List.map a.eval xs.toList).toArray = xs.map a.eval := fun xs => Array.ext' (by simp)
    cases callee with
    | value f =>
      have hc := vs_spec h (v1_spec h hk)
      unfold callW at hc
      split at hc
      · rename_i fid first cap hf
        obtain ⟨hb, hcall⟩ := hc
        rw [e1] at hcall
        refine upon_calls (w' := w) (f := fid) (x := first ++ xs.map a.eval ++ cap) ?_ hcall
        show (do let d ← Deferred.ofValue (a.eval f) (xs.map a.eval); invoke d.target d.args : Sem Next).run P w = _
        rw [hf]
        exact callFunc_run hb _ w
      · exact hc.elim
    | invoke r m =>
      obtain ⟨fid, x, hr, hcall⟩ := vs_spec h (v1_spec h hk)
      rw [e1] at hr
      refine upon_calls (w' := w) (f := fid) (x := x) ?_ hcall
      have e2 : (#[a.eval r] ++ xs.map a.eval)[0]? = some (a.eval r) := by
        rw [Array.getElem?_append_left (by simp)]; rfl
      have e3 : (#[a.eval r] ++ xs.map a.eval).extract 1 (#[a.eval r] ++ xs.map a.eval).size = xs.map a.eval := by
        apply Array.ext'; simp
        exact List.take_of_length_le (by simp)
      show (invoke (.fn (.method m) #[]) (#[a.eval r] ++ xs.map a.eval)).run P w = _
      unfold invoke
      simp only [e2, e3]
      exact hr
    | builtin b =>
      have hc := vs_spec h hk
      unfold bi at hc
      cases b <;> simp only [e1] at hc <;> first | exact sm_wp rfl hc | (obtain ⟨v, w', hr, _⟩ := hc; exact absurd hr (by simp [stuck]))
end
end Go.Eng
