/- The engine's third part: the code of a function as a predicate ('den'), and 'run_sound': what it tells, the machine's call does. -/
import Derived.Test.YtlicdhdpngahgaaDoorEngB
import Derived.Laws.Sem
import Derived.Laws.World
set_option linter.unusedVariables false
set_option linter.unusedSimpArgs false
namespace Go.Eng
structure Kt where
  nrm : Env → World → Prop
  ext : Nat → Env → World → Prop
  ret : Env → World → Prop
def Kq (N : Nat) (K : Kt) : Exit → Act → World → Prop
  | .normal, a, w => ∃ e, Ag N e a ∧ K.nrm e w
  | .exit id, a, w => ∃ e, Ag N e a ∧ K.ext id e w
  | .ret, a, w => ∃ e, Ag N e a ∧ K.ret e w
  | _, _, _ => False
def grd (ops : Array Oper) (e : Env) (o : Oper) (p q : Env → Prop) : Prop := match o.guard with
  | none => p e
  | some (j, want) => match (ops[j]?).bind (·.dst) with
    | none => False
    | some d => bif isU e d then q e else v1 e (.tmp d) fun v => brV v
        (bif want then p ((d, some (.bool true)) :: e) else q ((d, some (.bool true)) :: e))
        (bif want then q ((d, some (.bool false)) :: e) else p ((d, some (.bool false)) :: e))
def opDen (P : Program) (e : Env) (o : Oper) (w : World) (k : Value → World → Prop) : Prop :=
  bif isPure P o.op then pureW P e o (fun v => k v w) else
  bif isLoad o.op then loadW P e o w (fun v _ => k v w) else effW P e o w k
def denOps (P : Program) (N : Nat) (ops : Array Oper) : List Nat → Env → World → (Env → World → Prop) → Prop
  | [], e, w, K => K e w
  | i :: r, e, w, K => match ops[i]? with
    | none => denOps P N ops r e w K
    | some o => grd ops e o (fun e' => opDen P e' o w fun v w' => denOps P N ops r (put N e' o.dst v) w' K) (fun e' => denOps P N ops r (putU N e' o.dst) w K)
def pick1 (t : Oper → Bool) (ops : Array Oper) (listed : Array Bool) : List Nat → Option Nat
  | [] => none
  | i :: r => match ops[i]? with
    | some o => bif t o && Region.free .any ops listed i then some i else pick1 t ops listed r
    | none => pick1 t ops listed r
def allR : List Nat → (Nat → Prop) → Prop
  | [], _ => True
  | [j], p => p j
  | j :: k :: r, p => p j ∧ allR (k :: r) p
def denAny (P : Program) (N : Nat) (ops : Array Oper) : Nat → Array Bool → Claims → Env → World → (Env → World → Prop) → Prop
  | 0, listed, _, e, w, K => match Region.ready .any ops listed with
    | [] => K e w
    | _ => False
  | n + 1, listed, C, e, w, K =>
    match pick1 (fun o => isPure P o.op) ops listed (Region.ready .any ops listed) with
    | some i => (match ops[i]? with
      | some o => grd ops e o (fun e' => pureW P e' o fun v => denAny P N ops n (listed.setIfInBounds i true) C (put N e' o.dst v) w K)
          (fun e' => denAny P N ops n (listed.setIfInBounds i true) C (putU N e' o.dst) w K)
      | none => False)
    | none => match pick1 (fun o => isLoad o.op) ops listed (Region.ready .any ops listed) with
      | some i => (match ops[i]? with
        | some o => grd ops e o (fun e' => loadW P e' o w fun v cs => denAny P N ops n (listed.setIfInBounds i true) ((i, cs) :: C) (put N e' o.dst v) w K)
            (fun e' => denAny P N ops n (listed.setIfInBounds i true) C (putU N e' o.dst) w K)
        | none => False)
      | none => match Region.ready .any ops listed with
        | [] => K e w
        | r => allR r fun j => match ops[j]? with
          | some o => grd ops e o (fun e' => opDen P e' o w fun v w' => heldC (dropC ops j C) w' (denAny P N ops n (listed.setIfInBounds j true) (dropC ops j C) (put N e' o.dst v) w' K))
              (fun e' => denAny P N ops n (listed.setIfInBounds j true) (dropC ops j C) (putU N e' o.dst) w K)
          | none => False
def denReg (P : Program) (N : Nat) (ops : Array Oper) (d : Bool) (e : Env) (w : World) (K : Env → World → Prop) : Prop :=
  match d with
  | false => denOps P N ops (List.range ops.size) e w K
  | true => denAny P N ops ops.size (Array.replicate ops.size false) [] e w.drew K
def lk : List (Nat × List Nat) → Nat → Option (List Nat)
  | [], _ => none
  | (i, S) :: l, j => bif Nat.beq i j then some S else lk l j
def firstReg : Code → Nat
  | .region id _ _ => id
  | .seq a _ => firstReg a
  | .cond _ a _ => firstReg a
  | .block _ c => firstReg c
  | .loop c => firstReg c
  | _ => 0
def getS (e : Env) : List Nat → (List Value → Prop) → Prop
  | [], k => k []
  | s :: S, k => v1 e (.tmp s) fun v => getS e S fun l => k (v :: l)
def unc (l : List Value) (k : Value → List Value → Prop) : Prop := match l with
  | v :: l => k v l
  | [] => False
def mkE : List Nat → Env → List Value → (Env → Prop) → Prop
  | [], acc, _, k => k acc
  | s :: S, acc, l, k => unc l fun v l => mkE S ((s, some v) :: acc) l k
/-- A place where ways meet. -/
def jn (J : List Value → World → Prop) (l : List Value) (w : World) : Prop := J l w
def lpN (body : (List Value → World → Prop) → List Value → World → Prop) : Nat → List Value → World → Prop
  | 0, _, _ => False
  | n + 1, l, w => body (lpN body n) l w
/-- A loop. -/
def lp (body : (List Value → World → Prop) → List Value → World → Prop) (l : List Value) (w : World) : Prop := ∃ n, lpN body n l w
def cut (la : List (Nat × List Nat)) (id : Nat) (e : Env) (w : World) (f : Env → World → Prop) : Prop := match lk la id with
  | none => f e w
  | some S => getS e S fun l => jn (fun l w => mkE S [] l fun e => f e w) l w
def den (P : Program) (N : Nat) (la lb : List (Nat × List Nat)) : Code → Kt → Env → World → Prop
  | .skip, K, e, w => K.nrm e w
  | .region id ops d, K, e, w => cut la id e w fun e w => denReg P N ops d e w K.nrm
  | .seq a b, K, e, w => den P N la lb a { nrm := fun e w => den P N la lb b K e w, ext := K.ext, ret := K.ret } e w
  | .cond c a b, K, e, w => v1 e c fun v => brV v (den P N la lb a K e w) (den P N la lb b K e w)
  | .block id c, K, e, w => den P N la lb c { nrm := K.nrm, ext := fun j e w => bif Nat.beq j id then K.nrm e w else K.ext j e w, ret := K.ret } e w
  | .loop c, K, e, w => match lk lb (firstReg c) with
    | some S => getS e S fun l => lp (fun rec l w => mkE S [] l fun e => den P N la lb c { nrm := fun e w => getS e S fun l => rec l w, ext := K.ext, ret := K.ret } e w) l w
    | none => False
  | .exit id, K, e, w => K.ext id e w
  | .ret, K, e, w => K.ret e w
  | _, _, _, _ => False
def resW (P : Program) : List ResultVar → Env → World → (List Value → Prop) → Prop
  | [], _, _, k => k []
  | .tmp t :: r, e, w, k => v1 e (.tmp t) fun v => resW P r e w fun l => k (v :: l)
  | .cell a t :: r, e, w, k => v1 e (.tmp a) fun p => ldD P t p w fun v _ => resW P r e w fun l => k (v :: l)
def resV : List Value → Value
  | [v] => v
  | l => .tuple l.toArray
def retK (P : Program) (rs : List ResultVar) (R : Value → World → Prop) (e : Env) (w : World) : Prop := resW P rs e w fun l => R (resV l) w
def argE : Nat → List Value → Env
  | _, [] => []
  | i, v :: l => (i, some v) :: argE (i + 1) l
/-- What a function does. -/
def denF (P : Program) (fn : Func) (c : Code) (la lb : List (Nat × List Nat)) (args : List Value) (R : Value → World → Prop) (w : World) : Prop :=
  den P fn.ntmps la lb c { nrm := retK P fn.results.toList R, ext := fun _ _ _ => False, ret := retK P fn.results.toList R } (argE 0 args) w

/-! ### Soundness -/
section
variable {P : Program} {N : Nat}
theorem Ag.know {e : Env} {a : Act} (h : Ag N e a) {t : Nat} {v : Value} (hv : a.tmps[t]? = some v) : Ag N ((t, some v) :: e) a :=
  ⟨h.size, h.defers, fun s u hu => by
    rw [get_cons] at hu
    by_cases hst : t = s
    · rw [if_pos hst] at hu; injection hu with hu; rw [← hst, ← hu]; exact hv
    · rw [if_neg hst] at hu; exact h.at_ s u hu⟩
theorem v1_tmp {e : Env} {a : Act} (h : Ag N e a) {t : Nat} {k : Value → Prop} (hk : v1 e (.tmp t) k) : ∃ v, a.tmps[t]? = some v ∧ k v := by
  unfold v1 at hk
  cases hx : Eng.ev e (.tmp t) with
  | none => rw [hx] at hk; exact hk.elim
  | some v => rw [hx] at hk; exact ⟨v, h.at_ t v hx, hk⟩
theorem brV_spec {v : Value} {p q : Prop} (h : brV v p q) : (v = .bool true ∧ p) ∨ (v = .bool false ∧ q) := by
  unfold brV at h
  split at h
  · exact .inl ⟨rfl, h⟩
  · exact .inr ⟨rfl, h⟩
  · exact h.elim
theorem grd_spec {ops : Array Oper} {e : Env} {a : Act} {o : Oper} {p q : Env → Prop} (h : Ag N e a) (hk : grd ops e o p q) :
    (Region.wanted o (yielded ops a.tmps) = true ∧ ∃ e', Ag N e' a ∧ p e') ∨ (Region.wanted o (yielded ops a.tmps) = false ∧ ∃ e', Ag N e' a ∧ q e') := by
  unfold grd at hk
  cases hg : o.guard with
  | none => rw [hg] at hk; exact .inl ⟨by simp [Region.wanted, hg], e, h, hk⟩
  | some jw =>
    obtain ⟨j, want⟩ := jw
    rw [hg] at hk
    simp only [] at hk
    cases hd : (ops[j]?).bind (·.dst) with
    | none => rw [hd] at hk; exact hk.elim
    | some d =>
      rw [hd] at hk
      cases hu : isU e d with
      | true =>
        simp only [hu, cond_true] at hk
        have hx := h.at_ d _ (isU_get hu)
        have hy : yielded ops a.tmps j = none := by
          unfold yielded
          rw [hd]
          simp [hx, undef]
        exact .inr ⟨by simp [Region.wanted, hg, hy], e, h, hk⟩
      | false =>
      simp only [hu, cond_false] at hk
      obtain ⟨v, hv, hk⟩ := v1_tmp h hk
      have hy : ∀ b, v = .bool b → yielded ops a.tmps j = some b := fun b hb => by
        unfold yielded
        rw [hd]
        simp [hv, hb]
      rcases brV_spec hk with ⟨rfl, hk⟩ | ⟨rfl, hk⟩
      · have h' := h.know hv
        cases want with
        | true => exact .inl ⟨by simp [Region.wanted, hg, hy true rfl], _, h', hk⟩
        | false => exact .inr ⟨by simp [Region.wanted, hg, hy true rfl], _, h', hk⟩
      · have h' := h.know hv
        cases want with
        | true => exact .inr ⟨by simp [Region.wanted, hg, hy false rfl], _, h', hk⟩
        | false => exact .inl ⟨by simp [Region.wanted, hg, hy false rfl], _, h', hk⟩
theorem load_sound {e : Env} {a : Act} {o : Oper} {w : World} {k : Value → Cells → Prop} (h : Ag N e a) (hk : loadW P e o w k) :
    ∃ v cs, k v cs ∧ holds cs w ∧ ∀ w', holds cs w' → (execOp a.eval o).run P w' = .ok (.value v) w' := by
  obtain ⟨dst, op, ty, pos, after, guard⟩ := o
  cases op <;> simp only [loadW] at hk <;> try exact hk.elim
  case load t x =>
    obtain ⟨v, cs, hh, hr, hkk⟩ := ldD_ldW (v1_spec h hk)
    refine ⟨v, cs, hkk, hh, fun w' hw' => ?_⟩
    show (do pure (Next.value (← Instr.loadAt t (a.eval x))) : Sem Next).run P w' = _
    rw [Sem.run_bind, hr w' hw']; rfl
theorem opDen_sound {e : Env} {a : Act} {o : Oper} {w : World} {k : Value → World → Prop} {Q : Exit → Act → World → Prop} (h : Ag N e a) (hk : opDen P e o w k) :
    o.wp P a w (fun a' w' => ∃ v, a' = a.put o.dst v ∧ k v w') Q := by
  unfold opDen at hk
  cases h1 : isPure P o.op with
  | true =>
    rw [h1] at hk
    obtain ⟨v, hv, hr⟩ := pure_sound h hk
    exact wp_value (k := k) (hr w) ⟨v, rfl, hv⟩
  | false =>
    rw [h1] at hk
    cases h2 : isLoad o.op with
    | true =>
      rw [h2] at hk
      obtain ⟨v, cs, hv, hh, hr⟩ := load_sound h hk
      exact wp_value (k := k) (hr w hh) ⟨v, rfl, hv⟩
    | false =>
      rw [h2] at hk
      exact eff_sound h hk
theorem denOps_sound {ops : Array Oper} {Q : Exit → Act → World → Prop} {K : Env → World → Prop} (hQ : ∀ e a w, Ag N e a → K e w → Q .normal a w) :
    ∀ (l : List Nat) (e : Env) (a : Act) (w : World), Ag N e a → denOps P N ops l e w K → wpOps P ops Q l a w
  | [], e, a, w, h, hk => hQ e a w h hk
  | i :: r, e, a, w, h, hk => by
    rw [wpOps_cons]
    unfold denOps at hk
    unfold wpOp
    cases ho : ops[i]? with
    | none => rw [ho] at hk; exact denOps_sound hQ r e a w h hk
    | some o =>
      rw [ho] at hk
      simp only []
      rcases grd_spec h hk with ⟨hw, e', h', hk⟩ | ⟨hw, e', h', hk⟩
      · rw [if_pos hw]
        refine .inl (Oper.wp_mono ?_ (opDen_sound h' hk))
        rintro a' w' ⟨v, rfl, hk⟩
        exact denOps_sound hQ r _ _ w' (h'.put o.dst v) hk
      · rw [hw]
        exact denOps_sound hQ r _ _ w (h'.putU o.dst) hk
theorem pick1_spec {t : Oper → Bool} {ops : Array Oper} {listed : Array Bool} {i : Nat} : ∀ {r : List Nat}, pick1 t ops listed r = some i → i ∈ r ∧ ∃ o, ops[i]? = some o ∧ t o = true ∧ Region.free .any ops listed i = true
  | [], h => by cases h
  | j :: r, h => by
    unfold pick1 at h
    cases ho : ops[j]? with
    | none =>
      rw [ho] at h
      obtain ⟨h1, h2⟩ := pick1_spec h
      exact ⟨List.mem_cons_of_mem _ h1, h2⟩
    | some o =>
      rw [ho] at h
      simp only [] at h
      cases hb : (t o && Region.free .any ops listed j) with
      | true =>
        rw [hb] at h
        injection h with h
        subst h
        simp only [Bool.and_eq_true] at hb
        exact ⟨List.mem_cons_self, o, ho, hb.1, hb.2⟩
      | false =>
        rw [hb] at h
        obtain ⟨h1, h2⟩ := pick1_spec h
        exact ⟨List.mem_cons_of_mem _ h1, h2⟩
theorem allR_spec {p : Nat → Prop} : ∀ {r : List Nat}, allR r p → ∀ j ∈ r, p j
  | [], _, j, hj => by cases hj
  | [i], h, j, hj => by
    cases hj with
    | head => exact h
    | tail _ hj => cases hj
  | i :: k :: r, h, j, hj => by
    cases hj with
    | head => exact h.1
    | tail _ hj => exact allR_spec h.2 j hj
theorem denAny_sound {ops : Array Oper} {Q : Exit → Act → World → Prop} {K : Env → World → Prop} (hs : Region.noSelect ops = true)
    (hp : ∀ c a w, ¬ Q (.panic c) a w) (hg : ∀ a w, ¬ Q .outgrown a w) (hQ : ∀ e a w, Ag N e a → K e w → Q .normal a w) :
    ∀ (n : Nat) (listed : Array Bool) (C : Claims) (e : Env) (a : Act) (w : World), Ag N e a → heldAll C w → denAny P N ops n listed C e w K → wpL P ops Q C n listed a w
  | 0, listed, C, e, a, w, h, hC, hk => by
    unfold denAny at hk
    cases hr : Region.ready .any ops listed with
    | nil => rw [hr] at hk; exact ⟨hr, hQ e a w h hk⟩
    | cons x r => rw [hr] at hk; exact hk.elim
  | n + 1, listed, C, e, a, w, h, hC, hk => by
    have hsel := Region.noSelect_spec hs
    unfold denAny at hk
    cases h1 : pick1 (fun o => isPure P o.op) ops listed (Region.ready .any ops listed) with
    | some i =>
      rw [h1] at hk
      obtain ⟨hi, o, ho, hpure, hfree⟩ := pick1_spec h1
      simp only [ho] at hk
      rcases grd_spec h hk with ⟨hw, e', h', hk⟩ | ⟨hw, e', h', hk⟩
      · obtain ⟨v, hv, hr⟩ := pure_sound h' hk
        refine wpL_take (cs := []) ho hsel hp hg n C listed a w (fun j oj hj hne hun hno => Region.free_spec ho hfree j oj hj hne hun hno) hi (.inl ⟨hw, fun w' _ => hr w'⟩) (fun _ hm => by cases hm) hC ?_
        refine wpL_less n _ C _ _ _ (fun c hc => ?_) (denAny_sound hs hp hg hQ n _ C _ _ w (h'.put o.dst v) hC hv)
        cases hc with
        | head => exact .inr rfl
        | tail _ hc => exact .inl hc
      · refine wpL_take (cs := []) ho hsel hp hg n C listed a w (fun j oj hj hne hun hno => Region.free_spec ho hfree j oj hj hne hun hno) hi (.inr ⟨hw, rfl⟩) (fun _ hm => by cases hm) hC ?_
        refine wpL_less n _ C _ _ _ (fun c hc => ?_) (denAny_sound hs hp hg hQ n _ C _ _ w (h'.putU o.dst) hC hk)
        cases hc with
        | head => exact .inr rfl
        | tail _ hc => exact .inl hc
    | none =>
      rw [h1] at hk
      simp only [] at hk
      cases h2 : pick1 (fun o => isLoad o.op) ops listed (Region.ready .any ops listed) with
      | some i =>
        rw [h2] at hk
        obtain ⟨hi, o, ho, hload, hfree⟩ := pick1_spec h2
        simp only [ho] at hk
        rcases grd_spec h hk with ⟨hw, e', h', hk⟩ | ⟨hw, e', h', hk⟩
        · obtain ⟨v, cs, hv, hh, hr⟩ := load_sound h' hk
          refine wpL_take (cs := cs) ho hsel hp hg n C listed a w (fun j oj hj hne hun hno => Region.free_spec ho hfree j oj hj hne hun hno) hi (.inl ⟨hw, hr⟩) hh hC ?_
          refine denAny_sound hs hp hg hQ n _ _ _ _ w (h'.put o.dst v) (fun c hc => ?_) hv
          cases hc with
          | head => exact hh
          | tail _ hc => exact hC c hc
        · refine wpL_take (cs := []) ho hsel hp hg n C listed a w (fun j oj hj hne hun hno => Region.free_spec ho hfree j oj hj hne hun hno) hi (.inr ⟨hw, rfl⟩) (fun _ hm => by cases hm) hC ?_
          refine wpL_less n _ C _ _ _ (fun c hc => ?_) (denAny_sound hs hp hg hQ n _ C _ _ w (h'.putU o.dst) hC hk)
          cases hc with
          | head => exact .inr rfl
          | tail _ hc => exact .inl hc
      | none =>
        rw [h2] at hk
        simp only [] at hk
        cases hr : Region.ready .any ops listed with
        | nil =>
          rw [hr] at hk
          exact ⟨fun _ => hQ e a w h hk, fun j hj => by rw [hr] at hj; cases hj⟩
        | cons x r =>
          rw [hr] at hk
          refine ⟨(fun h0 => by rw [hr] at h0; cases h0), fun j hj => ?_⟩
          rw [hr] at hj
          have hk := allR_spec hk j hj
          unfold wpOp
          cases ho : ops[j]? with
          | none => rw [ho] at hk; exact hk.elim
          | some o =>
            rw [ho] at hk
            simp only [] at hk ⊢
            rcases grd_spec h hk with ⟨hw, e', h', hk⟩ | ⟨hw, e', h', hk⟩
            · rw [if_pos hw]
              refine .inl (Oper.wp_mono ?_ (opDen_sound h' hk))
              rintro a' w' ⟨v, rfl, hk⟩
              obtain ⟨hh, hk⟩ := heldC_spec hk
              exact ⟨hh, denAny_sound hs hp hg hQ n _ _ _ _ w' (h'.put o.dst v) hh hk⟩
            · rw [hw]
              exact ⟨fun c hc => hC c (mem_dropC hc), denAny_sound hs hp hg hQ n _ _ _ _ w (h'.putU o.dst) (fun c hc => hC c (mem_dropC hc)) hk⟩
def Zip : List Nat → List Value → Act → Prop
  | [], _, _ => True
  | s :: S, v :: l, a => a.tmps[s]? = some v ∧ Zip S l a
  | _ :: _, [], _ => False
theorem getS_spec {e : Env} {a : Act} (h : Ag N e a) : ∀ {S : List Nat} {k : List Value → Prop}, getS e S k → ∃ l, Zip S l a ∧ k l
  | [], k, hk => ⟨[], trivial, hk⟩
  | s :: S, k, hk => by
    obtain ⟨v, hv, hk⟩ := v1_tmp h hk
    obtain ⟨l, hl, hk⟩ := getS_spec h hk
    exact ⟨v :: l, ⟨hv, hl⟩, hk⟩
theorem mkE_spec {a : Act} : ∀ {S : List Nat} {acc : Env} {l : List Value} {k : Env → Prop}, Ag N acc a → Zip S l a → mkE S acc l k → ∃ e, Ag N e a ∧ k e
  | [], acc, l, k, h, _, hk => ⟨acc, h, hk⟩
  | s :: S, acc, v :: l, k, h, hz, hk => mkE_spec (h.know hz.1) hz.2 hk
  | s :: S, acc, [], k, h, hz, hk => hz.elim
theorem Ag.none {e : Env} {a : Act} (h : Ag N e a) : Ag N [] a := ⟨h.size, h.defers, fun t v hv => by cases hv⟩
theorem cut_spec {la : List (Nat × List Nat)} {id : Nat} {e : Env} {a : Act} {w : World} {f : Env → World → Prop} (h : Ag N e a) (hk : cut la id e w f) : ∃ e', Ag N e' a ∧ f e' w := by
  unfold cut at hk
  cases hl : lk la id with
  | none => rw [hl] at hk; exact ⟨e, h, hk⟩
  | some S =>
    rw [hl] at hk
    obtain ⟨l, hz, hk⟩ := getS_spec h hk
    exact mkE_spec h.none hz hk
/-- No region waits on 'select'. -/
def okC : Code → Bool
  | .region _ ops true => Region.noSelect ops
  | .seq a b => okC a && okC b
  | .cond _ a b => okC a && okC b
  | .block _ c => okC c
  | .loop c => okC c
  | _ => true
theorem den_sound {la lb : List (Nat × List Nat)} (hm : P.follows .mixedOrders = true) : ∀ (c : Code) (K : Kt) (e : Env) (a : Act) (w : World), okC c = true → Ag N e a → den P N la lb c K e w → c.wp P (Kq N K) a w := by
  intro c
  induction c with
  | skip => exact fun K e a w _ h hk => wp_skip ⟨e, h, hk⟩
  | region id ops d =>
    intro K e a w hok h hk
    obtain ⟨e', h', hk⟩ := cut_spec h hk
    cases d with
    | false => exact wp_region (denOps_sound (fun e a w h hk => ⟨e, h, hk⟩) _ e' a w h' hk)
    | true =>
      refine wp_region_any hm (wpL_any _ [] _ _ _ ?_)
      exact denAny_sound hok (fun _ _ _ hq => hq) (fun _ _ hq => hq) (fun e a w h hk => ⟨e, h, hk⟩) _ _ _ e' a w.drew h' (fun c hc => by cases hc) hk
  | seq x y ihx ihy =>
    intro K e a w hok h hk
    simp only [okC, Bool.and_eq_true] at hok
    refine wp_seq (wp_mono (ihx _ e a w hok.1 h hk) fun x a w hq => ?_)
    cases x with
    | normal => obtain ⟨e', h', hk'⟩ := hq; exact ihy K e' a w hok.2 h' hk'
    | exit id => exact hq
    | ret => exact hq
    | goto l => exact hq.elim
    | panic c => exact hq.elim
    | outgrown => exact hq.elim
  | cond c x y ihx ihy =>
    intro K e a w hok h hk
    simp only [okC, Bool.and_eq_true] at hok
    have hk := v1_spec h hk
    rcases brV_spec hk with ⟨hv, hk⟩ | ⟨hv, hk⟩
    · exact wp_cond_true hv (ihx K e a w hok.1 h hk)
    · exact wp_cond_false hv (ihy K e a w hok.2 h hk)
  | block id c ih =>
    intro K e a w hok h hk
    refine wp_block (wp_mono (ih _ e a w hok h hk) fun x a w hq => ?_)
    cases x with
    | normal => exact hq
    | exit j =>
      obtain ⟨e', h', hk'⟩ := hq
      simp only [Exit.inBlock]
      by_cases hj : j = id
      · rw [if_pos hj]
        have : Nat.beq j id = true := by subst hj; simp
        simp only [this, cond_true, cond_false] at hk'
        exact ⟨e', h', hk'⟩
      · rw [if_neg hj]
        have : Nat.beq j id = false := by cases hb : Nat.beq j id with
          | false => rfl
          | true => exact absurd (Nat.eq_of_beq_eq_true hb) hj
        simp only [this, cond_true, cond_false] at hk'
        exact ⟨e', h', hk'⟩
    | ret => exact hq
    | goto l => exact hq.elim
    | panic c => exact hq.elim
    | outgrown => exact hq.elim
  | loop c ih =>
    intro K e a w hok h hk
    simp only [den] at hk
    cases hl : lk lb (firstReg c) with
    | none => rw [hl] at hk; exact hk.elim
    | some S =>
      rw [hl] at hk
      obtain ⟨l, hz, n, hk2⟩ := getS_spec h hk
      refine wp_loop_rounds n ?_
      have h0 := h.none
      clear h hk
      induction n generalizing l a w with
      | zero => exact hk2.elim
      | succ n ihn =>
        rw [rounds_succ]
        obtain ⟨e', h', hk'⟩ := mkE_spec h0 hz hk2
        refine wp_mono (ih _ e' a w hok h' hk') fun x a w hq => ?_
        cases x with
        | normal =>
          obtain ⟨e2, h2, hk3⟩ := hq
          obtain ⟨l2, hz2, hk3⟩ := getS_spec h2 hk3
          exact ihn a w l2 hz2 hk3 h2.none
        | exit id => exact hq
        | ret => exact hq
        | goto l => exact hq.elim
        | panic c => exact hq.elim
        | outgrown => exact hq.elim
  | exit id => exact fun K e a w _ h hk => wp_exit ⟨e, h, hk⟩
  | ret => exact fun K e a w _ h hk => wp_ret ⟨e, h, hk⟩
  | rangeFunc f ps x y _ _ => exact fun K e a w _ h hk => hk.elim
  | scope c _ => exact fun K e a w _ h hk => hk.elim
  | label l => exact fun K e a w _ h hk => hk.elim
  | goto l => exact fun K e a w _ h hk => hk.elim
  | refuse s => exact fun K e a w _ h hk => hk.elim
end
end Go.Eng
