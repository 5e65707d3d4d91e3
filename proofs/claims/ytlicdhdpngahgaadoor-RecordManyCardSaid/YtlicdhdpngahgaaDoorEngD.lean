/- The engine's fourth part: from what a function's code tells to the machine's call. -/
import Derived.Test.YtlicdhdpngahgaaDoorEngC
set_option linter.unusedVariables false
set_option linter.unusedSimpArgs false
namespace Go.Eng
section
variable {P : Program} {N : Nat}
def resF (tmps : Array Value) : ResultVar → Sem Value
  | .tmp t => pure (tmps.getD t undef)
  | .cell a t => do loadVar t (← asAddr (tmps.getD a undef))
theorem load_var {t : TypeId} {v : Value} {w : World} {x : Value} (h : (Instr.loadAt t v).run P w = .ok x w) : (do loadVar t (← asAddr v) : Sem Value).run P w = .ok x w := by
  unfold Instr.loadAt at h
  cases v with
  | pointer p =>
    cases p with
    | some a => exact h
    | none => simp [Instr.sureAddr, stuck] at h
  | _ => simp [Instr.sureAddr, stuck] at h
theorem res_sound {e : Env} {a : Act} {w : World} (h : Ag N e a) : ∀ {rs : List ResultVar} {k : List Value → Prop}, resW P rs e w k → ∃ l, k l ∧ (rs.mapM (resF a.tmps)).run P w = .ok l w
  | [], k, hk => ⟨[], hk, rfl⟩
  | .tmp t :: r, k, hk => by
    obtain ⟨v, hv, hk⟩ := v1_tmp h hk
    obtain ⟨l, hl, hr⟩ := res_sound h hk
    refine ⟨v :: l, hl, ?_⟩
    have : a.tmps.getD t undef = v := by simp [hv]
    simp only [List.mapM_cons, resF, this, Sem.run_bind, Sem.run_pure, Result.andThen_ok, hr]
  | .cell x t :: r, k, hk => by
    obtain ⟨p, hp, hk⟩ := v1_tmp h hk
    obtain ⟨v, cs, hh, hr1, hk⟩ := ldD_ldW hk
    obtain ⟨l, hl, hr⟩ := res_sound h hk
    refine ⟨v :: l, hl, ?_⟩
    have : a.tmps.getD x undef = p := by simp [hp]
    have h1 := load_var (hr1 w hh)
    simp only [List.mapM_cons, resF, this]
    rw [Sem.run_bind, h1]
    simp only [Result.andThen_ok, Sem.run_bind, hr, Sem.run_pure]
theorem results_sound {fn : Func} {e : Env} {a : Act} {w : World} {R : Value → World → Prop} (h : Ag N e a) (hk : retK P fn.results.toList R e w) : ∃ v, (results fn a.tmps).run P w = .ok v w ∧ R v w := by
  obtain ⟨l, hl, hr⟩ := res_sound h hk
  refine ⟨_, ?_, hl⟩
  have e0 : ∀ g : ResultVar → Sem Value, (∀ x, g x = resF a.tmps x) → (do let vs ← fn.results.mapM g; pure (if h : vs.size = 1 then vs[0] else .tuple vs) : Sem Value).run P w = .ok (resV l) w := by
    intro g hg
    rw [show g = resF a.tmps from funext hg, Array.mapM_eq_mapM_toList]
    have e2 : (List.toArray <$> fn.results.toList.mapM (resF a.tmps) : Sem (Array Value)).run P w = .ok l.toArray w := by
      rw [map_eq_pure_bind, Sem.run_bind, hr]
      rfl
    rw [Sem.run_bind, e2]
    simp only [Result.andThen_ok, Sem.run_pure]
    match l with
    | [] => rfl
    | [v] => rfl
    | x :: y :: r => simp [resV]
  exact e0 _ (fun x => by cases x <;> rfl)
theorem arg_get : ∀ (l : List Value) (i t : Nat) (v : Value), get (argE i l) t = some v → i ≤ t ∧ l[t - i]? = some v
  | [], i, t, v, h => by cases h
  | x :: l, i, t, v, h => by
    simp only [argE, get_cons] at h
    by_cases hit : i = t
    · subst hit
      rw [if_pos rfl] at h
      exact ⟨Nat.le_refl _, by simpa [uv] using h⟩
    · rw [if_neg hit] at h
      obtain ⟨h1, h2⟩ := arg_get l (i + 1) t v h
      refine ⟨by omega, ?_⟩
      have : t - i = (t - (i + 1)) + 1 := by omega
      rw [this]
      simpa using h2
/-- WHAT A FUNCTION's CODE TELLS, THE MACHINE's CALL DOES. -/
theorem run_sound {f : FuncId} {fn : Func} {c : Code} {la lb : List (Nat × List Nat)} {args : List Value} {R : Value → World → Prop} {w : World}
    (hm : P.follows .mixedOrders = true) (hf : P.funcs[f]? = some fn) (hb : fn.body = some c) (hok : okC c = true) (hn : args.length ≤ fn.ntmps)
    (h : denF P fn c la lb args R w) : Calls P f args.toArray w (rt R) := by
  refine calls_of_wp hf hb (wp_mono (den_sound hm c _ (argE 0 args) _ w hok ?_ h) fun x a w hq => ?_)
  · refine ⟨by simp; omega, rfl, fun t v hv => ?_⟩
    obtain ⟨_, h2⟩ := arg_get args 0 t v hv
    have hlt : t < args.length := by
      rcases Nat.lt_or_ge t args.length with h' | h'
      · exact h'
      · rw [List.getElem?_eq_none (by simpa using h')] at h2; cases h2
    simp only [Nat.sub_zero] at h2
    rw [Array.getElem?_append_left (by simpa using hlt)]
    simpa using h2
  · cases x with
    | normal =>
      obtain ⟨e, he, hk⟩ := hq
      obtain ⟨v, hr, hR⟩ := results_sound he hk
      exact ⟨he.defers, v, hr, hR⟩
    | ret =>
      obtain ⟨e, he, hk⟩ := hq
      obtain ⟨v, hr, hR⟩ := results_sound he hk
      exact ⟨he.defers, v, hr, hR⟩
    | exit id => obtain ⟨_, _, hk⟩ := hq; exact hk.elim
    | goto l => exact hq.elim
    | panic c => exact hq.elim
    | outgrown => exact hq.elim
end
end Go.Eng
