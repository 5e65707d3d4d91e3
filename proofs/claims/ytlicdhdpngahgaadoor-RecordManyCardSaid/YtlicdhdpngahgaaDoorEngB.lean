/- The engine's second part: a statement whose order of operations is open: every order is served by one walk that takes pure operations and loads first; a load that may come behind an effect is shown to read the same behind it. -/
import Derived.Test.YtlicdhdpngahgaaDoorEng
set_option linter.unusedVariables false
namespace Go.Eng
abbrev Claims := List (Nat × Cells)
def depOn (ops : Array Oper) (j i : Nat) : Bool := match ops[j]? with
  | some o => o.after.toList.any fun e => Region.binds .any e && Nat.beq e.on i
  | none => false
def dropC (ops : Array Oper) (j : Nat) : Claims → Claims
  | [] => []
  | (i, cs) :: C => bif depOn ops j i then dropC ops j C else (i, cs) :: dropC ops j C
def heldC : Claims → World → Prop → Prop
  | [], _, p => p
  | (_, cs) :: C, w, p => holds cs w ∧ heldC C w p
def heldAll (C : Claims) (w : World) : Prop := ∀ c ∈ C, holds c.2 w
theorem heldC_spec : ∀ {C : Claims} {w : World} {p : Prop}, heldC C w p → heldAll C w ∧ p
  | [], _, _, h => ⟨(fun c hc => by cases hc), h⟩
  | (i, cs) :: C, w, p, ⟨h1, h2⟩ => by
    obtain ⟨h3, h4⟩ := heldC_spec h2
    refine ⟨fun c hc => ?_, h4⟩
    cases hc with
    | head => exact h1
    | tail _ hc => exact h3 c hc
theorem mem_dropC {ops : Array Oper} {j : Nat} {c : Nat × Cells} : ∀ {C : Claims}, c ∈ dropC ops j C → c ∈ C
  | [], h => h
  | (i, cs) :: C, h => by
    simp only [dropC] at h
    cases hd : depOn ops j i with
    | true => rw [hd] at h; exact List.mem_cons_of_mem _ (mem_dropC h)
    | false =>
      rw [hd] at h
      simp only [cond_false] at h
      cases h with
      | head => exact List.mem_cons_self
      | tail _ h => exact List.mem_cons_of_mem _ (mem_dropC h)
theorem dropC_mono {ops : Array Oper} {j : Nat} {C D : Claims} (h : ∀ c ∈ C, c ∈ D ∨ c.2 = []) : ∀ c ∈ dropC ops j C, c ∈ dropC ops j D ∨ c.2 = [] := by
  have key : ∀ {C : Claims} {c : Nat × Cells}, c ∈ dropC ops j C ↔ c ∈ C ∧ depOn ops j c.1 = false := by
    intro C
    induction C with
    | nil => intro c; simp [dropC]
    | cons x C ih =>
      obtain ⟨i, cs⟩ := x
      intro c
      simp only [dropC]
      cases hd : depOn ops j i with
      | true =>
        simp only [cond_true, ih, List.mem_cons]
        constructor
        · rintro ⟨h1, h2⟩; exact ⟨.inr h1, h2⟩
        · rintro ⟨h1, h2⟩
          rcases h1 with rfl | h1
          · rw [hd] at h2; cases h2
          · exact ⟨h1, h2⟩
      | false =>
        simp only [cond_false, List.mem_cons, ih]
        constructor
        · rintro (rfl | ⟨h1, h2⟩)
          · exact ⟨.inl rfl, hd⟩
          · exact ⟨.inr h1, h2⟩
        · rintro ⟨rfl | h1, h2⟩
          · exact .inl rfl
          · exact .inr ⟨h1, h2⟩
  intro c hc
  exact (h c (key.1 hc).1).imp (fun h1 => key.2 ⟨h1, (key.1 hc).2⟩) id

section
variable {P : Program} {ops : Array Oper} {Q : Exit → Act → World → Prop}
/-- Every order, under claims on what was read ahead. -/
def wpL (P : Program) (ops : Array Oper) (Q : Exit → Act → World → Prop) : Claims → Nat → Array Bool → Act → World → Prop
  | _, 0, listed, a, w => Region.ready .any ops listed = [] ∧ Q .normal a w
  | C, n + 1, listed, a, w =>
    (Region.ready .any ops listed = [] → Q .normal a w) ∧
    ∀ j ∈ Region.ready .any ops listed, wpOp P ops Q j (fun a' w' => heldAll (dropC ops j C) w' ∧ wpL P ops Q (dropC ops j C) n (listed.setIfInBounds j true) a' w') a w
theorem wpL_any : ∀ (n : Nat) (C : Claims) (listed : Array Bool) (a : Act) (w : World), wpL P ops Q C n listed a w → wpAny P .any ops Q n listed a w
  | 0, _, _, _, _, h => h
  | n + 1, C, listed, a, w, h => ⟨h.1, fun j hj => wpOp_mono (fun a' w' h' => wpL_any n _ _ a' w' h'.2) (h.2 j hj)⟩
theorem wpL_less : ∀ (n : Nat) (C D : Claims) (listed : Array Bool) (a : Act) (w : World), (∀ c ∈ C, c ∈ D ∨ c.2 = []) → wpL P ops Q D n listed a w → wpL P ops Q C n listed a w
  | 0, _, _, _, _, _, _, h => h
  | n + 1, C, D, listed, a, w, hs, h => ⟨h.1, fun j hj => wpOp_mono (fun a' w' h' => ⟨fun c hc => (dropC_mono hs c hc).elim (h'.1 c) (fun e => by rw [e]; exact fun _ hm => by cases hm), wpL_less n _ _ _ a' w' (dropC_mono hs) h'.2⟩) (h.2 j hj)⟩
/-- An operation that yields v wherever its cells hold. -/
def YC (P : Program) (ops : Array Oper) (o : Oper) (v : Value) (cs : Cells) (a : Act) : Prop :=
  (Region.wanted o (yielded ops a.tmps) = true ∧ ∀ w, holds cs w → (execOp a.eval o).run P w = .ok (.value v) w) ∨
  (Region.wanted o (yielded ops a.tmps) = false ∧ v = undef)
theorem YC.wpOp {i : Nat} {o : Oper} {v : Value} {cs : Cells} {a : Act} (hi : ops[i]? = some o) (hy : YC P ops o v cs a)
    {K : Act → World → Prop} {w : World} (hw : holds cs w) (h : K (a.put o.dst v) w) : wpOp P ops Q i K a w := by
  unfold Go.wpOp
  simp only [hi]
  rcases hy with ⟨h1, hv⟩ | ⟨h1, rfl⟩
  · simp only [h1, if_true, Oper.wp, hv w hw, Oper.upon]; exact .inl h
  · simp only [h1, Bool.false_eq_true, if_false]; exact h
theorem YC.of_same {o : Oper} {v : Value} {cs : Cells} {a a' : Act} (hy : YC P ops o v cs a) (he : execOp a'.eval o = execOp a.eval o)
    (hw : Region.wanted o (yielded ops a'.tmps) = Region.wanted o (yielded ops a.tmps)) : YC P ops o v cs a' := by
  unfold YC at *
  rw [he, hw]
  exact hy
theorem wpOp_ahead {j : Nat} {oi oj : Oper} {v : Value} {cs : Cells} (hj : ops[j]? = some oj) (hap : oi.apart ops oj = true)
    (hsi : ∀ c b, oi.op ≠ .select c b) (hsj : ∀ c b, oj.op ≠ .select c b)
    (hp : ∀ c a w, ¬ Q (.panic c) a w) (hg : ∀ a w, ¬ Q .outgrown a w) {K : Act → World → Prop} {a : Act} {w : World}
    (hy : YC P ops oi v cs a) (h : wpOp P ops Q j K (a.put oi.dst v) w) :
    wpOp P ops Q j (fun a' w' => YC P ops oi v cs a' ∧ K (a'.put oi.dst v) w') a w := by
  obtain ⟨h1, h2, h3⟩ := Oper.apart_spec hap
  have keep : ∀ (a : Act), YC P ops oi v cs a → ∀ u, YC P ops oi v cs (a.put oj.dst u) := fun a hy u =>
    hy.of_same (execOp_put oi hsi a oj.dst u h3) (wanted_put oi a oj.dst u h3)
  have keepD : ∀ d, YC P ops oi v cs { a with defers := d :: a.defers } := fun d => hy.of_same rfl rfl
  unfold wpOp at *
  simp only [hj] at *
  rw [wanted_put oj a oi.dst v h1] at h
  split
  · rename_i hw
    simp only [hw, if_true] at h
    rcases h with h | ⟨_, a0, w0, hlets⟩
    case inr => exact absurd hlets (hg _ _)
    refine .inl ?_
    unfold Oper.wp at *
    rw [execOp_put oj hsj a oi.dst v h1] at h
    generalize (execOp a.eval oj).run P w = r at *
    cases r with
    | ok n w' =>
      cases n <;> simp only [Oper.upon] at h ⊢
      case value u => exact ⟨keep a hy u, by rw [← Act.put_comm a v u h2]; exact h⟩
      case skip => exact ⟨keep a hy _, by rw [← Act.put_comm a v undef h2]; exact h⟩
      case defer d =>
        refine ⟨keep _ (keepD d) _, ?_⟩
        rw [← Act.put_comm _ v undef h2, ← Act.put_defers]
        exact h
      case enter f args =>
        refine Calls.mono h fun e w'' he => ?_
        cases e with
        | returned u => exact ⟨keep a hy u, by rw [← Act.put_comm a v u h2]; exact he⟩
        | panicked c => exact absurd he (hp _ _ _)
        | outgrown =>
          obtain ⟨a0, w0, hl⟩ := he
          exact absurd hl (hg _ _)
      case row row args => exact Rows.mono h fun u w'' he => ⟨keep a hy u, by rw [← Act.put_comm a v u h2]; exact he⟩
    | halt x w' =>
      cases x <;> simp only [Oper.upon] at h ⊢
      case panic u => exact absurd h (hp _ _ _)
  · rename_i hw
    simp only [hw] at h
    exact ⟨keep a hy _, by rw [← Act.put_comm a v undef h2]; exact h⟩
theorem dep_false {i j : Nat} {oj : Oper} (hj : ops[j]? = some oj) (hnot : ∀ e ∈ oj.after, Region.binds .any e = true → e.on ≠ i) : depOn ops j i = false := by
  unfold depOn
  rw [hj]
  simp only [List.any_eq_false, Bool.and_eq_true, not_and]
  intro e he hb hq
  exact hnot e (Array.mem_toList_iff.1 he) hb (Nat.eq_of_beq_eq_true hq)
theorem wpL_take {i : Nat} {oi : Oper} {v : Value} {cs : Cells} (hi : ops[i]? = some oi) (hsel : ∀ (j : Nat) (o : Oper) c b, ops[j]? = some o → o.op ≠ .select c b)
    (hp : ∀ c a w, ¬ Q (.panic c) a w) (hg : ∀ a w, ¬ Q .outgrown a w) :
    ∀ (fuel : Nat) (C : Claims) (listed : Array Bool) (a : Act) (w : World),
      (∀ j oj, ops[j]? = some oj → j ≠ i → listed.getD j true = false → (∀ e ∈ oj.after, Region.binds .any e = true → e.on ≠ i) → oi.apart ops oj = true) →
      i ∈ Region.ready .any ops listed → YC P ops oi v cs a → holds cs w → heldAll C w →
      wpL P ops Q ((i, cs) :: C) fuel (listed.setIfInBounds i true) (a.put oi.dst v) w → wpL P ops Q C (fuel + 1) listed a w := by
  intro fuel
  induction fuel with
  | zero =>
    intro C listed a w _ hr hy hcs hC H
    refine ⟨fun h => (by rw [h] at hr; cases hr), fun j hj => ?_⟩
    by_cases hji : j = i
    · subst hji; exact hy.wpOp hi hcs ⟨fun c hc => hC c (mem_dropC hc), H⟩
    · have := ready_mono hj hji
      rw [H.1] at this
      cases this
  | succ fuel ih =>
    intro C listed a w hfree hr hy hcs hC H
    refine ⟨fun h => (by rw [h] at hr; cases hr), fun j hj => ?_⟩
    by_cases hji : j = i
    · subst hji; exact hy.wpOp hi hcs ⟨fun c hc => hC c (mem_dropC hc), wpL_less _ _ _ _ _ _ (fun c hc => .inl (List.mem_cons_of_mem _ (mem_dropC hc))) H⟩
    · have h1 := H.2 j (ready_mono hj hji)
      obtain ⟨hjun, oj, hoj, hall⟩ := mem_ready.1 hj
      have hnot : ∀ e ∈ oj.after, Region.binds .any e = true → e.on ≠ i := fun e he hb heq => by
        have h1 := hall e he hb
        have h0 := (mem_ready.1 hr).1
        rw [heq] at h1
        rcases Nat.lt_or_ge i listed.size with h' | h'
        · simp [h'] at h0 h1; rw [h0] at h1; cases h1
        · simp [Array.getElem?_eq_none h'] at h1
      have h2 := wpOp_ahead hoj (hfree j oj hoj hji hjun hnot) (fun cs b => hsel i oi cs b hi) (fun cs b => hsel j oj cs b hoj) hp hg hy h1
      have hfree' : ∀ k ok, ops[k]? = some ok → k ≠ i → (listed.setIfInBounds j true).getD k true = false →
          (∀ e ∈ ok.after, Region.binds .any e = true → e.on ≠ i) → oi.apart ops ok = true := fun k ok hk hki hun hno => by
        refine hfree k ok hk hki ?_ hno
        by_cases hjk : j = k
        · subst hjk; exact hjun
        · rw [getD_set_ne true hjk] at hun; exact hun
      have hd := dep_false hoj hnot
      refine wpOp_mono (fun a' w' h3 => ?_) h2
      obtain ⟨hy', hh, hK⟩ := h3
      simp only [dropC, hd, cond_false] at hh hK
      refine ⟨fun c hc => hh c (List.mem_cons_of_mem _ hc), ih _ (listed.setIfInBounds j true) a' w' hfree' (ready_mono hr (Ne.symm hji)) hy' (hh _ List.mem_cons_self) (fun c hc => hh c (List.mem_cons_of_mem _ hc)) ?_⟩
      rw [Array.setIfInBounds_comm _ _ hji]
      exact hK
end
end Go.Eng
