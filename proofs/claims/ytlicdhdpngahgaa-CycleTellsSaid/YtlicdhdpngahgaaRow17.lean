/- CycleTells returns true for every input, and leaves each argument as it was (CycleTellsSaid). Conditions: none beside those that the given row itself names. -/
import Derived.Test.YtlicdhdpngahgaaRows
import Derived.Test.YtlicdhdpngahgaaTells17
import Derived.ProofKit
import Derived.OpenShut
import Derived.ShutString
import Derived.ChangeOld
import Derived.Below
import Derived.SliceStrings
import Derived.HandedShaped
import Derived.Lib.SmallJoins
import Derived.Deep.Slices
set_option linter.unusedVariables false
set_option linter.unusedSimpArgs false
namespace Go.Proofs.Ytlicdhdpngahgaa
open Go.Eng Go.ChangeShapes Go.WideShapes Go.ChangeAt Go.RowKit
theorem rowOwn : ownKnob Try.prog.godebug = none := by kernel_rfl
theorem rowLaid : laidOutB Try.prog = true := by kernel_rfl
theorem reach_le : reachBytes ≤ 140737488355328 := by decide
theorem C_pair : Try.prog.cellsOf 43 = 2 := by kernel_rfl
theorem C_int : Try.prog.cellsOf 3 = 1 := by kernel_rfl
/-- What is read of a list of pairs that came in. -/
theorem open_pairs {H : Type} {enc : TypeId × Value → H} {P : Program} {t e i : TypeId} {W : World} {sp : Nat → Bool} {held : Bool} {v : Value} {d : DataW H} {p : List MemPlace} (ht : P.underlying t = some (.slice e)) (he : P.underlying e = some (.array 2 i))
    (hi : P.underlying i = some (.int .i64)) (hC : P.cellsOf e = 2) (hc : P.cellsOf i = 1) (hv : ∃ a n c, v = .slice a n c)
    (h : DataW.Trod enc P W 0 sp held t v d p) : ∃ l : List Pr, Lst W v l.length (px l) ∧ ∀ e ∈ l, InR e.1 ∧ InR e.2 := by
  obtain ⟨a0, n0, c0, rfl⟩ := hv
  obtain ⟨fuel, hf⟩ := h
  rcases Go.Deep.open_slice ht hf with ⟨hcs, _⟩ | ⟨a, len, cap, m, n, D, Pl, hcs, _, hl, _, hm, _, hx⟩
  · simp [Value.cells] at hcs
    obtain ⟨rfl, rfl, rfl⟩ := hcs
    exact ⟨[], lst_nil _ _ _, by simp⟩
  · simp [Value.cells] at hcs
    obtain ⟨rfl, rfl, rfl⟩ := hcs
    have hle : n0 ≤ m := by rw [hm]; split <;> omega
    rw [hC] at hx
    have one : ∀ j, j < n0 → ∃ x y, InR x ∧ InR y ∧ W.cell? (a.add (j * 2)) = some (.int .i64 x) ∧ W.cell? (a.add (j * 2 + 1)) = some (.int .i64 y) := fun j hj => by
      obtain ⟨cs', h1, h2⟩ := hx j (by omega)
      obtain ⟨xs, k, hk, hy, hl', hlen, hel⟩ := DataW.trod_array he h2
      obtain ⟨hb, hlc, hcc⟩ := World.cells?_some h1
      match cs', hlc with
      | [u, w], _ =>
        have e0 := hel 0 (by omega)
        have e1 := hel 1 (by omega)
        have c0 := hcc 0 (by omega)
        have c1 := hcc 1 (by omega)
        rw [hc] at e0 e1
        match xs, hlen with
        | [y0, y1], _ =>
          obtain ⟨n0, g0, _, w0⟩ := DataW.trod_int hi (show DataW.trod enc P W 0 sp held k i [u] = some y0 from e0)
          obtain ⟨n1, g1, _, w1⟩ := DataW.trod_int hi (show DataW.trod enc P W 0 sp held k i [w] = some y1 from e1)
          obtain rfl := (List.cons.inj g0).1
          obtain rfl := (List.cons.inj g1).1
          rw [Go.Deep.add_add] at c0 c1
          exact ⟨n0, n1, wf_inR w0, wf_inR w1, c0, c1⟩
    by_cases hn : n0 = 0
    · subst hn
      exact ⟨[], ⟨_, _, rfl, .inl rfl⟩, by simp⟩
    obtain ⟨b, o, spot⟩ := a
    have hspot : spot = none := by
      obtain ⟨x, y, _, _, hc, _⟩ := one 0 (by omega)
      simpa [Addr.add] using World.cell?_spot hc
    subst hspot
    have build : ∀ k, k ≤ n0 → ∃ l : List Pr, l.length = k ∧ (∀ e ∈ l, InR e.1 ∧ InR e.2) ∧ ∀ j u, (px l)[j]? = some u → W.cell? ⟨b, o + j, none⟩ = some u := by
      intro k
      induction k with
      | zero => exact fun _ => ⟨[], rfl, by simp, by simp [px]⟩
      | succ k ih =>
        intro hk
        obtain ⟨l, h1, h2, h3⟩ := ih (by omega)
        obtain ⟨x, y, hx, hy, hcx, hcy⟩ := one k (by omega)
        rw [addA] at hcx hcy
        refine ⟨l ++ [(x, y)], by simp [h1], fun e he => ?_, fun j u hu => ?_⟩
        · rcases List.mem_append.1 he with he | he
          · exact h2 e he
          · simp at he; subst he; exact ⟨hx, hy⟩
        · rw [px_append] at hu
          by_cases hj : j < (px l).length
          · rw [List.getElem?_append_left hj] at hu
            exact h3 j u hu
          · rw [List.getElem?_append_right (by omega), px_length, h1] at hu
            rw [px_length, h1] at hj
            have hlt := (List.getElem?_eq_some_iff.1 hu).1
            simp [px] at hlt
            rcases (show j - k * 2 = 0 ∨ j - k * 2 = 1 by omega) with hz | hz
            · rw [hz] at hu
              have : u = .int .i64 x := by simpa [px] using hu.symm
              subst this
              rw [show j = k * 2 by omega]; exact hcx
            · rw [hz] at hu
              have : u = .int .i64 y := by simpa [px] using hu.symm
              subst this
              rw [show j = k * 2 + 1 by omega]; exact hcy
    obtain ⟨l, h1, h2, h3⟩ := build n0 (Nat.le_refl _)
    exact ⟨l, ⟨_, _, by rw [h1], .inr ⟨b, o, rfl, h3⟩⟩, h2⟩
set_option maxRecDepth 100000 in
theorem lifted17 (os : Os) (started : os.Started) (H : Type) (enc : TypeId × Value → H) :
    ReturnsInHanded {} Try.checked os 3 .any (Rows.cycleTellsSpec.pre6 enc Try.prog Try.f3 Rows.cycleTellsRow.domain false) (Rows.cycleTellsSpec.post enc Try.prog Try.f3 false true false false) := by
  refine returnsInHanded_of_change_shaped (C := Try.checked) rowOwn started (by kernel_rfl) Try.func3
    (ChangeSpec.witness6 (enc := enc) (C := Try.checked) false ⟨#[], #[.int .i64 0, .slice none 0 0], []⟩ 8 (by kernel_rfl) (by kernel_rfl) (by kernel_rfl) (by kernel_rfl)) ?_
  intro W base args ds gs before hval0 hW hcnd hwt _ _
  have hval : ∀ (j : Nat) t v, Try.f3.params[j]? = some t → args[j]? = some v → Value.okWide Try.prog W .any base t v := hval0
  have hW' := hW
  obtain ⟨p, q, hA0, hV, rfl, hfz, hnd⟩ := hW
  have hA : DataW.TrodAll enc Try.prog W 0 (fun _ => true) true Try.f3.params.toList args.toList ds p := hA0
  rw [Try.params3] at hA hval
  obtain ⟨v0, vs0, d0, ds0, p0, q0, hargs, rfl, rfl, h0, r0⟩ := trodAll_cons hA
  obtain ⟨v1, vs1, d1, ds1, p1, q1, rfl, rfl, rfl, h1, r1⟩ := trodAll_cons r0
  obtain ⟨rfl, rfl, rfl⟩ := trodAll_nil r1
  obtain rfl : args = #[v0, v1] := by cases args; simp_all
  obtain ⟨rfl, rfl⟩ := trodVars_none hV
  have lt : ∀ {t : TypeId} {v : Value} {d : DataW H} {p : List MemPlace}, DataW.Trod enc Try.prog W 0 (fun _ => true) true t v d p → ∀ x ∈ p, x.block < W.heap.size := fun h => by
    obtain ⟨m, hm⟩ := h
    exact DataW.trod_lt m _ _ _ hm
  have k1 := h1
  obtain ⟨ss, rfl, rfl, rfl, ws⟩ := open_int U_int (hval 0 3 v0 rfl rfl) h0
  obtain ⟨l, hl1, hl2⟩ := open_pairs U_pairs U_pair U_int C_pair C_int (okWide_slice U_pairs (hval 1 22 v1 rfl rfl)) h1
  refine Calls.mono (CycleTells_spec (src := ss) (E := l) (ve := v1) (w := W) (k := fun v W' => v = .bool true ∧ Later W W') (wf_inR ws) hl2 hl1 fun w' hw' => ⟨rfl, hw'⟩) fun e W' he => ?_
  cases e with
  | returned v =>
    obtain ⟨rfl, bel⟩ := he
    exact ⟨_, rfl, _, _, _, [], _, [], hW', trodAll_mk1 (shut_bool U_bool _), (trodAll_cons_mk (shut_int U_int ws) (trodAll_cons_mk (Below.trod rowLaid (by kernel_rfl) (of_decide_eq_true (by kernel_rfl)) k1 bel (lt k1)) trodAll_mk0)), rfl, bel.frame _, fun h => by cases h⟩
  | panicked c => exact he.elim
  | outgrown => exact he.elim
theorem cycleTells_holds : Rows.CycleTellsSaid :=
  OpenClaim.holds_of_wide 3 Try.f3 rfl rfl rfl rfl rfl rfl rfl ⟨rfl, rfl, rfl, rfl, rfl⟩ rfl rfl rfl rfl rfl (by kernel_rfl) Try.func3 (by kernel_rfl)
    (of_decide_eq_true (by kernel_rfl)) (by unfold Func.isWrapper; first | (rw [if_pos (by decide +kernel)]; kernel_rfl) | (rw [if_neg (by decide +kernel)]; exact ⟨rfl, rfl⟩))
    (fun os started H enc _ => lifted17 os started H enc)
#print axioms cycleTells_holds
end Go.Proofs.Ytlicdhdpngahgaa
