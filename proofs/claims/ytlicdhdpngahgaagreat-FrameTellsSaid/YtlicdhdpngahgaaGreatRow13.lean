/- FrameTells returns true for every input, and leaves each argument as it was (FrameTellsSaid). Conditions: none beside those that the given row itself names. -/
import Derived.Test.YtlicdhdpngahgaaGreatRows
import Derived.Test.YtlicdhdpngahgaaGreatTellsC
import Derived.ProofKit
import Derived.OpenShut
import Derived.ShutString
import Derived.ChangeOld
import Derived.Below
import Derived.SliceStrings
import Derived.HandedShaped
import Derived.Lib.SmallJoins
set_option linter.unusedVariables false
set_option linter.unusedSimpArgs false
namespace Go.Proofs.YtlicdhdpngahgaaGreat
open Go.Eng Go.ChangeShapes Go.WideShapes Go.ChangeAt Go.RowKit
open Go.ChangeMaps (open_string shut_string)
theorem rowOwn : ownKnob Tryz.prog.godebug = none := by kernel_rfl
theorem rowLaid : laidOutB Tryz.prog = true := by kernel_rfl
theorem reach_le : reachBytes ≤ 140737488355328 := by decide
theorem weights_strs {H : Type} {P : Program} {e : TypeId} : ∀ (ss : List ByteArray), ((DataW.weightsAll (H := H) P e (strs ss))).all (· ≤ reachBytes) = true → ∀ s ∈ ss, s.size ≤ reachBytes
  | [], _, s, hs => by cases hs
  | x :: ss, h, s, hs => by
    have h' : (decide (x.data.toList.length ≤ reachBytes) && (DataW.weightsAll (H := H) P e (strs ss)).all (· ≤ reachBytes)) = true := h
    rw [Bool.and_eq_true] at h'
    rcases List.mem_cons.1 hs with rfl | hs
    · rw [show s.size = s.data.toList.length from (Array.length_toList).symm]
      exact of_decide_eq_true h'.1
    · exact weights_strs ss h'.2 s hs
/-- What is read of a list of texts that came in. -/
theorem open_texts {H : Type} {enc : TypeId × Value → H} {W : World} {sp : Nat → Bool} {held : Bool} {v : Value} {d : DataW H} {p : List MemPlace} (hv : ∃ a n c, v = .slice a n c)
    (h : DataW.Trod enc Tryz.prog W 0 sp held 24 v d p) (hw : (DataW.weights Tryz.prog 24 d).all (· ≤ reachBytes) = true) :
    ∃ l : List (List UInt8), Lst W v l.length (tx l) ∧ l.length ≤ 140737488355328 ∧ ∀ r ∈ l, r.length ≤ 140737488355328 := by
  obtain ⟨a0, n0, c0, rfl⟩ := hv
  obtain ⟨fuel, hf⟩ := h
  rcases open_strings U_strs U_string (by kernel_rfl) hf with ⟨hcs, _⟩ | ⟨a, len, cap, ss, hcs, _, hl, hm, hz, hx, hcell, hsz⟩
  · simp [Value.cells] at hcs
    obtain ⟨rfl, rfl, rfl⟩ := hcs
    exact ⟨[], lst_nil _ _ _, by simp, by simp⟩
  · simp [Value.cells] at hcs
    obtain ⟨rfl, rfl, rfl⟩ := hcs
    have hlen : n0 ≤ ss.length := by rw [hz]; split <;> omega
    simp only [Prod.mk.injEq] at hx
    rw [hx.1] at hw
    have hb : Tryz.prog.bytesOf 9 = 16 := by kernel_rfl
    have hwx : (((strs (H := H) (ss.take n0)).length + (strs (H := H) (ss.drop n0)).length) * 16 :: (DataW.weightsAll (H := H) Tryz.prog 9 (strs (ss.take n0)) ++ DataW.weightsAll (H := H) Tryz.prog 9 (strs (ss.drop n0)))).all (· ≤ reachBytes) = true := by
      have : DataW.weights Tryz.prog 24 (DataW.slice (H := H) (strs (ss.take n0)) (strs (ss.drop n0))) = ((strs (H := H) (ss.take n0)).length + (strs (H := H) (ss.drop n0)).length) * 16 :: (DataW.weightsAll (H := H) Tryz.prog 9 (strs (ss.take n0)) ++ DataW.weightsAll (H := H) Tryz.prog 9 (strs (ss.drop n0))) := by
        simp only [DataW.weights, U_strs, hb]
      exact this ▸ hw
    rw [List.all_cons, List.all_append, Bool.and_eq_true, Bool.and_eq_true] at hwx
    have h1 := of_decide_eq_true hwx.1
    have h2 := weights_strs _ hwx.2.1
    simp only [strs, List.length_map, List.length_take, List.length_drop] at h1
    have hre := reach_le
    refine ⟨(ss.take n0).map fun s => s.data.toList, ?_, by simp; omega, ?_⟩
    · have e1 : ((ss.take n0).map fun s => s.data.toList).length = n0 := by simp; omega
      rw [e1]
      by_cases hn : n0 = 0
      · subst hn
        exact ⟨_, _, rfl, .inl (by simp [tx])⟩
      · obtain ⟨b, o, spot⟩ := a
        have hc := hcell 0 (by omega)
        have hspot : spot = none := by simpa [Addr.add] using World.cell?_spot hc
        subst hspot
        refine ⟨_, _, rfl, .inr ⟨b, o, rfl, fun j u hu => ?_⟩⟩
        have hj : j < n0 := by
          have := (List.getElem?_eq_some_iff.1 hu).1
          simp [tx] at this
          omega
        have hc := hcell j (by omega)
        rw [addA] at hc
        rw [hc]
        have hjs : j < ss.length := by omega
        simp only [tx, List.getElem?_map, List.getElem?_take, hj, if_true, List.getElem?_eq_getElem hjs, Option.map_some] at hu
        have hu := Option.some.inj hu
        rw [← hu, bs_data, List.getD_eq_getElem?_getD, List.getElem?_eq_getElem hjs]
        rfl
    · intro r hr
      obtain ⟨s, hs, rfl⟩ := List.mem_map.1 hr
      rw [show s.data.toList.length = s.size from Array.length_toList]
      exact Nat.le_trans (h2 s hs) reach_le
set_option maxRecDepth 100000 in
theorem lifted13 (os : Os) (started : os.Started) (H : Type) (enc : TypeId × Value → H) :
    ReturnsInHanded {} Tryz.checked os 3 .any (Rows.frameTellsSpec.pre6 enc Tryz.prog Tryz.f3 Rows.frameTellsRow.domain false) (Rows.frameTellsSpec.post enc Tryz.prog Tryz.f3 false true false false) := by
  refine returnsInHanded_of_change_shaped (C := Tryz.checked) rowOwn started (by kernel_rfl) Tryz.func3
    (ChangeSpec.witness6 (enc := enc) (C := Tryz.checked) false ⟨#[], #[.agg #[.int .i64 0, .int .i64 0, .bool false, .string ⟨#[]⟩], .string ⟨#[]⟩, .int .i64 0, .int .i64 0, .slice none 0 0, .slice none 0 0], []⟩ 8 (by kernel_rfl) (by kernel_rfl) (by kernel_rfl) (by kernel_rfl)) ?_
  intro W base args ds gs before hval0 hW hcnd hwt _ _
  have hval : ∀ (j : Nat) t v, Tryz.f3.params[j]? = some t → args[j]? = some v → Value.okWide Tryz.prog W .any base t v := hval0
  have hW' := hW
  obtain ⟨p, q, hA0, hV, rfl, hfz, hnd⟩ := hW
  have hA : DataW.TrodAll enc Tryz.prog W 0 (fun _ => true) true Tryz.f3.params.toList args.toList ds p := hA0
  rw [Tryz.params3] at hA hval
  obtain ⟨v0, vs0, d0, ds0, p0, q0, hargs, rfl, rfl, h0, r0⟩ := trodAll_cons hA
  obtain ⟨v1, vs1, d1, ds1, p1, q1, rfl, rfl, rfl, h1, r1⟩ := trodAll_cons r0
  obtain ⟨v2, vs2, d2, ds2, p2, q2, rfl, rfl, rfl, h2, r2⟩ := trodAll_cons r1
  obtain ⟨v3, vs3, d3, ds3, p3, q3, rfl, rfl, rfl, h3, r3⟩ := trodAll_cons r2
  obtain ⟨v4, vs4, d4, ds4, p4, q4, rfl, rfl, rfl, h4, r4⟩ := trodAll_cons r3
  obtain ⟨v5, vs5, d5, ds5, p5, q5, rfl, rfl, rfl, h5, r5⟩ := trodAll_cons r4
  obtain ⟨rfl, rfl, rfl⟩ := trodAll_nil r5
  obtain rfl : args = #[v0, v1, v2, v3, v4, v5] := by cases args; simp_all
  obtain ⟨rfl, rfl⟩ := trodVars_none hV
  have lt : ∀ {t : TypeId} {v : Value} {d : DataW H} {p : List MemPlace}, DataW.Trod enc Tryz.prog W 0 (fun _ => true) true t v d p → ∀ x ∈ p, x.block < W.heap.size := fun h => by
    obtain ⟨m, hm⟩ := h
    exact DataW.trod_lt m _ _ _ hm
  have k0 := h0
  have k4 := h4
  have k5 := h5
  obtain ⟨c0, c1, c2, c3, y0, y1, y2, y3, m, rfl, hd0, hp0, hy0, hy1, hy2, hy3⟩ := Joins.open_agg4 Tryz.underlying23 (by kernel_rfl) (by kernel_rfl) (hval 0 23 v0 rfl rfl) h0
  obtain ⟨n0, e0, _, _⟩ := DataW.trod_int U_int hy0
  obtain ⟨n1, e1, _, _⟩ := DataW.trod_int U_int hy1
  obtain ⟨n2, e2, _⟩ := DataW.trod_bool U_bool hy2
  obtain ⟨n3, e3, _, _⟩ := DataW.trod_string U_string hy3
  obtain rfl := (List.cons.inj e0).1
  obtain rfl := (List.cons.inj e1).1
  obtain rfl := (List.cons.inj e2).1
  obtain rfl := (List.cons.inj e3).1
  obtain ⟨pb, rfl⟩ := bs_surj n3
  obtain ⟨b, rfl, rfl, rfl, wb⟩ := open_string U_string (hval 1 9 v1 rfl rfl) h1
  obtain ⟨bl, rfl⟩ := bs_surj b
  obtain ⟨ee, rfl, rfl, rfl, we⟩ := open_int U_int (hval 2 3 v2 rfl rfl) h2
  obtain ⟨ii, rfl, rfl, rfl, wi⟩ := open_int U_int (hval 3 3 v3 rfl rfl) h3
  have hwx := hwt
  rw [Tryz.params3] at hwx
  simp only [List.cons_append, DataW.weightsEach, List.all_append, Bool.and_eq_true] at hwx
  have hw4 : (DataW.weights Tryz.prog 24 d4).all (· ≤ reachBytes) = true := hwx.2.2.2.2.1
  have hw5 : (DataW.weights Tryz.prog 24 d5).all (· ≤ reachBytes) = true := hwx.2.2.2.2.2.1
  obtain ⟨l, hl1, hl2, hl3⟩ := open_texts (okWide_slice U_strs (hval 4 24 v4 rfl rfl)) h4 hw4
  obtain ⟨sl, hs1, hs2, hs3⟩ := open_texts (okWide_slice U_strs (hval 5 24 v5 rfl rfl)) h5 hw5
  have hwi : -9223372036854775808 ≤ ii ∧ ii ≤ 9223372036854775807 := by
    have h : (decide (IntKind.i64.min ≤ ii) && decide (ii ≤ IntKind.i64.max)) = true := wi
    rw [Bool.and_eq_true] at h
    exact ⟨of_decide_eq_true h.1, of_decide_eq_true h.2⟩
  refine Calls.mono (FrameTells_spec (s := ⟨n0, n1, n2, pb⟩) (b := bl) (e := ee) (i := ii) (l := l) (sl := sl) (vl := v4) (vs := v5) (w := W) (k := fun v W' => v = .bool true ∧ Later W W') hwi hl1 hs1 hl2 hl3 fun w' hw' => ⟨rfl, hw'⟩) fun e W' he => ?_
  cases e with
  | returned v =>
    obtain ⟨rfl, bel⟩ := he
    refine ⟨_, rfl, _, _, _, [], _, [], hW', trodAll_mk1 (shut_bool U_bool _), (trodAll_cons_mk (Below.trod rowLaid (by kernel_rfl) (of_decide_eq_true (by kernel_rfl)) k0 bel (lt k0)) (trodAll_cons_mk (shut_string U_string wb) (trodAll_cons_mk (shut_int U_int we) (trodAll_cons_mk (shut_int U_int wi) (trodAll_cons_mk (Below.trod rowLaid (by kernel_rfl) (of_decide_eq_true (by kernel_rfl)) k4 bel (lt k4)) (trodAll_cons_mk (Below.trod rowLaid (by kernel_rfl) (of_decide_eq_true (by kernel_rfl)) k5 bel (lt k5)) trodAll_mk0)))))), rfl, bel.frame _, fun h => by cases h⟩
  | panicked c => exact he.elim
  | outgrown => exact he.elim
theorem frameTells_holds : Rows.FrameTellsSaid :=
  OpenClaim.holds_of_wide 3 Tryz.f3 rfl rfl rfl rfl rfl rfl rfl ⟨rfl, rfl, rfl, rfl, rfl⟩ rfl rfl rfl rfl rfl (by kernel_rfl) Tryz.func3 (by kernel_rfl)
    (of_decide_eq_true (by kernel_rfl)) (by unfold Func.isWrapper; first | (rw [if_pos (by decide +kernel)]; kernel_rfl) | (rw [if_neg (by decide +kernel)]; exact ⟨rfl, rfl⟩))
    (fun os started H enc _ => lifted13 os started H enc)
#print axioms frameTells_holds
end Go.Proofs.YtlicdhdpngahgaaGreat
