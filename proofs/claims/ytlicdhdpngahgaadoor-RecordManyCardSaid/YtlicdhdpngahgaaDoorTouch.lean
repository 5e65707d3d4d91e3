/- The pages that a record changes: record.Touches. -/
import Derived.Test.YtlicdhdpngahgaaDoorSame
import Derived.Test.YtlicdhdpngahgaaDoorSort
set_option linter.unusedVariables false
set_option linter.unusedSimpArgs false
namespace Go.Proofs.YtlicdhdpngahgaaDoor
open Go.Eng Go.RowKit
theorem compact_upto {zs : List Int} (hs : zs.Pairwise (· ≤ ·)) : ∀ m, m ≤ zs.length → (Go.Lib.compactUpTo zs.toArray m).Pairwise (· < ·) ∧ ∀ x, x ∈ Go.Lib.compactUpTo zs.toArray m ↔ x ∈ zs.take m
  | 0, _ => by simp [Go.Lib.compactUpTo]
  | m + 1, hm => by
    obtain ⟨h1, h2⟩ := compact_upto hs m (by omega)
    have hlt : m < zs.length := by omega
    have hget : ∀ j, j < zs.length → (zs.toArray)[j]! = zs[j]! := fun j hj => by simp [getElem!_pos, hj]
    have e1 : (zs.toArray)[m]! = zs[m] := by rw [hget m hlt, getElem!_pos zs m hlt]
    rw [Go.Lib.compactUpTo_succ, e1]
    have tk : ∀ x, x ∈ zs.take (m + 1) ↔ x ∈ zs.take m ∨ x = zs[m] := fun x => by
      rw [List.take_add_one, List.getElem?_eq_getElem hlt, List.mem_append]; simp
    have hle : ∀ j, (hj : j < m) → zs[j] ≤ zs[m] := fun j hj => (List.pairwise_iff_getElem.1 hs) j m (by omega) hlt hj
    by_cases h0 : m = 0
    · subst h0
      simp [Go.Lib.compactUpTo, Go.Lib.keeps, tk]
    have hlt' : m - 1 < zs.length := by omega
    have e2 : (zs.toArray)[m - 1]! = zs[m - 1] := by rw [hget _ hlt', getElem!_pos zs _ hlt']
    by_cases he : zs[m] = zs[m - 1]
    · rw [Go.Lib.keeps_neg (by omega) (by rw [e1, e2, he])]
      simp only [Bool.false_eq_true, if_false, List.append_nil]
      refine ⟨h1, fun x => ?_⟩
      rw [h2, tk]
      constructor
      · exact .inl
      · rintro (h | h)
        · exact h
        · rw [h, he]
          exact List.mem_of_getElem? (i := m - 1) (by rw [List.getElem?_take, if_pos (by omega), List.getElem?_eq_getElem hlt'])
    · rw [Go.Lib.keeps_pos (by rw [e1, e2]; exact he)]
      simp only [if_true]
      refine ⟨?_, fun x => ?_⟩
      · rw [List.pairwise_append]
        refine ⟨h1, by simp, fun x hx y hy => ?_⟩
        simp at hy
        subst hy
        obtain ⟨j, hj⟩ := List.getElem?_of_mem ((h2 x).1 hx)
        have hjm : j < m := by have := (List.getElem?_eq_some_iff.1 hj).1; simp at this; omega
        rw [List.getElem?_take, if_pos hjm, List.getElem?_eq_getElem (by omega)] at hj
        injection hj with hj
        subst hj
        have h3 : zs[m - 1] ≤ zs[m] := hle (m - 1) (by omega)
        have h4 : zs[j] ≤ zs[m - 1] := by
          by_cases e : j = m - 1
          · subst e; exact Int.le_refl _
          · exact (List.pairwise_iff_getElem.1 hs) j (m - 1) (by omega) hlt' (by omega)
        omega
      · rw [List.mem_append, h2, tk, List.mem_singleton]
theorem compact_rise {zs : List Int} (hs : zs.Pairwise (· ≤ ·)) : IsRise zs (Go.Lib.compact zs) := by
  obtain ⟨h1, h2⟩ := compact_upto hs zs.length (Nat.le_refl _)
  exact ⟨h1, fun x => by have := h2 x; rwa [List.take_length] at this⟩
theorem compact_from {B : Nat} {v : Value} {zs : List Int} {w : World} {k : Value → World → Prop} (h : w.ownsRow B 3 1 v zs.length (ix zs)) (hB : B ≤ w.heap.size) (hn : zs.length ≤ 1000000000) (hs : zs.Pairwise (· ≤ ·))
    (hk : ∀ v' r w', Below B w w' → IsRise zs r → w'.ownsRow B 3 1 v' r.length (ix r) → v'.ownBlock = v.ownBlock → k v' w') :
    callW Tryd.prog (.func (.func 62) #[] #[]) [v] w k := by
  refine ⟨by kernel_rfl, ?_⟩
  show Calls Tryd.prog 62 #[v] w (rt k)
  rcases h.2 with ⟨rfl, hn0⟩ | ⟨g, cap, cur, rfl, hBg, hg, hnc, hcm, hcs, htk⟩
  · refine calls_rt (Tryd.slices_Compact_int_empty none 0 w) ?_
    rintro e w' ⟨rfl, rfl⟩
    have hz : zs = [] := List.eq_nil_of_length_eq_zero (by simpa using hn0)
    subst hz
    exact ⟨_, rfl, hk _ [] w' (Below.refl _ _) ⟨by simp, by simp⟩ (by simpa [ix] using World.ownsRow_nil w' B 3 1) rfl⟩
  · have hsz : (ix zs).length = zs.length := ix_length zs
    have hcell : ∀ j, j < zs.length → cur.toList[j]? = some (.int .i64 zs[j]!) := fun j hj => by
      have h1 : (ix zs)[j]? = some (.int .i64 zs[j]) := ix_get hj
      rw [← htk, List.getElem?_take, if_pos (by omega)] at h1
      rw [h1, getElem!_pos zs j hj]
    have hH : Go.Sort.Holds (Value.int .i64) w g 0 zs.toArray := by
      intro j hj
      have hj' : j < zs.length := by simpa using hj
      refine ⟨?_, heap_frozen hg⟩
      have h2 := hcell j hj'
      have e1 : (zs.toArray)[j]! = zs[j]! := by simp [getElem!_pos, hj']
      rw [Nat.zero_add, heap_cell hg, e1, ← h2, Array.getElem?_toList]
    have hri := compact_rise hs
    have hcl := hri.len
    refine calls_rt (Tryd.slices_Compact_int g 0 cap zs w hH (by omega) hnc) ?_
    rintro e w' ⟨rfl, n, rfl⟩
    generalize hD : (Go.Lib.compact zs ++ List.replicate (zs.length - (Go.Lib.compact zs).length) 0) = D
    have hDl : D.length = zs.length := by rw [← hD]; simp; omega
    have hgw : (Go.Sort.putRow (Value.int .i64) (Go.Sort.ahead w n) g 0 D.toArray).heap.size = w.heap.size := by
      simp [Go.Sort.putRow, Go.Sort.mapBlock, Go.Sort.ahead]
    refine ⟨_, rfl, hk _ (Go.Lib.compact zs) _ ⟨rfl, rfl, rfl, by rw [hgw]; exact Nat.le_refl _, fun q hq => ?_⟩ hri ?_ rfl⟩
    · simp only [Go.Sort.putRow, Go.Sort.mapBlock, Go.Sort.ahead, Array.getElem?_modify]
      rw [if_neg (by omega)]
    · refine ⟨by simp, .inr ⟨g, cap, Go.Sort.putCells (Value.int .i64) 0 D.toArray cur, rfl, hBg, ?_, by omega, hcm, by simp [Go.Sort.putCells, hcs], ?_⟩⟩
      · simp only [Go.Sort.putRow, Go.Sort.mapBlock, Go.Sort.ahead, Array.getElem?_modify, if_true, hg, Option.map_some]
        rfl
      · apply List.ext_getElem?
        intro j
        rw [List.getElem?_take]
        by_cases hj : j < (Go.Lib.compact zs).length
        · rw [if_pos (by omega), Array.getElem?_toList]
          have h3 := hcell j (by omega)
          rw [Array.getElem?_toList] at h3
          simp only [Go.Sort.putCells, Array.getElem?_mapIdx, h3, Option.map_some, Nat.zero_le, true_and, Nat.zero_add, Nat.sub_zero, List.size_toArray, hDl]
          rw [if_pos (by omega), ix_get hj]
          have : (D.toArray)[j]! = (Go.Lib.compact zs)[j] := by
            have hjD : j < D.length := by omega
            rw [getElem!_pos _ j (by simpa using hjD)]
            simp only [List.getElem_toArray]
            simp only [← hD]
            rw [List.getElem_append_left hj]
          rw [this]
        · rw [if_neg (by omega), List.getElem?_eq_none (by simp; omega)]
/-- Pages that are changed: rising, each once. -/
theorem Touches_from {r : Rec} {vp vq vt vd : Value} {ps : List Value} {w : World} {k : Value → World → Prop} (hv : RecV w vp vq vt vd ps r) (hn : r.patches.length ≤ 1000000)
    (hk : ∀ v' l w', Later w w' → IsRise (r.patches.map Pat.page) l → w'.ownsRow w.heap.size 3 1 v' l.length (ix l) → k v' w') : callW Tryd.prog (.func (.func 22) #[] #[]) [.agg (rcells r vp vq vt vd)] w k := by
  apply record_Touches_call
  apply record_Touches_run
  simp only [record_Touches, Value.cells]
  refine al_lit fun g w1 hL1 hg hgs => ?_
  simp only [iw_add, iw_sub, iw_mul, iw_lss, iw_leq, iw_gtr, iw_geq, iw_eql, iw_neq, iw_quo, iw_rem, un_not, len_s, len_l, nck_p, fld_p, cv_i, unc_c, ex_0, ex_1, ex_2, st_eq, st_ne, brV_true, brV_false, brV_b, brV_not, one_one, nil_p, nil_pn, nil_n, nil_nn, decide_eq_true_eq, true_and, nb_ite, bs_size, Nat.zero_add, Bool.not_true, Bool.not_false, Bool.false_eq_true, eq_self, if_true, if_false, jn]
  refine ldC_heap hg (v := vq) rfl ((hL1.lst hv.q).len ?_)
  have hs1 := hL1.size
  refine lp_ind _ (fun (m : Nat) x w2 => ∃ o, x = [o, vq, .int .i64 r.patches.length, .int .i64 ((r.patches.length - m : Nat) : Int)] ∧ m ≤ r.patches.length ∧ w2.ownsRow w.heap.size 3 1 o (r.patches.length - m) (ix ((r.patches.map Pat.page).take (r.patches.length - m))) ∧ Later w w2) id ?_ (i := r.patches.length) ⟨.slice none 0 0, by simp, Nat.le_refl _, by simpa [ix] using World.ownsRow_nil w1 w.heap.size 3 1, hL1⟩
  rintro m x w2 rec ⟨o, rfl, hm, hr, hL2⟩ ih
  simp only [record_Touches_L3, iw_add, iw_sub, iw_mul, iw_lss, iw_leq, iw_gtr, iw_geq, iw_eql, iw_neq, iw_quo, iw_rem, un_not, len_s, len_l, nck_p, fld_p, cv_i, unc_c, ex_0, ex_1, ex_2, st_eq, st_ne, brV_true, brV_false, brV_b, brV_not, one_one, nil_p, nil_pn, nil_n, nil_nn, decide_eq_true_eq, true_and, nb_ite, bs_size, Nat.zero_add, Bool.not_true, Bool.not_false, Bool.false_eq_true, eq_self, if_true, if_false, jn]
  have hs2 := hL2.size
  by_cases h0 : m = 0
  · subst h0
    rw [if_neg (by omega)]
    rw [Nat.sub_zero, List.take_of_length_le (by simp)] at hr
    have hlm : (r.patches.map Pat.page).length = r.patches.length := by simp
    rw [← hlm] at hr
    refine sort_from hr hs2 (by rw [hlm]; omega) fun w3 hb3 hr3 _ => ?_
    have hs3 := hb3.size
    rw [← srt_length] at hr3
    refine compact_from hr3 (by omega) (by rw [srt_length, hlm]; omega) (srt_sorted _) fun v' l w4 hb4 hri hr4 _ => ?_
    exact hk v' l w4 ((hL2.trans hb3).trans hb4) ⟨hri.rise, fun x => by rw [hri.mem, srt_mem]⟩ hr4
  obtain ⟨m, rfl⟩ : ∃ q, m = q + 1 := ⟨m - 1, by omega⟩
  rw [if_pos (by omega)]
  have hlt : r.patches.length - (m + 1) < r.patches.length := by omega
  have hmi : r.patches.length - m = r.patches.length - (m + 1) + 1 := by omega
  generalize hi : r.patches.length - (m + 1) = i at *
  refine pat_at (hL2.lst hv.q) hlt fun b o' h1 h2 h3 => ldN3 h1 h2 h3 ?_
  refine al_lit fun g2 w3 hL3 hg2 hgs2 => ?_
  refine stN_heap hg2 rfl rfl (by simp [isCell]) fun w4 hg4 hs4 hb4 ho4 => ?_
  have hs3 := hL3.size
  have hL4 : Later w2 w4 := hL3.trans (hb4 _ (by omega))
  simp only [iw_add, iw_sub, iw_mul, iw_lss, iw_leq, iw_gtr, iw_geq, iw_eql, iw_neq, iw_quo, iw_rem, un_not, len_s, len_l, nck_p, fld_p, cv_i, unc_c, ex_0, ex_1, ex_2, st_eq, st_ne, brV_true, brV_false, brV_b, brV_not, one_one, nil_p, nil_pn, nil_n, nil_nn, decide_eq_true_eq, true_and, nb_ite, bs_size, Nat.zero_add, Bool.not_true, Bool.not_false, Bool.false_eq_true, eq_self, if_true, if_false, jn]
  refine ldC_heap hg4 (v := .int .i64 (r.patches[i]).page) rfl ?_
  refine blS_one rfl ?_
  have hr4 := hL4.row hr
  have hs44 := hL4.size
  refine app T_ints (hr4.alloc _) (one_int _ _) (by simp only [maxLen]; omega) (by omega) (by simp; omega) fun v5 w5 hr5 hg5 _ _ => ?_
  rw [wrap64 (by omega) (by omega)]
  refine ih m _ _ (by simp) ⟨v5, by rw [hmi]; rfl, by omega, ?_, ((hL2.tr hL4).alloc (by omega) _).grown hg5 (by simp; omega) (fun q hq => (hr.lt q hq).1)⟩
  rw [hmi, List.take_add_one, List.getElem?_map, List.getElem?_eq_getElem hlt, ix_append]
  exact hr5
end Go.Proofs.YtlicdhdpngahgaaDoor
