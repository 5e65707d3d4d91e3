/- Rows of one-cell elements that begin anywhere in a block of one's own: cut at either end, read, appended to. -/
import Derived.Test.YtlicdhdpngahgaaLater
set_option linter.unusedVariables false
set_option linter.unusedSimpArgs false
namespace Go.Eng
open Go.RowKit
/-- A slice of the call's own, whose first cell is cell o of block g. -/
def AtRow (w : World) (B e : Nat) (v : Value) (n : Nat) (xs : List Value) : Prop :=
  xs.length = n ∧ ∃ g o cap cur, v = .slice (some ⟨g, o, none⟩) n cap ∧ B ≤ g ∧ w.heap[g]? = some (.cells cur e (0, 0)) ∧ n ≤ cap ∧ cap ≤ maxLen ∧ o + cap ≤ cur.size ∧ (cur.toList.drop o).take n = xs
theorem AtRow.ofRow {w : World} {B e n : Nat} {v : Value} {xs : List Value} (h : w.ownsRow B e 1 v n xs) (hv : v.ownBlock ≠ none) : AtRow w B e v n xs := by
  refine ⟨by simpa using h.1, ?_⟩
  rcases h.2 with ⟨rfl, _⟩ | ⟨g, cap, cur, rfl, hB, hg, h1, h2, h3, h4⟩
  · exact absurd rfl hv
  · exact ⟨g, 0, cap, cur, rfl, hB, hg, h1, h2, by omega, by simpa using h4⟩
theorem AtRow.lt {w : World} {B e n : Nat} {v : Value} {xs : List Value} (h : AtRow w B e v n xs) : ∀ q, v.ownBlock = some q → B ≤ q ∧ q < w.heap.size := by
  obtain ⟨_, g, o, cap, cur, rfl, hB, hg, _⟩ := h
  intro q hq
  simp [Value.ownBlock] at hq
  subst hq
  exact ⟨hB, lt_of_heap hg⟩
theorem AtRow.block {w w' : World} {B e n : Nat} {v : Value} {xs : List Value} (h : AtRow w B e v n xs) (hs : ∀ q, v.ownBlock = some q → w'.heap[q]? = w.heap[q]?) : AtRow w' B e v n xs := by
  obtain ⟨h0, g, o, cap, cur, rfl, hB, hg, rest⟩ := h
  exact ⟨h0, g, o, cap, cur, rfl, hB, by rw [hs g rfl]; exact hg, rest⟩
theorem AtRow.cells {w : World} {B e n : Nat} {v : Value} {xs : List Value} (h : AtRow w B e v n xs) : ∃ g o cap, v = .slice (some ⟨g, o, none⟩) n cap ∧ n ≤ cap ∧ ∀ j u, xs[j]? = some u → w.cell? ⟨g, o + j, none⟩ = some u := by
  obtain ⟨h0, g, o, cap, cur, rfl, hB, hg, h1, h2, h3, h4⟩ := h
  refine ⟨g, o, cap, rfl, h1, fun j u hu => ?_⟩
  have hj := (List.getElem?_eq_some_iff.1 hu).1
  rw [heap_cell hg, ← hu, ← h4, List.getElem?_take, if_pos (by omega), List.getElem?_drop, Array.getElem?_toList]
theorem AtRow.lst {w : World} {B e n : Nat} {v : Value} {xs : List Value} (h : AtRow w B e v n xs) : Lst w v n xs := by
  obtain ⟨g, o, cap, rfl, _, hc⟩ := h.cells
  exact ⟨_, cap, rfl, .inr ⟨g, o, rfl, hc⟩⟩
/-- Without its last one. -/
theorem AtRow.init {w : World} {B e n : Nat} {v : Value} {xs : List Value} {x : Value} (h : AtRow w B e v (n + 1) (xs ++ [x])) {k : Value → Prop} (hk : ∀ v', AtRow w B e v' n xs → v'.ownBlock = v.ownBlock → k v') :
    slSl 1 v none (some (.int .i64 n)) none k := by
  obtain ⟨h0, g, o, cap, cur, rfl, hB, hg, h1, h2, h3, h4⟩ := h
  simp only [slSl, natO, Int.toNat_natCast, Nat.sub_zero, Nat.zero_mul]
  refine ⟨by omega, by omega, .inr (by omega), hk _ ?_ ?_⟩
  · have he : (if cap = 0 then some (⟨g, o, none⟩ : Addr) else Option.map (fun x : Addr => x.add 0) (some (⟨g, o, none⟩ : Addr))) = some ⟨g, o, none⟩ := by split <;> rfl
    rw [he]
    have hx : xs.length = n := by simpa using h0
    refine ⟨hx, g, o, cap, cur, rfl, hB, hg, by omega, h2, h3, ?_⟩
    have := congrArg (List.take n) h4
    rw [List.take_take, Nat.min_eq_left (by omega)] at this
    rw [this, List.take_left' hx]
  · split <;> simp [Value.ownBlock, addA]
/-- Without its first one. -/
theorem AtRow.tail {w : World} {B e n : Nat} {v : Value} {xs : List Value} {x : Value} (h : AtRow w B e v (n + 1) (x :: xs)) {k : Value → Prop} (hk : ∀ v', AtRow w B e v' n xs → v'.ownBlock = v.ownBlock → k v') :
    slSl 1 v (some (.int .i64 1)) none none k := by
  obtain ⟨h0, g, o, cap, cur, rfl, hB, hg, h1, h2, h3, h4⟩ := h
  simp only [slSl, natO]
  refine ⟨by decide, by simp, .inl trivial, ?_⟩
  have e1 : (Int.toNat 1) = 1 := rfl
  rw [e1]
  have hx : xs.length = n := by simpa using h0
  refine hk _ ?_ ?_
  · by_cases hc : cap = 1
    · subst hc
      obtain rfl : n = 0 := by omega
      obtain rfl : xs = [] := List.eq_nil_of_length_eq_zero hx
      exact ⟨rfl, g, o, 0, cur, rfl, hB, hg, Nat.le_refl _, Nat.zero_le _, by omega, by simp⟩
    · rw [if_neg hc]
      refine ⟨hx, g, o + 1, cap - 1, cur, by simp [addA], hB, hg, by omega, by omega, by omega, ?_⟩
      have hl : o < cur.toList.length := by simp; omega
      rw [List.drop_eq_getElem_cons hl, List.take_succ_cons] at h4
      exact (List.cons.inj h4).2
  · split <;> simp [Value.ownBlock, addA]
theorem take_set {cur : List Value} {o n : Nat} {xs news : List Value} (h : (cur.drop o).take n = xs) (hn : xs.length = n) (hl : o + (n + news.length) ≤ cur.length) :
    ((cur.take (o + n) ++ news ++ cur.drop (o + n + news.length)).drop o).take (n + news.length) = xs ++ news := by
  have h1 : (cur.take (o + n)).length = o + n := by simp; omega
  rw [List.append_assoc, List.drop_append_of_le_length (by omega), List.drop_take]
  have h2 : List.take (o + n - o) (List.drop o cur) = xs := by rw [show o + n - o = n by omega, h]
  rw [h2, ← List.append_assoc, List.take_left' (by simp; omega)]
/-- What is owned, wherever it begins, grows by what a source yields. -/
theorem AtRow.app {P : Program} {t tx e ty : TypeId} {z : Value} {by_ : Nat} (T : SlT P t e z 1 by_) {w : World} {B n m : Nat} {v x : Value} {xs news : List Value} {k : Value → World → Prop}
    (hown : AtRow w B e v n xs) (hs : Src P 1 tx x m news w) (hmax : n + m ≤ maxLen) (hby : (n + m) * by_ ≤ 140737488355328) (hB : B ≤ w.heap.size)
    (hk : ∀ v' w', AtRow w' B e v' (n + m) (xs ++ news) → w.grownBy w' v.ownBlock → (v'.ownBlock = v.ownBlock ∨ v'.ownBlock = some w.heap.size) → k v' w') : sm P (bi .append #[t, tx] ty [v, x]) w k := by
  obtain ⟨i, hi, hz, hsz, rfl⟩ := T.i
  have ht := T.under
  have hzs := T.cells
  have hnl : news.length = m := by simpa using hs.newsLen
  obtain ⟨hxl, g, o, cap, cur, rfl, hBg, hg, hnc, hcm, hos, htk⟩ := hown
  have h63 : ((n + m : Nat) : Int) ≤ 9223372036854775807 := by simp only [maxLen] at hmax; omega
  by_cases hroom : n + m ≤ cap
  · have hst := run_storeCells_at P g (o + n) e news 0 cur w hg (by omega) hs.one
    simp only [Nat.add_zero] at hst
    have hr : (Builtin.append_ #[t, tx] ty #[.slice (some ⟨g, o, none⟩) n cap, x]).run P w =
        .ok (.slice (some ⟨g, o, none⟩) (n + m) cap) (w.setRow g (cur.toList.take (o + n) ++ news ++ cur.toList.drop (o + n + news.length)).toArray) := by
      have hc := hs.cells
      rcases hs.kind with ⟨e', hk⟩ | hk <;>
        simp [Builtin.append_, run_underlying ht, run_underlying hk, sizeOf, typeInfo, hi, hsz, hs.len, hroom, hc, addA, hst]
    refine ⟨_, _, hr, hk _ _ ⟨by simp; omega, g, o, cap, _, rfl, hBg, setRow_heap w g cur _ e _ hg, hroom, hcm, ?_, ?_⟩ ⟨rfl, rfl, rfl, by simp, fun k hk _ => ?_⟩ (.inl rfl)⟩
    · simp only [List.size_toArray, List.length_append, List.length_take, List.length_drop, Array.length_toList]
      omega
    · rw [← hnl]
      exact take_set htk hxl (by simp; omega)
    · exact setRow_other w g k _ (fun e => by subst e; simp [Value.ownBlock] at *)
  · have holds : ∀ j u, xs[j]? = some u → w.cell? ((⟨g, o, none⟩ : Addr).add j) = some u := fun j u hu => by
      have hj := (List.getElem?_eq_some_iff.1 hu).1
      rw [addA, heap_cell hg, ← hu, ← htk, List.getElem?_take, if_pos (by omega), List.getElem?_drop, Array.getElem?_toList]
    have hfirst := run_firstCells_some (P := P) w.drew i.size n ⟨g, o, none⟩ n cap xs (by rw [hsz]; omega) (by simpa using holds)
    have hr := run_append_grow_src (P := P) w t tx ty e i z ht hi hz (some ⟨g, o, none⟩) n cap xs hfirst x m news (by rw [hsz]; exact hs) (by omega) h63 (growslice_fits (by omega) hby)
    have hge := grownCap_ge w (n + m) cap e
    have hcm' : grownCap w (n + m) cap e ≤ maxLen := grownCap_le_maxLen w (n + m) cap e hmax
    refine ⟨_, _, hr, hk _ _ ⟨by simp; omega, w.heap.size, 0, _, _, rfl, hB, heap_alloc_new w.drew _, hge, hcm', ?_, ?_⟩ ⟨rfl, rfl, rfl, by simp, fun k hk _ => heap_alloc_old w.drew _ k hk⟩ (.inr rfl)⟩
    · simp only [Array.size_append, List.size_toArray, size_zeroCells, hzs, List.length_append]
      omega
    · simp only [Array.toList_append, List.drop_zero]
      rw [List.take_left' (by simp; omega)]
end Go.Eng
