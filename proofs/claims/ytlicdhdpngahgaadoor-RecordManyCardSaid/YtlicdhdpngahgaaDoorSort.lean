/- A list of whole numbers sorted in its place, by the library. -/
import Derived.Test.YtlicdhdpngahgaaDoorIx
import Derived.Test.YtlicdhdpngahgaaDoorShelf
set_option linter.unusedVariables false
set_option linter.unusedSimpArgs false
namespace Go.Proofs.YtlicdhdpngahgaaDoor
open Go.Eng Go.RowKit
def srt (l : List Int) : List Int := l.mergeSort fun x y => decide (x ≤ y)
@[simp] theorem srt_length (l : List Int) : (srt l).length = l.length := List.length_mergeSort l
theorem srt_mem (l : List Int) (x : Int) : x ∈ srt l ↔ x ∈ l := (List.mergeSort_perm l _).mem_iff
theorem srt_sorted (l : List Int) : (srt l).Pairwise (· ≤ ·) := by
  have := List.pairwise_mergeSort (le := fun x y : Int => decide (x ≤ y)) (fun a b c h1 h2 => by simp at *; omega) (fun a b => by simp; omega) l
  exact this.imp fun h => of_decide_eq_true h
theorem srt_nodup {l : List Int} (h : l.Nodup) : (srt l).Nodup := ((List.mergeSort_perm l _).nodup_iff).2 h
theorem sort_from {B : Nat} {v : Value} {zs : List Int} {w : World} {k : Value → World → Prop} (h : w.ownsRow B 3 1 v zs.length (ix zs)) (hB : B ≤ w.heap.size) (hn : zs.length ≤ 1000000000)
    (hk : ∀ w', Below B w w' → w'.ownsRow B 3 1 v zs.length (ix (srt zs)) → (∀ q, q < w.heap.size → v.ownBlock ≠ some q → w'.heap[q]? = w.heap[q]?) → k (.tuple #[]) w') :
    callW Tryd.prog (.func (.func 61) #[] #[]) [v] w k := by
  refine ⟨by kernel_rfl, ?_⟩
  show Calls Tryd.prog 61 #[v] w (rt k)
  rcases h.2 with ⟨rfl, hn0⟩ | ⟨g, cap, cur, rfl, hBg, hg, hnc, hcm, hcs, htk⟩
  · refine calls_rt (Tryd.slices_Sort_int_none none 0 w) ?_
    rintro e w' ⟨rfl, rfl⟩
    refine ⟨_, rfl, hk w' (Below.refl _ _) ?_ fun _ _ _ => rfl⟩
    have hz : zs = [] := List.eq_nil_of_length_eq_zero (by simpa using hn0)
    subst hz
    simpa [srt, ix] using World.ownsRow_nil w' B 3 1
  · have hsz : (ix zs).length = zs.length := ix_length zs
    have hcell : ∀ j, j < zs.length → cur.toList[j]? = some (.int .i64 zs[j]!) := fun j hj => by
      have h1 : (ix zs)[j]? = some (.int .i64 zs[j]) := ix_get hj
      rw [← htk, List.getElem?_take, if_pos (by omega)] at h1
      rw [h1, getElem!_pos zs j hj]
    have hH : Go.Sort.Holds (Value.int .i64) w g 0 zs.toArray := by
      intro j hj
      have hj' : j < zs.length := by simpa using hj
      refine ⟨?_, heap_frozen hg⟩
      have h2 := hcell j hj'
      have e1 : (zs.toArray)[j]! = zs[j]! := by simp [getElem!_pos, hj']
      rw [Nat.zero_add, heap_cell hg, e1, ← h2, Array.getElem?_toList]
    refine calls_rt (Tryd.slices_Sort_int g 0 cap zs w hH (lt_of_heap hg) (by omega)) ?_
    rintro e w' ⟨rfl, n, os, rfl⟩
    have hgw : (Go.Sort.putRow (Value.int .i64) (Go.Sort.ahead w n) g 0 (zs.mergeSort fun x y => decide (x ≤ y)).toArray).heap.size = w.heap.size := by
      simp [Go.Sort.putRow, Go.Sort.mapBlock, Go.Sort.ahead]
    have hoth : ∀ q, q ≠ g → q < w.heap.size → (Go.Sort.grow (Go.Sort.putRow (Value.int .i64) (Go.Sort.ahead w n) g 0 (zs.mergeSort fun x y => decide (x ≤ y)).toArray) os).heap[q]? = w.heap[q]? := fun q hq hlt => by
      show (_ ++ os)[q]? = _
      rw [Array.getElem?_append_left (by rw [hgw]; exact hlt)]
      simp only [Go.Sort.putRow, Go.Sort.mapBlock, Go.Sort.ahead, Array.getElem?_modify]
      rw [if_neg (fun e => hq e.symm)]
    refine ⟨_, rfl, hk _ ⟨rfl, rfl, rfl, ?_, fun q hq => ?_⟩ ?_ fun q hq hne => ?_⟩
    · show _ ≤ (_ ++ os).size
      rw [Array.size_append, hgw]
      omega
    · exact hoth q (by omega) (by omega)
    · refine ⟨by simp, .inr ⟨g, cap, Go.Sort.putCells (Value.int .i64) 0 (srt zs).toArray cur, rfl, hBg, ?_, hnc, hcm, by simp [Go.Sort.putCells, hcs], ?_⟩⟩
      · show (_ ++ os)[g]? = _
        rw [Array.getElem?_append_left (by rw [hgw]; exact lt_of_heap hg)]
        simp only [Go.Sort.putRow, Go.Sort.mapBlock, Go.Sort.ahead, Array.getElem?_modify, if_true, hg, Option.map_some]
        rfl
      · apply List.ext_getElem?
        intro j
        rw [List.getElem?_take]
        by_cases hj : j < zs.length
        · rw [if_pos (by omega), Array.getElem?_toList]
          have h3 := hcell j hj
          rw [Array.getElem?_toList] at h3
          simp only [Go.Sort.putCells, Array.getElem?_mapIdx, h3, Option.map_some, Nat.zero_le, true_and, Nat.zero_add, Nat.sub_zero, List.size_toArray, srt_length]
          rw [if_pos hj, ix_get (by simpa using hj)]
          simp [getElem!_pos, hj]
        · rw [if_neg (by omega), List.getElem?_eq_none (by simp; omega)]
    · exact hoth q (fun e => hne (by rw [e]; rfl)) hq
/-- Rising lists with the same members are one. -/
theorem rising_eq : ∀ {a b : List Int}, a.Pairwise (· < ·) → b.Pairwise (· < ·) → (∀ x, x ∈ a ↔ x ∈ b) → a = b
  | [], [], _, _, _ => rfl
  | [], y :: b, _, _, h => by have := (h y).2 (by simp); cases this
  | x :: a, [], _, _, h => by have := (h x).1 (by simp); cases this
  | x :: a, y :: b, ha, hb, h => by
    obtain ⟨ha1, ha2⟩ := List.pairwise_cons.1 ha
    obtain ⟨hb1, hb2⟩ := List.pairwise_cons.1 hb
    have hxy : x = y := by
      rcases List.mem_cons.1 ((h x).1 (by simp)) with h1 | h1
      · exact h1
      · rcases List.mem_cons.1 ((h y).2 (by simp)) with h2 | h2
        · exact h2.symm
        · have := ha1 y h2; have := hb1 x h1; omega
    subst hxy
    congr 1
    refine rising_eq ha2 hb2 fun z => ⟨fun hz => ?_, fun hz => ?_⟩
    · rcases List.mem_cons.1 ((h z).1 (List.mem_cons_of_mem _ hz)) with h1 | h1
      · subst h1; have := ha1 z hz; omega
      · exact h1
    · rcases List.mem_cons.1 ((h z).2 (List.mem_cons_of_mem _ hz)) with h1 | h1
      · subst h1; have := hb1 z hz; omega
      · exact h1
theorem srt_rising {l : List Int} (h : l.Nodup) : (srt l).Pairwise (· < ·) := by
  have h1 := srt_sorted l
  have h2 := srt_nodup h
  rw [List.nodup_iff_pairwise_ne] at h2
  exact (h1.and h2).imp fun ⟨a, b⟩ => by omega
/-- A list rising, each once. -/
structure IsRise (l r : List Int) : Prop where
  rise : r.Pairwise (· < ·)
  mem : ∀ x, x ∈ r ↔ x ∈ l
theorem IsRise.len {l r : List Int} (h : IsRise l r) : r.length ≤ l.length := by
  have hn : r.Nodup := by rw [List.nodup_iff_pairwise_ne]; exact h.rise.imp fun h => by omega
  suffices ∀ {a m : List Int}, a.Nodup → (∀ x ∈ a, x ∈ m) → a.length ≤ m.length from this hn fun x hx => (h.mem x).1 hx
  intro a
  induction a with
  | nil => intros; exact Nat.zero_le _
  | cons x a ih =>
    intro m hn hs
    have hx := hs x List.mem_cons_self
    have h1 := ih (m := m.erase x) (List.nodup_cons.1 hn).2 fun y hy => by
      have hne : y ≠ x := fun e => by subst e; exact (List.nodup_cons.1 hn).1 hy
      exact (List.mem_erase_of_ne hne).2 (hs y (List.mem_cons_of_mem _ hy))
    rw [List.length_erase_of_mem hx] at h1
    have := List.length_pos_of_mem hx
    simp only [List.length_cons]
    omega
end Go.Proofs.YtlicdhdpngahgaaDoor
