/- One world behind another: what was there is as it was. Rows, lists, and the steps of a region, each said so. -/
import Derived.Test.YtlicdhdpngahgaaDoorLib
set_option linter.unusedVariables false
set_option linter.unusedSimpArgs false
namespace Go.Eng
open Go.RowKit
/-- Nothing that was there in w has turned in w'. -/
abbrev Later (w w' : World) : Prop := Below w.heap.size w w'
theorem Later.refl (w : World) : Later w w := Below.refl _ _
theorem Later.tr {a b c : World} (h : Later a b) (k : Later b c) : Later a c := Below.trans h (Below.mono k h.size)
theorem Later.dr (w : World) : Later w w.drew := Below.drew (Below.refl _ _)
theorem Later.al (w : World) (o : Obj) : Later w (w.alloc o) := (Below.refl _ _).alloc (Nat.le_refl _) o
theorem Later.cell {w w' : World} (h : Later w w') {a : Addr} {v : Value} (hc : w.cell? a = some v) : w'.cell? a = some v := by
  rw [Below.cell h (World.block_lt_of_cell? w a hc)]; exact hc
theorem lt_of_heap {w : World} {k : Nat} {o : Obj} (h : w.heap[k]? = some o) : k < w.heap.size := (Array.getElem?_eq_some_iff.1 h).1
theorem Later.heap {w w' : World} (h : Later w w') {k : Nat} {o : Obj} (hc : w.heap[k]? = some o) : w'.heap[k]? = some o := by
  rw [h.block k (lt_of_heap hc)]; exact hc
theorem Later.row {w w' : World} (h : Later w w') {B e sz n : Nat} {v : Value} {xs : List Value} (hr : w.ownsRow B e sz v n xs) : w'.ownsRow B e sz v n xs := by
  refine ⟨hr.1, ?_⟩
  rcases hr.2 with hn | ⟨g, cap, cur, hv, hb, hg, rest⟩
  · exact .inl hn
  · exact .inr ⟨g, cap, cur, hv, hb, h.heap hg, rest⟩
theorem ownsRow_mono {w : World} {B B' e sz n : Nat} {v : Value} {xs : List Value} (hB : B' ≤ B) (hr : w.ownsRow B e sz v n xs) : w.ownsRow B' e sz v n xs := by
  refine ⟨hr.1, ?_⟩
  rcases hr.2 with hn | ⟨g, cap, cur, hv, hb, rest⟩
  · exact .inl hn
  · exact .inr ⟨g, cap, cur, hv, Nat.le_trans hB hb, rest⟩
theorem ownsRow_block {w w' : World} {B e sz n : Nat} {v : Value} {xs : List Value} (hr : w.ownsRow B e sz v n xs) (h : ∀ g, v.ownBlock = some g → w'.heap[g]? = w.heap[g]?) : w'.ownsRow B e sz v n xs := by
  refine ⟨hr.1, ?_⟩
  rcases hr.2 with hn | ⟨g, cap, cur, hv, hb, hg, rest⟩
  · exact .inl hn
  · exact .inr ⟨g, cap, cur, hv, hb, by rw [h g (by rw [hv]; rfl)]; exact hg, rest⟩
theorem ownsRow_heap {w w' : World} {B e sz n : Nat} {v : Value} {xs : List Value} (hr : w.ownsRow B e sz v n xs) (h : ∀ (q : Nat) (o : Obj), w.heap[q]? = some o → w'.heap[q]? = some o) : w'.ownsRow B e sz v n xs := by
  refine ⟨hr.1, ?_⟩
  rcases hr.2 with hn | ⟨g, cap, cur, hv, hb, hg, rest⟩
  · exact .inl hn
  · exact .inr ⟨g, cap, cur, hv, hb, h _ _ hg, rest⟩
theorem row_cell' {w : World} {B e sz n : Nat} {v : Value} {xs : List Value} (h : w.ownsRow B e sz v n xs) : isCell v = true := by
  rcases h.2 with ⟨rfl, _⟩ | ⟨g, cap, cur, rfl, _⟩ <;> rfl
theorem setCell_heap {w : World} {b i : Nat} {cs : Array Value} {T : TypeId} {fr : Nat × Nat} {u : Value} (h : w.heap[b]? = some (.cells cs T fr)) : (w.setCell ⟨b, i, none⟩ u).heap[b]? = some (.cells (cs.setIfInBounds i u) T fr) := by
  simp only [World.setCell, Array.getElem?_modify, if_true, h, Option.map_some]
  rfl
theorem grown_later {w w' : World} (h : w.grownBy w' none) : Later w w' := ⟨h.os, h.tape, h.output, h.size, fun k hk => h.block k hk (by simp)⟩

/-- A slice in which these cells stand. -/
def Lst (w : World) (v : Value) (n : Nat) (xs : List Value) : Prop :=
  ∃ p cap, v = .slice p n cap ∧ (xs = [] ∨ ∃ b o, p = some ⟨b, o, none⟩ ∧ ∀ j u, xs[j]? = some u → w.cell? ⟨b, o + j, none⟩ = some u)
theorem Later.lst {w w' : World} (h : Later w w') {v : Value} {n : Nat} {xs : List Value} (hl : Lst w v n xs) : Lst w' v n xs := by
  obtain ⟨p, cap, hv, hx⟩ := hl
  refine ⟨p, cap, hv, ?_⟩
  rcases hx with hx | ⟨b, o, hp, hc⟩
  · exact .inl hx
  · exact .inr ⟨b, o, hp, fun j u hu => h.cell (hc j u hu)⟩
theorem lst_nil (w : World) (p : Option Addr) (c : Nat) : Lst w (.slice p 0 c) 0 [] := ⟨p, c, rfl, .inl rfl⟩
theorem lst_row {w : World} {B e sz n : Nat} {v : Value} {xs : List Value} (hr : w.ownsRow B e sz v n xs) : Lst w v n xs := by
  rcases hr.2 with ⟨rfl, rfl⟩ | ⟨g, cap, cur, rfl, _, hg, _⟩
  · have : xs = [] := List.eq_nil_of_length_eq_zero (by simpa using hr.1)
    subst this
    exact lst_nil w _ _
  · refine ⟨_, cap, rfl, .inr ⟨g, 0, rfl, fun j u hu => ?_⟩⟩
    have := hr.cells (g := g) rfl j u hu
    rwa [addA] at this
/-- The cell of an element of one cell. -/
theorem Lst.at1 {w : World} {v : Value} {n : Nat} {xs : List Value} (h : Lst w v n xs) {i : Nat} {u : Value} (hu : xs[i]? = some u) (hi : i < n) {k : Value → Prop}
    (hk : ∀ a, w.cell? a = some u → a.spot = none → k (.pointer (some a))) : ixS 1 v (.int .i64 i) k := by
  obtain ⟨p, cap, rfl, hx⟩ := h
  rcases hx with rfl | ⟨b, o, rfl, hc⟩
  · simp at hu
  · refine ⟨by omega, by omega, ?_⟩
    rw [addA]
    exact hk _ (by simpa using hc i u hu) rfl
/-- .. of several. -/
theorem Lst.atN {w : World} {v : Value} {n : Nat} {xs : List Value} (h : Lst w v n xs) {i sz : Nat} (hi : i < n) (hx : xs ≠ []) {k : Value → Prop}
    (hk : ∀ b o, (∀ j u, xs[i * sz + j]? = some u → w.cell? ⟨b, o + j, none⟩ = some u) → k (.pointer (some ⟨b, o, none⟩))) : ixS sz v (.int .i64 i) k := by
  obtain ⟨p, cap, rfl, hx'⟩ := h
  rcases hx' with h0 | ⟨b, o, rfl, hc⟩
  · exact absurd h0 hx
  · refine ⟨by omega, by omega, ?_⟩
    rw [addA]
    refine hk _ _ fun j u hu => ?_
    rw [Nat.add_assoc]
    exact hc _ _ (by simpa using hu)
theorem Lst.len {w : World} {v : Value} {n : Nat} {xs : List Value} (h : Lst w v n xs) {k : Value → Prop} (hk : k (.int .i64 n)) : lenSl v k := by
  obtain ⟨p, cap, rfl, _⟩ := h
  exact hk
theorem Lst.src {P : Program} {w : World} {v : Value} {n sz : Nat} {tx e' : TypeId} {xs : List Value} (h : Lst w v n xs) (hk : P.underlying tx = some (.slice e')) (hl : xs.length = n * sz) (hsz : 0 < sz) (h1 : ∀ u ∈ xs, u.oneCell' = true) : Src P sz tx v n xs w := by
  obtain ⟨p, cap, rfl, hx⟩ := h
  by_cases hn : n = 0
  · subst hn
    have : xs = [] := List.eq_nil_of_length_eq_zero (by simpa using hl)
    subst this
    cases p with
    | none => exact Src.ofNil w hk cap
    | some a => exact Src.ofSlice w hk a 0 cap [] (by simp) (by simp) (by simp)
  · rcases hx with rfl | ⟨b, o, rfl, hc⟩
    · exact absurd hl.symm (Nat.ne_of_gt (Nat.mul_pos (Nat.pos_of_ne_zero hn) hsz))
    · exact Src.ofSlice w hk _ n cap xs hl (fun j u hu => by rw [addA]; exact hc j u hu) h1
theorem held_nil {w : World} {p : Prop} (h : p) : heldC [] w p := h
theorem held_cons {i : Nat} {cs : Cells} {C : Claims} {w w' : World} {p : Prop} (hL : Later w w') (hc : holds cs w) (h : heldC C w' p) : heldC ((i, cs) :: C) w' p :=
  ⟨fun c hm => hL.cell (hc c hm), h⟩
theorem holds1 {w : World} {a : Addr} {v : Value} (h : w.cell? a = some v) : holds [(a, v)] w := fun c hm => by
  cases hm with
  | head => exact h
  | tail _ hm => cases hm
theorem str_add {a b : List UInt8} {k : Value → Prop} (h : a.length + b.length ≤ 9223372036854775807) (hk : k (.string (bs (a ++ b)))) : strW .add (.string (bs a)) (.string (bs b)) k := by
  simp only [strW, bs_size, bs_append]
  exact ⟨h, hk⟩
/-- Some cells laid in a new block. -/
theorem blS_lit {e sz : Nat} {z : Array Value} {n : Nat} {parts : List (Nat × Value)} {w : World} {k : Value → World → Prop} (cs : Array Value)
    (hf : Instr.fill (fun i => some (i * sz, sz)) ((Array.range (n * sz)).map (z[· % z.size]!)) parts = some cs) (hs : cs.size = n * sz) (hn : n ≤ maxLen)
    (hk : ∀ v W, Later w W → W.ownsRow w.heap.size e sz v n cs.toList → v.ownBlock = some w.heap.size → k v W) : blS e sz z n parts w k := by
  unfold blS
  rw [hf]
  exact hk _ _ (Later.al _ _) (World.ownsRow_lit w cs n (Nat.le_refl _) hn hs) rfl
theorem al_lit {cs : Array Value} {T : TypeId} {w : World} {k : Value → World → Prop} (hk : ∀ g W, Later w W → W.heap[g]? = some (.cells cs T (0, 0)) → g = w.heap.size → k (.pointer (some ⟨g, 0, none⟩)) W) : alW cs T w k :=
  hk _ _ (Later.al _ _) (heap_alloc_new w _) rfl
theorem heap_cell {w : World} {g i : Nat} {cs : Array Value} {T : TypeId} {fr : Nat × Nat} (h : w.heap[g]? = some (.cells cs T fr)) : w.cell? ⟨g, i, none⟩ = cs[i]? := cell_of_row w g i cs T fr h
theorem heap_frozen {w : World} {g i : Nat} {cs : Array Value} {T : TypeId} (h : w.heap[g]? = some (.cells cs T (0, 0))) : w.frozen? ⟨g, i, none⟩ = false := by
  simp [World.frozen?, h]
/-- Block g alone has turned. -/
structure Only (g : Nat) (w w' : World) : Prop where
  size : w'.heap.size = w.heap.size
  below : ∀ B, B ≤ g → Below B w w'
  other : ∀ k, k ≠ g → w'.heap[k]? = w.heap[k]?
theorem Only.refl (g : Nat) (w : World) : Only g w w := ⟨rfl, fun _ _ => Below.refl _ _, fun _ _ => rfl⟩
theorem Only.tr {g : Nat} {a b c : World} (h : Only g a b) (k : Only g b c) : Only g a c :=
  ⟨k.size.trans h.size, fun B hB => (h.below B hB).trans (k.below B hB), fun i hi => (k.other i hi).trans (h.other i hi)⟩
theorem Only.row {g : Nat} {w w' : World} (h : Only g w w') {B e sz n : Nat} {v : Value} {xs : List Value} (hr : w.ownsRow B e sz v n xs) (hne : v.ownBlock ≠ some g) : w'.ownsRow B e sz v n xs :=
  ownsRow_block hr fun k hk => h.other k fun e => hne (by rw [hk, e])
theorem only_setCell {g i : Nat} {w : World} {u : Value} : Only g w (w.setCell ⟨g, i, none⟩ u) :=
  ⟨by simp, fun B hB => (Below.refl B w).setCell (p := ⟨g, i, none⟩) hB u, fun k hk => Below.heap_setCell _ _ _ _ hk⟩
theorem stC_heap {g i : Nat} {w : World} {cs : Array Value} {T : TypeId} {u : Value} {k : World → Prop} (h : w.heap[g]? = some (.cells cs T (0, 0))) (hi : i < cs.size) (hu : isCell u = true)
    (hk : ∀ w', w'.heap[g]? = some (.cells (cs.setIfInBounds i u) T (0, 0)) → Only g w w' → k w') : stC (.pointer (some ⟨g, i, none⟩)) u w k := by
  refine ⟨⟨cs[i], ?_⟩, ?_, hu, ?_⟩
  · rw [addA, Nat.add_zero, heap_cell h, Array.getElem?_eq_getElem hi]
  · rw [addA]; exact heap_frozen h
  · rw [addA, Nat.add_zero]
    exact hk _ (setCell_heap h) only_setCell
theorem ldC_heap {g i : Nat} {w : World} {cs : Array Value} {T : TypeId} {fr : Nat × Nat} {v : Value} {k : Value → Cells → Prop} (h : w.heap[g]? = some (.cells cs T fr)) (hv : cs[i]? = some v)
    (hk : k v [(⟨g, i, none⟩, v)]) : ldC (.pointer (some ⟨g, i, none⟩)) w k := ⟨v, by rw [heap_cell h]; exact hv, hk⟩
/-- A struct's cells, read whole. -/
theorem ldN_heap {n g : Nat} {w : World} {cs : Array Value} {T : TypeId} {fr : Nat × Nat} {k : Value → Cells → Prop} (h : w.heap[g]? = some (.cells cs T fr)) (hn : cs.size = n)
    (hk : k (.agg cs) (cellsOf ⟨g, 0, none⟩ 0 cs.toList)) : ldN n (.pointer (some ⟨g, 0, none⟩)) w k := by
  refine ⟨cs.toList, by simpa using hn, ?_, by simpa using hk⟩
  have key : ∀ (l : List Value) (i : Nat), (∀ j u, l[j]? = some u → w.cell? ⟨g, i + j, none⟩ = some u) → holds (cellsOf ⟨g, 0, none⟩ i l) w := by
    intro l
    induction l with
    | nil => intro i _ c hc; cases hc
    | cons x l ih =>
      intro i hl c hc
      rcases List.mem_cons.1 hc with rfl | hc
      · simpa [addA] using hl 0 x rfl
      · exact ih (i + 1) (fun j u hu => by
          have := hl (j + 1) u (by simpa using hu)
          rwa [show i + 1 + j = i + (j + 1) by omega]) c hc
  exact key _ 0 fun j u hu => by rw [Nat.zero_add, heap_cell h]; simpa using hu
/-- A struct's cells, written whole. -/
theorem stN_heap {n g : Nat} {w : World} {cs new : Array Value} {T : TypeId} {k : World → Prop} (h : w.heap[g]? = some (.cells cs T (0, 0))) (hn : cs.size = n) (hm : new.size = n) (hone : ∀ u ∈ new.toList, isCell u = true)
    (hk : ∀ w', w'.heap[g]? = some (.cells new T (0, 0)) → w'.heap.size = w.heap.size → (∀ B, B ≤ g → Below B w w') → (∀ k, k ≠ g → w'.heap[k]? = w.heap[k]?) → k w') : stN n (.pointer (some ⟨g, 0, none⟩)) (.agg new) w k := by
  refine ⟨hm, ?_⟩
  have key : ∀ (l : List Value) (i : Nat) (w1 : World) (c1 : Array Value), (∀ u ∈ l, isCell u = true) → w1.heap[g]? = some (.cells c1 T (0, 0)) → c1.size = i + l.length → w1.heap.size = w.heap.size → (∀ B, B ≤ g → Below B w w1) → (∀ k, k ≠ g → w1.heap[k]? = w.heap[k]?) →
      (c1.toList.take i ++ l = new.toList) → stL ⟨g, 0, none⟩ i l w1 k := by
    intro l
    induction l with
    | nil =>
      intro i w1 c1 _ h1 hs1 hsz hb ho he
      have : c1 = new := by
        apply Array.ext'
        rw [← he, List.append_nil, List.take_of_length_le]
        simp at hs1 ⊢; omega
      subst this
      exact hk w1 h1 hsz hb ho
    | cons x l ih =>
      intro i w1 c1 hone h1 hs1 hsz hb ho he
      have hi : i < c1.size := by simp at hs1; omega
      refine ⟨⟨c1[i], ?_⟩, ?_, hone x List.mem_cons_self, ?_⟩
      · rw [addA, Nat.zero_add, heap_cell h1, Array.getElem?_eq_getElem hi]
      · rw [addA]; exact heap_frozen h1
      · rw [addA, Nat.zero_add]
        refine ih (i + 1) _ (c1.setIfInBounds i x) (fun u hu => hone u (List.mem_cons_of_mem _ hu)) (setCell_heap h1) (by simp at hs1 ⊢; omega) (by simpa using hsz) (fun B hB => (hb B hB).setCell (p := ⟨g, i, none⟩) hB _) (fun k hk' => by rw [Below.heap_setCell _ _ _ _ hk']; exact ho k hk') ?_
        rw [← he]
        have hlt : i < c1.toList.length := by simpa using hi
        simp only [Array.toList_setIfInBounds]
        rw [List.take_add_one, List.take_set_of_le (Nat.le_refl _), List.getElem?_set_self hlt]
        simp
  exact key new.toList 0 w cs (fun u hu => hone u hu) h (by simp; omega) rfl (fun B _ => Below.refl _ _) (fun _ _ => rfl) (by simp)
/-- A store into a row of one's own. -/
theorem row_st {w : World} {B e n i : Nat} {v u : Value} {xs : List Value} {k : World → Prop} (hr : w.ownsRow B e 1 v n xs) (hi : i < n) (hu : isCell u = true)
    (hk : ∀ w', w'.ownsRow B e 1 v n (xs.set i u) → (∃ q, v.ownBlock = some q ∧ B ≤ q ∧ Only q w w') → k w') : ixS 1 v (.int .i64 i) fun a => stC a u w k := by
  have hl : xs.length = n := by simpa using hr.1
  rcases hr.2 with ⟨rfl, rfl⟩ | ⟨g, cap, cur, rfl, hB, hg, hnc, hcm, hcs, htake⟩
  · omega
  · refine ⟨by omega, by omega, ?_⟩
    rw [addA]
    simp only [Int.toNat_natCast, Nat.zero_add, Nat.mul_one]
    refine stC_heap hg (by omega) hu fun w' hg' ho => hk w' ⟨by simpa using hl, .inr ⟨g, cap, _, rfl, hB, hg', hnc, hcm, by simpa using hcs, ?_⟩⟩ ⟨g, rfl, hB, ho⟩
    rw [Array.toList_setIfInBounds, ← htake, Nat.mul_one, List.take_set]
theorem mkSl {P : Program} {t e : TypeId} {z : Value} {by_ : Nat} (T : SlT P t e z 1 by_) {w : World} {n : Nat} {k : Value → World → Prop} (hz : z.cells = #[z]) (hn : n ≤ 140737488355328) (hb : by_ * n ≤ 140737488355328)
    (hk : ∀ v w', w'.ownsRow w.heap.size e 1 v n (List.replicate n z) → Later w w' → v.ownBlock = some w.heap.size → k v w') : sm P (Instr.makeSlice t (.int .i64 n) (.int .i64 n)) w k := by
  obtain ⟨i, hi, hz', hs, hby⟩ := T.i
  obtain ⟨w', hr, h1, h2⟩ := run_make_full (P := P) w w.heap.size t e i z 1 T.under hi hz' hs .i64 .i64 n (by rw [hby]; omega) (by simp only [maxLen]; omega) (Nat.le_refl _)
  rw [hz, Nat.mul_one, toList_madeCells_one] at h1
  exact ⟨_, _, hr, hk _ _ h1 (grown_later h2) rfl⟩
end Go.Eng
