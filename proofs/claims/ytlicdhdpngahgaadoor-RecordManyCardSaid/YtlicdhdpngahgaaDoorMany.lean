/- Chapter 12: as many pages, patches, transactions as a record may have; one more is refused. -/
import Derived.Test.YtlicdhdpngahgaaDoorAlive
set_option linter.unusedVariables false
set_option linter.unusedSimpArgs false
namespace Go.Proofs.YtlicdhdpngahgaaDoor
open Go.Eng Go.RowKit
def tx0 : Txi := ⟨0, 0, false, []⟩
def patsTo (n : Nat) : List Pat := (List.range n).map fun k : Nat => ⟨(k : Int), 0, [112]⟩
def recM (p n t d : Nat) : Rec := ⟨7, 0, 0, 0, [], false, [], [], 0, 0, List.replicate p 0, patsTo n, List.replicate t tx0, List.replicate d (0, 0)⟩
@[simp] theorem patsTo_len (n : Nat) : (patsTo n).length = n := by simp [patsTo]
theorem patsTo_succ (n : Nat) : patsTo (n + 1) = patsTo n ++ [⟨(n : Int), 0, [112]⟩] := by simp [patsTo, List.range_succ]
theorem recM_ok {p n t d : Nat} (hn : n ≤ 60) : (recM p n t d).ok ↔ p ≤ 64 ∧ n ≤ 40 ∧ t ≤ 8 ∧ d ≤ 64 := by
  constructor
  · intro h
    obtain ⟨hk, ht, hp, hn, hkey, hold, hpg, hpl, htl, hdl, _⟩ := h
    have := hpg.1
    simp only [recM, List.length_replicate, patsTo_len] at this hpl htl hdl
    exact ⟨this, hpl, htl, hdl⟩
  · rintro ⟨h1, h2, h3, h4⟩
    refine ⟨(by decide : (1 : Int) ≤ 7 ∧ (7 : Int) ≤ 7), (by decide : in2 0), (by decide : in4 0), (by decide : in4 0), by simp [recM], .inl ⟨rfl, rfl, rfl, rfl⟩, ⟨by simpa [recM] using h1, fun x hx => ?_⟩, by simpa [recM] using h2, by simpa [recM] using h3, by simpa [recM] using h4, fun q hq => ?_, fun q hq => ?_, fun q hq => ?_⟩
    · obtain rfl := List.eq_of_mem_replicate hx; decide
    · obtain ⟨j, hj, rfl⟩ := List.mem_map.1 hq
      have := List.mem_range.1 hj
      refine ⟨?_, ?_, ?_, ?_, ?_, ?_⟩ <;> simp <;> omega
    · obtain rfl := List.eq_of_mem_replicate hq; decide
    · obtain rfl := List.eq_of_mem_replicate hq; decide
theorem patsTo_page (n : Nat) : (patsTo n).map Pat.page = (List.range n).map fun k : Nat => (k : Int) := by simp [patsTo, Function.comp_def]
theorem range_rise (n : Nat) : ((List.range n).map fun k : Nat => (k : Int)).Pairwise (· < ·) := by
  rw [List.pairwise_map]
  exact List.pairwise_lt_range.imp fun h => by omega
theorem rise_range {n : Nat} {l : List Int} (h : IsRise ((patsTo n).map Pat.page) l) : l.length = n := by
  rw [patsTo_page] at h
  have := rising_eq h.rise (range_rise n) h.mem
  rw [this]
  simp
theorem made_vx : ∀ n : Nat, (madeCells #[.int .i64 0, .int .i64 0, .bool false, .slice none 0 0] (n * 4)).toList = vx (List.replicate n (.slice none 0 0)) (List.replicate n tx0)
  | 0 => by simp [madeCells, vx]
  | n + 1 => by
    have ih := made_vx n
    simp only [madeCells, Array.toList_map, Array.toList_range] at ih ⊢
    rw [List.replicate_succ', List.replicate_succ', vx_append _ _ _ _ (by simp), ← ih, Nat.add_mul, Nat.one_mul, List.range_add, List.map_append]
    congr 1
    simp [List.range, List.range.loop, vx, tx0, Nat.mul_add_mod_self_right, Nat.add_mod]
theorem made_dx : ∀ n : Nat, (madeCells #[.int .i64 0, .int .i64 0] (n * 2)).toList = dx (List.replicate n (0, 0))
  | 0 => by simp [madeCells, dx]
  | n + 1 => by
    have ih := made_dx n
    simp only [madeCells, Array.toList_map, Array.toList_range] at ih ⊢
    rw [List.replicate_succ', dx_append, ← ih, Nat.add_mul, Nat.one_mul, List.range_add, List.map_append]
    congr 1
    simp [List.range, List.range.loop, dx, Nat.add_mod]
theorem mkN {P : Program} {t e : TypeId} {z : Value} {sz by_ : Nat} (T : SlT P t e z sz by_) {w : World} {n : Nat} {k : Value → World → Prop} (hn : n ≤ 1000) (hb : by_ ≤ 1000)
    (hk : ∀ v w', w'.ownsRow w.heap.size e sz v n (madeCells z.cells (n * sz)).toList → Later w w' → v.ownBlock = some w.heap.size → w.heap.size < w'.heap.size → k v w') : sm P (Instr.makeSlice t (.int .i64 n) (.int .i64 n)) w k := by
  obtain ⟨i, hi, hz', hs, hby⟩ := T.i
  obtain ⟨w', hr, h1, h2⟩ := run_make_full (P := P) w w.heap.size t e i z sz T.under hi hz' hs .i64 .i64 n (by rw [hby]; have : by_ * n ≤ 1000 * 1000 := Nat.mul_le_mul hb hn; omega) (by simp only [maxLen]; omega) (Nat.le_refl _)
  exact ⟨_, _, hr, hk _ _ h1 (grown_later h2) rfl (h1.lt _ rfl).2⟩
theorem mkP {w : World} {n : Nat} {k : Value → World → Prop} (hn : n ≤ 80) (hk : ∀ v w', w'.ownsRow w.heap.size 3 1 v n (ix (List.replicate n 0)) → Later w w' → v.ownBlock = some w.heap.size → w.heap.size < w'.heap.size → k v w') :
    sm Tryd.prog (Instr.makeSlice 24 (.int .i64 n) (.int .i64 n)) w k :=
  mkN T_ints (by omega) (by decide) fun v w' h => hk v w' (by
    have e : (madeCells (Value.int .i64 0).cells (n * 1)).toList = ix (List.replicate n 0) := by
      rw [Nat.mul_one, show (Value.int .i64 0).cells = #[.int .i64 0] from rfl, toList_madeCells_one]; simp [ix]
    rwa [e] at h)
theorem mkT {w : World} {n : Nat} {k : Value → World → Prop} (hn : n ≤ 80) (hk : ∀ v w', w'.ownsRow w.heap.size 41 4 v n (vx (List.replicate n (.slice none 0 0)) (List.replicate n tx0)) → Later w w' → v.ownBlock = some w.heap.size → w.heap.size < w'.heap.size → k v w') :
    sm Tryd.prog (Instr.makeSlice 26 (.int .i64 n) (.int .i64 n)) w k :=
  mkN T_txs (by omega) (by decide) fun v w' h => hk v w' (by rw [← made_vx]; exact h)
theorem mkD {w : World} {n : Nat} {k : Value → World → Prop} (hn : n ≤ 80) (hk : ∀ v w', w'.ownsRow w.heap.size 74 2 v n (dx (List.replicate n (0, 0))) → Later w w' → v.ownBlock = some w.heap.size → w.heap.size < w'.heap.size → k v w') :
    sm Tryd.prog (Instr.makeSlice 27 (.int .i64 n) (.int .i64 n)) w k :=
  mkN T_dirts (by omega) (by decide) fun v w' h => hk v w' (by rw [← made_dx]; exact h)
theorem al_lit2 {cs : Array Value} {T : TypeId} {w : World} {k : Value → World → Prop} (hk : ∀ g W, Later w W → W.heap[g]? = some (.cells cs T (0, 0)) → g = w.heap.size → w.heap.size < W.heap.size → k (.pointer (some ⟨g, 0, none⟩)) W) : alW cs T w k :=
  al_lit fun g W h1 h2 h3 => hk g W h1 h2 h3 (by have := lt_of_heap h2; omega)
theorem fill_p {i : Int} {k : Value → Prop} (hk : k (.agg #[.int .i64 i, .int .i64 0, .string ⟨#[112]⟩])) :
    fillL [(0, 1), (1, 1), (2, 1)] #[.int .i64 0, .int .i64 0, .string ⟨#[]⟩] [(0, .int .i64 i), (2, .string ⟨#[112]⟩)] k := by
  simpa [fillL, Instr.fill, Value.cells] using hk
theorem fill_recM {p t d : Nat} {vp vt vd : Value} (hp : vp.cells = #[vp]) (ht : vt.cells = #[vt]) (hd : vd.cells = #[vd]) {k : Value → Prop} (hk : k (.agg (rcells (recM p 0 t d) vp (.slice none 0 0) vt vd))) :
    fillL [(0, 1), (1, 1), (2, 1), (3, 1), (4, 1), (5, 1), (6, 4), (10, 1), (11, 1), (12, 1), (13, 1)] #[.int .i64 0, .int .i64 0, .int .i64 0, .int .i64 0, .string ⟨#[]⟩, .bool false, .string ⟨#[]⟩, .string ⟨#[]⟩, .int .i64 0, .int .i64 0, .slice none 0 0, .slice none 0 0, .slice none 0 0, .slice none 0 0]
      [(0, .int .i64 7), (7, vp), (9, vt), (10, vd)] k := by
  rw [show (.agg (rcells (recM p 0 t d) vp (.slice none 0 0) vt vd) : Value) = .agg #[.int .i64 7, .int .i64 0, .int .i64 0, .int .i64 0, .string ⟨#[]⟩, .bool false, .string ⟨#[]⟩, .string ⟨#[]⟩, .int .i64 0, .int .i64 0, vp, .slice none 0 0, vt, vd] from rfl] at hk
  simp only [fillL, Instr.fill, hp, ht, hd]
  simpa [Instr.fill, hp, ht, hd, Value.cells] using hk
end Go.Proofs.YtlicdhdpngahgaaDoor
