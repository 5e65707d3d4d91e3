/- FrameTells: the walk of the law. -/
import Derived.Test.YtlicdhdpngahgaaGreatLaw13
import Derived.Test.YtlicdhdpngahgaaGreatEq
set_option linter.unusedVariables false
set_option linter.unusedSimpArgs false
namespace Go.Proofs.YtlicdhdpngahgaaGreat
open Go.Eng Go.RowKit
theorem nil6_eq (a b : Bool) (k : Value → Prop) : nilW 6 .eql (.bool a) (.bool b) k = k (.bool (a == b)) := rfl
theorem nil6_ne (a b : Bool) (k : Value → Prop) : nilW 6 .neq (.bool a) (.bool b) k = k (.bool !(a == b)) := rfl
theorem out_eq (s : Sec) : s.out = .tuple #[.string (bs (if s.ok then s.put else [])), .bool (decide s.ok)] := by
  unfold Sec.out
  split <;> simp [*]
def sec0 : Sec := ⟨0, 0, false, []⟩
theorem secOut_eq (o : Option Sec) : secOut o = .tuple #[.agg (o.getD sec0).cells, .bool o.isSome] := by cases o <;> rfl
theorem ldC4 {g : Nat} {s : Sec} {T : TypeId} {w : World} {k : Value → Prop} (hg : w.heap[g]? = some (.cells s.cells T (0, 0))) (hk : k (.agg s.cells)) :
    ldC (.pointer (some ⟨g, 0, none⟩)) w fun t1 _ => ldC (.pointer (some ⟨g, 1, none⟩)) w fun t2 _ => ldC (.pointer (some ⟨g, 2, none⟩)) w fun t3 _ => ldC (.pointer (some ⟨g, 3, none⟩)) w fun t4 _ =>
      fillL [(0, 1), (1, 1), (2, 1), (3, 1)] #[.int .i64 0, .int .i64 0, .bool false, .string ⟨#[]⟩] [(0, t1), (1, t2), (2, t3), (3, t4)] k := by
  refine ldC_heap hg (v := .int .i64 s.epoch) rfl ?_
  refine ldC_heap hg (v := .int .i64 s.index) rfl ?_
  refine ldC_heap hg (v := .bool s.fresh) rfl ?_
  refine ldC_heap hg (v := .string (bs s.pay)) rfl ?_
  exact fill_sec hk
def bookZero : Array Value := #[.slice none 0 0, .slice none 0 0, .slice none 0 0, .slice none 0 0, .slice none 0 0, .slice none 0 0, .slice none 0 0, .slice none 0 0, .slice none 0 0, .slice none 0 0, .slice none 0 0, .slice none 0 0, .slice none 0 0, .slice none 0 0, .slice none 0 0, .slice none 0 0, .slice none 0 0, .slice none 0 0]
theorem bookZero_get (i : Nat) (h : i < 18) : bookZero[i]? = some (.slice none 0 0) := by
  have e : bookZero = Array.replicate 18 (.slice none 0 0) := rfl
  rw [e, Array.getElem?_replicate, if_pos h]
theorem TB.empty {B gb : Nat} {w : World} (hg : w.heap[gb]? = some (.cells bookZero 46 (0, 0))) (hB : B ≤ gb) : TB B gb (fun q => q = gb) [] bookZero (.slice none 0 0) (.slice none 0 0) [] w where
  at_ := hg
  size := rfl
  c2 := rfl
  c3 := rfl
  rest := fun i h _ _ => bookZero_get i h
  base := hB
  fgb := rfl
  lrow := World.ownsRow_nil _ _ _ _
  lne := by simp [Value.ownBlock]
  lf := by simp [Value.ownBlock]
  wrow := World.ownsRow_nil _ _ _ _
  wne := by simp [Value.ownBlock]
  wf := by simp [Value.ownBlock]
  lw := by simp [Value.ownBlock]
  was := by simp
  rows := by simp
  apart := by simp
/-- A list that is lent lies in blocks below n, but not in gb. -/
theorem lent_kept {w w' : World} {v : Value} {l : List (List UInt8)} (h : Lent w v l) (hs : ∀ q o, v.ownBlock = some q → w.heap[q]? = some o → w'.heap[q]? = some o) : Lent w' v l := by
  obtain ⟨b, o, cap, rfl, hc, hx⟩ := h
  refine ⟨b, o, cap, rfl, hc, fun j u hu => ?_⟩
  have h1 := hx j u hu
  unfold World.cell? at h1 ⊢
  simp only [] at h1 ⊢
  cases hq : w.heap[b]? with
  | none => rw [hq] at h1; cases h1
  | some ob => rw [hq] at h1; rw [hs b ob rfl hq]; exact h1
theorem lent_block {w : World} {v : Value} {l : List (List UInt8)} (h : Lent w v l) : ∀ q, v.ownBlock = some q → q < w.heap.size := by
  obtain ⟨b, o, cap, rfl, hc, hx⟩ := h
  intro q hq
  simp [Value.ownBlock] at hq
  subst hq
  have := hx l.length (.string (bs mark)) (by simp [tx])
  exact World.block_lt_of_cell? w _ this
theorem cuts_len : ∀ (n : Nat) (e i : Int) (f : Bool) (b : List UInt8) (out : List (List UInt8)), cuts n e i f b = some out → out.length ≤ n
  | 0, e, i, f, b, out, h => by
    simp only [cuts] at h
    injection h with h
    subst h
    exact Nat.le_refl _
  | n + 1, e, i, f, b, out, h => by
    rw [cuts] at h
    split at h
    · injection h with h
      subst h
      exact Nat.zero_le _
    · split at h
      · cases hc : cuts n e (i + 1) false (b.drop 56) with
        | none => rw [hc] at h; cases h
        | some o =>
          rw [hc] at h
          injection h with h
          subst h
          have := cuts_len n e (i + 1) false (b.drop 56) o hc
          simp
          omega
      · cases h
theorem batch_len (e i : Int) (l : List (List UInt8)) : ((batch e i l).getD []).length ≤ lens l := by
  unfold batch
  split
  · exact Nat.zero_le _
  · cases hc : cuts (strm l).length e i true (strm l) with
    | none => exact Nat.zero_le _
    | some o => exact Nat.le_trans (cuts_len _ _ _ _ _ _ hc) (strm_le l)
theorem Batch_u {e i : Int} {l : List (List UInt8)} {v : Value} {w : World} {k : Value → World → Prop} (hv : Lst w v l.length (tx l)) (hsum : lens l ≤ 140737488355)
    (hk : ∀ v' w', Later w w' → w'.ownsRow w.heap.size 9 1 v' ((batch e i l).getD []).length (tx ((batch e i l).getD [])) → k (.tuple #[v', .bool (batch e i l).isSome]) w') :
    callW Tryz.prog (.func (.func 11) #[] #[]) [.int .i64 e, .int .i64 i, v] w k :=
  Batch_from hv hsum (fun h w' hL => by have := hk (.slice none 0 0) w' hL; rw [h] at this; exact this (World.ownsRow_nil _ _ _ _)) (fun out h v' w' hL hr => by have := hk v' w' hL; rw [h] at this; exact this hr)
theorem SBatch_u {e i : Int} {l : List (List UInt8)} {v : Value} {w : World} {k : Value → World → Prop} (hi : -9223372036854775808 ≤ i ∧ i ≤ 9223372036854775807) (hv : Lst w v l.length (tx l)) (hsum : lens l ≤ 140737488355)
    (hk : ∀ v' w', Later w w' → w'.ownsRow w.heap.size 9 1 v' ((batch e i l).getD []).length (tx ((batch e i l).getD [])) → k (.tuple #[v', .bool (batch e i l).isSome]) w') :
    callW Tryz.prog (.func (.func 12) #[] #[]) [.int .i64 e, .int .i64 i, v] w k :=
  honeycombref1_Batch_call (SBatch_spec hi hv hsum (fun h w' hL => by have := hk (.slice none 0 0) w' hL; rw [h] at this; exact this (World.ownsRow_nil _ _ _ _)) (fun out h v' w' hL hr => by have := hk v' w' hL; rw [h] at this; exact this hr))
theorem scn_len : ∀ (l : List (List UInt8)) (s : Scn), (scnGo s l).b.length + (scnGo s l).l.length ≤ s.b.length + s.l.length + 56 * l.length
  | [], s => Nat.le_refl _
  | b :: l, s => by
    rw [scnGo]
    cases h : s.take b with
    | none => simp only []; omega
    | some s' =>
      have h1 := scn_len l s'
      have h2 := (take_size h).1
      simp only [List.length_cons]
      omega
end Go.Proofs.YtlicdhdpngahgaaGreat
