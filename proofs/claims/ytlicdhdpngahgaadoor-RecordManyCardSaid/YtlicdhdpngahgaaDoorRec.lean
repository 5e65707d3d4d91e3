/- Log records: what they are, what they are in memory, and when they may be. -/
import Derived.Test.YtlicdhdpngahgaaDoorIx
set_option linter.unusedVariables false
set_option linter.unusedSimpArgs false
namespace Go.Proofs.YtlicdhdpngahgaaDoor
open Go.Eng Go.RowKit
structure Pat where
  page : Int
  at_ : Int
  byt : List UInt8
  deriving DecidableEq
structure Txi where
  tx : Int
  last : Int
  com : Bool
  pages : List Int
  deriving DecidableEq
structure Rec where
  kind : Int
  tx : Int
  prev : Int
  next : Int
  key : List UInt8
  had : Bool
  okey : List UInt8
  oval : List UInt8
  blob : Int
  size : Int
  pages : List Int
  patches : List Pat
  txs : List Txi
  dirty : List (Int × Int)
  deriving DecidableEq
def rec0 : Rec := ⟨0, 0, 0, 0, [], false, [], [], 0, 0, [], [], [], []⟩
/-! ### When it may be -/
def in2 (v : Int) : Prop := 0 ≤ v ∧ v ≤ 65535
def in4 (v : Int) : Prop := 0 ≤ v ∧ v ≤ 4294967295
instance (v : Int) : Decidable (in2 v) := by unfold in2; exact inferInstance
instance (v : Int) : Decidable (in4 v) := by unfold in4; exact inferInstance
def pagesOk (l : List Int) : Prop := l.length ≤ 64 ∧ ∀ n ∈ l, in2 n
instance (l : List Int) : Decidable (pagesOk l) := by unfold pagesOk; exact inferInstance
def cellOk (key val : List UInt8) (blob size : Int) : Prop := (key ≠ [] ∧ key.length ≤ 16) ∧ ((blob = 0 ∧ val.length ≤ 40 ∧ size = 0) ∨ (2 ≤ blob ∧ blob < 64 ∧ val = [] ∧ 40 < size ∧ size ≤ 400))
instance (key val : List UInt8) (blob size : Int) : Decidable (cellOk key val blob size) := by unfold cellOk; exact inferInstance
def patOk (p : Pat) : Prop := 0 ≤ p.page ∧ p.page < 64 ∧ 0 ≤ p.at_ ∧ p.at_ < 256 ∧ p.byt ≠ [] ∧ (p.byt.length : Int) ≤ 256 - p.at_
instance (p : Pat) : Decidable (patOk p) := by unfold patOk; exact inferInstance
def txOk (t : Txi) : Prop := in2 t.tx ∧ in4 t.last ∧ pagesOk t.pages
instance (t : Txi) : Decidable (txOk t) := by unfold txOk; exact inferInstance
def dirtOk (d : Int × Int) : Prop := in2 d.1 ∧ in4 d.2
instance (d : Int × Int) : Decidable (dirtOk d) := by unfold dirtOk; exact inferInstance
def Rec.ok (r : Rec) : Prop := (1 ≤ r.kind ∧ r.kind ≤ 7) ∧ in2 r.tx ∧ in4 r.prev ∧ in4 r.next ∧ r.key.length ≤ 255 ∧ ((r.okey = [] ∧ r.oval = [] ∧ r.blob = 0 ∧ r.size = 0) ∨ cellOk r.okey r.oval r.blob r.size) ∧ pagesOk r.pages ∧
  r.patches.length ≤ 40 ∧ r.txs.length ≤ 8 ∧ r.dirty.length ≤ 64 ∧ (∀ p ∈ r.patches, patOk p) ∧ (∀ t ∈ r.txs, txOk t) ∧ ∀ d ∈ r.dirty, dirtOk d
instance (r : Rec) : Decidable r.ok := by unfold Rec.ok; exact inferInstance
/-! ### In memory -/
def qx (l : List Pat) : List Value := l.flatMap fun p => [.int .i64 p.page, .int .i64 p.at_, .string (bs p.byt)]
def dx (l : List (Int × Int)) : List Value := l.flatMap fun e => [.int .i64 e.1, .int .i64 e.2]
def vx : List Value → List Txi → List Value
  | v :: ps, t :: l => .int .i64 t.tx :: .int .i64 t.last :: .bool t.com :: v :: vx ps l
  | _, _ => []
@[simp] theorem qx_length (l : List Pat) : (qx l).length = l.length * 3 := by
  induction l with
  | nil => rfl
  | cons e l ih => simp only [qx, List.flatMap_cons, List.length_append, List.length_cons, List.length_nil] at ih ⊢; omega
@[simp] theorem dx_length (l : List (Int × Int)) : (dx l).length = l.length * 2 := by
  induction l with
  | nil => rfl
  | cons e l ih => simp only [dx, List.flatMap_cons, List.length_append, List.length_cons, List.length_nil] at ih ⊢; omega
theorem vx_length : ∀ (ps : List Value) (l : List Txi), ps.length = l.length → (vx ps l).length = l.length * 4
  | [], [], _ => rfl
  | v :: ps, t :: l, h => by simp only [vx, List.length_cons] at h ⊢; rw [vx_length ps l (by omega)]; omega
theorem qx_append (a b : List Pat) : qx (a ++ b) = qx a ++ qx b := by simp [qx]
theorem dx_append (a b : List (Int × Int)) : dx (a ++ b) = dx a ++ dx b := by simp [dx]
theorem vx_append : ∀ (ps qs : List Value) (a b : List Txi), ps.length = a.length → vx (ps ++ qs) (a ++ b) = vx ps a ++ vx qs b
  | [], qs, [], b, _ => rfl
  | v :: ps, qs, t :: a, b, h => by simp only [List.cons_append, vx, List.length_cons] at h ⊢; rw [vx_append ps qs a b (by omega)]
theorem qx_get : ∀ {l : List Pat} {i : Nat} (h : i < l.length), (qx l)[i * 3]? = some (.int .i64 l[i].page) ∧ (qx l)[i * 3 + 1]? = some (.int .i64 l[i].at_) ∧ (qx l)[i * 3 + 2]? = some (.string (bs l[i].byt))
  | e :: l, 0, h => ⟨rfl, rfl, rfl⟩
  | e :: l, i + 1, h => by
    have := qx_get (l := l) (i := i) (by simpa using h)
    have e1 : qx (e :: l) = .int .i64 e.page :: .int .i64 e.at_ :: .string (bs e.byt) :: qx l := rfl
    rw [e1, show (i + 1) * 3 = i * 3 + 1 + 1 + 1 by omega, show i * 3 + 1 + 1 + 1 + 1 = (i * 3 + 1) + 1 + 1 + 1 by omega, show i * 3 + 1 + 1 + 1 + 2 = (i * 3 + 2) + 1 + 1 + 1 by omega]
    simpa using this
theorem dx_get : ∀ {l : List (Int × Int)} {i : Nat} (h : i < l.length), (dx l)[i * 2]? = some (.int .i64 l[i].1) ∧ (dx l)[i * 2 + 1]? = some (.int .i64 l[i].2)
  | e :: l, 0, h => ⟨rfl, rfl⟩
  | e :: l, i + 1, h => by
    have := dx_get (l := l) (i := i) (by simpa using h)
    have e1 : dx (e :: l) = .int .i64 e.1 :: .int .i64 e.2 :: dx l := rfl
    rw [e1, show (i + 1) * 2 = i * 2 + 1 + 1 by omega, show i * 2 + 1 + 1 + 1 = (i * 2 + 1) + 1 + 1 by omega]
    simpa using this
theorem vx_get : ∀ {ps : List Value} {l : List Txi} {i : Nat} (hp : ps.length = l.length) (h : i < l.length), (vx ps l)[i * 4]? = some (.int .i64 l[i].tx) ∧ (vx ps l)[i * 4 + 1]? = some (.int .i64 l[i].last) ∧ (vx ps l)[i * 4 + 2]? = some (.bool l[i].com) ∧ (vx ps l)[i * 4 + 3]? = ps[i]?
  | _, [], _, _, h => absurd h (Nat.not_lt_zero _)
  | [], t :: l, _, hp, _ => by simp at hp
  | v :: ps, t :: l, 0, hp, h => ⟨rfl, rfl, rfl, rfl⟩
  | v :: ps, t :: l, i + 1, hp, h => by
    have := vx_get (ps := ps) (l := l) (i := i) (by simpa using hp) (by simpa using h)
    rw [show (i + 1) * 4 = i * 4 + 1 + 1 + 1 + 1 by omega, show i * 4 + 1 + 1 + 1 + 1 + 1 = (i * 4 + 1) + 1 + 1 + 1 + 1 by omega, show i * 4 + 1 + 1 + 1 + 1 + 2 = (i * 4 + 2) + 1 + 1 + 1 + 1 by omega, show i * 4 + 1 + 1 + 1 + 1 + 3 = (i * 4 + 3) + 1 + 1 + 1 + 1 by omega]
    simpa [vx] using this
theorem qx_one (l : List Pat) : ∀ u ∈ qx l, u.oneCell' = true := by
  intro u hu
  obtain ⟨e, _, h⟩ := List.mem_flatMap.1 hu
  simp at h
  rcases h with rfl | rfl | rfl <;> rfl
theorem dx_one (l : List (Int × Int)) : ∀ u ∈ dx l, u.oneCell' = true := by
  intro u hu
  obtain ⟨e, _, h⟩ := List.mem_flatMap.1 hu
  simp at h
  rcases h with rfl | rfl <;> rfl
/-- The cells of a record whose lists are these values. -/
def rcells (r : Rec) (vp vq vt vd : Value) : Array Value :=
  #[.int .i64 r.kind, .int .i64 r.tx, .int .i64 r.prev, .int .i64 r.next, .string (bs r.key), .bool r.had, .string (bs r.okey), .string (bs r.oval), .int .i64 r.blob, .int .i64 r.size, vp, vq, vt, vd]
/-- Its lists lie in the world. -/
structure RecV (w : World) (vp vq vt vd : Value) (ps : List Value) (r : Rec) : Prop where
  p : Lst w vp r.pages.length (ix r.pages)
  q : Lst w vq r.patches.length (qx r.patches)
  t : Lst w vt r.txs.length (vx ps r.txs)
  d : Lst w vd r.dirty.length (dx r.dirty)
  n : ps.length = r.txs.length
  s : ∀ (i : Nat) (x : Txi), r.txs[i]? = some x → ∃ v, ps[i]? = some v ∧ Lst w v x.pages.length (ix x.pages)
theorem RecV.later {w w' : World} {vp vq vt vd : Value} {ps : List Value} {r : Rec} (h : RecV w vp vq vt vd ps r) (hL : Later w w') : RecV w' vp vq vt vd ps r :=
  ⟨hL.lst h.p, hL.lst h.q, hL.lst h.t, hL.lst h.d, h.n, fun i x hx => by obtain ⟨v, h1, h2⟩ := h.s i x hx; exact ⟨v, h1, hL.lst h2⟩⟩
theorem Lst.cell {w : World} {v : Value} {n : Nat} {xs : List Value} (h : Lst w v n xs) : isCell v = true ∧ v.cells = #[v] := by
  obtain ⟨p, cap, rfl, _⟩ := h
  exact ⟨rfl, rfl⟩
theorem ldN3 {w : World} {b o : Nat} {u v x : Value} {k : Value → Cells → Prop} (h1 : w.cell? ⟨b, o, none⟩ = some u) (h2 : w.cell? ⟨b, o + 1, none⟩ = some v) (h3 : w.cell? ⟨b, o + 2, none⟩ = some x) (hk : k (.agg #[u, v, x]) (cellsOf ⟨b, o, none⟩ 0 [u, v, x])) : ldN 3 (.pointer (some ⟨b, o, none⟩)) w k := by
  refine ⟨[u, v, x], rfl, ?_, hk⟩
  intro c hc
  simp only [cellsOf, List.mem_cons, List.not_mem_nil, or_false, addA, Nat.add_zero] at hc
  rcases hc with rfl | rfl | rfl
  · exact h1
  · exact h2
  · exact h3
theorem ldNp {w : World} {b o : Nat} {u v : Value} {k : Value → Cells → Prop} (h1 : w.cell? ⟨b, o, none⟩ = some u) (h2 : w.cell? ⟨b, o + 1, none⟩ = some v) (hk : k (.agg #[u, v]) (cellsOf ⟨b, o, none⟩ 0 [u, v])) : ldN 2 (.pointer (some ⟨b, o, none⟩)) w k := by
  refine ⟨[u, v], rfl, ?_, hk⟩
  intro c hc
  simp only [cellsOf, List.mem_cons, List.not_mem_nil, or_false, addA, Nat.add_zero] at hc
  rcases hc with rfl | rfl
  · exact h1
  · exact h2
theorem ldN4 {w : World} {b o : Nat} {u v x y : Value} {k : Value → Cells → Prop} (h1 : w.cell? ⟨b, o, none⟩ = some u) (h2 : w.cell? ⟨b, o + 1, none⟩ = some v) (h3 : w.cell? ⟨b, o + 2, none⟩ = some x) (h4 : w.cell? ⟨b, o + 3, none⟩ = some y) (hk : k (.agg #[u, v, x, y]) (cellsOf ⟨b, o, none⟩ 0 [u, v, x, y])) : ldN 4 (.pointer (some ⟨b, o, none⟩)) w k := by
  refine ⟨[u, v, x, y], rfl, ?_, hk⟩
  intro c hc
  simp only [cellsOf, List.mem_cons, List.not_mem_nil, or_false, addA, Nat.add_zero] at hc
  rcases hc with rfl | rfl | rfl | rfl
  · exact h1
  · exact h2
  · exact h3
  · exact h4
theorem pat_at {w : World} {v : Value} {l : List Pat} (h : Lst w v l.length (qx l)) {i : Nat} (hi : i < l.length) {k : Value → Prop}
    (hk : ∀ b o, w.cell? ⟨b, o, none⟩ = some (.int .i64 l[i].page) → w.cell? ⟨b, o + 1, none⟩ = some (.int .i64 l[i].at_) → w.cell? ⟨b, o + 2, none⟩ = some (.string (bs l[i].byt)) → k (.pointer (some ⟨b, o, none⟩))) : ixS 3 v (.int .i64 i) k := by
  refine h.atN hi (fun h0 => by have := qx_length l; rw [h0] at this; simp at this; omega) fun b o hc => hk b o ?_ (hc 1 _ (qx_get hi).2.1) (hc 2 _ (qx_get hi).2.2)
  simpa using hc 0 _ (qx_get hi).1
theorem dirt_at {w : World} {v : Value} {l : List (Int × Int)} (h : Lst w v l.length (dx l)) {i : Nat} (hi : i < l.length) {k : Value → Prop}
    (hk : ∀ b o, w.cell? ⟨b, o, none⟩ = some (.int .i64 l[i].1) → w.cell? ⟨b, o + 1, none⟩ = some (.int .i64 l[i].2) → k (.pointer (some ⟨b, o, none⟩))) : ixS 2 v (.int .i64 i) k := by
  refine h.atN hi (fun h0 => by have := dx_length l; rw [h0] at this; simp at this; omega) fun b o hc => hk b o ?_ (hc 1 _ (dx_get hi).2)
  simpa using hc 0 _ (dx_get hi).1
theorem tx_at {w : World} {v : Value} {ps : List Value} {l : List Txi} (h : Lst w v l.length (vx ps l)) (hp : ps.length = l.length) {i : Nat} (hi : i < l.length) {k : Value → Prop}
    (hk : ∀ b o, w.cell? ⟨b, o, none⟩ = some (.int .i64 l[i].tx) → w.cell? ⟨b, o + 1, none⟩ = some (.int .i64 l[i].last) → w.cell? ⟨b, o + 2, none⟩ = some (.bool l[i].com) → (∀ u, ps[i]? = some u → w.cell? ⟨b, o + 3, none⟩ = some u) → k (.pointer (some ⟨b, o, none⟩))) : ixS 4 v (.int .i64 i) k := by
  have g := vx_get hp hi
  refine h.atN hi (fun h0 => by have := vx_length ps l hp; rw [h0] at this; simp at this; omega) fun b o hc => hk b o ?_ (hc 1 _ g.2.1) (hc 2 _ g.2.2.1) (fun u hu => hc 3 _ (by rw [g.2.2.2]; exact hu))
  simpa using hc 0 _ g.1
end Go.Proofs.YtlicdhdpngahgaaDoor
