/- A log record that came in: what is read of it. -/
import Derived.Test.YtlicdhdpngahgaaDoorLight
import Derived.ProofKit
import Derived.OpenShut
import Derived.Lib.SmallJoins
import Derived.Deep.Slices
set_option linter.unusedVariables false
set_option linter.unusedSimpArgs false
namespace Go.Proofs.YtlicdhdpngahgaaDoor
open Go.Eng Go.ChangeShapes Go.WideShapes Go.RowKit
section
variable {H : Type} {enc : TypeId × Value → H} {P : Program} {W : World} {sp : Nat → Bool} {held : Bool}
theorem flat_cells {α : Type} {f : α → List Value} {n : Nat} (h : ∀ x, (f x).length = n) (l : List α) : (l.flatMap f).length = l.length * n := by
  induction l with
  | nil => simp
  | cons x l ih => rw [List.flatMap_cons, List.length_append, h, ih, List.length_cons, Nat.add_mul]; omega
/-- A slice of whatever is read element by element. -/
theorem open_list {α : Type} (f : α → List Value) (F : α → Prop) {t e : TypeId} {n fuel : Nat} {v : Value} {y : DataW H × List MemPlace} (ht : P.underlying t = some (.slice e)) (hC : P.cellsOf e = n) (hn0 : 0 < n) (hf : ∀ x, (f x).length = n)
    (one : ∀ (m : Nat) (cs : List Value) (y : DataW H × List MemPlace), cs.length = n → DataW.trod enc P W 0 sp held m e cs = some y → ∃ x, cs = f x ∧ F x)
    (h : DataW.trod enc P W 0 sp held fuel t [v] = some y) : ∃ l : List α, Lst W v l.length (l.flatMap f) ∧ (∀ x ∈ l, F x) ∧ l.length ≤ maxLen := by
  rcases Go.Deep.open_slice ht h with ⟨hcs, _⟩ | ⟨a, len, cap, m, q, D, Pl, hcs, _, hl, hcap, hm, _, hx⟩
  · obtain rfl := (List.cons.inj hcs).1
    exact ⟨[], lst_nil _ _ _, by simp, by simp⟩
  · obtain rfl := (List.cons.inj hcs).1
    have hle : len ≤ m := by rw [hm]; split <;> omega
    rw [hC] at hx
    have cells : ∀ j, j < len → ∃ x, F x ∧ ∀ i u, (f x)[i]? = some u → W.cell? ((a.add (j * n)).add i) = some u := fun j hj => by
      obtain ⟨cs', h1, h2⟩ := hx j (by omega)
      obtain ⟨hb, hlc, hcc⟩ := World.cells?_some h1
      obtain ⟨x, rfl, hF⟩ := one _ _ _ hlc h2
      refine ⟨x, hF, fun i u hu => ?_⟩
      have hi : i < n := by rw [← hf x]; exact (List.getElem?_eq_some_iff.1 hu).1
      rw [hcc i hi, hu]
    by_cases hz : len = 0
    · subst hz
      exact ⟨[], ⟨_, _, rfl, .inl rfl⟩, by simp, by simp⟩
    obtain ⟨b, o, spot⟩ := a
    have hspot : spot = none := by
      obtain ⟨x, _, hc⟩ := cells 0 (by omega)
      have hx0 : 0 < (f x).length := by rw [hf]; exact hn0
      have := hc 0 _ (List.getElem?_eq_getElem hx0)
      simpa [Addr.add] using World.cell?_spot this
    subst hspot
    have build : ∀ k, k ≤ len → ∃ l : List α, l.length = k ∧ (∀ x ∈ l, F x) ∧ ∀ j u, (l.flatMap f)[j]? = some u → W.cell? ⟨b, o + j, none⟩ = some u := by
      intro k
      induction k with
      | zero => exact fun _ => ⟨[], rfl, by simp, by simp⟩
      | succ k ih =>
        intro hk
        obtain ⟨l, h1, h2, h3⟩ := ih (by omega)
        obtain ⟨x, hF, hc⟩ := cells k (by omega)
        refine ⟨l ++ [x], by simp [h1], fun z hz => ?_, fun j u hu => ?_⟩
        · rcases List.mem_append.1 hz with hz | hz
          · exact h2 z hz
          · simp at hz; subst hz; exact hF
        · rw [List.flatMap_append] at hu
          have hfl := flat_cells hf l
          by_cases hj : j < (l.flatMap f).length
          · rw [List.getElem?_append_left hj] at hu
            exact h3 j u hu
          · rw [List.getElem?_append_right (by omega), hfl, h1] at hu
            rw [hfl, h1] at hj
            have := hc (j - k * n) u (by simpa using hu)
            rw [addA, addA] at this
            rw [show o + j = o + k * n + (j - k * n) by omega]
            exact this
    obtain ⟨l, h1, h2, h3⟩ := build len (Nat.le_refl _)
    exact ⟨l, ⟨_, _, by rw [h1], .inr ⟨b, o, rfl, h3⟩⟩, h2, by omega⟩
/-- A struct, field by field. -/
theorem open_fields {t : TypeId} {fs : Array Field} {L : List (Nat × TypeId)} {fuel : Nat} {cs : List Value} {y : DataW H × List MemPlace} (ht : P.underlying t = some (.struct fs)) (hL : fs.toList.map (fun f => (f.offset, f.type)) = L)
    (h : DataW.trod enc P W 0 sp held fuel t cs = some y) : ∃ n, ∀ (i o : Nat) (e : TypeId), L[i]? = some (o, e) → ∃ y, DataW.trod enc P W 0 sp held n e ((cs.drop o).take (P.cellsOf e)) = some y := by
  obtain ⟨xs, n, _, _, _, hxl, hx⟩ := DataW.trod_struct ht h
  refine ⟨n, fun i o e hi => ?_⟩
  rw [← hL, List.getElem?_map, Option.map_eq_some_iff] at hi
  obtain ⟨f, hf, he⟩ := hi
  have hf' : fs[i]? = some f := by simpa using hf
  have hlt : i < xs.length := by rw [hxl]; exact (Array.getElem?_eq_some_iff.1 hf').1
  have := hx i f hf'
  simp only [Prod.mk.injEq] at he
  rw [he.1, he.2, List.getElem?_eq_getElem hlt] at this
  exact ⟨_, this⟩
def pc (p : Pat) : List Value := [.int .i64 p.page, .int .i64 p.at_, .string (bs p.byt)]
def dc (e : Int × Int) : List Value := [.int .i64 e.1, .int .i64 e.2]
def tc (x : Txi × Value) : List Value := [.int .i64 x.1.tx, .int .i64 x.1.last, .bool x.1.com, x.2]
theorem vx_zip : ∀ l : List (Txi × Value), l.flatMap tc = vx (l.map (·.2)) (l.map (·.1))
  | [] => rfl
  | x :: l => by rw [List.flatMap_cons, vx_zip l]; rfl
/-- What is asked of the program's types. -/
structure RecTy (P : Program) : Prop where
  int : P.underlying 3 = some (.int .i64)
  bool : P.underlying 4 = some .bool
  str : P.underlying 9 = some .string
  ints : P.underlying 24 = some (.slice 3)
  pats : P.underlying 25 = some (.slice 39)
  txs : P.underlying 26 = some (.slice 41)
  dirts : P.underlying 27 = some (.slice 74)
  pat : ∃ fs, P.underlying 39 = some (.struct fs) ∧ fs.toList.map (fun f => (f.offset, f.type)) = [(0, 3), (1, 3), (2, 9)]
  tx : ∃ fs, P.underlying 41 = some (.struct fs) ∧ fs.toList.map (fun f => (f.offset, f.type)) = [(0, 3), (1, 3), (2, 4), (3, 24)]
  dirt : ∃ fs, P.underlying 74 = some (.struct fs) ∧ fs.toList.map (fun f => (f.offset, f.type)) = [(0, 3), (1, 3)]
  cell : ∃ fs, P.underlying 23 = some (.struct fs) ∧ fs.toList.map (fun f => (f.offset, f.type)) = [(0, 9), (1, 9), (2, 3), (3, 3)]
  rcd : ∃ fs, P.underlying 29 = some (.struct fs) ∧ fs.toList.map (fun f => (f.offset, f.type)) = [(0, 3), (1, 3), (2, 3), (3, 3), (4, 9), (5, 4), (6, 23), (10, 24), (11, 25), (12, 26), (13, 27)]
  c1 : P.cellsOf 3 = 1
  c2 : P.cellsOf 4 = 1
  c3 : P.cellsOf 9 = 1
  c4 : P.cellsOf 24 = 1
  c5 : P.cellsOf 25 = 1
  c6 : P.cellsOf 26 = 1
  c7 : P.cellsOf 27 = 1
  c8 : P.cellsOf 39 = 3
  c9 : P.cellsOf 41 = 4
  c10 : P.cellsOf 74 = 2
  c11 : P.cellsOf 23 = 4
  c12 : P.cellsOf 29 = 14
theorem rd_int (T : RecTy P) {n : Nat} {v : Value} {y : DataW H × List MemPlace} (h : DataW.trod enc P W 0 sp held n 3 [v] = some y) : ∃ x, v = .int .i64 x := by
  obtain ⟨x, e, _⟩ := DataW.trod_int T.int h
  exact ⟨x, (List.cons.inj e).1⟩
theorem rd_bool (T : RecTy P) {n : Nat} {v : Value} {y : DataW H × List MemPlace} (h : DataW.trod enc P W 0 sp held n 4 [v] = some y) : ∃ x, v = .bool x := by
  obtain ⟨x, e, _⟩ := DataW.trod_bool T.bool h
  exact ⟨x, (List.cons.inj e).1⟩
theorem rd_str (T : RecTy P) {n : Nat} {v : Value} {y : DataW H × List MemPlace} (h : DataW.trod enc P W 0 sp held n 9 [v] = some y) : ∃ x, v = .string (bs x) := by
  obtain ⟨x, e, _⟩ := DataW.trod_string T.str h
  obtain ⟨b, rfl⟩ := bs_surj x
  exact ⟨b, (List.cons.inj e).1⟩
theorem flat_ix : ∀ l : List Int, l.flatMap (fun x : Int => [Value.int .i64 x]) = ix l
  | [] => rfl
  | x :: l => by rw [List.flatMap_cons, flat_ix l]; simp [ix]
theorem rd_ints (T : RecTy P) {n : Nat} {v : Value} {y : DataW H × List MemPlace} (h : DataW.trod enc P W 0 sp held n 24 [v] = some y) : ∃ l : List Int, Lst W v l.length (ix l) ∧ l.length ≤ maxLen := by
  obtain ⟨l, h1, _, h3⟩ := open_list (fun x : Int => [Value.int .i64 x]) (fun _ => True) T.ints T.c1 (by decide) (fun _ => rfl) (fun m cs y hl h => by
    match cs, hl with
    | [v], _ =>
      obtain ⟨x, rfl⟩ := rd_int T h
      exact ⟨x, rfl, trivial⟩) h
  refine ⟨l, ?_, h3⟩
  rwa [flat_ix l] at h1
theorem rd_pats (T : RecTy P) {n : Nat} {v : Value} {y : DataW H × List MemPlace} (h : DataW.trod enc P W 0 sp held n 25 [v] = some y) : ∃ l : List Pat, Lst W v l.length (qx l) ∧ l.length ≤ maxLen := by
  obtain ⟨fs, hs, hL⟩ := T.pat
  obtain ⟨l, h1, _, h3⟩ := open_list pc (fun _ => True) T.pats T.c8 (by decide) (fun _ => rfl) (fun m cs y hl h => by
    obtain ⟨n, hx⟩ := open_fields hs hL h
    match cs, hl with
    | [u0, u1, u2], _ =>
      obtain ⟨_, e0⟩ := hx 0 _ _ rfl
      obtain ⟨_, e1⟩ := hx 1 _ _ rfl
      obtain ⟨_, e2⟩ := hx 2 _ _ rfl
      rw [T.c1] at e0 e1
      rw [T.c3] at e2
      obtain ⟨x0, rfl⟩ := rd_int T e0
      obtain ⟨x1, rfl⟩ := rd_int T e1
      obtain ⟨x2, rfl⟩ := rd_str T e2
      exact ⟨⟨x0, x1, x2⟩, rfl, trivial⟩) h
  exact ⟨l, h1, h3⟩
theorem rd_dirts (T : RecTy P) {n : Nat} {v : Value} {y : DataW H × List MemPlace} (h : DataW.trod enc P W 0 sp held n 27 [v] = some y) : ∃ l : List (Int × Int), Lst W v l.length (dx l) ∧ l.length ≤ maxLen := by
  obtain ⟨fs, hs, hL⟩ := T.dirt
  obtain ⟨l, h1, _, h3⟩ := open_list dc (fun _ => True) T.dirts T.c10 (by decide) (fun _ => rfl) (fun m cs y hl h => by
    obtain ⟨n, hx⟩ := open_fields hs hL h
    match cs, hl with
    | [u0, u1], _ =>
      obtain ⟨_, e0⟩ := hx 0 _ _ rfl
      obtain ⟨_, e1⟩ := hx 1 _ _ rfl
      rw [T.c1] at e0 e1
      obtain ⟨x0, rfl⟩ := rd_int T e0
      obtain ⟨x1, rfl⟩ := rd_int T e1
      exact ⟨(x0, x1), rfl, trivial⟩) h
  exact ⟨l, h1, h3⟩
theorem rd_txs (T : RecTy P) {n : Nat} {v : Value} {y : DataW H × List MemPlace} (h : DataW.trod enc P W 0 sp held n 26 [v] = some y) :
    ∃ (l : List Txi) (ps : List Value), Lst W v l.length (vx ps l) ∧ ps.length = l.length ∧ (∀ (i : Nat) (x : Txi), l[i]? = some x → ∃ u, ps[i]? = some u ∧ Lst W u x.pages.length (ix x.pages)) ∧ l.length ≤ maxLen ∧ ∀ x ∈ l, x.pages.length ≤ maxLen := by
  obtain ⟨fs, hs, hL⟩ := T.tx
  obtain ⟨l, h1, h2, h3⟩ := open_list tc (fun x => Lst W x.2 x.1.pages.length (ix x.1.pages) ∧ x.1.pages.length ≤ maxLen) T.txs T.c9 (by decide) (fun _ => rfl) (fun m cs y hl h => by
    obtain ⟨n, hx⟩ := open_fields hs hL h
    match cs, hl with
    | [u0, u1, u2, u3], _ =>
      obtain ⟨_, e0⟩ := hx 0 _ _ rfl
      obtain ⟨_, e1⟩ := hx 1 _ _ rfl
      obtain ⟨_, e2⟩ := hx 2 _ _ rfl
      obtain ⟨_, e3⟩ := hx 3 _ _ rfl
      rw [T.c1] at e0 e1
      rw [T.c2] at e2
      rw [T.c4] at e3
      obtain ⟨x0, rfl⟩ := rd_int T e0
      obtain ⟨x1, rfl⟩ := rd_int T e1
      obtain ⟨x2, rfl⟩ := rd_bool T e2
      obtain ⟨x3, g1, g2⟩ := rd_ints T e3
      exact ⟨(⟨x0, x1, x2, x3⟩, u3), rfl, g1, g2⟩) h
  refine ⟨l.map (·.1), l.map (·.2), ?_, by simp, fun i x hx => ?_, by simpa using h3, fun x hx => ?_⟩
  · rw [← vx_zip, List.length_map]; exact h1
  · rw [List.getElem?_map, Option.map_eq_some_iff] at hx
    obtain ⟨z, hz, rfl⟩ := hx
    exact ⟨z.2, by rw [List.getElem?_map, hz]; rfl, (h2 z (List.mem_of_getElem? hz)).1⟩
  · obtain ⟨z, hz, rfl⟩ := List.mem_map.1 hx
    exact (h2 z hz).2
theorem open_rec' (T : RecTy P) {r0 : Reach} {b0 : Nat} {v : Value} {d : DataW H} {p : List MemPlace} (hv : Value.okWide P W r0 b0 29 v) (h : DataW.Trod enc P W 0 sp held 29 v d p) :
    ∃ (r : Rec) (vp vq vt vd : Value) (ps : List Value), v = .agg (rcells r vp vq vt vd) ∧ RecV W vp vq vt vd ps r ∧ r.lens := by
  obtain ⟨fs, hs, hL⟩ := T.rcd
  obtain ⟨fc, hsc, hLc⟩ := T.cell
  obtain ⟨cs, rfl, hsz⟩ := okWide_struct hs hv
  rw [T.c12] at hsz
  obtain ⟨fuel, hf⟩ := h
  obtain ⟨n, hx⟩ := open_fields hs hL hf
  obtain ⟨l⟩ := cs
  simp only [Value.cells] at hx
  have hl : l.length = 14 := hsz
  match l, hl with
  | [u0, u1, u2, u3, u4, u5, u6, u7, u8, u9, u10, u11, u12, u13], _ =>
    obtain ⟨_, e0⟩ := hx 0 _ _ rfl
    obtain ⟨_, e1⟩ := hx 1 _ _ rfl
    obtain ⟨_, e2⟩ := hx 2 _ _ rfl
    obtain ⟨_, e3⟩ := hx 3 _ _ rfl
    obtain ⟨_, e4⟩ := hx 4 _ _ rfl
    obtain ⟨_, e5⟩ := hx 5 _ _ rfl
    obtain ⟨_, e6⟩ := hx 6 _ _ rfl
    obtain ⟨_, e7⟩ := hx 7 _ _ rfl
    obtain ⟨_, e8⟩ := hx 8 _ _ rfl
    obtain ⟨_, e9⟩ := hx 9 _ _ rfl
    obtain ⟨_, e10⟩ := hx 10 _ _ rfl
    rw [T.c1] at e0 e1 e2 e3
    rw [T.c3] at e4
    rw [T.c2] at e5
    rw [T.c11] at e6
    rw [T.c4] at e7
    rw [T.c5] at e8
    rw [T.c6] at e9
    rw [T.c7] at e10
    obtain ⟨n2, hy⟩ := open_fields hsc hLc e6
    obtain ⟨_, f0⟩ := hy 0 _ _ rfl
    obtain ⟨_, f1⟩ := hy 1 _ _ rfl
    obtain ⟨_, f2⟩ := hy 2 _ _ rfl
    obtain ⟨_, f3⟩ := hy 3 _ _ rfl
    rw [T.c3] at f0 f1
    rw [T.c1] at f2 f3
    obtain ⟨x0, rfl⟩ := rd_int T e0
    obtain ⟨x1, rfl⟩ := rd_int T e1
    obtain ⟨x2, rfl⟩ := rd_int T e2
    obtain ⟨x3, rfl⟩ := rd_int T e3
    obtain ⟨x4, rfl⟩ := rd_str T e4
    obtain ⟨x5, rfl⟩ := rd_bool T e5
    obtain ⟨x6, rfl⟩ := rd_str T f0
    obtain ⟨x7, rfl⟩ := rd_str T f1
    obtain ⟨x8, rfl⟩ := rd_int T f2
    obtain ⟨x9, rfl⟩ := rd_int T f3
    obtain ⟨pg, gp, lp⟩ := rd_ints T e7
    obtain ⟨pa, gq, lq⟩ := rd_pats T e8
    obtain ⟨tl, ps, gt, gn, gs, lt, _⟩ := rd_txs T e9
    obtain ⟨di, gd, ld⟩ := rd_dirts T e10
    exact ⟨⟨x0, x1, x2, x3, x4, x5, x6, x7, x8, x9, pg, pa, tl, di⟩, u10, u11, u12, u13, ps, rfl, ⟨gp, gq, gt, gd, gn, gs⟩, lp, lq, lt, ld⟩
end
set_option maxRecDepth 100000 in
theorem recTy : RecTy Tryd.prog :=
  ⟨by kernel_rfl, by kernel_rfl, by kernel_rfl, by kernel_rfl, by kernel_rfl, by kernel_rfl, by kernel_rfl, ⟨_, Tryd.underlying39, rfl⟩, ⟨_, Tryd.underlying41, rfl⟩, ⟨_, Tryd.underlying74, rfl⟩, ⟨_, Tryd.underlying23, rfl⟩, ⟨_, Tryd.underlying29, rfl⟩,
   by kernel_rfl, by kernel_rfl, by kernel_rfl, by kernel_rfl, by kernel_rfl, by kernel_rfl, by kernel_rfl, by kernel_rfl, by kernel_rfl, by kernel_rfl, by kernel_rfl, by kernel_rfl⟩
set_option maxRecDepth 100000 in
theorem open_rec {H : Type} {enc : TypeId × Value → H} {W : World} {sp : Nat → Bool} {held : Bool} {r0 : Reach} {b0 : Nat} {v : Value} {d : DataW H} {p : List MemPlace} (hv : Value.okWide Tryd.prog W r0 b0 29 v) (h : DataW.Trod enc Tryd.prog W 0 sp held 29 v d p) :
    ∃ (r : Rec) (vp vq vt vd : Value) (ps : List Value), v = .agg (rcells r vp vq vt vd) ∧ RecV W vp vq vt vd ps r ∧ r.lens := open_rec' recTy hv h
end Go.Proofs.YtlicdhdpngahgaaDoor
