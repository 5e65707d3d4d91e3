/- Laws over the engine's words: what a walk by hand needs: tests, integers, bytes, loops, calls, rows of one's own, append. -/
import Derived.Test.YtlicdhdpngahgaaDoorEngD
import Derived.Below
import Derived.Deep.AppendLies
import Derived.Deep.AppendSrc
import Derived.Deep.Upon
import Derived.Laws.BytesArg
import Derived.Laws.BytesString
import Derived.Laws.IdiomStrings
import Derived.Laws.Strings
set_option linter.unusedVariables false
set_option linter.unusedSimpArgs false
namespace Go.Eng
open Go.RowKit

/-! ### Tests, integers, addresses -/
theorem brV_true (p q : Prop) : brV (.bool true) p q = p := rfl
theorem brV_false (p q : Prop) : brV (.bool false) p q = q := rfl
theorem brV_dec (c : Prop) [Decidable c] (p q : Prop) : brV (.bool (decide c)) p q = if c then p else q := by
  by_cases h : c <;> simp [brV, h]
theorem brV_b (b : Bool) (p q : Prop) : brV (.bool b) p q = if b = true then p else q := by cases b <;> rfl
theorem brV_not (b : Bool) (p q : Prop) : brV (.bool !b) p q = if b = true then q else p := by cases b <;> rfl
theorem brV_beq (a b : Int) (p q : Prop) : brV (.bool (a == b)) p q = if a = b then p else q := by
  by_cases h : a = b
  · subst h; simp [brV]
  · have : (a == b) = false := by simp [h]
    rw [this, if_neg h]; rfl
theorem brV_bne (a b : Int) (p q : Prop) : brV (.bool (a != b)) p q = if a = b then q else p := by
  by_cases h : a = b
  · subst h; simp [brV]
  · have : (a != b) = true := by simp [h]
    rw [this, if_neg h]; rfl
theorem add0 (b o : Nat) : (⟨b, o, none⟩ : Addr).add 0 = ⟨b, o, none⟩ := rfl
theorem addS (b o n : Nat) : (⟨b, o, none⟩ : Addr).add (n + 1) = ⟨b, o + (n + 1), none⟩ := rfl
theorem addA (b o n : Nat) : (⟨b, o, none⟩ : Addr).add n = ⟨b, o + n, none⟩ := by cases n <;> rfl
theorem wrap64 {n : Int} (h1 : -9223372036854775808 ≤ n) (h2 : n ≤ 9223372036854775807) : IntKind.i64.wrap n = n := by
  simp only [IntKind.wrap, IntKind.bits, IntKind.signed, Bool.true_and, Nat.reduceSub, Int.reducePow]
  split
  · rename_i hh
    have := of_decide_eq_true hh
    omega
  · rename_i hh
    have : ¬ (n % 18446744073709551616 ≥ 9223372036854775808) := fun h => hh (decide_eq_true h)
    omega
theorem wrap8 (n : Int) : IntKind.u8.wrap n = n % 256 := by
  simp [IntKind.wrap, IntKind.bits, IntKind.signed]
theorem shr_nat (v m : Nat) (h : m ≤ 64) : (v : Int).fdiv (2 ^ (min m 64)) = ((v / 2 ^ m : Nat) : Int) := by
  rw [Nat.min_eq_left h]
  have : ((2 : Int) ^ m) = ((2 ^ m : Nat) : Int) := by simp
  rw [this, Int.fdiv_eq_ediv_of_nonneg _ (Int.natCast_nonneg _)]
  rfl
theorem or_nat (x y : Nat) (hx : x * 256 < 9223372036854775808) (hy : y < 256) : bits .or .i64 ((x * 256 : Nat) : Int) (y : Int) = ((x * 256 + y : Nat) : Int) := by
  have e : x * 256 ||| y = x * 256 + y := by
    have := Nat.shiftLeft_add_eq_or_of_lt (i := 8) (b := y) (by omega) x
    rw [Nat.shiftLeft_eq] at this
    exact this.symm
  have h1 : (BitVec.ofInt 64 ((x * 256 : Nat) : Int)).toNat = x * 256 := by
    rw [BitVec.toNat_ofInt]; omega
  have h2 : (BitVec.ofInt 64 (y : Int)).toNat = y := by
    rw [BitVec.toNat_ofInt]; omega
  show IntKind.i64.wrap (((BitVec.ofInt 64 ((x * 256 : Nat) : Int)) ||| (BitVec.ofInt 64 (y : Int))).toNat : Int) = _
  rw [BitVec.toNat_or, h1, h2, e, wrap64 (by omega) (by omega)]

theorem and_nat (x : Nat) (hx : x < 9223372036854775808) : bits .and .i64 ((x : Nat) : Int) 255 = ((x % 256 : Nat) : Int) := by
  have h1 : (BitVec.ofInt 64 (x : Int)).toNat = x := by
    rw [BitVec.toNat_ofInt]; omega
  have h2 : (BitVec.ofInt 64 255).toNat = 255 := by decide
  show IntKind.i64.wrap (((BitVec.ofInt 64 (x : Int)) &&& (BitVec.ofInt 64 255)).toNat : Int) = _
  have e : x &&& 255 = x % 256 := Nat.and_two_pow_sub_one_eq_mod x 8
  rw [BitVec.toNat_and, h1, h2, e, wrap64 (by omega) (by omega)]

/-! ### Bytes -/
def bs (l : List UInt8) : ByteArray := ⟨l.toArray⟩
theorem bs_data (s : ByteArray) : bs s.data.toList = s := by cases s; simp [bs]
theorem bs_surj (s : ByteArray) : ∃ l, s = bs l := ⟨_, (bs_data s).symm⟩
@[simp] theorem bs_size (l : List UInt8) : (bs l).size = l.length := by simp [bs, ByteArray.size]
theorem bs_nil : bs [] = ⟨#[]⟩ := rfl
theorem bs_empty : ByteArray.empty = bs [] := rfl
theorem bs_inj {a b : List UInt8} : bs a = bs b ↔ a = b := ⟨fun h => by have := congrArg (fun s : ByteArray => s.data.toList) h; simpa [bs] using this, fun h => by rw [h]⟩
@[simp] theorem bs_append (a b : List UInt8) : bs a ++ bs b = bs (a ++ b) := by
  apply ByteArray.ext
  simp [bs]
@[simp] theorem bs_extract (l : List UInt8) (i j : Nat) : (bs l).extract i j = bs ((l.take j).drop i) := by
  apply ByteArray.ext
  simp [bs, List.extract_eq_take_drop, List.drop_take]
@[simp] theorem bs_get (l : List UInt8) (i : Nat) : (bs l)[i]? = l[i]? := by
  by_cases h : i < l.length
  · rw [getElem?_pos (bs l) i (by simpa using h), List.getElem?_eq_getElem h]
    rfl
  · rw [getElem?_neg (bs l) i (by simpa using h), List.getElem?_eq_none (by omega)]
@[simp] theorem bs_toList (l : List UInt8) : (bs l).toList = l := by rw [ByteArray.toList_eq]; simp [bs]
theorem bs_beq (a b : List UInt8) : ((bs a).toList == (bs b).toList) = decide (a = b) := by
  rw [bs_toList, bs_toList]
  by_cases h : a = b <;> simp [h]

/-! ### Words at known operands, for simp -/
theorem iw_add (κ : IntKind) (a b : Int) (k : Value → Prop) : intW .add (.int κ a) (.int κ b) k = k (.int κ (κ.wrap (a + b))) := by
  simp only [intW, true_and]
theorem iw_sub (κ : IntKind) (a b : Int) (k : Value → Prop) : intW .sub (.int κ a) (.int κ b) k = k (.int κ (κ.wrap (a - b))) := by
  simp only [intW, true_and]
theorem iw_mul (κ : IntKind) (a b : Int) (k : Value → Prop) : intW .mul (.int κ a) (.int κ b) k = k (.int κ (κ.wrap (a * b))) := by
  simp only [intW, true_and]
theorem iw_lss (κ : IntKind) (a b : Int) (k : Value → Prop) : intW .lss (.int κ a) (.int κ b) k = k (.bool (decide (a < b))) := by
  simp only [intW, true_and]
theorem iw_leq (κ : IntKind) (a b : Int) (k : Value → Prop) : intW .leq (.int κ a) (.int κ b) k = k (.bool (decide (a ≤ b))) := by
  simp only [intW, true_and]
theorem iw_gtr (κ : IntKind) (a b : Int) (k : Value → Prop) : intW .gtr (.int κ a) (.int κ b) k = k (.bool (decide (a > b))) := by
  simp only [intW, true_and]
theorem iw_geq (κ : IntKind) (a b : Int) (k : Value → Prop) : intW .geq (.int κ a) (.int κ b) k = k (.bool (decide (a ≥ b))) := by
  simp only [intW, true_and]
theorem iw_eql (κ : IntKind) (a b : Int) (k : Value → Prop) : intW .eql (.int κ a) (.int κ b) k = k (.bool (decide (a = b))) := by
  simp only [intW, true_and]
  congr 2
theorem iw_neq (κ : IntKind) (a b : Int) (k : Value → Prop) : intW .neq (.int κ a) (.int κ b) k = k (.bool (!decide (a = b))) := by
  simp only [intW, true_and]
  congr 2
theorem iw_quo (κ : IntKind) (a b : Int) (k : Value → Prop) : intW .quo (.int κ a) (.int κ b) k = (b ≠ 0 ∧ k (.int κ (κ.wrap (a.tdiv b)))) := by
  simp only [intW, true_and]
theorem iw_rem (κ : IntKind) (a b : Int) (k : Value → Prop) : intW .rem (.int κ a) (.int κ b) k = (b ≠ 0 ∧ k (.int κ (a.tmod b))) := by
  simp only [intW, true_and]
theorem un_not (b : Bool) (k : Value → Prop) : unW .not (.bool b) k = k (.bool !b) := rfl
theorem len_s (s : ByteArray) (k : Value → Prop) : lenStr (.string s) k = k (.int .i64 s.size) := rfl
theorem len_l (a : Option Addr) (n c : Nat) (k : Value → Prop) : lenSl (.slice a n c) k = k (.int .i64 n) := rfl
theorem nck_p (a : Addr) (k : Value → Prop) : nckW (.pointer (some a)) k = k (.pointer (some a)) := rfl
theorem fld_p (o b n : Nat) (k : Value → Prop) : fld n (.pointer (some ⟨b, o, none⟩)) k = k (.pointer (some ⟨b, o + n, none⟩)) := by
  show k (.pointer (some (Addr.add _ _))) = _
  rw [addA]
theorem cv_i (q q' : IntKind) (n : Int) (k : Value → Prop) : cvI q (.int q' n) k = k (.int q (q.wrap n)) := rfl
theorem unc_c (v : Value) (l : List Value) (k : Value → List Value → Prop) : unc (v :: l) k = k v l := rfl
theorem ex_0 (v : Value) (l : List Value) (k : Value → Prop) : exW (.tuple (v :: l).toArray) 0 k = k v := rfl
theorem ex_1 (v u : Value) (l : List Value) (k : Value → Prop) : exW (.tuple (v :: u :: l).toArray) 1 k = k u := rfl
theorem ex_2 (v u x : Value) (l : List Value) (k : Value → Prop) : exW (.tuple (v :: u :: x :: l).toArray) 2 k = k x := rfl
theorem st_eq (a b : List UInt8) (k : Value → Prop) : strW .eql (.string (bs a)) (.string (bs b)) k = k (.bool (decide (a = b))) := by
  simp only [strW, bs_beq]
theorem st_ne (a b : List UInt8) (k : Value → Prop) : strW .neq (.string (bs a)) (.string (bs b)) k = k (.bool (!decide (a = b))) := by
  simp only [strW, bs_beq]
theorem br_d (c : Prop) [Decidable c] (p q : Prop) : brV (.bool (decide c)) p q = if c then p else q := brV_dec c p q
theorem br_nd (c : Prop) [Decidable c] (p q : Prop) : brV (.bool (!decide c)) p q = if c then q else p := by
  by_cases h : c <;> simp [brV, h]
theorem nb_ite (b : Bool) (p q : Prop) : (if (!b) = true then p else q) = if b = true then q else p := by cases b <;> rfl
theorem one_one (p : Prop) : (1 = 1 ∧ p) = p := by simp
theorem nil_p (a : Addr) (k : Value → Prop) : nilW 2 .eql (.pointer (some a)) (.pointer none) k = k (.bool false) := rfl
theorem nil_pn (a : Addr) (k : Value → Prop) : nilW 2 .neq (.pointer (some a)) (.pointer none) k = k (.bool true) := rfl
theorem nil_n (k : Value → Prop) : nilW 2 .eql (.pointer none) (.pointer none) k = k (.bool true) := rfl
theorem nil_nn (k : Value → Prop) : nilW 2 .neq (.pointer none) (.pointer none) k = k (.bool false) := rfl

/-! ### Loops and calls -/
theorem lp_ind {ι : Type} (body : (List Value → World → Prop) → List Value → World → Prop) (Inv : ι → List Value → World → Prop) (m : ι → Nat)
    (h : ∀ i l w rec, Inv i l w → (∀ i' l' w', m i' < m i → Inv i' l' w' → rec l' w') → body rec l w) {i : ι} {l : List Value} {w : World} (h0 : Inv i l w) : lp body l w := by
  have key : ∀ N i l w, m i < N → Inv i l w → lpN body N l w := by
    intro N
    induction N with
    | zero => intro i l w hm; omega
    | succ N ih => intro i l w hm hi; exact h i l w _ hi fun i' l' w' hm' hi' => ih i' l' w' (by omega) hi'
  exact ⟨m i + 1, key _ i l w (by omega) h0⟩
theorem calls_mono {P : Program} {n : Nat} {args : Array Value} {w : World} {k k' : Value → World → Prop} (h : Calls P n args w (rt k)) (hk : ∀ v w', k v w' → k' v w') : Calls P n args w (rt k') :=
  h.mono fun e w' he => by cases e <;> first | exact hk _ _ he | exact he
theorem calls_rt {P : Program} {n : Nat} {args : Array Value} {w : World} {Q : Ending → World → Prop} {k : Value → World → Prop} (h : Calls P n args w Q) (hk : ∀ e w', Q e w' → ∃ v, e = .returned v ∧ k v w') : Calls P n args w (rt k) :=
  h.mono fun e w' he => by obtain ⟨v, rfl, hv⟩ := hk _ _ he; exact hv

/-! ### Slices of one's own, and append -/
structure SlT (P : Program) (t e : TypeId) (z : Value) (sz by_ : Nat) : Prop where
  under : P.underlying t = some (.slice e)
  info : (P.info? e).map (fun i => (i.zero, i.size, i.bytes)) = some (some z, sz, by_)
  cells : z.cells.size = sz
  pos : 0 < sz
theorem SlT.i {P : Program} {t e : TypeId} {z : Value} {sz by_ : Nat} (T : SlT P t e z sz by_) : ∃ i, P.info? e = some i ∧ i.zero = some z ∧ i.size = sz ∧ i.bytes = by_ := by
  have := T.info
  cases h : P.info? e with
  | none => rw [h] at this; cases this
  | some i =>
    rw [h] at this
    simp at this
    exact ⟨i, rfl, this.1, this.2.1, this.2.2⟩
/-- What is owned grows by what a source yields. -/
theorem run_append_src {P : Program} {t tx e ty : TypeId} {z : Value} {sz by_ : Nat} (T : SlT P t e z sz by_) {w : World} {B n m : Nat} {v x : Value} {xs news : List Value}
    (hown : w.ownsRow B e sz v n xs) (hs : Src P sz tx x m news w) (hmax : n + m ≤ maxLen) (hby : (n + m) * by_ ≤ 140737488355328) (hB : B ≤ w.heap.size) :
    ∃ v' w', (Builtin.append_ #[t, tx] ty #[v, x]).run P w = .ok v' w' ∧ w'.ownsRow B e sz v' (n + m) (xs ++ news) ∧ w.grownBy w' v.ownBlock ∧ (v'.ownBlock = v.ownBlock ∨ v'.ownBlock = some w.heap.size) ∧ (0 < m → v'.ownBlock ≠ none) ∧ w'.ownsRow B e sz v n xs ∧ (v'.ownBlock = v.ownBlock ∨ w.grownBy w' none) := by
  obtain ⟨i, hi, hz, rfl, rfl⟩ := T.i
  have ht := T.under
  have hzs := T.cells
  have hnl := hs.newsLen
  have hlen : (xs ++ news).length = (n + m) * i.size := by rw [List.length_append, hown.1, hnl, Nat.add_mul]
  have grown : ∀ (old : Nat), old < n + m → ∀ (row : Option Nat),
      (w.drew.alloc (.cells ((xs ++ news).toArray ++ Builtin.zeroCells z.cells (grownCap w (n + m) old e - (n + m))) e)).ownsRow B e i.size
        (.slice (some ⟨w.heap.size, 0, none⟩) (n + m) (grownCap w (n + m) old e)) (n + m) (xs ++ news) ∧
      w.grownBy (w.drew.alloc (.cells ((xs ++ news).toArray ++ Builtin.zeroCells z.cells (grownCap w (n + m) old e - (n + m))) e)) row := by
    intro old ho row
    have hge := grownCap_ge w (n + m) old e
    have hcm : grownCap w (n + m) old e ≤ maxLen := grownCap_le_maxLen w (n + m) old e hmax
    refine ⟨⟨hlen, .inr ⟨w.heap.size, _, _, rfl, hB, heap_alloc_new w.drew _, hge, hcm, ?_, ?_⟩⟩, ⟨rfl, rfl, rfl, by simp, fun k hk _ => heap_alloc_old w.drew _ k hk⟩⟩
    · simp only [Array.size_append, List.size_toArray, size_zeroCells, hzs, hlen, ← Nat.add_mul]
      congr 1
      omega
    · simp only [Array.toList_append]
      rw [← hlen]
      exact List.take_left
  have fits : ∀ old, old < n + m → Builtin.nextslicecap (n + m) old * i.bytes ≤ 281474976710656 := fun old ho => growslice_fits ho hby
  have h63 : ((n + m : Nat) : Int) ≤ 9223372036854775807 := by simp only [maxLen] at hmax; omega
  rcases hown.2 with ⟨rfl, rfl⟩ | ⟨g, cap, cur, rfl, hbg, hg, hnc, hcm, hcs, htake⟩
  · have hx : xs = [] := List.eq_nil_of_length_eq_zero (by simpa using hown.1)
    subst hx
    by_cases hm : m = 0
    · subst hm
      have hn : news = [] := List.eq_nil_of_length_eq_zero (by simpa using hnl)
      subst hn
      refine ⟨.slice none 0 0, w, run_append_nothing w t tx ty e i ht hi none 0 0 (Nat.le_refl _) x hs, by simpa using World.ownsRow_nil w B e i.size, ⟨rfl, rfl, rfl, Nat.le_refl _, fun _ _ _ => rfl⟩, .inl rfl, by omega, World.ownsRow_nil w B e i.size, .inl rfl⟩
    · have hr := run_append_grow_src (P := P) w t tx ty e i z ht hi hz none 0 0 [] (run_firstCells_none w.drew i.size 0 0 0) x m news hs (by omega) (by simpa using h63) (by simpa using fits 0 (by omega))
      have hgr := grown 0 (by omega) (Value.ownBlock (.slice none 0 0))
      simp only [Nat.zero_add, List.nil_append] at hgr hr ⊢
      exact ⟨_, _, hr, hgr.1, hgr.2, .inr rfl, (fun _ => by simp [Value.ownBlock]), World.ownsRow_nil _ B e i.size, .inr ⟨rfl, rfl, rfl, by simp, fun k hk _ => heap_alloc_old w.drew _ k hk⟩⟩
  · by_cases hroom : n + m ≤ cap
    · have hfit : n * i.size + news.length ≤ cur.size := by rw [hnl, hcs, ← Nat.add_mul]; exact Nat.mul_le_mul_right _ hroom
      have hst := run_storeCells_at P g (n * i.size) e news 0 cur w hg (by simpa using hfit) hs.one
      simp only [Nat.add_zero] at hst
      have hr : (Builtin.append_ #[t, tx] ty #[.slice (some ⟨g, 0, none⟩) n cap, x]).run P w =
          .ok (.slice (some ⟨g, 0, none⟩) (n + m) cap) (w.setRow g (cur.toList.take (n * i.size) ++ news ++ cur.toList.drop (n * i.size + news.length)).toArray) := by
        rcases hs.kind with ⟨e', hk⟩ | hk <;>
          simp [Builtin.append_, run_underlying ht, run_underlying hk, sizeOf, typeInfo, hi, hs.len, hroom, hs.cells, Addr.add_lit, hst]
      refine ⟨_, _, hr, ⟨hlen, .inr ⟨g, cap, _, rfl, hbg, setRow_heap w g cur _ e _ hg, hroom, hcm, ?_, ?_⟩⟩, ⟨rfl, rfl, rfl, by simp, fun k _ hk => setRow_other w g k _ (fun e => hk (by simp [Value.ownBlock, e]))⟩, Or.inl rfl, (fun _ => by simp [Value.ownBlock]), ⟨hown.1, .inr ⟨g, cap, _, rfl, hbg, setRow_heap w g cur _ e _ hg, hnc, hcm, ?_, ?_⟩⟩, .inl rfl⟩
      · simp only [List.size_toArray, List.length_append, List.length_take, List.length_drop, Array.length_toList]
        omega
      · rw [htake, ← hlen]
        exact List.take_left
      · simp only [List.size_toArray, List.length_append, List.length_take, List.length_drop, Array.length_toList]
        omega
      · rw [htake, List.append_assoc, ← hown.1]
        exact List.take_left
    · have holds : ∀ j u, xs[j]? = some u → w.cell? ((⟨g, 0, none⟩ : Addr).add j) = some u := hown.cells (g := g) rfl
      have hr := run_append_grow_src (P := P) w t tx ty e i z ht hi hz (some ⟨g, 0, none⟩) n cap xs (run_firstCells_some w.drew i.size n ⟨g, 0, none⟩ n cap xs hown.1 (by simpa using holds)) x m news hs (by omega) h63 (fits cap (by omega))
      have hgr := grown cap (by omega) (Value.ownBlock (.slice (some ⟨g, 0, none⟩) n cap))
      exact ⟨_, _, hr, hgr.1, hgr.2, Or.inr rfl, (fun _ => by simp [Value.ownBlock]), ⟨hown.1, .inr ⟨g, cap, cur, rfl, hbg, (heap_alloc_old w.drew _ g (Array.getElem?_eq_some_iff.1 hg).1).trans hg, hnc, hcm, hcs, htake⟩⟩, .inr ⟨rfl, rfl, rfl, by simp, fun k hk _ => heap_alloc_old w.drew _ k hk⟩⟩
theorem app {P : Program} {t tx e ty : TypeId} {z : Value} {sz by_ : Nat} (T : SlT P t e z sz by_) {w : World} {B n m : Nat} {v x : Value} {xs news : List Value} {k : Value → World → Prop}
    (hown : w.ownsRow B e sz v n xs) (hs : Src P sz tx x m news w) (hmax : n + m ≤ maxLen) (hby : (n + m) * by_ ≤ 140737488355328) (hB : B ≤ w.heap.size)
    (hk : ∀ v' w', w'.ownsRow B e sz v' (n + m) (xs ++ news) → w.grownBy w' v.ownBlock → (v'.ownBlock = v.ownBlock ∨ v'.ownBlock = some w.heap.size) → (0 < m → v'.ownBlock ≠ none) → k v' w') : sm P (bi .append #[t, tx] ty [v, x]) w k := by
  obtain ⟨v', w', hr, h1, h2, h3, h4, _⟩ := run_append_src (ty := ty) T hown hs hmax hby hB
  exact ⟨v', w', hr, hk _ _ h1 h2 h3 h4⟩
theorem app_k {P : Program} {t tx e ty : TypeId} {z : Value} {sz by_ : Nat} (T : SlT P t e z sz by_) {w : World} {B n m : Nat} {v x : Value} {xs news : List Value} {k : Value → World → Prop}
    (hown : w.ownsRow B e sz v n xs) (hs : Src P sz tx x m news w) (hmax : n + m ≤ maxLen) (hby : (n + m) * by_ ≤ 140737488355328) (hB : B ≤ w.heap.size)
    (hk : ∀ v' w', w'.ownsRow B e sz v' (n + m) (xs ++ news) → w.grownBy w' v.ownBlock → (v'.ownBlock = v.ownBlock ∨ v'.ownBlock = some w.heap.size) → (0 < m → v'.ownBlock ≠ none) → w'.ownsRow B e sz v n xs → (v'.ownBlock = v.ownBlock ∨ w.grownBy w' none) → k v' w') : sm P (bi .append #[t, tx] ty [v, x]) w k := by
  obtain ⟨v', w', hr, h1, h2, h3, h4, h5, h6⟩ := run_append_src (ty := ty) T hown hs hmax hby hB
  exact ⟨v', w', hr, hk _ _ h1 h2 h3 h4 h5 h6⟩

theorem isCell_cells {v : Value} (h : isCell v = true) : v.cells = #[v] := by cases v <;> first | rfl | cases h
theorem blS_one {e : TypeId} {z v : Value} {w : World} {k : Value → World → Prop} (hv : isCell v = true) (hk : k (.slice (some ⟨w.heap.size, 0, none⟩) 1 1) (w.alloc (.cells #[v] e))) : blS e 1 #[z] 1 [(0, v)] w k := by
  unfold blS
  have : Instr.fill (fun i => some (i * 1, 1)) ((Array.range (1 * 1)).map (#[z][· % #[z].size]!)) [(0, v)] = some #[v] := by
    simp [Instr.fill, isCell_cells hv]
    apply Array.ext
    · simp
    · intro i h1 h2
      have : i = 0 := by simp at h2; omega
      subst this
      simp
  rw [this]
  exact hk

/-! ### Bytes in memory -/
def bc (l : List UInt8) : List Value := l.map fun b => .int .u8 b.toNat
theorem byteCells_bs (l : List UInt8) : byteCells (bs l) = bc l := by simp [byteCells, bs, bc]
theorem bc_append (a b : List UInt8) : bc (a ++ b) = bc a ++ bc b := by simp [bc]
theorem to_string {P : Program} {t e d : TypeId} {w : World} {B n : Nat} {v : Value} {l : List UInt8} {k : Value → World → Prop} (hs : P.underlying t = some (.slice e)) (he : P.underlying e = some (.int .u8)) (hd : P.underlying d = some .string)
    (hown : w.ownsRow B e 1 v n (bc l)) (hk : k (.string (bs l)) w) : sm P (convert t d v) w k := by
  have hl : l.length = n := by simpa [bc] using hown.1
  rcases hown.2 with ⟨rfl, rfl⟩ | ⟨g, cap, cur, rfl, _, hg, _, _, _, _⟩
  · have : l = [] := List.eq_nil_of_length_eq_zero hl
    subst this
    exact ⟨_, _, run_convert_bytes_nil (w := w) t e hs he 0 0 d hd, hk⟩
  · have hc := hown.cells (g := g) rfl
    subst hl
    exact ⟨_, _, run_convert_bytes_back (P := P) w t d e ⟨g, 0, none⟩ cap l hs he hd (fun j hj => hc j _ (by simp [bc, hj])), hk⟩
end Go.Eng
