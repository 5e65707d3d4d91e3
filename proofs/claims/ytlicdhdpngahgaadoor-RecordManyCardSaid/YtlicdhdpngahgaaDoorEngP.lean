/- The engine's words: what one operation of a kind does, in its operands' values alone, each shown to be what the model runs. -/
import Derived.Orders
import Derived.Laws.Sem
import Derived.Laws.World
import Derived.Laws.Entries
set_option linter.unusedVariables false
set_option linter.unusedSimpArgs false
namespace Go.Eng
/-- What yields one and the same value in every world, and leaves it. -/
def yl (P : Program) (s : Sem Value) (k : Value → Prop) : Prop := ∃ v, (∀ w, s.run P w = .ok v w) ∧ k v
/-- What turns the world, perhaps. -/
def sm (P : Program) (s : Sem Value) (w : World) (k : Value → World → Prop) : Prop := ∃ v w', s.run P w = .ok v w' ∧ k v w'
def su (P : Program) (s : Sem Unit) (w : World) (k : World → Prop) : Prop := ∃ w', s.run P w = .ok () w' ∧ k w'
abbrev Cells := List (Addr × Value)
def holds (cs : Cells) (w : World) : Prop := ∀ c ∈ cs, w.cell? c.1 = some c.2
/-- What is read: a value, and the cells of which it is made. -/
def ldW (P : Program) (t : TypeId) (a : Value) (w : World) (k : Value → Cells → Prop) : Prop :=
  ∃ v cs, holds cs w ∧ (∀ w' : World, holds cs w' → (Instr.loadAt t a).run P w' = .ok v w') ∧ k v cs
def semBin (op : BinOp) (t : TypeId) (x y : Operand) (a b : Value) : Sem Value := match op with
  | .eql | .neq => do eqGuard op t x y a b; binOp op t a b
  | _ => binOp op t a b

theorem run_ti {P : Program} {t : TypeId} {i : TypeInfo} (h : P.info? t = some i) (w : World) : (typeInfo t).run P w = .ok i w := by
  simp [typeInfo, h]

/-! ### A field's address -/
def offOf (P : Program) (s : TypeId) (f : Nat) : Option Nat := match P.underlying s with
  | some (.struct fs) => (match fs[f]? with
    | some fd => (match P.info? fd.type with
      | some i => bif Nat.beq i.size 0 then none else some fd.offset
      | none => none)
    | none => none)
  | _ => none
def fld (off : Nat) (a : Value) (k : Value → Prop) : Prop := match a with
  | .pointer (some a) => k (.pointer (some (a.add off)))
  | _ => False
def fldD (P : Program) (s : TypeId) (a : Value) (f : Nat) (k : Value → Prop) : Prop := match offOf P s f with
  | some off => fld off a k
  | none => yl P (Instr.fieldAt s a f) k
theorem fldD_yl {P : Program} {s : TypeId} {a : Value} {f : Nat} {k : Value → Prop} (h : fldD P s a f k) : yl P (Instr.fieldAt s a f) k := by
  unfold fldD at h
  split at h
  · rename_i off ho
    unfold fld at h
    split at h
    · rename_i ad
      unfold offOf at ho
      split at ho
      · rename_i fs hs
        split at ho
        · rename_i fd hf
          split at ho
          · rename_i i hi
            cases hz : Nat.beq i.size 0 with
            | true => rw [hz] at ho; cases ho
            | false =>
              rw [hz] at ho
              injection ho with ho
              subst ho
              have hne : ¬ i.size = 0 := fun e => by rw [e] at hz; cases hz
              refine ⟨_, fun w => ?_, h⟩
              simp [Instr.fieldAt, run_underlying hs, hf, Instr.sureAddr, fieldPlace, sizeOf, run_ti hi, hne]
          · cases ho
        · cases ho
      · cases ho
    · exact h.elim
  · exact h

/-! ### Elements' addresses, bytes of a string -/
def slSz (P : Program) (t : TypeId) : Option Nat := match P.underlying t with
  | some (.slice e) => (match P.info? e with | some i => some i.size | none => none)
  | _ => none
def isStr (P : Program) (t : TypeId) : Bool := match P.underlying t with
  | some .string => true
  | _ => false
def ixS (sz : Nat) (x i : Value) (k : Value → Prop) : Prop := match x, i with
  | .slice (some a) len _, .int _ i => 0 ≤ i ∧ i < (len : Int) ∧ k (.pointer (some (a.add (i.toNat * sz))))
  | _, _ => False
def ixD (P : Program) (t : TypeId) (x i : Value) (k : Value → Prop) : Prop := match slSz P t with
  | some sz => ixS sz x i k
  | none => yl P (Instr.indexAt t x i) k
theorem slSz_spec {P : Program} {t : TypeId} {sz : Nat} (h : slSz P t = some sz) : ∃ e i, P.underlying t = some (.slice e) ∧ P.info? e = some i ∧ i.size = sz := by
  unfold slSz at h
  split at h
  · rename_i e he
    split at h
    · rename_i i hi; injection h with h; exact ⟨e, i, he, hi, h⟩
    · cases h
  · cases h
theorem isStr_spec {P : Program} {t : TypeId} (h : isStr P t = true) : P.underlying t = some .string := by
  unfold isStr at h
  split at h
  · assumption
  · cases h
theorem ixD_yl {P : Program} {t : TypeId} {x i : Value} {k : Value → Prop} (h : ixD P t x i k) : yl P (Instr.indexAt t x i) k := by
  unfold ixD at h
  split at h
  · rename_i sz hs
    obtain ⟨e, inf, he, hi, rfl⟩ := slSz_spec hs
    unfold ixS at h
    split at h
    · rename_i a len cap kd n
      obtain ⟨h0, h1, hk⟩ := h
      refine ⟨_, fun w => ?_, hk⟩
      simp [Instr.indexAt, asIntOf, run_underlying he, sizeOf, run_ti hi, h0, h1]
    · exact h.elim
  · exact h
def ixStr (x i : Value) (k : Value → Prop) : Prop := match x, i with
  | .string s, .int _ i => ∃ b : UInt8, 0 ≤ i ∧ s[i.toNat]? = some b ∧ k (.int .u8 b.toNat)
  | _, _ => False
def atD (P : Program) (t : TypeId) (x i : Value) (k : Value → Prop) : Prop := match isStr P t with
  | true => ixStr x i k
  | false => yl P (Instr.index t x i) k
theorem atD_yl {P : Program} {t : TypeId} {x i : Value} {k : Value → Prop} (h : atD P t x i k) : yl P (Instr.index t x i) k := by
  unfold atD at h
  split at h
  · rename_i hs
    have hu := isStr_spec hs
    unfold ixStr at h
    split at h
    · obtain ⟨b, h0, h1, hk⟩ := h
      refine ⟨_, fun w => ?_, hk⟩
      simp [Instr.index, asIntOf, run_underlying hu, h0, h1]
    · exact h.elim
  · exact h

/-! ### Cuts -/
def natO (o : Option Value) (d : Nat) (k : Nat → Prop) : Prop := match o with
  | none => k d
  | some (.int _ i) => 0 ≤ i ∧ k i.toNat
  | _ => False
def slStr (x : Value) (lo hi mx : Option Value) (k : Value → Prop) : Prop := match x, mx with
  | .string s, none => natO hi s.size fun h => natO lo 0 fun l => l ≤ h ∧ h ≤ s.size ∧ k (.string (s.extract l h))
  | _, _ => False
def slSl (sz : Nat) (x : Value) (lo hi mx : Option Value) (k : Value → Prop) : Prop := match x, mx with
  | .slice a len cap, none => natO hi len fun h => natO lo 0 fun l => l ≤ h ∧ (hi = none ∨ h ≤ cap) ∧ k (.slice (if cap = l then a else a.map (·.add (l * sz))) (h - l) (cap - l))
  | .slice a len cap, some m => natO (some m) cap fun m => natO hi len fun h => natO lo 0 fun l => hi.isSome = true ∧ l ≤ h ∧ h ≤ m ∧ m ≤ cap ∧ k (.slice (if m = l then a else a.map (·.add (l * sz))) (h - l) (m - l))
  | _, _ => False
def slD (P : Program) (t : TypeId) (x : Value) (lo hi mx : Option Value) (k : Value → Prop) : Prop := match isStr P t with
  | true => slStr x lo hi mx k
  | false => match slSz P t with
    | some sz => slSl sz x lo hi mx k
    | none => yl P (Instr.sliceAt t x lo hi mx) k
def isO (o : Option Value) (d n : Nat) : Prop := (o = none ∧ n = d) ∨ ∃ kd i, o = some (.int kd i) ∧ 0 ≤ i ∧ n = i.toNat
theorem natO_spec {o : Option Value} {d : Nat} {k : Nat → Prop} (h : natO o d k) : ∃ n, isO o d n ∧ k n := by
  unfold natO at h
  split at h
  · exact ⟨_, .inl ⟨rfl, rfl⟩, h⟩
  · exact ⟨_, .inr ⟨_, _, rfl, h.1, rfl⟩, h.2⟩
  · exact h.elim
theorem bound_run {P : Program} {kd : IntKind} {i : Int} {y : Nat} {c : BoundsCode} {w : World} (h0 : 0 ≤ i) (h1 : i.toNat ≤ y) : (Instr.sliceBound (.int kd i) y c).run P w = .ok i.toNat w := by
  have : i ≤ (y : Int) := by omega
  simp [Instr.sliceBound, asIntOf, h0, this]
theorem bounds_run {P : Program} {b : Bool} {len cap l h : Nat} {lo hi : Option Value} {w : World} (h1 : isO hi len h) (h2 : isO lo 0 l) (h3 : l ≤ h) (h4 : hi = none ∨ h ≤ cap) :
    (Instr.sliceBounds b len cap lo hi none).run P w = .ok (l, h, cap) w := by
  rcases h1 with ⟨rfl, rfl⟩ | ⟨k1, i1, rfl, h01, rfl⟩ <;> rcases h2 with ⟨rfl, rfl⟩ | ⟨k2, i2, rfl, h02, rfl⟩
  · simp [Instr.sliceBounds]
  · simp [Instr.sliceBounds, bound_run h02 h3]
  · simp at h4; simp [Instr.sliceBounds, bound_run h01 (show i1.toNat ≤ cap by omega)]
  · simp at h4; simp [Instr.sliceBounds, bound_run h01 (show i1.toNat ≤ cap by omega), bound_run h02 h3]
theorem bounds_run3 {P : Program} {b : Bool} {len cap l h m : Nat} {lo hi mx : Option Value} {w : World} (h0 : isO mx cap m) (h1 : isO hi len h) (h2 : isO lo 0 l) (hm : mx.isSome = true) (hh : hi.isSome = true) (h3 : l ≤ h) (h4 : h ≤ m) (h5 : m ≤ cap) :
    (Instr.sliceBounds b len cap lo hi mx).run P w = .ok (l, h, m) w := by
  rcases h0 with ⟨rfl, rfl⟩ | ⟨k0, i0, rfl, h00, rfl⟩
  · simp at hm
  rcases h1 with ⟨rfl, rfl⟩ | ⟨k1, i1, rfl, h01, rfl⟩
  · simp at hh
  rcases h2 with ⟨rfl, rfl⟩ | ⟨k2, i2, rfl, h02, rfl⟩
  · simp [Instr.sliceBounds, bound_run h00 h5, bound_run h01 h4]
  · simp [Instr.sliceBounds, bound_run h00 h5, bound_run h01 h4, bound_run h02 h3]
theorem slD_yl {P : Program} {t : TypeId} {x : Value} {lo hi mx : Option Value} {k : Value → Prop} (h : slD P t x lo hi mx k) : yl P (Instr.sliceAt t x lo hi mx) k := by
  unfold slD at h
  split at h
  · rename_i hs
    have hu := isStr_spec hs
    unfold slStr at h
    split at h
    · rename_i s
      obtain ⟨n, h1, h⟩ := natO_spec h
      obtain ⟨m, h2, h3, h4, hk⟩ := natO_spec h
      refine ⟨_, fun w => ?_, hk⟩
      simp [Instr.sliceAt, Instr.slice, run_underlying hu, bounds_run h1 h2 h3 (.inr h4)]
    · exact h.elim
  · split at h
    · rename_i sz hs
      obtain ⟨e, inf, he, hi', rfl⟩ := slSz_spec hs
      unfold slSl at h
      split at h
      · rename_i a len cap
        obtain ⟨n, h1, h⟩ := natO_spec h
        obtain ⟨m, h2, h3, h4, hk⟩ := natO_spec h
        refine ⟨_, fun w => ?_, hk⟩
        simp [Instr.sliceAt, Instr.slice, run_underlying he, bounds_run h1 h2 h3 h4, sizeOf, run_ti hi']
      · rename_i a len cap m
        obtain ⟨c, h0, h⟩ := natO_spec h
        obtain ⟨n, h1, h⟩ := natO_spec h
        obtain ⟨m', h2, hs, h3, h4, h5, hk⟩ := natO_spec h
        refine ⟨_, fun w => ?_, hk⟩
        simp [Instr.sliceAt, Instr.slice, run_underlying he, bounds_run3 h0 h1 h2 rfl hs h3 h4 h5, sizeOf, run_ti hi']
      · exact h.elim
    · exact h

/-! ### len, conversions of integers -/
def isSlT (P : Program) (t : TypeId) : Bool := match P.underlying t with
  | some (.slice _) => true
  | _ => false
def lenV (x : Value) (k : Value → Prop) : Prop := match x with
  | .string s => k (.int .i64 s.size)
  | .slice _ n _ => k (.int .i64 n)
  | _ => False
def lenStr (x : Value) (k : Value → Prop) : Prop := match x with
  | .string s => k (.int .i64 s.size)
  | _ => False
def lenSl (x : Value) (k : Value → Prop) : Prop := match x with
  | .slice _ n _ => k (.int .i64 n)
  | _ => False
def lenD (P : Program) (ts : Array TypeId) (ty : TypeId) (l : List Value) (k : Value → Prop) : Prop := match l with
  | [x] => (match isStr P (ts.getD 0 0) with
    | true => lenStr x k
    | false => match isSlT P (ts.getD 0 0) with
      | true => lenSl x k
      | false => yl P (Builtin.len_ ts ty #[x]) k)
  | _ => False
theorem lenD_yl {P : Program} {ts : Array TypeId} {ty : TypeId} {l : List Value} {k : Value → Prop} (h : lenD P ts ty l k) (h0 : 0 < ts.size) : yl P (Builtin.len_ ts ty l.toArray) k := by
  have ht : ts[0]? = some (ts.getD 0 0) := by simp [h0]
  unfold lenD at h
  split at h
  · rename_i x
    split at h
    · rename_i hs
      have hu := isStr_spec hs
      unfold lenStr at h
      split at h
      · refine ⟨_, fun w => ?_, h⟩
        simp [Builtin.len_, ht, run_underlying hu, goInt, -Array.getD_eq_getD_getElem?]
      · exact h.elim
    · split at h
      · rename_i hs
        unfold isSlT at hs
        split at hs
        · rename_i e hu
          unfold lenSl at h
          split at h
          · refine ⟨_, fun w => ?_, h⟩
            simp [Builtin.len_, ht, run_underlying hu, goInt, -Array.getD_eq_getD_getElem?]
          · exact h.elim
        · cases hs
      · exact h
  · exact h.elim
def kindOf (P : Program) (t : TypeId) : Option IntKind := match P.underlying t with
  | some (.int k) => some k
  | _ => none
def cvI (kd : IntKind) (a : Value) (k : Value → Prop) : Prop := match a with
  | .int _ n => k (.int kd (kd.wrap n))
  | _ => False
def cvD (P : Program) (s d : TypeId) (a : Value) (k : Value → Prop) : Prop := match P.underlying s with
  | some (.int _) => (match kindOf P d with
    | some kd => cvI kd a k
    | none => yl P (convert s d a) k)
  | _ => yl P (convert s d a) k
theorem cvD_yl {P : Program} {s d : TypeId} {a : Value} {k : Value → Prop} (h : cvD P s d a k) : yl P (convert s d a) k := by
  unfold cvD at h
  split at h
  · rename_i kk hs
    split at h
    · rename_i kd hk
      unfold kindOf at hk
      split at hk
      · rename_i k2 hd
        injection hk with hk
        subst hk
        unfold cvI at h
        split at h
        · refine ⟨_, fun w => ?_, h⟩
          simp [convert, run_underlying hs, run_underlying hd, Conv.intToInt]
        · exact h.elim
      · cases hk
    · exact h
  · exact h

/-! ### Two operands -/
def bits (op : BinOp) (kd : IntKind) (a b : Int) : Int :=
  let x := BitVec.ofInt kd.bits a
  let y := BitVec.ofInt kd.bits b
  kd.wrap (match op with | .and => (x &&& y).toNat | .or => (x ||| y).toNat | .xor => (x ^^^ y).toNat | _ => (x &&& ~~~y).toNat)
def intW (op : BinOp) (a b : Value) (k : Value → Prop) : Prop := match a, b with
  | .int κ a, .int κ' b => κ = κ' ∧ (match op with
    | .add => k (.int κ (κ.wrap (a + b)))
    | .sub => k (.int κ (κ.wrap (a - b)))
    | .mul => k (.int κ (κ.wrap (a * b)))
    | .quo => b ≠ 0 ∧ k (.int κ (κ.wrap (a.tdiv b)))
    | .rem => b ≠ 0 ∧ k (.int κ (a.tmod b))
    | .and => k (.int κ (bits .and κ a b))
    | .or => k (.int κ (bits .or κ a b))
    | .xor => k (.int κ (bits .xor κ a b))
    | .andNot => k (.int κ (bits .andNot κ a b))
    | .eql => k (.bool (a == b))
    | .neq => k (.bool (a != b))
    | .lss => k (.bool (decide (a < b)))
    | .leq => k (.bool (decide (a ≤ b)))
    | .gtr => k (.bool (decide (a > b)))
    | .geq => k (.bool (decide (a ≥ b)))
    | _ => False)
  | _, _ => False
def shW (op : BinOp) (a b : Value) (k : Value → Prop) : Prop := match a, b with
  | .int κ a, .int _ b => 0 ≤ b ∧ (match op with
    | .shl => k (.int κ (κ.wrap (a * 2 ^ (min b.toNat κ.bits))))
    | _ => k (.int κ (a.fdiv (2 ^ (min b.toNat κ.bits)))))
  | _, _ => False
def strW (op : BinOp) (a b : Value) (k : Value → Prop) : Prop := match a, b with
  | .string a, .string b => (match op with
    | .add => a.size + b.size ≤ 9223372036854775807 ∧ k (.string (a ++ b))
    | .eql => k (.bool (a.toList == b.toList))
    | .neq => k (.bool !(a.toList == b.toList))
    | .lss => k (.bool (Op.bytesLess a.toList b.toList))
    | .leq => k (.bool (Op.bytesLess a.toList b.toList || (a.toList == b.toList)))
    | .gtr => k (.bool !(Op.bytesLess a.toList b.toList || (a.toList == b.toList)))
    | .geq => k (.bool !(Op.bytesLess a.toList b.toList))
    | _ => False)
  | _, _ => False
def nilEq (n : Nat) (a b : Value) (k : Bool → Prop) : Prop := match n, a, b with
  | 2, .pointer none, .pointer b => k b.isNone
  | 2, .pointer (some _), .pointer none => k false
  | 3, .slice none _ _, .slice b _ _ => k b.isNone
  | 3, .slice (some _) _ _, .slice none _ _ => k false
  | 4, .map none, .map b => k b.isNone
  | 4, .map (some _), .map none => k false
  | 5, .nilFunc, .nilFunc => k true
  | 5, .func .., .nilFunc => k false
  | 6, .bool a, .bool b => k (a == b)
  | _, _, _ => False
def nilW (n : Nat) (op : BinOp) (a b : Value) (k : Value → Prop) : Prop := match op with
  | .eql => nilEq n a b fun r => k (.bool r)
  | .neq => nilEq n a b fun r => k (.bool !r)
  | _ => False
/-- How values of a type are held against each other: 0: as integers, 1: as texts, 2 to 5: against nil, 6: bools, 7: else. -/
def eqK (P : Program) (t : TypeId) : Nat := match P.underlying t with
  | some (.int _) => 0
  | some .string => 1
  | some (.pointer _) => 2
  | some (.slice _) => 3
  | some (.map ..) => 4
  | some (.func ..) => 5
  | some .bool => 6
  | _ => 7
def isSh (op : BinOp) : Bool := match op with
  | .shl => true
  | .shr => true
  | _ => false
def binD (P : Program) (op : BinOp) (t : TypeId) (x y : Operand) (a b : Value) (k : Value → Prop) : Prop := match eqK P t with
  | 0 => (match isSh op with
    | true => shW op a b k
    | false => intW op a b k)
  | 1 => strW op a b k
  | 2 => nilW 2 op a b k
  | 3 => nilW 3 op a b k
  | 4 => nilW 4 op a b k
  | 5 => nilW 5 op a b k
  | 6 => nilW 6 op a b k
  | _ => yl P (semBin op t x y a b) k
theorem semBin_go {P : Program} {op : BinOp} {t : TypeId} {x y : Operand} {a b : Value} {w : World} (ha : a ≠ .nilIface) (hb : ∀ c, a ≠ .agg c) : (semBin op t x y a b).run P w = (binOp op t a b).run P w := by
  cases op <;> first | rfl | (cases a <;> first | (exact absurd rfl ha) | (exact absurd rfl (hb _)) | simp [semBin, eqGuard])
theorem toList_beq (a b : ByteArray) : (a.toList == b.toList) = (a.toList == b.toList) := rfl
theorem nilEq_run {P : Program} {t : TypeId} {n : Nat} {a b : Value} {k : Bool → Prop} (he : eqK P t = n) (h : nilEq n a b k) : ∃ r, k r ∧ ∀ w, (Op.equal t a b).run P w = .ok r w := by
  unfold nilEq at h
  split at h <;> first | exact h.elim | skip
  all_goals
    refine ⟨_, h, fun w => ?_⟩
    unfold eqK at he
    split at he <;> first | (exact absurd he (by decide)) | skip
    rename_i hu
    show (Op.equalIn (9999 + 1) t _ _).run P w = _
    generalize 9999 = d
    simp only [Op.equalIn, Sem.run_bind, run_underlying hu, Result.andThen_ok, Sem.run_pure]
theorem nilEq_shape {n : Nat} {a b : Value} {k : Bool → Prop} (h : nilEq n a b k) : a ≠ .nilIface ∧ (∀ c, a ≠ .agg c) ∧ (∀ κ m, a ≠ .int κ m) ∧ (∀ κ m, a ≠ .float κ m) ∧ (∀ κ m r, a ≠ .complex κ m r) ∧ ∀ s, a ≠ .string s := by
  unfold nilEq at h
  split at h <;> first | exact h.elim | (refine ⟨?_, ?_, ?_, ?_, ?_, ?_⟩ <;> intros <;> simp)
theorem nilW_yl {P : Program} {op : BinOp} {t : TypeId} {x y : Operand} {n : Nat} {a b : Value} {k : Value → Prop} (he : eqK P t = n) (h : nilW n op a b k) : yl P (semBin op t x y a b) k := by
  unfold nilW at h
  split at h
  · obtain ⟨r, hk, hr⟩ := nilEq_run he h
    obtain ⟨h1, h2, h3, h4, h5, h6⟩ := nilEq_shape h
    refine ⟨_, fun w => ?_, hk⟩
    rw [semBin_go h1 h2]
    cases a <;> first
      | exact absurd rfl h1
      | exact absurd rfl (h2 _)
      | exact absurd rfl (h3 _ _)
      | exact absurd rfl (h4 _ _)
      | exact absurd rfl (h5 _ _ _)
      | exact absurd rfl (h6 _)
      | (simp only [binOp, Sem.run_bind, hr w]; rfl)
  · obtain ⟨r, hk, hr⟩ := nilEq_run he h
    obtain ⟨h1, h2, h3, h4, h5, h6⟩ := nilEq_shape h
    refine ⟨_, fun w => ?_, hk⟩
    rw [semBin_go h1 h2]
    cases a <;> first
      | exact absurd rfl h1
      | exact absurd rfl (h2 _)
      | exact absurd rfl (h3 _ _)
      | exact absurd rfl (h4 _ _)
      | exact absurd rfl (h5 _ _ _)
      | exact absurd rfl (h6 _)
      | (simp only [binOp, Sem.run_bind, hr w]; rfl)
  · exact h.elim
theorem binD_yl {P : Program} {op : BinOp} {t : TypeId} {x y : Operand} {a b : Value} {k : Value → Prop} (h : binD P op t x y a b k) : yl P (semBin op t x y a b) k := by
  unfold binD at h
  split at h
  · split at h
    · rename_i he hs
      unfold shW at h
      split at h
      · obtain ⟨h0, hk⟩ := h
        have hn : ¬ (_ < (0 : Int)) := Int.not_lt.mpr h0
        cases op <;> simp [isSh] at hs <;> refine ⟨_, fun w => ?_, hk⟩ <;> rw [semBin_go (by simp) (by simp)] <;> simp [binOp, Op.shift, hn]
      · exact h.elim
    · rename_i he hs
      unfold intW at h
      split at h
      · obtain ⟨rfl, hk⟩ := h
        cases op <;> simp [isSh] at hs <;> simp only [] at hk <;> first
          | exact hk.elim
          | (obtain ⟨hne, hk⟩ := hk
             refine ⟨_, fun w => ?_, hk⟩
             rw [semBin_go (by simp) (by simp)]
             simp [binOp, Op.intDiv, hne]; done)
          | (refine ⟨_, fun w => ?_, hk⟩
             rw [semBin_go (by simp) (by simp)]
             first
               | (simp [binOp, Op.intArith]; done)
               | (simp [binOp, Op.intCmp]; done)
               | (simp [binOp, Op.intBits, bits]; done))
      · exact h.elim
  · unfold strW at h
    split at h
    · rename_i s1 s2
      cases op <;> simp only [] at h <;> first
        | exact h.elim
        | (obtain ⟨hle, hk⟩ := h
           refine ⟨_, fun w => ?_, hk⟩
           rw [semBin_go (by simp) (by simp)]
           have : ¬ (((s1.size + s2.size : Nat) : Int) > IntKind.i64.max) := by
             have : IntKind.i64.max = 9223372036854775807 := by decide
             omega
           simp only [binOp, Op.stringOp, this, if_false, Sem.run_pure]; done)
        | (refine ⟨_, fun w => ?_, h⟩
           rw [semBin_go (by simp) (by simp)]
           simp [binOp, Op.stringOp]; done)
    · exact h.elim
  · rename_i he; exact nilW_yl he h
  · rename_i he; exact nilW_yl he h
  · rename_i he; exact nilW_yl he h
  · rename_i he; exact nilW_yl he h
  · rename_i he; exact nilW_yl he h
  · exact h

/-! ### One operand -/
def unW (op : UnOp) (a : Value) (k : Value → Prop) : Prop := match op, a with
  | .not, .bool b => k (.bool !b)
  | .neg, .int κ n => k (.int κ (κ.wrap (0 - n)))
  | .xor, .int κ n => k (.int κ (bits .xor κ (if κ.signed then -1 else κ.max) n))
  | _, _ => False
theorem unW_yl {P : Program} {op : UnOp} {a : Value} {k : Value → Prop} (h : unW op a k) : yl P (Op.unary op a) k := by
  unfold unW at h
  split at h
  · exact ⟨_, fun w => rfl, h⟩
  · exact ⟨_, fun w => rfl, h⟩
  · exact ⟨_, fun w => rfl, h⟩
  · exact h.elim

/-! ### Loads and stores -/
def cellsOf (a : Addr) : Nat → List Value → Cells
  | _, [] => []
  | i, v :: l => (a.add i, v) :: cellsOf a (i + 1) l
def isAggT (P : Program) (t : TypeId) : Option Bool := match P.underlying t with
  | some (.struct _) => some true
  | some (.array ..) => some true
  | some _ => some false
  | none => none
def sizeT (P : Program) (t : TypeId) : Nat := match P.info? t with
  | some i => i.size
  | none => 0
def ldC (a : Value) (w : World) (k : Value → Cells → Prop) : Prop := match a with
  | .pointer (some a) => ∃ v, w.cell? a = some v ∧ k v [(a, v)]
  | _ => False
def ldN (n : Nat) (a : Value) (w : World) (k : Value → Cells → Prop) : Prop := match a with
  | .pointer (some a) => ∃ l : List Value, l.length = n ∧ holds (cellsOf a 0 l) w ∧ k (.agg l.toArray) (cellsOf a 0 l)
  | _ => False
def ldD (P : Program) (t : TypeId) (a : Value) (w : World) (k : Value → Cells → Prop) : Prop := match isAggT P t with
  | some false => ldC a w k
  | some true => (match P.info? t with
    | some i => ldN i.size a w k
    | none => False)
  | none => False
theorem run_isAgg {P : Program} {t : TypeId} {b : Bool} (h : isAggT P t = some b) (w : World) : (isAgg t).run P w = .ok b w := by
  unfold isAggT at h
  split at h
  · rename_i hu; injection h with h; subst h; simp [isAgg, run_underlying hu]
  · rename_i hu; injection h with h; subst h; simp [isAgg, run_underlying hu]
  · rename_i d h1 h2 hu
    injection h with h
    subst h
    simp only [isAgg, Sem.run_bind, run_underlying hu, Result.andThen_ok]
    rfl
  · cases h
theorem run_loads {P : Program} {a : Addr} {w : World} : ∀ (l : List Value) (i : Nat) (acc : Array Value), holds (cellsOf a i l) w → (loadCellsFrom a i l.length acc).run P w = .ok (acc ++ l.toArray) w
  | [], i, acc, _ => by simp [loadCellsFrom]
  | v :: l, i, acc, h => by
    have h1 : w.cell? (a.add i) = some v := h _ List.mem_cons_self
    have h2 := run_loads (P := P) l (i + 1) (acc.push v) (fun c hc => h c (List.mem_cons_of_mem _ hc))
    simp only [List.length_cons, loadCellsFrom, Sem.run_bind, run_load, h1, Result.andThen_ok, h2]
    congr 1
    apply Array.ext'
    simp
theorem ldD_ldW {P : Program} {t : TypeId} {a : Value} {w : World} {k : Value → Cells → Prop} (h : ldD P t a w k) : ldW P t a w k := by
  unfold ldD at h
  split at h
  · rename_i hu
    unfold ldC at h
    split at h
    · rename_i ad
      obtain ⟨v, hc, hk⟩ := h
      refine ⟨v, _, fun c hm => ?_, fun w' hw => ?_, hk⟩
      · cases hm with
        | head => exact hc
        | tail _ hm => cases hm
      · have : w'.cell? ad = some v := hw _ List.mem_cons_self
        simp [Instr.loadAt, Instr.sureAddr, loadVar, run_isAgg hu, this]
    · exact h.elim
  · rename_i hu
    split at h
    · rename_i i hi
      unfold ldN at h
      split at h
      · rename_i ad
        obtain ⟨l, hl, hh, hk⟩ := h
        refine ⟨_, _, hh, fun w' hw => ?_, hk⟩
        have h2 := run_loads (P := P) l 0 #[] hw
        rw [hl] at h2
        simp only [Instr.loadAt, Instr.sureAddr, loadVar, Sem.run_bind, Sem.run_pure, Result.andThen_ok, run_isAgg hu, if_true, sizeOf, run_ti hi, loadCells, h2]
        congr 2
        apply Array.ext'
        simp
      · exact h.elim
    · exact h.elim
  · exact h.elim
def isCell (v : Value) : Bool := match v with
  | .agg _ => false
  | .tuple _ => false
  | _ => true
def st1 (a : Addr) (v : Value) (w : World) (k : World → Prop) : Prop := (∃ u, w.cell? a = some u) ∧ w.frozen? a = false ∧ isCell v = true ∧ k (w.setCell a v)
def stL (a : Addr) : Nat → List Value → World → (World → Prop) → Prop
  | _, [], w, k => k w
  | i, v :: l, w, k => st1 (a.add i) v w fun w => stL a (i + 1) l w k
def stC (a v : Value) (w : World) (k : World → Prop) : Prop := match a with
  | .pointer (some a) => st1 (a.add 0) v w k
  | _ => False
def stN (n : Nat) (a v : Value) (w : World) (k : World → Prop) : Prop := match a, v with
  | .pointer (some a), .agg cs => cs.size = n ∧ stL a 0 cs.toList w k
  | _, _ => False
def stD (P : Program) (t : TypeId) (a v : Value) (w : World) (k : World → Prop) : Prop := match P.info? t with
  | some i => (match isAggT P t with
    | some false => i.size = 1 ∧ stC a v w k
    | some true => stN i.size a v w k
    | none => False)
  | none => False
theorem run_stores {P : Program} {a : Addr} : ∀ (l : List Value) (i : Nat) (w : World) (k : World → Prop), stL a i l w k → ∃ w', (storeCells a l i).run P w = .ok () w' ∧ k w'
  | [], i, w, k, h => ⟨w, rfl, h⟩
  | v :: l, i, w, k, h => by
    obtain ⟨⟨u, hu⟩, hf, hv, h⟩ := h
    obtain ⟨w', hr, hk⟩ := run_stores (P := P) l (i + 1) _ k h
    refine ⟨w', ?_, hk⟩
    have hv' : v.oneCell' = true := by cases v <;> first | rfl | cases hv
    simp only [storeCells, Sem.run_bind, run_store P w _ v _ hv', hu, hf, Bool.false_eq_true, if_false, Result.andThen_ok, hr]
theorem stD_su {P : Program} {t : TypeId} {a v : Value} {w : World} {k : World → Prop} (h : stD P t a v w k) : su P (Instr.storeAt t a v) w k := by
  unfold stD at h
  split at h
  · rename_i i hi
    split at h
    · obtain ⟨h1, h⟩ := h
      unfold stC at h
      split at h
      · rename_i ad
        have hv : v.cells = #[v] := by
          obtain ⟨_, _, hv, _⟩ := h
          cases v <;> first | rfl | cases hv
        obtain ⟨w', hr, hk⟩ := run_stores (P := P) [v] 0 w k h
        refine ⟨w', ?_, hk⟩
        simp [Instr.storeAt, Instr.sureAddr, storeVar, hv, sizeOf, run_ti hi, h1, hr]
      · exact h.elim
    · unfold stN at h
      split at h
      · rename_i ad cs
        obtain ⟨h1, h⟩ := h
        obtain ⟨w', hr, hk⟩ := run_stores (P := P) cs.toList 0 w k h
        refine ⟨w', ?_, hk⟩
        simp [Instr.storeAt, Instr.sureAddr, storeVar, Value.cells, sizeOf, run_ti hi, h1, hr]
      · exact h.elim
    · exact h.elim
  · exact h.elim

/-! ### New variables -/
def alW (cs : Array Value) (t : TypeId) (w : World) (k : Value → World → Prop) : Prop := k (.pointer (some ⟨w.heap.size, 0, none⟩)) (w.alloc (.cells cs t))
def zeroT (P : Program) (t : TypeId) : Option Value := match P.info? t with
  | some i => i.zero
  | none => none
def alD (P : Program) (t : TypeId) (w : World) (k : Value → World → Prop) : Prop := match zeroT P t with
  | some z => alW z.cells t w k
  | none => False
theorem run_zero {P : Program} {t : TypeId} {z : Value} (h : zeroT P t = some z) (w : World) : (zeroValue t).run P w = .ok z w := by
  unfold zeroT at h
  split at h
  · rename_i i hi; simp [zeroValue, run_ti hi, h]
  · cases h
theorem alD_sm {P : Program} {t : TypeId} {w : World} {k : Value → World → Prop} (h : alD P t w k) : sm P (Instr.alloc t true (.tuple #[])) w k := by
  unfold alD at h
  split at h
  · rename_i z hz
    refine ⟨_, _, ?_, h⟩
    simp [Instr.alloc, run_zero hz, newVar, newRow]
  · exact h.elim
theorem boxW_sm {P : Program} {t : TypeId} {v : Value} {w : World} {k : Value → World → Prop} (h : alW v.cells t w k) : sm P (Instr.box t v) w k := by
  refine ⟨_, _, ?_, h⟩
  simp [Instr.box, newVar, newRow]

/-! ### Structs and slices that are built -/
def placesL (P : Program) : List Field → Option (List (Nat × Nat))
  | [] => some []
  | f :: fs => match P.info? f.type with
    | some i => (match placesL P fs with
      | some l => some ((f.offset, i.size) :: l)
      | none => none)
    | none => none
def placesT (P : Program) (t : TypeId) : Option (List (Nat × Nat)) := match P.underlying t with
  | some (.struct fs) => placesL P fs.toList
  | _ => none
def fillL (places : List (Nat × Nat)) (zero : Array Value) (parts : List (Nat × Value)) (k : Value → Prop) : Prop := match Instr.fill (fun i => places[i]?) zero parts with
  | some cells => k (.agg cells)
  | none => False
def bldD (P : Program) (t : TypeId) (parts : List (Nat × Value)) (k : Value → Prop) : Prop := match placesT P t, zeroT P t with
  | some ps, some z => fillL ps z.cells parts k
  | _, _ => yl P (Instr.build t parts.toArray) k
theorem run_places {P : Program} {w : World} : ∀ (fs : List Field) (l : List (Nat × Nat)), placesL P fs = some l → (fs.mapM fun f => do pure (f.offset, ← sizeOf f.type) : Sem _).run P w = .ok l w
  | [], l, h => by injection h with h; subst h; rfl
  | f :: fs, l, h => by
    unfold placesL at h
    split at h
    · rename_i i hi
      split at h
      · rename_i l' hl
        injection h with h
        subst h
        have h2 := run_places (w := w) fs l' hl
        simp only [sizeOf] at h2 ⊢
        simp only [List.mapM_cons, Sem.run_bind, run_ti hi, Result.andThen_ok, Sem.run_pure, h2]
      · cases h
    · cases h
theorem bldD_yl {P : Program} {t : TypeId} {parts : List (Nat × Value)} {k : Value → Prop} (h : bldD P t parts k) : yl P (Instr.build t parts.toArray) k := by
  unfold bldD at h
  split at h
  · rename_i ps z hp hz
    unfold placesT at hp
    split at hp
    · rename_i fs hu
      unfold fillL at h
      split at h
      · rename_i cells hc
        refine ⟨_, fun w => ?_, h⟩
        have hm : (fs.mapM fun f => do pure (f.offset, ← sizeOf f.type) : Sem _).run P w = .ok ps.toArray w := by
          rw [Array.mapM_eq_mapM_toList, map_eq_pure_bind, Sem.run_bind, run_places _ _ hp]
          rfl
        simp only [Instr.build, Sem.run_bind, run_zero hz, Result.andThen_ok, run_underlying hu, hm]
        have e1 : (fun i : Nat => ps.toArray[i]?) = fun i : Nat => ps[i]? := by funext i; simp
        rw [e1, hc]
        rfl
      · exact h.elim
    · cases hp
  · exact h
def blS (e sz : Nat) (z : Array Value) (n : Nat) (parts : List (Nat × Value)) (w : World) (k : Value → World → Prop) : Prop :=
  match Instr.fill (fun i => some (i * sz, sz)) ((Array.range (n * sz)).map (z[· % z.size]!)) parts with
  | some cells => k (.slice (some ⟨w.heap.size, 0, none⟩) n n) (w.alloc (.cells cells e))
  | none => False
def slE (P : Program) (t : TypeId) : Option TypeId := match P.underlying t with
  | some (.slice e) => some e
  | _ => none
def blD (P : Program) (t n : Nat) (parts : List (Nat × Value)) (w : World) (k : Value → World → Prop) : Prop := match slE P t with
  | some e => (match P.info? e with
    | some i => (match i.zero with
      | some z => bif Nat.ble (n * i.size) 16777216 && !(Nat.beq (n * i.size) 0) then blS e i.size z.cells n parts w k else sm P (Instr.buildSlice t n parts.toArray) w k
      | none => False)
    | none => False)
  | none => False
theorem blD_sm {P : Program} {t n : Nat} {parts : List (Nat × Value)} {w : World} {k : Value → World → Prop} (h : blD P t n parts w k) : sm P (Instr.buildSlice t n parts.toArray) w k := by
  unfold blD at h
  split at h
  · rename_i e he
    unfold slE at he
    split at he
    · rename_i e' hu
      injection he with he
      subst he
      split at h
      · rename_i i hi
        split at h
        · rename_i z hz
          cases hb : (Nat.ble (n * i.size) 16777216 && !(Nat.beq (n * i.size) 0)) with
          | false => rw [hb] at h; exact h
          | true =>
            rw [hb] at h
            simp only [Bool.and_eq_true, Bool.not_eq_true'] at hb
            have h1 : n * i.size ≤ 16777216 := Nat.le_of_ble_eq_true hb.1
            have h2 : ¬ n * i.size = 0 := fun e => by rw [e] at hb; cases hb.2
            simp only [cond_true] at h
            unfold blS at h
            split at h
            · rename_i cells hc
              refine ⟨_, _, ?_, h⟩
              have hz' : zeroT P e' = some z := by simp [zeroT, hi, hz]
              simp only [Instr.buildSlice, Sem.run_bind, run_underlying hu, Result.andThen_ok, sizeOf, run_ti hi, Sem.run_pure, Sem.run_ite]
              rw [if_neg (by omega), if_neg h2]
              simp only [run_zero hz', Result.andThen_ok, Sem.run_bind, Sem.run_pure]
              rw [hc]
              simp [newRow]
            · exact h.elim
        · exact h.elim
      · exact h.elim
    · cases he
  · exact h.elim
def mkM (w : World) (k : Value → World → Prop) : Prop := k (.map (some w.heap.size)) (w.alloc (.map #[] 0))
theorem mkM_sm {P : Program} {t : TypeId} {w : World} {k : Value → World → Prop} (h : mkM w k) : sm P (Instr.makeMap t none) w k := ⟨_, _, rfl, h⟩
end Go.Eng
