/- A record's bytes, read, are the record: in plain Lean. -/
import Derived.Test.YtlicdhdpngahgaaDoorParse
set_option linter.unusedVariables false
set_option linter.unusedSimpArgs false
namespace Go.Proofs.YtlicdhdpngahgaaDoor
open Go.Eng Go.RowKit
theorem fold_add (l : List UInt8) : ∀ a : Nat, l.foldl (fun v b => v * 256 + b.toNat) a = a * 256 ^ l.length + ofB l := by
  induction l with
  | nil => intro a; simp [ofB]
  | cons x l ih =>
    intro a
    have e : ofB (x :: l) = x.toNat * 256 ^ l.length + ofB l := by rw [ofB, List.foldl_cons, ih, Nat.zero_mul, Nat.zero_add]
    rw [List.foldl_cons, ih, e, List.length_cons, Nat.pow_succ, Nat.add_mul, Nat.mul_assoc, Nat.mul_comm 256]
    omega
theorem ofB_cons (x : UInt8) (l : List UInt8) : ofB (x :: l) = x.toNat * 256 ^ l.length + ofB l := by
  rw [ofB, List.foldl_cons, fold_add, Nat.zero_mul, Nat.zero_add]
theorem ofB_mod : ∀ (n v : Nat), ofB (be n v) = v % 256 ^ n
  | 0, v => by rw [Nat.pow_zero, Nat.mod_one]; rfl
  | n + 1, v => by
    have e : (UInt8.ofNat (v / 256 ^ n)).toNat = v / 256 ^ n % 256 := UInt8.toNat_ofNat'
    rw [be, ofB_cons, be_length, ofB_mod n v, e, Nat.pow_succ, Nat.mod_mul, Nat.mul_comm]
    omega
theorem ofB_be (n v : Nat) (h : v < 256 ^ n) : ofB (be n v) = v := by rw [ofB_mod, Nat.mod_eq_of_lt h]
theorem take_put {n : Nat} {s rest : List UInt8} (h : s.length = n) : (⟨s ++ rest, false⟩ : Rd).take n = (s, ⟨rest, false⟩) := by
  subst h
  rw [Rd.take, if_neg (by simp)]
  simp
theorem num_put {x : Int} (h : in2 x) (rest : List UInt8) : (⟨n2 x ++ rest, false⟩ : Rd).num = (x, ⟨rest, false⟩) := by
  rw [Rd.num, take_put (n2_len x)]
  have := h.1; have := h.2
  have e : ofB (n2 x) = x.toNat := ofB_be 2 _ (by omega)
  simp only [e]
  rw [Int.toNat_of_nonneg h.1]
theorem long_put {x : Int} (h : in4 x) (rest : List UInt8) : (⟨n4 x ++ rest, false⟩ : Rd).long = (x, ⟨rest, false⟩) := by
  rw [Rd.long, take_put (n4_len x)]
  have := h.1; have := h.2
  have e : ofB (n4 x) = x.toNat := ofB_be 4 _ (by omega)
  simp only [e]
  rw [Int.toNat_of_nonneg h.1]
theorem text_put {s : List UInt8} (h : s.length ≤ 65535) (rest : List UInt8) : (⟨txt s ++ rest, false⟩ : Rd).text = (s, ⟨rest, false⟩) := by
  rw [Rd.text, txt, List.append_assoc, num_put (x := (s.length : Int)) ⟨by omega, by omega⟩]
  exact take_put (by simp)
theorem rep_put {α : Type} {f : Rd → α × Rd} {g : α → List UInt8} {rest : List UInt8} : ∀ {l : List α}, (∀ x ∈ l, ∀ t, f ⟨g x ++ t, false⟩ = (x, ⟨t, false⟩)) → rep f l.length ⟨l.flatMap g ++ rest, false⟩ = (l, ⟨rest, false⟩)
  | [], _ => rfl
  | x :: l, h => by
    rw [List.length_cons, rep_ok (by simp), List.flatMap_cons, List.append_assoc, h x List.mem_cons_self]
    simp only [rep_put (l := l) fun y hy => h y (List.mem_cons_of_mem _ hy)]
theorem rep2_put {α : Type} {f : Rd → α × Rd} {g : α → List UInt8} {rest : List UInt8} {l : List α} (hn : l.length ≤ 65535) (h : ∀ x ∈ l, ∀ t, f ⟨g x ++ t, false⟩ = (x, ⟨t, false⟩)) : (⟨n2 l.length ++ l.flatMap g ++ rest, false⟩ : Rd).rep2 f = (l, ⟨rest, false⟩) := by
  rw [Rd.rep2, List.append_assoc, num_put (x := (l.length : Int)) ⟨by omega, by omega⟩]
  simp only [Int.toNat_natCast]
  exact rep_put h
theorem nums_put {l : List Int} (h : pagesOk l) (rest : List UInt8) : (⟨numsB l ++ rest, false⟩ : Rd).nums = (l, ⟨rest, false⟩) := by
  have := h.1
  exact rep2_put (f := Rd.num) (by omega) fun x hx t => num_put (h.2 x hx) t
theorem pat_put {p : Pat} (h : patOk p) (rest : List UInt8) : (⟨patB p ++ rest, false⟩ : Rd).pat = (p, ⟨rest, false⟩) := by
  obtain ⟨h1, h2, h3, h4, h5, h6⟩ := h
  rw [Rd.pat, patB, List.append_assoc, List.append_assoc, num_put ⟨h1, by omega⟩]
  simp only [num_put (x := p.at_) ⟨h3, by omega⟩, text_put (s := p.byt) (by omega)]
theorem yes_in (b : Bool) : in2 (yesN b) := by cases b <;> decide
theorem yes_is (b : Bool) : decide (yesN b = 1) = b := by cases b <;> decide
theorem txi_put {p : Txi} (h : txOk p) (rest : List UInt8) : (⟨txB p ++ rest, false⟩ : Rd).txi = (p, ⟨rest, false⟩) := by
  obtain ⟨h1, h2, h3⟩ := h
  rw [Rd.txi, txB, List.append_assoc, List.append_assoc, List.append_assoc, num_put h1]
  simp only [long_put h2, num_put (yes_in p.com), nums_put h3, yes_is]
theorem dirt_put {p : Int × Int} (h : dirtOk p) (rest : List UInt8) : (⟨dirtB p ++ rest, false⟩ : Rd).dirt = (p, ⟨rest, false⟩) := by
  rw [Rd.dirt, dirtB, List.append_assoc, num_put h.1]
  simp only [long_put h.2]
/-- The round trip. -/
theorem round {r : Rec} (h : r.ok) (rest : List UInt8) : parse (putB r ++ rest) = r ∧ ps4 (putB r ++ rest) = ⟨rest, false⟩ := by
  obtain ⟨hk, ht, hp, hn, hkey, hold, hpg, hpl, htl, hdl, hpat, htx, hd⟩ := h
  have hlo : r.okey.length ≤ 65535 ∧ r.oval.length ≤ 65535 ∧ in2 r.blob ∧ in2 r.size := by
    rcases hold with ⟨h1, h2, h3, h4⟩ | ⟨⟨_, h1⟩, h2⟩
    · rw [h1, h2, h3, h4]; exact ⟨by simp, by simp, by decide, by decide⟩
    · rcases h2 with ⟨h3, h4, h5⟩ | ⟨h3, h4, h5, h6, h7⟩
      · rw [h3, h5]; exact ⟨by omega, by omega, by decide, by decide⟩
      · rw [h5]; exact ⟨by omega, by simp, ⟨by omega, by omega⟩, ⟨by omega, by omega⟩⟩
  obtain ⟨lo1, lo2, lo3, lo4⟩ := hlo
  have hkind : in2 r.kind := ⟨by omega, by omega⟩
  have e : putB r ++ rest = n2 r.kind ++ (n2 r.tx ++ (n4 r.prev ++ (n4 r.next ++ (txt r.key ++ (n2 (yesN r.had) ++ (txt r.okey ++ (txt r.oval ++ (n2 r.blob ++ (n2 r.size ++ (numsB r.pages ++ (n2 r.patches.length ++ r.patches.flatMap patB ++ (n2 r.txs.length ++ r.txs.flatMap txB ++ (n2 r.dirty.length ++ r.dirty.flatMap dirtB ++ rest))))))))))))) := by
    simp only [putB, headB, List.append_assoc]
  rw [e]
  generalize hT13 : n2 r.dirty.length ++ r.dirty.flatMap dirtB ++ rest = T13
  generalize hT12 : n2 r.txs.length ++ r.txs.flatMap txB ++ T13 = T12
  generalize hT11 : n2 r.patches.length ++ r.patches.flatMap patB ++ T12 = T11
  generalize hT10 : numsB r.pages ++ T11 = T10
  generalize hT9 : n2 r.size ++ T10 = T9
  generalize hT8 : n2 r.blob ++ T9 = T8
  generalize hT7 : txt r.oval ++ T8 = T7
  generalize hT6 : txt r.okey ++ T7 = T6
  generalize hT5 : n2 (yesN r.had) ++ T6 = T5
  generalize hT4 : txt r.key ++ T5 = T4
  generalize hT3 : n4 r.next ++ T4 = T3
  generalize hT2 : n4 r.prev ++ T3 = T2
  generalize hT1 : n2 r.tx ++ T2 = T1
  generalize hT0 : n2 r.kind ++ T1 = T0
  clear e
  have s1 : (hd1 T0).num = (r.kind, ⟨T1, false⟩) := by rw [hd1, ← hT0]; exact num_put hkind _
  have s2 : (hd2 T0).num = (r.tx, ⟨T2, false⟩) := by rw [hd2, s1, ← hT1]; exact num_put ht _
  have s3 : (hd3 T0).long = (r.prev, ⟨T3, false⟩) := by rw [hd3, s2, ← hT2]; exact long_put hp _
  have s4 : (hd4 T0).long = (r.next, ⟨T4, false⟩) := by rw [hd4, s3, ← hT3]; exact long_put hn _
  have s5 : (hd5 T0).text = (r.key, ⟨T5, false⟩) := by rw [hd5, s4, ← hT4]; exact text_put (by omega) _
  have s6 : (hd6 T0).num = (yesN r.had, ⟨T6, false⟩) := by rw [hd6, s5, ← hT5]; exact num_put (yes_in _) _
  have s7 : (hd7 T0).text = (r.okey, ⟨T7, false⟩) := by rw [hd7, s6, ← hT6]; exact text_put lo1 _
  have s8 : (hd8 T0).text = (r.oval, ⟨T8, false⟩) := by rw [hd8, s7, ← hT7]; exact text_put lo2 _
  have s9 : (hd9 T0).num = (r.blob, ⟨T9, false⟩) := by rw [hd9, s8, ← hT8]; exact num_put lo3 _
  have s10 : (hd10 T0).num = (r.size, ⟨T10, false⟩) := by rw [hd10, s9, ← hT9]; exact num_put lo4 _
  have s11 : (hd11 T0).nums = (r.pages, ⟨T11, false⟩) := by rw [hd11, s10, ← hT10]; exact nums_put hpg _
  have s12 : (ps1 T0).rep2 Rd.pat = (r.patches, ⟨T12, false⟩) := by rw [ps1, s11, ← hT11]; exact rep2_put (by omega) fun p hp t => pat_put (hpat p hp) t
  have s13 : (ps2 T0).rep2 Rd.txi = (r.txs, ⟨T13, false⟩) := by rw [ps2, s12, ← hT12]; exact rep2_put (by omega) fun p hp t => txi_put (htx p hp) t
  have s14 : (ps3 T0).rep2 Rd.dirt = (r.dirty, ⟨rest, false⟩) := by rw [ps3, s13, ← hT13]; exact rep2_put (by omega) fun p hp t => dirt_put (hd p hp) t
  refine ⟨?_, by rw [ps4, s14]⟩
  rw [parse, s1, s2, s3, s4, s5, s6, s7, s8, s9, s10, s11, s12, s13, s14, yes_is]
theorem round_ok {r : Rec} (h : r.ok) : getOk (putB r) ∧ parse (putB r) = r := by
  obtain ⟨h1, h2⟩ := round h []
  rw [List.append_nil] at h1 h2
  exact ⟨⟨by rw [h2], by rw [h1]; exact h, by rw [h1]⟩, h1⟩
/-- Nothing behind it. -/
theorem round_more {r : Rec} (h : r.ok) (more : List UInt8) : getOk (putB r ++ more) ↔ more = [] := by
  constructor
  · intro ⟨_, _, h3⟩
    rw [(round h more).1] at h3
    simpa using h3
  · intro e
    subst e
    rw [List.append_nil]
    exact (round_ok h).1
/-- Nothing missing. -/
theorem round_cut {r : Rec} (h : r.ok) {m : Nat} (hm : m < (putB r).length) : ¬ getOk ((putB r).take m) := by
  intro ⟨_, h2, h3⟩
  have e1 := (round h2 ((putB r).drop m)).1
  rw [h3, List.take_append_drop] at e1
  have e2 := (round_ok h).2
  rw [e2] at e1
  rw [← e1] at h3
  have := congrArg List.length h3
  rw [List.length_take] at this
  omega
/-- Nothing else. -/
theorem round_other {r : Rec} {b : List UInt8} (h : r.ok) (hb : getOk b) (hp : parse b = r) : b = putB r := by rw [← hp, hb.2.2]
end Go.Proofs.YtlicdhdpngahgaaDoor
