/- The document's own batches and scans. -/
import Derived.Test.YtlicdhdpngahgaaGreatSec
import Derived.Test.YtlicdhdpngahgaaGreatScan
set_option linter.unusedVariables false
set_option linter.unusedSimpArgs false
namespace Go.Proofs.YtlicdhdpngahgaaGreat
open Go.Eng Go.RowKit
theorem strm_nil {l : List (List UInt8)} : strm l = [] ↔ ¬ ((∀ r ∈ l, recOk r) ∧ 0 < l.length) := by
  unfold strm
  split
  · rename_i h
    constructor
    · intro h0 h2
      have := lens_ge l
      rw [← flat_length, h0] at this
      simp at this
      omega
    · intro h0
      have : l.length = 0 := by
        rcases Nat.eq_zero_or_pos l.length with h1 | h1
        · exact h1
        · exact absurd ⟨h, h1⟩ h0
      have : l = [] := List.eq_nil_of_length_eq_zero this
      subst this
      rfl
  · rename_i h
    exact ⟨fun _ h2 => h h2.1, fun _ => rfl⟩
theorem stream_spec {l : List (List UInt8)} {v : Value} {w : World} {k : Value → World → Prop} (hv : Lst w v l.length (tx l)) (hsum : lens l ≤ 140737488355328)
    (hk : ∀ w', Later w w' → k (.tuple #[.string (bs (strm l)), .bool (decide (strm l ≠ []))]) w') :
    Calls Tryz.prog 32 #[v] w (rt k) := by
  apply honeycombref1_stream_run
  simp only [honeycombref1_stream]
  refine lp_ind _ (fun (m : Nat) r w1 => r = [v, .string (bs (flat (l.take (l.length - m)))), .int .i64 ((l.length - m : Nat) : Int)] ∧ m ≤ l.length ∧ (∀ r ∈ l.take (l.length - m), recOk r) ∧ Later w w1) id ?_ (i := l.length)
    ⟨by simp [flat, bs], Nat.le_refl _, by simp, Later.refl _⟩
  rintro m r w1 rec ⟨rfl, hm, hok, hL1⟩ ih
  simp only [honeycombref1_stream_L3, iw_add, iw_sub, iw_mul, iw_lss, iw_leq, iw_gtr, iw_geq, iw_eql, iw_neq, iw_quo, iw_rem, un_not, len_s, len_l, nck_p, fld_p, cv_i, unc_c, ex_0, ex_1, ex_2, st_eq, st_ne, brV_true, brV_false, brV_b, brV_not, one_one, nil_p, nil_pn, nil_n, nil_nn, decide_eq_true_eq, true_and, nb_ite, bs_size, Nat.zero_add, Bool.not_true, Bool.not_false, Bool.false_eq_true, eq_self, if_true, if_false, jn]
  refine (hL1.lst hv).len ?_
  simp only [iw_add, iw_sub, iw_mul, iw_lss, iw_leq, iw_gtr, iw_geq, iw_eql, iw_neq, iw_quo, iw_rem, un_not, len_s, len_l, nck_p, fld_p, cv_i, unc_c, ex_0, ex_1, ex_2, st_eq, st_ne, brV_true, brV_false, brV_b, brV_not, one_one, nil_p, nil_pn, nil_n, nil_nn, decide_eq_true_eq, true_and, nb_ite, bs_size, Nat.zero_add, Bool.not_true, Bool.not_false, Bool.false_eq_true, eq_self, if_true, if_false, jn]
  by_cases h0 : m = 0
  · subst h0
    rw [if_neg (by omega)]
    refine (hL1.lst hv).len ?_
    simp only [iw_add, iw_sub, iw_mul, iw_lss, iw_leq, iw_gtr, iw_geq, iw_eql, iw_neq, iw_quo, iw_rem, un_not, len_s, len_l, nck_p, fld_p, cv_i, unc_c, ex_0, ex_1, ex_2, st_eq, st_ne, brV_true, brV_false, brV_b, brV_not, one_one, nil_p, nil_pn, nil_n, nil_nn, decide_eq_true_eq, true_and, nb_ite, bs_size, Nat.zero_add, Bool.not_true, Bool.not_false, Bool.false_eq_true, eq_self, if_true, if_false, jn]
    have hall : ∀ r ∈ l, recOk r := by simpa using hok
    have e1 : strm l = flat l := by rw [strm, if_pos hall]
    have e2 : decide ((l.length : Int) > 0) = decide (strm l ≠ []) := by
      congr 1
      apply propext
      constructor
      · intro h hn; exact (strm_nil.1 hn) ⟨hall, by omega⟩
      · intro h
        rcases Nat.eq_zero_or_pos l.length with h1 | h1
        · exact absurd (strm_nil.2 fun h2 => by omega) h
        · omega
    rw [e2]
    have := hk w1 hL1
    rw [e1] at this ⊢
    simpa using this
  · obtain ⟨m, rfl⟩ : ∃ q, m = q + 1 := ⟨m - 1, by omega⟩
    rw [if_pos (by omega)]
    have hlt : l.length - (m + 1) < l.length := by omega
    have hmi : l.length - m = l.length - (m + 1) + 1 := by omega
    generalize hi : l.length - (m + 1) = i at *
    have hbad : ¬ recOk l[i] → honeycombref1_stream_J6 k rec [] w1 := fun hn => by
      have := hk w1 hL1
      have e : strm l = [] := strm_nil.2 fun h => hn (h.1 _ (List.getElem_mem hlt))
      rw [e] at this
      exact this
    refine (hL1.lst hv).at1 (tx_get hlt) hlt fun a ha _ => ⟨_, ha, ?_⟩
    simp only [show (⟨#[]⟩ : ByteArray) = bs [] from rfl, iw_add, iw_sub, iw_mul, iw_lss, iw_leq, iw_gtr, iw_geq, iw_eql, iw_neq, iw_quo, iw_rem, un_not, len_s, len_l, nck_p, fld_p, cv_i, unc_c, ex_0, ex_1, ex_2, st_eq, st_ne, brV_true, brV_false, brV_b, brV_not, one_one, nil_p, nil_pn, nil_n, nil_nn, decide_eq_true_eq, true_and, nb_ite, bs_size, Nat.zero_add, Bool.not_true, Bool.not_false, Bool.false_eq_true, eq_self, if_true, if_false, jn]
    by_cases h1 : l[i] = []
    · rw [if_pos h1]; exact hbad fun h => h.1 h1
    rw [if_neg h1]
    refine (hL1.lst hv).at1 (tx_get hlt) hlt fun a ha _ => ⟨_, ha, ?_⟩
    simp only [iw_add, iw_sub, iw_mul, iw_lss, iw_leq, iw_gtr, iw_geq, iw_eql, iw_neq, iw_quo, iw_rem, un_not, len_s, len_l, nck_p, fld_p, cv_i, unc_c, ex_0, ex_1, ex_2, st_eq, st_ne, brV_true, brV_false, brV_b, brV_not, one_one, nil_p, nil_pn, nil_n, nil_nn, decide_eq_true_eq, true_and, nb_ite, bs_size, Nat.zero_add, Bool.not_true, Bool.not_false, Bool.false_eq_true, eq_self, if_true, if_false, jn]
    by_cases h2 : (l[i].length : Int) > 65535
    · rw [if_pos h2]; exact hbad fun h => by have := h.2; omega
    rw [if_neg h2]
    refine (hL1.lst hv).at1 (tx_get hlt) hlt fun a ha _ => ⟨_, ha, ?_⟩
    refine text_from (by omega) fun w2 hw2 => ?_
    have e1 := lens_take hlt
    have e2 := lens_le l (i + 1)
    have e3 := lens_ge l
    refine str_add (by rw [flat_length]; simp; omega) ?_
    rw [wrap64 (by omega) (by omega)]
    refine ih m _ _ (by simp) ⟨?_, by omega, ?_, hL1.tr hw2⟩
    · rw [hmi, List.take_add_one, List.getElem?_eq_getElem hlt, flat_append]
      simp [flat]
    · rw [hmi, List.take_add_one, List.getElem?_eq_getElem hlt]
      intro r hr
      rcases List.mem_append.1 hr with hr | hr
      · exact hok r hr
      · simp at hr; subst hr; exact ⟨h1, by omega⟩
theorem SCount_spec {l : List (List UInt8)} {v : Value} {w : World} {k : Value → World → Prop} (hv : Lst w v l.length (tx l)) (hsum : lens l ≤ 140737488355328) (hk : ∀ w', Later w w' → k (.int .i64 (secs (strm l).length)) w') :
    Calls Tryz.prog 18 #[v] w (rt k) := by
  apply honeycombref1_Count_run
  simp only [honeycombref1_Count]
  refine honeycombref1_stream_call (stream_spec hv hsum fun w' hw' => ?_)
  have hle := strm_le l
  simp only [iw_add, iw_sub, iw_mul, iw_lss, iw_leq, iw_gtr, iw_geq, iw_eql, iw_neq, iw_quo, iw_rem, un_not, len_s, len_l, nck_p, fld_p, cv_i, unc_c, ex_0, ex_1, ex_2, st_eq, st_ne, brV_true, brV_false, brV_b, brV_not, one_one, nil_p, nil_pn, nil_n, nil_nn, decide_eq_true_eq, true_and, nb_ite, bs_size, Nat.zero_add, Bool.not_true, Bool.not_false, Bool.false_eq_true, eq_self, if_true, if_false, jn]
  by_cases h : strm l = []
  · rw [if_neg (by simpa using h)]
    have := hk w' hw'
    rw [h] at this
    exact this
  rw [if_pos h]
  rw [wrap64 (show -9223372036854775808 ≤ ((strm l).length : Int) + 56 by omega) (by omega), wrap64 (show -9223372036854775808 ≤ ((strm l).length : Int) + 56 - 1 by omega) (by omega)]
  refine ⟨by decide, ?_⟩
  have e1 : (((strm l).length : Int) + 56 - 1).tdiv 56 = ((secs (strm l).length : Nat) : Int) := by
    rw [Int.tdiv_eq_ediv_of_nonneg (by omega)]
    unfold secs
    omega
  rw [e1, wrap64 (by unfold secs; omega) (by unfold secs; omega)]
  exact hk _ hw'
theorem SBatch_spec {e i : Int} {l : List (List UInt8)} {v : Value} {w : World} {k : Value → World → Prop} (hi : -9223372036854775808 ≤ i ∧ i ≤ 9223372036854775807) (hv : Lst w v l.length (tx l)) (hsum : lens l ≤ 140737488355)
    (hno : batch e i l = none → ∀ w', Later w w' → k (.tuple #[.slice none 0 0, .bool false]) w')
    (hyes : ∀ out, batch e i l = some out → ∀ v' w', Later w w' → w'.ownsRow w.heap.size 9 1 v' out.length (tx out) → k (.tuple #[v', .bool true]) w') :
    Calls Tryz.prog 12 #[.int .i64 e, .int .i64 i, v] w (rt k) := by
  apply honeycombref1_Batch_run
  simp only [honeycombref1_Batch]
  refine honeycombref1_stream_call (stream_spec hv (by omega) fun W hW => ?_)
  have hle := strm_le l
  simp only [iw_add, iw_sub, iw_mul, iw_lss, iw_leq, iw_gtr, iw_geq, iw_eql, iw_neq, iw_quo, iw_rem, un_not, len_s, len_l, nck_p, fld_p, cv_i, unc_c, ex_0, ex_1, ex_2, st_eq, st_ne, brV_true, brV_false, brV_b, brV_not, one_one, nil_p, nil_pn, nil_n, nil_nn, decide_eq_true_eq, true_and, nb_ite, bs_size, Nat.zero_add, Bool.not_true, Bool.not_false, Bool.false_eq_true, eq_self, if_true, if_false, jn]
  by_cases h0 : strm l = []
  · rw [if_neg (by simpa using h0)]
    exact hno (by rw [batch, if_pos h0]) _ hW
  rw [if_pos h0]
  have hb : batch e i l = cuts (strm l).length e i true (strm l) := by rw [batch, if_neg h0]
  rw [hb] at hno hyes
  generalize hss : strm l = s at *
  refine lp_ind _ (fun (n : Nat) r w1 => ∃ (j : Nat) (o : Value) (done : List (List UInt8)), r = [.int .i64 e, .int .i64 i, .string (bs s), o, .int .i64 ((56 * j : Nat) : Int)] ∧ s.length - 56 * j ≤ n ∧ n + j ≤ s.length ∧ (j = 0 ∨ (0 ≤ i ∧ i + j ≤ 65536)) ∧ done.length = j ∧ w1.ownsRow w.heap.size 9 1 o done.length (tx done) ∧ Later w w1 ∧
      (cuts n e (i + j) (decide (j = 0)) (s.drop (56 * j))).map (done ++ ·) = cuts s.length e i true s) id ?_ (i := s.length) ⟨0, _, [], rfl, by omega, by omega, .inl rfl, rfl, World.ownsRow_nil _ _ _ _, hW, by simp⟩
  rintro n r w1 rec ⟨j, o, done, rfl, hn, hnj, hij, hdj, hown, hL, hc⟩ ih
  simp only [honeycombref1_Batch_L6, iw_add, iw_sub, iw_mul, iw_lss, iw_leq, iw_gtr, iw_geq, iw_eql, iw_neq, iw_quo, iw_rem, un_not, len_s, len_l, nck_p, fld_p, cv_i, unc_c, ex_0, ex_1, ex_2, st_eq, st_ne, brV_true, brV_false, brV_b, brV_not, one_one, nil_p, nil_pn, nil_n, nil_nn, decide_eq_true_eq, true_and, nb_ite, bs_size, Nat.zero_add, Bool.not_true, Bool.not_false, Bool.false_eq_true, eq_self, if_true, if_false, jn]
  by_cases hb0 : s.length ≤ 56 * j
  · rw [if_neg (by omega)]
    have hd : s.drop (56 * j) = [] := List.drop_of_length_le hb0
    rw [hd] at hc
    have : cuts n e (i + j) (decide (j = 0)) [] = some [] := by cases n <;> simp [cuts]
    rw [this] at hc
    exact hyes done (by rw [← hc]; simp) _ _ hL hown
  rw [if_pos (by omega)]
  obtain ⟨n, rfl⟩ : ∃ q, n = q + 1 := ⟨n - 1, by omega⟩
  have hd : s.drop (56 * j) ≠ [] := fun h => by
    have := congrArg List.length h
    simp at this
    omega
  have ej : (((56 * j : Nat) : Int).tdiv 56) = (j : Int) := by
    rw [Int.tdiv_eq_ediv_of_nonneg (by omega)]; omega
  have ew : IntKind.i64.wrap (i + j) = i + j := by
    rcases hij with h | h
    · subst h; exact wrap64 (by omega) (by omega)
    · exact wrap64 (by omega) (by omega)
  have e0 : decide (((56 * j : Nat) : Int) = 0) = decide (j = 0) := by
    congr 1; apply propext; omega
  rw [ej, wrap64 (show -9223372036854775808 ≤ (j : Int) by omega) (by omega), ew, wrap64 (show -9223372036854775808 ≤ ((56 * j : Nat) : Int) + 56 by omega) (by omega), e0]
  refine ⟨by decide, ?_⟩
  refine min_yl ?_
  have emin : (if (s.length : Int) < ((56 * j : Nat) : Int) + 56 then (s.length : Int) else ((56 * j : Nat) : Int) + 56) = ((min (56 * j + 56) s.length : Nat) : Int) := by
    split <;> omega
  have ecut : (s.take (min (56 * j + 56) s.length)).drop (56 * j) = (s.drop (56 * j)).take 56 := by
    rw [List.drop_take]
    by_cases h : 56 * j + 56 ≤ s.length
    · rw [Nat.min_eq_left h]; congr 1; omega
    · rw [Nat.min_eq_right (by omega), List.take_of_length_le (by simp), List.take_of_length_le (by simp; omega)]
  rw [emin]
  simp only [slStr, natO, Int.toNat_natCast, bs_size, bs_extract, ecut]
  refine ⟨by omega, by omega, by omega, by omega, ?_⟩
  refine fill_sec ?_
  refine SPut_from (s := ⟨e, i + j, decide (j = 0), (s.drop (56 * j)).take 56⟩) rfl fun w2 hw2 => ?_
  rw [cuts, if_neg hd] at hc
  unfold Sec.out
  by_cases hok : (⟨e, i + j, decide (j = 0), (s.drop (56 * j)).take 56⟩ : Sec).ok
  · rw [if_pos hok] at hc ⊢
    simp only [iw_add, iw_sub, iw_mul, iw_lss, iw_leq, iw_gtr, iw_geq, iw_eql, iw_neq, iw_quo, iw_rem, un_not, len_s, len_l, nck_p, fld_p, cv_i, unc_c, ex_0, ex_1, ex_2, st_eq, st_ne, brV_true, brV_false, brV_b, brV_not, one_one, nil_p, nil_pn, nil_n, nil_nn, decide_eq_true_eq, true_and, nb_ite, bs_size, Nat.zero_add, Bool.not_true, Bool.not_false, Bool.false_eq_true, eq_self, if_true, if_false, jn]
    refine blS_one rfl ?_
    refine app T_strs ((hw2.row hown).alloc _) (one_string _ _) (by simp only [maxLen]; omega) (by omega) (by have := hL.size; have := hw2.size; simp; omega) fun v' w4 hown' hg _ _ => ?_
    have hi1 : 0 ≤ i + j ∧ i + j ≤ 65535 := ⟨hok.2.2.1, hok.2.2.2.1⟩
    have hi0 : 0 ≤ i := by
      rcases hij with h | h
      · subst h; simpa using hi1.1
      · exact h.1
    refine ih n _ _ (by simp) ⟨j + 1, v', done ++ [(⟨e, i + j, decide (j = 0), (s.drop (56 * j)).take 56⟩ : Sec).put], by congr 4, by omega, by omega, .inr ⟨hi0, by omega⟩, by simp; omega, ?_, ?_, ?_⟩
    · rw [tx_append, List.length_append]; exact hown'
    · exact ((hL.tr hw2).alloc (by have := hL.size; have := hw2.size; omega) _).grown hg (by have := hL.size; have := hw2.size; simp; omega) (fun k hk => (hown.lt k hk).1)
    · rw [← hc, Option.map_map]
      have e5 : (i + ((j + 1 : Nat) : Int)) = i + j + 1 := by omega
      have e6 : s.drop (56 * (j + 1)) = (s.drop (56 * j)).drop 56 := by rw [List.drop_drop, Nat.mul_succ]
      have e7 : decide (j + 1 = 0) = false := by simp
      rw [e5, e6, e7]
      congr 1
      funext x
      simp
  · rw [if_neg hok] at hc ⊢
    simp only [iw_add, iw_sub, iw_mul, iw_lss, iw_leq, iw_gtr, iw_geq, iw_eql, iw_neq, iw_quo, iw_rem, un_not, len_s, len_l, nck_p, fld_p, cv_i, unc_c, ex_0, ex_1, ex_2, st_eq, st_ne, brV_true, brV_false, brV_b, brV_not, one_one, nil_p, nil_pn, nil_n, nil_nn, decide_eq_true_eq, true_and, nb_ite, bs_size, Nat.zero_add, Bool.not_true, Bool.not_false, Bool.false_eq_true, eq_self, if_true, if_false, jn]
    exact hno (by rw [← hc]; rfl) _ (hL.tr hw2)
theorem eat_ep : ∀ (n : Nat) (s : Scn), (eat n s).ep = s.ep
  | 0, s => rfl
  | n + 1, s => by
    unfold eat
    split
    · split
      · rfl
      · split
        · rfl
        · exact eat_ep n s.one
    · rfl
/-- The rest of a sector's round: the records that are whole. -/
theorem SScan_eat {B g : Nat} {w : World} {s0 : Scn} {x : Sec} {i : Nat} {v0 o : Value} {k : Value → World → Prop} {r6 : List Value → World → Prop} (hB : B ≤ w.heap.size) (hg : w.heap[g]? = some (.cells x.cells 30 (0, 0))) (hgB : B ≤ g)
    (hrow : w.ownsRow B 9 1 o s0.l.length (tx s0.l)) (hog : o.ownBlock ≠ some g) (hs : s0.b.length + s0.l.length ≤ 140737488355) (hep : s0.ep = x.epoch) (hat : s0.at_ = (i : Int) + 1) (hi : i ≤ 1000000000)
    (hk : ∀ o' w', Below B w w' → w'.ownsRow B 9 1 o' (eat s0.b.length s0).l.length (tx (eat s0.b.length s0).l) →
      r6 [v0, o', .int .i64 (eat s0.b.length s0).en, .int .i64 (eat s0.b.length s0).la, .int .i64 (eat s0.b.length s0).ep, .string (bs (eat s0.b.length s0).b), .bool (!(eat s0.b.length s0).op), .int .i64 ((i : Int) + 1)] w') :
    lp (honeycombref1_Scan_L14 k r6) [v0, o, .int .i64 s0.en, .int .i64 s0.la, .int .i64 x.epoch, .string (bs s0.b), .bool (!s0.op), .int .i64 (i : Int), .pointer (some ⟨g, 0, none⟩)] w := by
  refine lp_ind _ (fun (n : Nat) r w1 => ∃ (s : Scn) (o : Value), r = [v0, o, .int .i64 s.en, .int .i64 s.la, .int .i64 x.epoch, .string (bs s.b), .bool (!s.op), .int .i64 (i : Int), .pointer (some ⟨g, 0, none⟩)] ∧ w1.ownsRow B 9 1 o s.l.length (tx s.l) ∧ o.ownBlock ≠ some g ∧
      w1.heap[g]? = some (.cells x.cells 30 (0, 0)) ∧ s.ep = x.epoch ∧ s.at_ = (i : Int) + 1 ∧ s.b.length ≤ n ∧ s.b.length + s.l.length ≤ 140737488355 ∧ Below B w w1 ∧ eat n s = eat s0.b.length s0) id ?_ (i := s0.b.length) ⟨s0, o, rfl, hrow, hog, hg, hep, hat, Nat.le_refl _, hs, Below.refl _ _, rfl⟩
  rintro n r w1 rec ⟨s, o, rfl, hrow, hog, hg, hep, hat, hbn, hsz, hb, he⟩ ih
  have hend : eat n s = s → honeycombref1_Scan_J7 k r6 [v0, o, .int .i64 s.en, .int .i64 s.la, .int .i64 x.epoch, .string (bs s.b), .bool (!s.op), .int .i64 (i : Int)] w1 := fun h => by
    simp only [honeycombref1_Scan_J7, iw_add, iw_sub, iw_mul, iw_lss, iw_leq, iw_gtr, iw_geq, iw_eql, iw_neq, iw_quo, iw_rem, un_not, len_s, len_l, nck_p, fld_p, cv_i, unc_c, ex_0, ex_1, ex_2, st_eq, st_ne, brV_true, brV_false, brV_b, brV_not, one_one, nil_p, nil_pn, nil_n, nil_nn, decide_eq_true_eq, true_and, nb_ite, bs_size, Nat.zero_add, Bool.not_true, Bool.not_false, Bool.false_eq_true, eq_self, if_true, if_false, jn]
    rw [wrap64 (by omega) (by omega), ← hep]
    have := hk o w1 hb
    rw [← he, h] at this
    exact this hrow
  simp only [honeycombref1_Scan_L14, iw_add, iw_sub, iw_mul, iw_lss, iw_leq, iw_gtr, iw_geq, iw_eql, iw_neq, iw_quo, iw_rem, un_not, len_s, len_l, nck_p, fld_p, cv_i, unc_c, ex_0, ex_1, ex_2, st_eq, st_ne, brV_true, brV_false, brV_b, brV_not, one_one, nil_p, nil_pn, nil_n, nil_nn, decide_eq_true_eq, true_and, nb_ite, bs_size, Nat.zero_add, Bool.not_true, Bool.not_false, Bool.false_eq_true, eq_self, if_true, if_false, jn]
  by_cases h1 : s.op = true
  rotate_left
  · have h1' : s.op = false := by simpa using h1
    rw [h1', if_neg (by decide), ← h1']
    exact hend (by cases n <;> simp [eat, h1])
  rw [if_pos h1]
  by_cases h2 : (s.b.length : Int) ≥ 2
  rotate_left
  · rw [if_neg h2]; exact hend (by cases n <;> simp [eat, show ¬ 2 ≤ s.b.length by omega])
  rw [if_pos h2]
  obtain ⟨n, rfl⟩ : ∃ q, n = q + 1 := ⟨n - 1, by omega⟩
  have h22 : s.op = true ∧ 2 ≤ s.b.length := ⟨h1, by omega⟩
  rw [eat, if_pos h22] at he hend
  try simp only [slStr, natO, show Int.toNat 2 = 2 from rfl, bs_size, bs_extract, List.drop_zero]
  refine ⟨by decide, by omega, by omega, ?_⟩
  refine Of_from (by simp; omega) ?_
  have hm := two_lt s.b
  generalize hmm : ofB (s.b.take 2) = m at *
  simp only [iw_add, iw_sub, iw_mul, iw_lss, iw_leq, iw_gtr, iw_geq, iw_eql, iw_neq, iw_quo, iw_rem, un_not, len_s, len_l, nck_p, fld_p, cv_i, unc_c, ex_0, ex_1, ex_2, st_eq, st_ne, brV_true, brV_false, brV_b, brV_not, one_one, nil_p, nil_pn, nil_n, nil_nn, decide_eq_true_eq, true_and, nb_ite, bs_size, Nat.zero_add, Bool.not_true, Bool.not_false, Bool.false_eq_true, eq_self, if_true, if_false, jn]
  have e2 : (2 : Int) + (m : Int) = ((2 + m : Nat) : Int) := by omega
  rw [wrap64 (by omega) (by omega), e2]
  by_cases h4 : (s.b.length : Int) ≥ ((2 + m : Nat) : Int)
  rotate_left
  · rw [if_neg h4]
    exact hend (by rw [if_neg (by omega), if_pos (by omega)])
  rw [if_pos h4]
  try simp only [slStr, natO, show Int.toNat 2 = 2 from rfl, bs_size, bs_extract, List.drop_zero]
  refine ⟨by decide, by omega, by omega, ?_⟩
  refine Of_from (by simp; omega) ?_
  rw [hmm]
  simp only [iw_add, iw_sub, iw_mul, iw_lss, iw_leq, iw_gtr, iw_geq, iw_eql, iw_neq, iw_quo, iw_rem, un_not, len_s, len_l, nck_p, fld_p, cv_i, unc_c, ex_0, ex_1, ex_2, st_eq, st_ne, brV_true, brV_false, brV_b, brV_not, one_one, nil_p, nil_pn, nil_n, nil_nn, decide_eq_true_eq, true_and, nb_ite, bs_size, Nat.zero_add, Bool.not_true, Bool.not_false, Bool.false_eq_true, eq_self, if_true, if_false, jn]
  by_cases h3 : m = 0
  · rw [if_pos (by omega)]
    rw [if_pos h3] at he
    simp only [honeycombref1_Scan_J7, iw_add, iw_sub, iw_mul, iw_lss, iw_leq, iw_gtr, iw_geq, iw_eql, iw_neq, iw_quo, iw_rem, un_not, len_s, len_l, nck_p, fld_p, cv_i, unc_c, ex_0, ex_1, ex_2, st_eq, st_ne, brV_true, brV_false, brV_b, brV_not, one_one, nil_p, nil_pn, nil_n, nil_nn, decide_eq_true_eq, true_and, nb_ite, bs_size, Nat.zero_add, Bool.not_true, Bool.not_false, Bool.false_eq_true, eq_self, if_true, if_false, jn]
    rw [wrap64 (by omega) (by omega), ← hep]
    have := hk o w1 hb
    rw [← he] at this
    exact this hrow
  rw [if_neg (by omega)]
  rw [if_neg h3, if_neg (by omega)] at he
  rw [wrap64 (by omega) (by omega), e2]
  try simp only [slStr, natO, show Int.toNat 2 = 2 from rfl, Int.toNat_natCast, bs_size, bs_extract]
  refine ⟨by omega, by decide, by omega, by omega, ?_⟩
  refine blS_one rfl ?_
  have hs1 := hb.size
  refine app T_strs (hrow.alloc _) (one_string _ _) (by simp only [maxLen]; omega) (by omega) (by simp; omega) fun o' w3 hrow' hgr hat' _ => ?_
  have hgl : g < w1.heap.size := lt_of_heap hg
  have hg3 : w3.heap[g]? = some (.cells x.cells 30 (0, 0)) := by
    rw [hgr.block g (by simp; omega) (fun e => hog e.symm)]; exact (Later.al _ _).heap hg
  have hog' : o'.ownBlock ≠ some g := by
    rcases hat' with e | e
    · rw [e]; exact hog
    · rw [e]; intro e2; injection e2 with e2; simp at e2; omega
  refine ⟨by omega, by omega, Nat.le_refl _, ?_⟩
  rw [wrap64 (by omega) (by omega)]
  have hgd3 : w3.drew.heap[g]? = some (.cells x.cells 30 (0, 0)) := hg3
  refine ldC_heap hgd3 (v := .int .i64 x.epoch) rfl ?_
  have hone : s.one = { s with l := s.l ++ [(s.b.take (2 + m)).drop 2], b := s.b.drop (2 + m), en := s.at_, la := s.ep } := by rw [Scn.one, hmm]
  have etk : (s.b.take s.b.length).drop (2 + m) = s.b.drop (2 + m) := by rw [List.take_length]
  have h13 : Below B w w3 := (hb.alloc (by omega) _).grown hgr (by simp; omega) (fun k hk => (hrow.lt k hk).1)
  refine ih n _ _ (by simp) ⟨s.one, o', ?_, ?_, hog', hgd3, ?_, ?_, ?_, ?_, h13.trans (Below.drew (Below.refl B w3)), he⟩
  · rw [hone, etk, hat, hep, h1]
  · rw [hone]
    refine (Later.dr w3).row ?_
    show w3.ownsRow B _ 1 o' (s.l ++ _).length (tx (s.l ++ _))
    rw [tx_append, List.length_append]; exact hrow'
  · rw [hone]; exact hep
  · rw [hone]; exact hat
  · rw [hone]; simp; omega
  · rw [hone]; simp; omega
theorem SGet_lit {x : Sec} {g : Nat} {w : World} {cs : Array Value} {T : TypeId} {k : World → Prop} (h : w.heap[g]? = some (.cells cs T (0, 0))) (hn : cs.size = 4)
    (hk : ∀ w', w'.heap[g]? = some (.cells x.cells T (0, 0)) → Only g w w' → k w') : stN 4 (.pointer (some ⟨g, 0, none⟩)) (.agg x.cells) w k :=
  stN_heap h hn rfl (by simp [isCell, Sec.cells]) fun w' h1 h2 h3 h4 => hk w' h1 ⟨h2, h3, h4⟩
theorem SScan_spec {l : List (List UInt8)} {v : Value} {w : World} {k : Value → World → Prop} (hv : Lst w v l.length (tx l)) (hlen : ∀ b ∈ l, b.length ≤ 9223372036854775807) (hn : l.length ≤ 1000000000)
    (hk : ∀ v' w', Later w w' → w'.ownsRow w.heap.size 9 1 v' (scnGo scn0 l).l.length (tx (scnGo scn0 l).l) → k (.tuple #[v', .int .i64 (scnGo scn0 l).en, .int .i64 (scnGo scn0 l).la]) w') :
    Calls Tryz.prog 15 #[v] w (rt k) := by
  apply honeycombref1_Scan_run
  simp only [honeycombref1_Scan]
  refine lp_ind _ (fun (m : Nat) r w1 => ∃ (s : Scn) (o : Value) (dead : Bool), r = [v, o, .int .i64 s.en, .int .i64 s.la, .int .i64 s.ep, .string (bs s.b), .bool dead, .int .i64 ((l.length - m : Nat) : Int)] ∧ m ≤ l.length ∧ w1.ownsRow w.heap.size 9 1 o s.l.length (tx s.l) ∧ Later w w1 ∧
      s.b.length + s.l.length ≤ 56 * (l.length - m) ∧ s.at_ = ((l.length - m : Nat) : Int) ∧ 0 ≤ s.ep ∧ (s.ep ≠ 0 → dead = !s.op) ∧ scnGo s (l.drop (l.length - m)) = scnGo scn0 l) id ?_ (i := l.length)
    ⟨scn0, _, false, by simp [scn0, bs], Nat.le_refl _, World.ownsRow_nil _ _ _ _, Later.refl _, by simp [scn0], by simp [scn0], by decide, fun h => absurd rfl h, by simp⟩
  rintro m r w1 rec ⟨s, o, dead, rfl, hm, hrow, hL1, hsz, hat, hep0, hdead, hgo⟩ ih
  simp only [honeycombref1_Scan_L6, iw_add, iw_sub, iw_mul, iw_lss, iw_leq, iw_gtr, iw_geq, iw_eql, iw_neq, iw_quo, iw_rem, un_not, len_s, len_l, nck_p, fld_p, cv_i, unc_c, ex_0, ex_1, ex_2, st_eq, st_ne, brV_true, brV_false, brV_b, brV_not, one_one, nil_p, nil_pn, nil_n, nil_nn, decide_eq_true_eq, true_and, nb_ite, bs_size, Nat.zero_add, Bool.not_true, Bool.not_false, Bool.false_eq_true, eq_self, if_true, if_false, jn]
  refine (hL1.lst hv).len ?_
  simp only [iw_add, iw_sub, iw_mul, iw_lss, iw_leq, iw_gtr, iw_geq, iw_eql, iw_neq, iw_quo, iw_rem, un_not, len_s, len_l, nck_p, fld_p, cv_i, unc_c, ex_0, ex_1, ex_2, st_eq, st_ne, brV_true, brV_false, brV_b, brV_not, one_one, nil_p, nil_pn, nil_n, nil_nn, decide_eq_true_eq, true_and, nb_ite, bs_size, Nat.zero_add, Bool.not_true, Bool.not_false, Bool.false_eq_true, eq_self, if_true, if_false, jn]
  by_cases hm0 : m = 0
  · subst hm0
    rw [if_neg (by omega)]
    simp only [honeycombref1_Scan_J21, iw_add, iw_sub, iw_mul, iw_lss, iw_leq, iw_gtr, iw_geq, iw_eql, iw_neq, iw_quo, iw_rem, un_not, len_s, len_l, nck_p, fld_p, cv_i, unc_c, ex_0, ex_1, ex_2, st_eq, st_ne, brV_true, brV_false, brV_b, brV_not, one_one, nil_p, nil_pn, nil_n, nil_nn, decide_eq_true_eq, true_and, nb_ite, bs_size, Nat.zero_add, Bool.not_true, Bool.not_false, Bool.false_eq_true, eq_self, if_true, if_false, jn]
    have : s = scnGo scn0 l := by rw [← hgo]; simp [scnGo]
    subst this
    exact hk _ _ hL1 hrow
  obtain ⟨m, rfl⟩ : ∃ q, m = q + 1 := ⟨m - 1, by omega⟩
  rw [if_pos (by omega)]
  have hlt : l.length - (m + 1) < l.length := by omega
  have hmi : l.length - m = l.length - (m + 1) + 1 := by omega
  generalize hi : l.length - (m + 1) = i at *
  refine (hL1.lst hv).at1 (tx_get hlt) hlt fun a ha _ => ⟨_, ha, ?_⟩
  have hdrop : l.drop i = l[i] :: l.drop (i + 1) := List.drop_eq_getElem_cons hlt
  rw [hdrop, scnGo] at hgo
  refine SGet_from (hlen _ (List.getElem_mem hlt)) fun w2 hw2 => ?_
  have hs1 := hL1.size
  have hL2 : Later w w2 := hL1.tr hw2
  have hstop : s.take l[i] = none → ∀ w', Below w.heap.size w2 w' → w'.ownsRow w.heap.size 9 1 o s.l.length (tx s.l) → honeycombref1_Scan_J21 k [o, .int .i64 s.en, .int .i64 s.la] w' := fun h w' hb hr => by
    rw [h] at hgo
    simp only [] at hgo
    subst hgo
    simp only [honeycombref1_Scan_J21, iw_add, iw_sub, iw_mul, iw_lss, iw_leq, iw_gtr, iw_geq, iw_eql, iw_neq, iw_quo, iw_rem, un_not, len_s, len_l, nck_p, fld_p, cv_i, unc_c, ex_0, ex_1, ex_2, st_eq, st_ne, brV_true, brV_false, brV_b, brV_not, one_one, nil_p, nil_pn, nil_n, nil_nn, decide_eq_true_eq, true_and, nb_ite, bs_size, Nat.zero_add, Bool.not_true, Bool.not_false, Bool.false_eq_true, eq_self, if_true, if_false, jn]
    exact hk _ _ (hL2.trans hb) hr
  cases hx : secGet l[i] with
  | none =>
    simp only [secOut, iw_add, iw_sub, iw_mul, iw_lss, iw_leq, iw_gtr, iw_geq, iw_eql, iw_neq, iw_quo, iw_rem, un_not, len_s, len_l, nck_p, fld_p, cv_i, unc_c, ex_0, ex_1, ex_2, st_eq, st_ne, brV_true, brV_false, brV_b, brV_not, one_one, nil_p, nil_pn, nil_n, nil_nn, decide_eq_true_eq, true_and, nb_ite, bs_size, Nat.zero_add, Bool.not_true, Bool.not_false, Bool.false_eq_true, eq_self, if_true, if_false, jn]
    refine al_lit fun g w3 hw3 h3 hgs => ?_
    have hgB : w.heap.size ≤ g := by have := hw2.size; omega
    refine stN_heap h3 rfl rfl (by simp [isCell]) fun w4 _ h44 h45 h46 => ?_
    refine hstop (by simp [Scn.take, hx]) _ ((hw3.mono hL2.size).trans (h45 _ hgB)) (ownsRow_block (hw3.row (hw2.row hrow)) fun q hq => h46 q (by have := (hrow.lt q hq).2; have := hw2.size; omega))
  | some x =>
    obtain ⟨hxs, hok, hput, h64⟩ := secGet_spec hx
    simp only [secOut, iw_add, iw_sub, iw_mul, iw_lss, iw_leq, iw_gtr, iw_geq, iw_eql, iw_neq, iw_quo, iw_rem, un_not, len_s, len_l, nck_p, fld_p, cv_i, unc_c, ex_0, ex_1, ex_2, st_eq, st_ne, brV_true, brV_false, brV_b, brV_not, one_one, nil_p, nil_pn, nil_n, nil_nn, decide_eq_true_eq, true_and, nb_ite, bs_size, Nat.zero_add, Bool.not_true, Bool.not_false, Bool.false_eq_true, eq_self, if_true, if_false, jn]
    refine al_lit fun g w3 hw3 h3 hgs => ?_
    have hgB : w.heap.size ≤ g := by have := hw2.size; omega
    refine SGet_lit h3 rfl fun w4 h4 ho4 => ?_
    have hb4 : Below w.heap.size w2 w4 := (hw3.mono hL2.size).trans (ho4.below _ hgB)
    have hog : o.ownBlock ≠ some g := fun e => by have := (hrow.lt g e).2; have := hw2.size; omega
    have hrow4 : w4.ownsRow w.heap.size 9 1 o s.l.length (tx s.l) := ho4.row (hw3.row (hw2.row hrow)) hog
    have hbad : ¬ takeOk s x → honeycombref1_Scan_J21 k [o, .int .i64 s.en, .int .i64 s.la] w4 := fun hn => hstop (by simp [Scn.take, hx, hn]) _ hb4 hrow4
    have hgood : takeOk s x → honeycombref1_Scan_J10 k rec [v, o, .int .i64 s.en, .int .i64 s.la, .string (bs s.b), .bool dead, .int .i64 (i : Int), .pointer (some ⟨g, 0, none⟩)] w4 := fun ho => by
      have htk : s.take l[i] = some (eat (s.laid x).b.length (s.laid x)) := by simp only [Scn.take, hx, if_pos ho]
      have hts := take_size htk
      rw [htk] at hgo
      simp only [] at hgo
      have hp := hok.2.2.2.2.2
      have hel := eat_ep (s.laid x).b.length (s.laid x)
      have hlaid : honeycombref1_Scan_J12 k rec [v, o, .int .i64 s.en, .int .i64 s.la, .string (bs (if x.fresh then [] else s.b)), .bool (!(s.laid x).op), .int .i64 (i : Int), .pointer (some ⟨g, 0, none⟩)] w4 := by
        simp only [honeycombref1_Scan_J12, iw_add, iw_sub, iw_mul, iw_lss, iw_leq, iw_gtr, iw_geq, iw_eql, iw_neq, iw_quo, iw_rem, un_not, len_s, len_l, nck_p, fld_p, cv_i, unc_c, ex_0, ex_1, ex_2, st_eq, st_ne, brV_true, brV_false, brV_b, brV_not, one_one, nil_p, nil_pn, nil_n, nil_nn, decide_eq_true_eq, true_and, nb_ite, bs_size, Nat.zero_add, Bool.not_true, Bool.not_false, Bool.false_eq_true, eq_self, if_true, if_false, jn]
        refine ldC_heap h4 (v := .int .i64 x.epoch) rfl ?_
        refine ldC_heap h4 (v := .string (bs x.pay)) rfl ?_
        have hle2 : (if x.fresh then [] else s.b).length ≤ s.b.length := by split <;> simp
        refine str_add (by omega) ?_
        refine SScan_eat (s0 := s.laid x) (hL2.trans hb4).size h4 hgB hrow4 hog (by simp only [Scn.laid, List.length_append]; omega) rfl (by show s.at_ + 1 = _; rw [hat]) (by omega) fun o' w5 hw5 hr5 => ?_
        refine ih m _ _ (by simp) ⟨_, o', _, by rw [hmi]; rfl, by omega, hr5, (hL2.trans hb4).trans hw5, by omega, by rw [hts.2, hat]; omega, ?_, fun _ => rfl, by rw [hmi]; exact hgo⟩
        rw [hel]
        show 0 ≤ x.epoch
        have := hok.1
        omega
      simp only [honeycombref1_Scan_J10, iw_add, iw_sub, iw_mul, iw_lss, iw_leq, iw_gtr, iw_geq, iw_eql, iw_neq, iw_quo, iw_rem, un_not, len_s, len_l, nck_p, fld_p, cv_i, unc_c, ex_0, ex_1, ex_2, st_eq, st_ne, brV_true, brV_false, brV_b, brV_not, one_one, nil_p, nil_pn, nil_n, nil_nn, decide_eq_true_eq, true_and, nb_ite, bs_size, Nat.zero_add, Bool.not_true, Bool.not_false, Bool.false_eq_true, eq_self, if_true, if_false, jn]
      refine ldC_heap h4 (v := .bool x.fresh) rfl ?_
      simp only [iw_add, iw_sub, iw_mul, iw_lss, iw_leq, iw_gtr, iw_geq, iw_eql, iw_neq, iw_quo, iw_rem, un_not, len_s, len_l, nck_p, fld_p, cv_i, unc_c, ex_0, ex_1, ex_2, st_eq, st_ne, brV_true, brV_false, brV_b, brV_not, one_one, nil_p, nil_pn, nil_n, nil_nn, decide_eq_true_eq, true_and, nb_ite, bs_size, Nat.zero_add, Bool.not_true, Bool.not_false, Bool.false_eq_true, eq_self, if_true, if_false, jn]
      by_cases hf : x.fresh = true
      · rw [if_pos hf]
        simp only [Scn.laid, hf, if_true] at hlaid
        exact hlaid
      · rw [if_neg hf]
        have he : s.ep ≠ 0 := by
          rcases ho.2.2 with h | h
          · have := hok.1; omega
          · exact absurd h hf
        simp only [Scn.laid, hf, if_false] at hlaid
        rw [hdead he]
        exact hlaid
    simp only [iw_add, iw_sub, iw_mul, iw_lss, iw_leq, iw_gtr, iw_geq, iw_eql, iw_neq, iw_quo, iw_rem, un_not, len_s, len_l, nck_p, fld_p, cv_i, unc_c, ex_0, ex_1, ex_2, st_eq, st_ne, brV_true, brV_false, brV_b, brV_not, one_one, nil_p, nil_pn, nil_n, nil_nn, decide_eq_true_eq, true_and, nb_ite, bs_size, Nat.zero_add, Bool.not_true, Bool.not_false, Bool.false_eq_true, eq_self, if_true, if_false, jn]
    refine ldC_heap h4 (v := .int .i64 x.index) rfl ?_
    simp only [iw_add, iw_sub, iw_mul, iw_lss, iw_leq, iw_gtr, iw_geq, iw_eql, iw_neq, iw_quo, iw_rem, un_not, len_s, len_l, nck_p, fld_p, cv_i, unc_c, ex_0, ex_1, ex_2, st_eq, st_ne, brV_true, brV_false, brV_b, brV_not, one_one, nil_p, nil_pn, nil_n, nil_nn, decide_eq_true_eq, true_and, nb_ite, bs_size, Nat.zero_add, Bool.not_true, Bool.not_false, Bool.false_eq_true, eq_self, if_true, if_false, jn]
    by_cases c1 : x.index = (i : Int)
    rotate_left
    · rw [if_neg c1]; exact hbad fun ho => c1 (by rw [ho.1, hat])
    rw [if_pos c1]
    refine ldC_heap h4 (v := .int .i64 x.epoch) rfl ?_
    simp only [iw_add, iw_sub, iw_mul, iw_lss, iw_leq, iw_gtr, iw_geq, iw_eql, iw_neq, iw_quo, iw_rem, un_not, len_s, len_l, nck_p, fld_p, cv_i, unc_c, ex_0, ex_1, ex_2, st_eq, st_ne, brV_true, brV_false, brV_b, brV_not, one_one, nil_p, nil_pn, nil_n, nil_nn, decide_eq_true_eq, true_and, nb_ite, bs_size, Nat.zero_add, Bool.not_true, Bool.not_false, Bool.false_eq_true, eq_self, if_true, if_false, jn]
    by_cases c2 : x.epoch < s.ep
    · rw [if_pos c2]; exact hbad fun ho => ho.2.1 c2
    rw [if_neg c2]
    refine ldC_heap h4 (v := .int .i64 x.epoch) rfl ?_
    simp only [iw_add, iw_sub, iw_mul, iw_lss, iw_leq, iw_gtr, iw_geq, iw_eql, iw_neq, iw_quo, iw_rem, un_not, len_s, len_l, nck_p, fld_p, cv_i, unc_c, ex_0, ex_1, ex_2, st_eq, st_ne, brV_true, brV_false, brV_b, brV_not, one_one, nil_p, nil_pn, nil_n, nil_nn, decide_eq_true_eq, true_and, nb_ite, bs_size, Nat.zero_add, Bool.not_true, Bool.not_false, Bool.false_eq_true, eq_self, if_true, if_false, jn]
    by_cases c3 : x.epoch = s.ep
    · rw [if_pos c3]; exact hgood ⟨by rw [c1, hat], c2, .inl c3⟩
    rw [if_neg c3]
    refine ldC_heap h4 (v := .bool x.fresh) rfl ?_
    simp only [iw_add, iw_sub, iw_mul, iw_lss, iw_leq, iw_gtr, iw_geq, iw_eql, iw_neq, iw_quo, iw_rem, un_not, len_s, len_l, nck_p, fld_p, cv_i, unc_c, ex_0, ex_1, ex_2, st_eq, st_ne, brV_true, brV_false, brV_b, brV_not, one_one, nil_p, nil_pn, nil_n, nil_nn, decide_eq_true_eq, true_and, nb_ite, bs_size, Nat.zero_add, Bool.not_true, Bool.not_false, Bool.false_eq_true, eq_self, if_true, if_false, jn]
    by_cases c4 : x.fresh = true
    · rw [if_pos c4]; exact hgood ⟨by rw [c1, hat], c2, .inr c4⟩
    · rw [if_neg c4]; exact hbad fun ho => ho.2.2.elim c3 c4
end Go.Proofs.YtlicdhdpngahgaaGreat
