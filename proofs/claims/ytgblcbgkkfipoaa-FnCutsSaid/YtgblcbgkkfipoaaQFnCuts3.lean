/-
  Plain lemmas for FnCuts: what the printed functions answer.
-/
import Derived.Test.YtgblcbgkkfipoaaQFnCuts2
import Derived.Test.YtgblcbgkkfipoaaXFnCutsx12
import Derived.Test.YtgblcbgkkfipoaaXFnCutsx7
import Derived.Test.YtgblcbgkkfipoaaXFnCutsx11
import Derived.Test.YtgblcbgkkfipoaaWEvs
namespace Go.Proofs.Ytgblcbgkkfipoaa.Pure
open Go.RowKit Go.Proofs.YtgblcbgkkfipoaaW.PrintWords Go.Proofs.YtgblcbgkkfipoaaW.PrintLast Go.Proofs.YtgblcbgkkfipoaaW.PrintMore Go.Proofs.YtgblcbgkkfipoaaW.Evs Go.Proofs.Ytgblcbgkkfipoaa.XFnCuts
set_option linter.unusedVariables false
set_option linter.unusedSimpArgs false
-- what the journal's functions answer
theorem rdR_at {xs : List R} {i : Nat} (h : i < xs.length) : rd_T61 xs (i : Int) = xs[i] := by simp [rd_T61, h]
instance (l : List R) : Decidable (Good l) := by unfold Good; infer_instance
instance (x : List Int) : Decidable (Nums x) := by unfold Nums; infer_instance
theorem wsub {i : Nat} (h : i < 9223372036854775807) : wrap64 (((i + 1 : Nat) : Int) - 1) = (i : Int) := by unfold wrap64; omega
theorem wadd {i j : Nat} (h : i + j < 9223372036854775807) : wrap64 ((i : Int) + (j : Int)) = ((i + j : Nat) : Int) := by unfold wrap64; omega
theorem same_gen (F : Nat → List Int → List Int → Int → Int → Option Bool)
    (hF : ∀ k x y n i, F (k + 1) x y n i = if i < n then (if 0 ≤ i then (if i < (x.length : Int) then (if i < (y.length : Int) then (if (rd x i) = (rd y i) then (F k x y n (wrap64 (i + 1))) else (some false)) else (none)) else (none)) else (none)) else (some true))
    (x y : List Int) (hl : x.length = y.length) (hx : x.length ≤ 9223372036854775806) : ∀ m i, i + m = x.length → Ev (fun k => F k x y (x.length : Int) (i : Int)) (decide (x.drop i = y.drop i))
  | 0, i, e => by
    refine Ev.succ ?_
    simp only [hF]
    refine Ev.neg (by omega) (ev_some ?_)
    rw [List.drop_of_length_le (by omega), List.drop_of_length_le (by omega)]; simp
  | m + 1, i, e => by
    have hi : i < x.length := by omega
    have hi2 : i < y.length := by omega
    rw [List.drop_eq_getElem_cons hi, List.drop_eq_getElem_cons hi2]
    refine Ev.succ ?_
    simp only [hF, rd_at hi, rd_at hi2, wsucc (show i < 9223372036854775807 by omega)]
    refine Ev.pos (by omega) (Ev.pos (by omega) (Ev.pos (by omega) (Ev.pos (by omega) ?_)))
    by_cases h : x[i] = y[i]
    · refine Ev.pos h (ev_eq (same_gen F hF x y hl hx m (i + 1) (by omega)) ?_)
      simp only [List.cons.injEq, h, true_and]
    · refine Ev.neg h (ev_some ?_)
      simp only [List.cons.injEq, h, false_and, decide_false]
theorem same_f (F : Nat → List Int → List Int → Int → Int → Option Bool)
    (hF : ∀ k x y n i, F (k + 1) x y n i = if i < n then (if 0 ≤ i then (if i < (x.length : Int) then (if i < (y.length : Int) then (if (rd x i) = (rd y i) then (F k x y n (wrap64 (i + 1))) else (some false)) else (none)) else (none)) else (none)) else (some true))
    (x y : List Int) (hx : x.length ≤ 9223372036854775806) : Ev (fun k => if (x.length : Int) = (y.length : Int) then (F k x y (x.length : Int) 0) else (some false)) (decide (x = y)) := by
  by_cases hl : x.length = y.length
  · refine Ev.pos (by omega) ?_
    have := same_gen F hF x y hl hx x.length 0 (by omega)
    simpa using this
  · refine Ev.neg (by omega) (ev_some ?_)
    simp; intro e; exact hl (by rw [e])
theorem sameInts_ev (x y : List Int) (hx : x.length ≤ 9223372036854775806) : Ev (fun k => laws_sameInts.f k x y) (decide (x = y)) := same_f laws_sameInts.l0 (fun _ _ _ _ _ => rfl) x y hx
theorem slEqual_ev (x y : List Int) (hx : x.length ≤ 9223372036854775806) : Ev (fun k => slices_Equal_int_int.f k x y) (decide (x = y)) := same_f slices_Equal_int_int.l0 (fun _ _ _ _ _ => rfl) x y hx
theorem l1Same_ev (x y : List Int) (hx : x.length ≤ 9223372036854775806) : Ev (fun k => spec_l1Same.f k x y) (decide (x = y)) := same_f spec_l1Same.l0 (fun _ _ _ _ _ => rfl) x y hx
theorem sameInts_self (x : List Int) (hx : x.length ≤ 9223372036854775806) : Ev (fun k => laws_sameInts.f k x x) true := ev_eq (sameInts_ev x x hx) (by simp)
theorem sameRecs_l (x : List R) (hx : x.length ≤ 9223372036854775806) : ∀ m i, i + m = x.length → Ev (fun k => laws_pSameRecords.l0 k x x (x.length : Int) (i : Int)) true
  | 0, i, e => by
    refine Ev.succ ?_
    simp only [laws_pSameRecords.l0]
    exact Ev.neg (by omega) (Ev.now _)
  | m + 1, i, e => by
    have hi : i < x.length := by omega
    refine Ev.succ ?_
    simp only [laws_pSameRecords.l0, rdR_at hi, wsucc (show i < 9223372036854775807 by omega)]
    refine Ev.pos (by omega) (Ev.pos (by omega) (Ev.pos (by omega) (Ev.pos (by omega) ?_)))
    exact Ev.neg (by simp) (sameRecs_l x hx m (i + 1) (by omega))
theorem sameRecs_self (x : List R) (hx : x.length ≤ 9223372036854775806) : Ev (fun k => laws_pSameRecords.f k x x) true := by
  unfold laws_pSameRecords.f
  exact Ev.pos rfl (sameRecs_l x hx x.length 0 (by omega))
theorem all_gen {α : Type} (l : List α) (P : α → Prop) [DecidablePred P] (F : Nat → Int → Option Bool) (fin : Bool)
    (hs : ∀ (i : Nat) (h : i < l.length), (P l[i] → ∀ r, Ev (fun k => F k ((i + 1 : Nat) : Int)) r → Ev (fun k => F k (i : Int)) r) ∧ (¬ P l[i] → Ev (fun k => F k (i : Int)) false))
    (he : Ev (fun k => F k (l.length : Int)) fin) : ∀ m i, i + m = l.length → Ev (fun k => F k (i : Int)) (decide (∀ r ∈ l.drop i, P r) && fin)
  | 0, i, e => by
    obtain rfl : i = l.length := by omega
    refine ev_eq he ?_
    simp
  | m + 1, i, e => by
    have hi : i < l.length := by omega
    rw [List.drop_eq_getElem_cons hi]
    by_cases h : P l[i]
    · refine ev_eq ((hs i hi).1 h _ (all_gen l P F fin hs he m (i + 1) (by omega))) ?_
      simp only [List.forall_mem_cons, h, true_and]
    · refine ev_eq ((hs i hi).2 h) ?_
      simp only [List.forall_mem_cons, h, false_and, decide_false, Bool.false_and]
theorem l1In_is (a b c : Int) : spec_l1In.f a b c = some (decide (b ≤ a ∧ a ≤ c)) := by
  unfold spec_l1In.f
  by_cases h : a ≥ b
  · rw [if_pos h]; simp [show b ≤ a from h]
  · rw [if_neg h]; simp [show ¬ b ≤ a from h]
theorem valid_iff {a b c : Int} : Valid ⟨a, b, c⟩ ↔ (a = 1 ∧ 0 ≤ b ∧ b < 8 ∧ 0 ≤ c ∧ c ≤ 999) ∨ (a = 2 ∧ b = 0 ∧ c = 0) := Iff.rfl
theorem isRec_is (a b c : Int) : impl_IsJournalRecord.f a b c = some (decide (Valid ⟨a, b, c⟩)) := by
  unfold impl_IsJournalRecord.f
  repeat' split
  all_goals (refine congrArg some ?_; rw [Bool.eq_iff_iff]; simp only [decide_eq_true_eq, beq_iff_eq, Bool.false_eq_true]; rw [valid_iff]; refine ⟨fun h => ?_, fun h => ?_⟩ <;> first | omega | exact h.elim)
theorem jrRec_is (a b c : Int) : spec_jrRecord.f a b c = some (decide (Valid ⟨a, b, c⟩)) := by
  unfold spec_jrRecord.f
  simp only [l1In_is, Option.bind_some, decide_eq_true_eq]
  repeat' split
  all_goals (refine congrArg some ?_; rw [Bool.eq_iff_iff]; simp only [decide_eq_true_eq, beq_iff_eq, Bool.false_eq_true]; rw [valid_iff]; refine ⟨fun h => ?_, fun h => ?_⟩ <;> first | omega | exact h.elim)
theorem valid_in {a b c : Int} (h : Valid ⟨a, b, c⟩) : 1 ≤ a ∧ a ≤ 2 ∧ 0 ≤ b ∧ b ≤ 7 ∧ 0 ≤ c ∧ c ≤ 999 := by
  unfold Valid at h; simp only at h; omega
theorem check_is {a b c : Int} (h : Valid ⟨a, b, c⟩) {n : Nat} (hn : n < 40) :
    Int.tmod (wrap64 ((wrap64 ((wrap64 ((wrap64 ((wrap64 (3 * a)) + (wrap64 (5 * b)))) + (wrap64 (7 * c)))) + (wrap64 (11 * (n : Int))))) + 13)) 997 = (3 * a + 5 * b + 7 * c + 11 * (n : Int) + 13) % 997 := by
  have hv := valid_in h
  rw [w64 (n := 3 * a) (by omega) (by omega), w64 (n := 5 * b) (by omega) (by omega), w64 (n := 7 * c) (by omega) (by omega), w64 (n := 11 * (n : Int)) (by omega) (by omega),
    w64 (n := 3 * a + 5 * b) (by omega) (by omega), w64 (n := 3 * a + 5 * b + 7 * c) (by omega) (by omega), w64 (n := 3 * a + 5 * b + 7 * c + 11 * (n : Int)) (by omega) (by omega), w64 (by omega) (by omega),
    Int.tmod_eq_emod_of_nonneg (by omega)]
theorem recNums_is {a b c : Int} (h : Valid ⟨a, b, c⟩) {n : Nat} (hn : n < 40) : impl_recordNumbers.f a b c (n : Int) = some (rn ⟨a, b, c⟩ n) := by
  unfold impl_recordNumbers.f rn; rw [check_is h hn]
theorem jrOf_is {a b c : Int} (h : Valid ⟨a, b, c⟩) {n : Nat} (hn : n < 40) : spec_jrOf.f a b c (n : Int) = some (rn ⟨a, b, c⟩ n) := by
  unfold spec_jrOf.f rn; rw [check_is h hn]
theorem good_eq (l : List R) : (decide (∀ r ∈ l, Valid r) && decide ((l.length : Int) ≤ 40)) = decide (Good l) := by
  rw [Bool.eq_iff_iff, Bool.and_eq_true, decide_eq_true_iff, decide_eq_true_iff, decide_eq_true_iff]
  exact ⟨fun h => ⟨by have h2 := h.2; omega, h.1⟩, fun h => ⟨h.2, by have h1 : l.length ≤ 40 := h.1; omega⟩⟩
theorem areRecords_ev (l : List R) (hl : l.length ≤ 9223372036854775806) : Ev (fun k => impl_areRecords.f k l) (decide (Good l)) := by
  unfold impl_areRecords.f
  by_cases h : (l.length : Int) > 40
  · refine Ev.pos h (ev_some ?_)
    rw [← good_eq]; simp; intro _; omega
  · refine Ev.neg h ?_
    have := all_gen l Valid (fun k i => impl_areRecords.l0 k l (l.length : Int) i) true ?_ ?_ l.length 0 (by omega)
    · refine ev_eq this ?_
      rw [← good_eq, List.drop_zero]; simp; intro _; omega
    · intro i hi
      refine ⟨fun hp r hr => ?_, fun hp => ?_⟩
      · refine Ev.succ ?_
        simp only [impl_areRecords.l0, rdR_at hi, wsucc (show i < 9223372036854775807 by omega)]
        exact Ev.pos (by omega) (Ev.pos (by omega) (Ev.pos (by omega) (Ev.bindS (isRec_is _ _ _) (Ev.pos (decide_eq_true hp) hr))))
      · refine Ev.succ ?_
        simp only [impl_areRecords.l0, rdR_at hi, wsucc (show i < 9223372036854775807 by omega)]
        exact Ev.pos (by omega) (Ev.pos (by omega) (Ev.pos (by omega) (Ev.bindS (isRec_is _ _ _) (Ev.neg (by rw [decide_eq_true_eq]; exact hp) (Ev.now _)))))
    · refine Ev.succ ?_
      simp only [impl_areRecords.l0]
      exact Ev.neg (by omega) (Ev.now _)
theorem jrGood_ev (l : List R) (hl : l.length ≤ 9223372036854775806) : Ev (fun k => spec_jrGood.f k l) (decide (Good l)) := by
  unfold spec_jrGood.f
  have := all_gen l Valid (fun k i => spec_jrGood.l0 k l l (l.length : Int) i) (decide ((l.length : Int) ≤ 40)) ?_ ?_ l.length 0 (by omega)
  · refine ev_eq this ?_
    rw [← good_eq, List.drop_zero]
  · intro i hi
    refine ⟨fun hp r hr => ?_, fun hp => ?_⟩
    · refine Ev.succ ?_
      simp only [spec_jrGood.l0, rdR_at hi, wsucc (show i < 9223372036854775807 by omega)]
      exact Ev.pos (by omega) (Ev.pos (by omega) (Ev.pos (by omega) (Ev.bindS (jrRec_is _ _ _) (Ev.pos (decide_eq_true hp) hr))))
    · refine Ev.succ ?_
      simp only [spec_jrGood.l0, rdR_at hi, wsucc (show i < 9223372036854775807 by omega)]
      exact Ev.pos (by omega) (Ev.pos (by omega) (Ev.pos (by omega) (Ev.bindS (jrRec_is _ _ _) (Ev.neg (by rw [decide_eq_true_eq]; exact hp) (Ev.now _)))))
  · refine Ev.succ ?_
    simp only [spec_jrGood.l0]
    exact Ev.neg (by omega) (Ev.now _)
theorem nums_eq (x : List Int) : (decide (∀ v ∈ x, 0 ≤ v ∧ v ≤ 9999) && decide (x.length ≤ 200)) = decide (Nums x) := by
  rw [Bool.eq_iff_iff, Bool.and_eq_true, decide_eq_true_iff, decide_eq_true_iff, decide_eq_true_iff]
  exact ⟨fun h => ⟨h.2, h.1⟩, fun h => ⟨h.2, h.1⟩⟩
theorem areNumbers_ev (x : List Int) (hl : x.length ≤ 9223372036854775806) : Ev (fun k => impl_areNumbers.f k x) (decide (Nums x)) := by
  unfold impl_areNumbers.f
  by_cases h : (x.length : Int) > 200
  · refine Ev.pos h (ev_some ?_)
    rw [← nums_eq]; simp; intro _; omega
  · refine Ev.neg h ?_
    have := all_gen x (fun v => 0 ≤ v ∧ v ≤ 9999) (fun k i => impl_areNumbers.l0 k x (x.length : Int) i) true ?_ ?_ x.length 0 (by omega)
    · refine ev_eq this ?_
      rw [← nums_eq, List.drop_zero]; simp; intro _; omega
    · intro i hi
      refine ⟨fun hp r hr => ?_, fun hp => ?_⟩
      · refine Ev.succ ?_
        simp only [impl_areNumbers.l0, rd_at hi, wsucc (show i < 9223372036854775807 by omega)]
        exact Ev.pos (by omega) (Ev.pos (by omega) (Ev.pos (by omega) (Ev.neg (by omega) (Ev.neg (by omega) hr))))
      · refine Ev.succ ?_
        simp only [impl_areNumbers.l0, rd_at hi, wsucc (show i < 9223372036854775807 by omega)]
        refine Ev.pos (by omega) (Ev.pos (by omega) (Ev.pos (by omega) ?_))
        by_cases h0 : x[i] < 0
        · exact Ev.pos h0 (Ev.now _)
        · exact Ev.neg h0 (Ev.pos (by omega) (Ev.now _))
    · refine Ev.succ ?_
      simp only [impl_areNumbers.l0]
      exact Ev.neg (by omega) (Ev.now _)
theorem jrList_ev (x : List Int) (hl : x.length ≤ 9223372036854775806) : Ev (fun k => spec_jrList.f k x) (decide (Nums x)) := by
  unfold spec_jrList.f spec_l1All.f
  by_cases h : (x.length : Int) ≤ 200
  · refine Ev.pos h ?_
    have := all_gen x (fun v => 0 ≤ v ∧ v ≤ 9999) (fun k i => spec_l1All.l0 k 0 9999 x (x.length : Int) i) true ?_ ?_ x.length 0 (by omega)
    · refine Ev.bind this (ev_some ?_)
      rw [← nums_eq, List.drop_zero]; simp; intro _; omega
    · intro i hi
      refine ⟨fun hp r hr => ?_, fun hp => ?_⟩
      · refine Ev.succ ?_
        simp only [spec_l1All.l0, rd_at hi, wsucc (show i < 9223372036854775807 by omega)]
        exact Ev.pos (by omega) (Ev.pos (by omega) (Ev.pos (by omega) (Ev.bindS (l1In_is _ _ _) (Ev.pos (decide_eq_true hp) hr))))
      · refine Ev.succ ?_
        simp only [spec_l1All.l0, rd_at hi, wsucc (show i < 9223372036854775807 by omega)]
        exact Ev.pos (by omega) (Ev.pos (by omega) (Ev.pos (by omega) (Ev.bindS (l1In_is _ _ _) (Ev.neg (by rw [decide_eq_true_eq]; exact hp) (Ev.now _)))))
    · refine Ev.succ ?_
      simp only [spec_l1All.l0]
      exact Ev.neg (by omega) (Ev.now _)
  · refine Ev.neg h (ev_some ?_)
    rw [← nums_eq]; simp; intro _; omega
theorem win (x : List Int) (p : Nat) (h : p + 5 ≤ x.length) : ∃ a b c d e, (x.take (p + 5)).drop p = [a, b, c, d, e] ∧ x.drop p = a :: b :: c :: d :: e :: x.drop (p + 5) := by
  obtain ⟨a, b, c, d, e, u, hu⟩ := five (t := x.drop p) (by rw [List.length_drop]; omega)
  refine ⟨a, b, c, d, e, ?_, ?_⟩
  · rw [List.drop_take, show p + 5 - p = 5 by omega, hu]; rfl
  · rw [← List.drop_drop, hu]; rfl
theorem recovered_l (x : List Int) (hx : x.length ≤ 1000000) : ∀ m n (acc : List R), n + m = 40 → acc.length ≤ n → Ev (fun k => impl_recovered.l0 k x acc (n : Int)) (acc ++ recs m n (x.drop (5 * n)))
  | 0, n, acc, e, ha => by
    refine Ev.succ ?_
    simp only [impl_recovered.l0]
    refine Ev.neg (by omega) (Ev.succ ?_)
    simp only [impl_recovered.j1]
    refine Ev.neg (by simp) (ev_some ?_)
    rw [recs_zero, List.append_nil]
  | m + 1, n, acc, e, ha => by
    have w1 : wrap64 (5 * (n : Int)) = ((5 * n : Nat) : Int) := by unfold wrap64; omega
    have w2 : wrap64 (((5 * n : Nat) : Int) + 5) = ((5 * n + 5 : Nat) : Int) := by unfold wrap64; omega
    refine Ev.succ ?_
    simp only [impl_recovered.l0, w1, w2]
    refine Ev.pos (by omega) (Ev.succ ?_)
    simp only [impl_recovered.j1, w1, w2, Int.toNat_natCast]
    by_cases h : 5 * n + 5 ≤ x.length
    · obtain ⟨a, b, c, d, f, hw, hd⟩ := win x (5 * n) h
      simp only [hw, hd, recs_five]
      refine Ev.pos (decide_eq_true (by omega)) (Ev.pos (by omega) (Ev.pos (by omega) (Ev.pos (by omega) (Ev.pos (by simp) (Ev.pos (by simp) (Ev.pos (by simp) (Ev.bindS (isRec_is _ _ _) ?_)))))))
      have e0 : rd [a, b, c, d, f] 0 = a := rfl
      have e1 : rd [a, b, c, d, f] 1 = b := rfl
      have e2 : rd [a, b, c, d, f] 2 = c := rfl
      simp only [e0, e1, e2]
      by_cases hv : Valid ⟨a, b, c⟩
      · refine Ev.pos (decide_eq_true hv) (Ev.bindS (recNums_is hv (by omega)) (Ev.bind (slEqual_ev _ _ (by simp [rn])) ?_))
        by_cases he : rn ⟨a, b, c⟩ n = [a, b, c, d, f]
        · refine Ev.pos (decide_eq_true he) (Ev.pos (by omega) ?_)
          rw [if_pos ⟨hv, he⟩, wsucc (show n < 9223372036854775807 by omega)]
          have := recovered_l x hx m (n + 1) (acc ++ [⟨a, b, c⟩]) (by omega) (by simp; omega)
          rw [List.append_assoc] at this
          exact this
        · rw [if_neg (fun h => he h.2), List.append_nil]
          exact Ev.neg (by rw [decide_eq_true_eq]; exact he) (Ev.now _)
      · rw [if_neg (fun h => hv h.1), List.append_nil]
        exact Ev.neg (by rw [decide_eq_true_eq]; exact hv) (Ev.now _)
    · rw [recs_short _ _ _ (by rw [List.length_drop]; omega), List.append_nil]
      exact Ev.neg (by rw [decide_eq_true_eq]; omega) (Ev.now _)
theorem recovered_ev (x : List Int) (hx : x.length ≤ 1000000) : Ev (fun k => impl_recovered.f k x) (rec5 x) := by
  unfold impl_recovered.f rec5
  have := recovered_l x hx 40 0 [] (by omega) (by simp)
  simpa using this
theorem jrRecover_l (x : List Int) (hx : x.length ≤ 1000000) : ∀ m n (acc : List R), n + m = 40 → acc.length = n → Ev (fun k => spec_jrRecover.l0 k x acc ((5 * n : Nat) : Int)) (acc ++ recs m n (x.drop (5 * n)))
  | 0, n, acc, e, ha => by
    have w2 : wrap64 (((5 * n : Nat) : Int) + 5) = ((5 * n + 5 : Nat) : Int) := by unfold wrap64; omega
    refine Ev.succ ?_
    simp only [spec_jrRecover.l0, w2]
    rw [recs_zero, List.append_nil]
    by_cases h : 5 * n + 5 ≤ x.length
    · refine Ev.pos (by omega) (Ev.succ ?_)
      simp only [spec_jrRecover.j1]
      exact Ev.neg (by rw [decide_eq_true_eq]; omega) (Ev.now _)
    · refine Ev.neg (by omega) (Ev.succ ?_)
      simp only [spec_jrRecover.j1]
      exact Ev.neg (by simp) (Ev.now _)
  | m + 1, n, acc, e, ha => by
    have w2 : wrap64 (((5 * n : Nat) : Int) + 5) = ((5 * n + 5 : Nat) : Int) := by unfold wrap64; omega
    have w3 : wrap64 (((5 * n : Nat) : Int) + 1) = ((5 * n + 1 : Nat) : Int) := by unfold wrap64; omega
    have w4 : wrap64 (((5 * n : Nat) : Int) + 2) = ((5 * n + 2 : Nat) : Int) := by unfold wrap64; omega
    refine Ev.succ ?_
    simp only [spec_jrRecover.l0, w2]
    by_cases h : 5 * n + 5 ≤ x.length
    · refine Ev.pos (by omega) (Ev.succ ?_)
      simp only [spec_jrRecover.j1, w2, w3, w4, Int.toNat_natCast, ha]
      obtain ⟨a, b, c, d, f, hw, hd⟩ := win x (5 * n) h
      have e0 : rd x ((5 * n : Nat) : Int) = a := by
        have := congrArg (fun l => l[0]?) hd
        simp only [List.getElem?_drop] at this
        simp only [rd, Int.toNat_natCast, List.getD, show x[5 * n]? = some a from this]; rfl
      have e1 : rd x ((5 * n + 1 : Nat) : Int) = b := by
        have := congrArg (fun l => l[1]?) hd
        simp only [List.getElem?_drop] at this
        simp only [rd, Int.toNat_natCast, List.getD, show x[5 * n + 1]? = some b from this]; rfl
      have e2 : rd x ((5 * n + 2 : Nat) : Int) = c := by
        have := congrArg (fun l => l[2]?) hd
        simp only [List.getElem?_drop] at this
        simp only [rd, Int.toNat_natCast, List.getD, show x[5 * n + 2]? = some c from this]; rfl
      simp only [e0, e1, e2, hw, hd, recs_five]
      refine Ev.pos (decide_eq_true (by omega)) (Ev.pos (by omega) (Ev.pos (by omega) (Ev.pos (by omega) (Ev.pos (by omega) (Ev.pos (by omega) (Ev.pos (by omega) (Ev.bindS (jrRec_is _ _ _) ?_)))))))
      by_cases hv : Valid ⟨a, b, c⟩
      · refine Ev.pos (decide_eq_true hv) (Ev.bindS (jrOf_is hv (by omega)) (Ev.pos (by omega) (Ev.pos (by omega) (Ev.bind (l1Same_ev _ _ (by simp [rn])) ?_))))
        by_cases he : rn ⟨a, b, c⟩ n = [a, b, c, d, f]
        · refine Ev.pos (decide_eq_true he) (Ev.pos (by omega) ?_)
          rw [if_pos ⟨hv, he⟩]
          have := jrRecover_l x hx m (n + 1) (acc ++ [⟨a, b, c⟩]) (by omega) (by simp; omega)
          rw [List.append_assoc] at this
          exact this
        · rw [if_neg (fun h => he h.2), List.append_nil]
          exact Ev.neg (by rw [decide_eq_true_eq]; exact he) (Ev.now _)
      · rw [if_neg (fun h => hv h.1), List.append_nil]
        exact Ev.neg (by rw [decide_eq_true_eq]; exact hv) (Ev.now _)
    · rw [recs_short _ _ _ (by rw [List.length_drop]; omega), List.append_nil]
      refine Ev.neg (by omega) (Ev.succ ?_)
      simp only [spec_jrRecover.j1]
      exact Ev.neg (by simp) (Ev.now _)
theorem jrRecover_ev (x : List Int) (hx : x.length ≤ 1000000) : Ev (fun k => spec_jrRecover.f k x) (rec5 x) := by
  unfold spec_jrRecover.f rec5
  have := jrRecover_l x hx 40 0 [] (by omega) rfl
  simpa using this
def recAns (x : List Int) : List R × Int × Bool := if Nums x then (rec5 x, ((5 * (rec5 x).length : Nat) : Int), true) else ([], 0, false)
theorem w5len (x : List Int) : wrap64 (5 * ((rec5 x).length : Int)) = ((5 * (rec5 x).length : Nat) : Int) := by
  have := (rec5_good x).1
  unfold wrap64; omega
theorem implRec_ev (x : List Int) (hx : x.length ≤ 1000000) : Ev (fun k => impl_RecoverRecords.f k x) (recAns x) := by
  unfold impl_RecoverRecords.f recAns
  refine Ev.bind (areNumbers_ev x (by omega)) ?_
  by_cases h : Nums x
  · rw [if_pos h]
    refine Ev.pos (decide_eq_true h) (Ev.bind (recovered_ev x hx) ?_)
    rw [w5len]; exact Ev.now _
  · rw [if_neg h]
    exact Ev.neg (by rw [decide_eq_true_eq]; exact h) (Ev.now _)
theorem specRec_ev (x : List Int) (hx : x.length ≤ 1000000) : Ev (fun k => spec_RecoverRecords.f k x) (recAns x) := by
  unfold spec_RecoverRecords.f recAns
  refine Ev.bind (jrList_ev x (by omega)) ?_
  by_cases h : Nums x
  · rw [if_pos h]
    refine Ev.pos (decide_eq_true h) (Ev.bind (jrRecover_ev x hx) ?_)
    rw [w5len]; exact Ev.now _
  · rw [if_neg h]
    exact Ev.neg (by rw [decide_eq_true_eq]; exact h) (Ev.now _)
end Go.Proofs.Ytgblcbgkkfipoaa.Pure
