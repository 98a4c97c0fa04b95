/-
  Plain lemmas for FnPurchases: what the printed functions answer.
-/
import Derived.Test.YtgblcbgkkfipoaaQFnPurchases1
import Derived.Test.YtgblcbgkkfipoaaXFnPurchasesx1
import Derived.Test.YtgblcbgkkfipoaaXFnPurchasesx2
import Derived.Test.YtgblcbgkkfipoaaXFnPurchasesx4
import Derived.Test.YtgblcbgkkfipoaaXFnPurchasesx5
import Derived.Test.YtgblcbgkkfipoaaXFnPurchasesx6
import Derived.Test.YtgblcbgkkfipoaaXFnPurchasesx7
import Derived.Test.YtgblcbgkkfipoaaWEvs
namespace Go.Proofs.Ytgblcbgkkfipoaa.Pure
open Go.RowKit Go.Proofs.YtgblcbgkkfipoaaW.PrintWords Go.Proofs.YtgblcbgkkfipoaaW.PrintLast Go.Proofs.YtgblcbgkkfipoaaW.PrintMore Go.Proofs.YtgblcbgkkfipoaaW.Evs Go.Proofs.Ytgblcbgkkfipoaa.XFnPurchases
set_option linter.unusedVariables false
set_option linter.unusedSimpArgs false
-- lists of lists of whole numbers: their size, their copies, the copies' own
theorem rdL_at {xs : List (List Int)} {i : Nat} (h : i < xs.length) : rd_L3 xs (i : Int) = xs[i] := by simp [rd_L3, h]
theorem rdRow_at {xs : List (List Int)} {i : Nat} (h : i < xs.length) : rdRow xs (i : Int) = xs[i] := by simp [rdRow, h]
-- kits: which are valid
def okN (v : Int) (hi : Int) : Bool := decide (0 ≤ v ∧ v ≤ hi)
def okKit (x : List Int) : Bool := decide (x.length = 7) && x.all fun v => okN v 600
def okKits (l : List (List Int)) : Bool := decide (1 ≤ l.length ∧ l.length ≤ 6) && l.all okKit
theorem all_of_allFrom {xs : List Int} {p : Int → Bool} : allFrom (fun i => p (xs.getD i 0)) xs.length 0 = xs.all p := by
  rw [Bool.eq_iff_iff, allFrom_iff, List.all_eq_true]
  constructor
  · intro h x hx
    obtain ⟨j, hj, rfl⟩ := List.mem_iff_getElem.1 hx
    simpa [hj] using h j (by omega) (by omega)
  · intro h j _ hj
    have hj : j < xs.length := by omega
    simpa [hj] using h xs[j] (List.getElem_mem _)
theorem all_of_allFromL {xs : List (List Int)} {p : List Int → Bool} : allFrom (fun i => p (xs.getD i [])) xs.length 0 = xs.all p := by
  rw [Bool.eq_iff_iff, allFrom_iff, List.all_eq_true]
  constructor
  · intro h x hx
    obtain ⟨j, hj, rfl⟩ := List.mem_iff_getElem.1 hx
    simpa [hj] using h j (by omega) (by omega)
  · intro h j _ hj
    have hj : j < xs.length := by omega
    simpa [hj] using h xs[j] (List.getElem_mem _)
theorem if_tf (b : Bool) : (if b = true then true else false) = b := by cases b <;> rfl
theorem l1In_is (v hi : Int) : spec_l1In.f v 0 hi = some (okN v hi) := by
  unfold spec_l1In.f okN
  by_cases h : v ≥ 0
  · rw [if_pos h]; simp [h]
  · rw [if_neg h]; simp [h]
theorem l1All_ev (xs : List Int) (hi : Int) (hx : xs.length ≤ 1048576) : Ev (fun k => spec_l1All.f k xs 0 hi) (xs.all fun v => okN v hi) := by
  unfold spec_l1All.f
  have key := ev_all (fun k i => spec_l1All.l0 k 0 hi xs (xs.length : Int) i) xs.length (fun i => okN (xs.getD i 0) hi) false true ?_ ?_ ?_ xs.length 0 (by omega)
  · refine ev_eq key ?_
    rw [if_tf]; exact all_of_allFrom (p := fun v => okN v hi)
  · intro i hi' hp r hr
    have e : xs.getD i 0 = xs[i] := by simp [hi']
    rw [e] at hp
    refine Ev.succ ?_
    simp only [spec_l1All.l0, if_pos (show (i : Int) < (xs.length : Int) by omega), if_pos (show (0 : Int) ≤ (i : Int) by omega), rd_at hi', l1In_is, hp, Option.bind_some, if_true, wsucc (show i < 9223372036854775807 by omega)]
    exact hr
  · intro i hi' hp
    have e : xs.getD i 0 = xs[i] := by simp [hi']
    rw [e] at hp
    refine Ev.succ ?_
    simp only [spec_l1All.l0, if_pos (show (i : Int) < (xs.length : Int) by omega), if_pos (show (0 : Int) ≤ (i : Int) by omega), rd_at hi', l1In_is, hp, Option.bind_some, Bool.false_eq_true, if_false]
    exact Ev.now _
  · refine Ev.succ ?_
    simp only [spec_l1All.l0, if_neg (show ¬ (xs.length : Int) < (xs.length : Int) by omega)]
    exact Ev.now _
theorem kiParts_ev (xs : List Int) (hx : xs.length ≤ 1048576) : Ev (fun k => spec_kiParts.f k xs) (okKit xs) := by
  unfold spec_kiParts.f okKit
  by_cases h : xs.length = 7
  · simp only [if_pos (show (xs.length : Int) = 7 by omega), h, decide_true, Bool.true_and]
    exact Ev.bind (l1All_ev xs 600 hx) (Ev.now _)
  · simp only [if_neg (show ¬ (xs.length : Int) = 7 by omega), h, decide_false, Bool.false_and]
    exact Ev.now _
theorem isKit_ev (xs : List Int) (hx : xs.length ≤ 1048576) : Ev (fun k => impl_isKit.f k xs) (okKit xs) := by
  unfold impl_isKit.f okKit
  by_cases h : xs.length = 7
  · simp only [if_pos (show (xs.length : Int) = 7 by omega), h, decide_true, Bool.true_and]
    have key := ev_all (fun k i => impl_isKit.l0 k xs (xs.length : Int) i) xs.length (fun i => okN (xs.getD i 0) 600) false true ?_ ?_ ?_ xs.length 0 (by omega)
    · rw [h] at key
      refine ev_eq key ?_
      rw [if_tf, ← h]; exact all_of_allFrom (p := fun v => okN v 600)
    · intro i hi' hp r hr
      have e : xs.getD i 0 = xs[i] := by simp [hi']
      rw [e] at hp
      simp only [okN, decide_eq_true_eq] at hp
      refine Ev.succ ?_
      simp only [impl_isKit.l0, if_pos (show (i : Int) < (xs.length : Int) by omega), if_pos (show (0 : Int) ≤ (i : Int) by omega), rd_at hi', if_neg (show ¬ xs[i] < 0 by omega), if_neg (show ¬ xs[i] > 600 by omega), wsucc (show i < 9223372036854775807 by omega)]
      exact hr
    · intro i hi' hp
      have e : xs.getD i 0 = xs[i] := by simp [hi']
      rw [e] at hp
      simp only [okN, decide_eq_false_iff_not] at hp
      refine Ev.succ ?_
      simp only [impl_isKit.l0, if_pos (show (i : Int) < (xs.length : Int) by omega), if_pos (show (0 : Int) ≤ (i : Int) by omega), rd_at hi']
      by_cases h0 : xs[i] < 0
      · simp only [if_pos h0]; exact Ev.now _
      · simp only [if_neg h0, if_pos (show xs[i] > 600 by omega)]; exact Ev.now _
    · refine Ev.succ ?_
      simp only [impl_isKit.l0, if_neg (show ¬ (xs.length : Int) < (xs.length : Int) by omega)]
      exact Ev.now _
  · simp only [if_neg (show ¬ (xs.length : Int) = 7 by omega), h, decide_false, Bool.false_and]
    exact Ev.now _
theorem kiKits_ev (l : List (List Int)) (hl : l.length ≤ 1048576) (hb : ∀ b ∈ l, b.length ≤ 1048576) : Ev (fun k => spec_kiKits.f k l) (okKits l) := by
  unfold spec_kiKits.f
  have key := ev_all (fun k i => spec_kiKits.l0 k l l (l.length : Int) i) l.length (fun i => okKit (l.getD i [])) false (decide (1 ≤ l.length ∧ l.length ≤ 6)) ?_ ?_ ?_ l.length 0 (by omega)
  · refine ev_eq key ?_
    rw [all_of_allFromL (p := okKit)]
    unfold okKits
    cases l.all okKit <;> simp
  · intro i hi' hp r hr
    have e : l.getD i [] = l[i] := by simp [hi']
    rw [e] at hp
    refine Ev.succ ?_
    simp only [spec_kiKits.l0, if_pos (show (i : Int) < (l.length : Int) by omega), if_pos (show (0 : Int) ≤ (i : Int) by omega), rdL_at hi', wsucc (show i < 9223372036854775807 by omega)]
    refine Ev.bind (kiParts_ev l[i] (hb _ (List.getElem_mem _))) ?_
    simp only [hp, if_true]
    exact hr
  · intro i hi' hp
    have e : l.getD i [] = l[i] := by simp [hi']
    rw [e] at hp
    refine Ev.succ ?_
    simp only [spec_kiKits.l0, if_pos (show (i : Int) < (l.length : Int) by omega), if_pos (show (0 : Int) ≤ (i : Int) by omega), rdL_at hi']
    refine Ev.bind (kiParts_ev l[i] (hb _ (List.getElem_mem _))) ?_
    simp only [hp, Bool.false_eq_true, if_false]
    exact Ev.now _
  · refine Ev.succ ?_
    have e : spec_l1In.f (l.length : Int) 1 6 = some (decide (1 ≤ l.length ∧ l.length ≤ 6)) := by
      unfold spec_l1In.f
      by_cases h : (l.length : Int) ≥ 1
      · rw [if_pos h]; congr 1; rw [Bool.eq_iff_iff]; simp; omega
      · rw [if_neg h]; congr 1; rw [Bool.eq_iff_iff]; simp; omega
    simp only [spec_kiKits.l0, if_neg (show ¬ (l.length : Int) < (l.length : Int) by omega), e, Option.bind_some]
    exact Ev.now _
theorem areKits_ev (l : List (List Int)) (hl : l.length ≤ 1048576) (hb : ∀ b ∈ l, b.length ≤ 1048576) : Ev (fun k => impl_areKits.f k l) (okKits l) := by
  unfold impl_areKits.f okKits
  by_cases h1 : 1 ≤ l.length ∧ l.length ≤ 6
  · simp only [if_neg (show ¬ (l.length : Int) < 1 by omega), h1, and_self, decide_true, Bool.true_and, decide_eq_false (show ¬ (l.length : Int) > 6 by omega)]
    refine Ev.succ ?_
    simp only [impl_areKits.j0, Bool.false_eq_true, if_false]
    have key := ev_all (fun k i => impl_areKits.l0 k l (l.length : Int) i) l.length (fun i => okKit (l.getD i [])) false true ?_ ?_ ?_ l.length 0 (by omega)
    · refine ev_eq key ?_
      rw [all_of_allFromL (p := okKit), if_tf]
    · intro i hi' hp r hr
      have e : l.getD i [] = l[i] := by simp [hi']
      rw [e] at hp
      refine Ev.succ ?_
      simp only [impl_areKits.l0, if_pos (show (i : Int) < (l.length : Int) by omega), if_pos (show (0 : Int) ≤ (i : Int) by omega), rdL_at hi', wsucc (show i < 9223372036854775807 by omega)]
      refine Ev.bind (isKit_ev l[i] (hb _ (List.getElem_mem _))) ?_
      simp only [hp, if_true]
      exact hr
    · intro i hi' hp
      have e : l.getD i [] = l[i] := by simp [hi']
      rw [e] at hp
      refine Ev.succ ?_
      simp only [impl_areKits.l0, if_pos (show (i : Int) < (l.length : Int) by omega), if_pos (show (0 : Int) ≤ (i : Int) by omega), rdL_at hi']
      refine Ev.bind (isKit_ev l[i] (hb _ (List.getElem_mem _))) ?_
      simp only [hp, Bool.false_eq_true, if_false]
      exact Ev.now _
    · refine Ev.succ ?_
      simp only [impl_areKits.l0, if_neg (show ¬ (l.length : Int) < (l.length : Int) by omega)]
      exact Ev.now _
  · simp only [h1, decide_false, Bool.false_and]
    by_cases h2 : (l.length : Int) < 1
    · simp only [if_pos h2]
      refine Ev.succ ?_
      simp only [impl_areKits.j0, if_true]
      exact Ev.now _
    · simp only [if_neg h2, decide_eq_true (show (l.length : Int) > 6 by omega)]
      refine Ev.succ ?_
      simp only [impl_areKits.j0, if_true]
      exact Ev.now _
end Go.Proofs.Ytgblcbgkkfipoaa.Pure
