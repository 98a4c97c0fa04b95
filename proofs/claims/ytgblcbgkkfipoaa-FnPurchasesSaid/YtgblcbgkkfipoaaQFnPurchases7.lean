/-
  Plain lemmas for FnPurchases: what the printed functions answer.
-/
import Derived.Test.YtgblcbgkkfipoaaXFnPurchasesx10
import Derived.Test.YtgblcbgkkfipoaaXFnPurchasesx1
import Derived.Test.YtgblcbgkkfipoaaXFnPurchasesx11
import Derived.Test.YtgblcbgkkfipoaaXFnPurchasesx7
import Derived.Test.YtgblcbgkkfipoaaWEvs
namespace Go.Proofs.Ytgblcbgkkfipoaa.PureB
open Go.RowKit Go.Proofs.YtgblcbgkkfipoaaW.PrintWords Go.Proofs.YtgblcbgkkfipoaaW.PrintLast Go.Proofs.YtgblcbgkkfipoaaW.PrintMore Go.Proofs.YtgblcbgkkfipoaaW.Evs Go.Proofs.Ytgblcbgkkfipoaa.XFnPurchases
set_option linter.unusedVariables false
set_option linter.unusedSimpArgs false
-- boards: valid ones, their cells
structure BD where
  f0 : Int
  f1 : Int
  f2 : List S109
theorem rdC_at {xs : List S109} {i : Nat} (h : i < xs.length) : rd_T109 xs (i : Int) = xs[i] := by simp [rd_T109, h]
def okC (c : S109) : Bool := decide (0 ≤ c.f0 ∧ c.f0 ≤ 7 ∧ (c.f1 = 0 ∨ c.f1 = 1 ∧ (c.f0 = 3 ∨ c.f0 = 6)))
def okB (b : BD) : Bool := decide (1 ≤ b.f0 ∧ b.f0 ≤ 10 ∧ 1 ≤ b.f1 ∧ b.f1 ≤ 9 ∧ (b.f2.length : Int) = b.f0 * b.f1) && b.f2.all okC
theorem isCell_is (c : S109) : impl_IsCell.f c.f0 c.f1 = some (okC c) := by
  unfold impl_IsCell.f okC
  repeat' split
  all_goals (first | exact congrArg some (decide_eq_true (by omega)).symm | exact congrArg some (decide_eq_false (by omega)).symm | (congr 1; rw [Bool.eq_iff_iff, beq_iff_eq, decide_eq_true_eq]; omega))
theorem paGood_is (c : S109) : spec_paGood.f c.f0 c.f1 = some (okC c) := by
  unfold spec_paGood.f spec_l1In.f spec_paTurning.f okC
  by_cases h0 : c.f0 ≥ 0
  · simp only [if_pos h0, Option.bind_some]
    by_cases h7 : c.f0 ≤ 7
    · simp only [decide_eq_true h7, if_true]
      by_cases a0 : c.f1 = 0
      · rw [if_pos a0]; exact congrArg some (decide_eq_true (by omega)).symm
      · rw [if_neg a0]
        by_cases a1 : c.f1 = 1
        · rw [if_pos a1]
          by_cases b3 : c.f0 = 3
          · rw [if_pos b3]; exact congrArg some (decide_eq_true (by omega)).symm
          · rw [if_neg b3]
            refine congrArg some ?_
            rw [Bool.eq_iff_iff, beq_iff_eq, decide_eq_true_eq]; omega
        · rw [if_neg a1]; exact congrArg some (decide_eq_false (by omega)).symm
    · simp only [decide_eq_false h7, Bool.false_eq_true, if_false]
      exact congrArg some (decide_eq_false (by omega)).symm
  · simp only [if_neg h0, Option.bind_some, Bool.false_eq_true, if_false]
    exact congrArg some (decide_eq_false (by omega)).symm
theorem all_from {α : Type} (p : α → Bool) (xs : List α) (q : Nat → Bool) (hq : ∀ i (h : i < xs.length), q i = p xs[i]) : allFrom q xs.length 0 = xs.all p := by
  rw [Bool.eq_iff_iff, allFrom_iff, List.all_eq_true]
  constructor
  · intro h x hx
    obtain ⟨i, hi, rfl⟩ := List.mem_iff_getElem.1 hx
    rw [← hq i hi]; exact h i (by omega) (by omega)
  · intro h j _ hj
    rw [hq j (by omega)]; exact h _ (List.getElem_mem _)
theorem validCells_ev (xs : List S109) (hx : xs.length ≤ 90) : Ev (fun k => impl_validCells.f k xs) (xs.all okC) := by
  unfold impl_validCells.f
  simp only [if_neg (show ¬ (xs.length : Int) > 90 by omega)]
  have key := ev_all (fun k i => impl_validCells.l0 k xs (xs.length : Int) i) xs.length (fun i => okC (xs.getD i z109)) false true ?_ ?_ ?_ xs.length 0 (by omega)
  · refine ev_eq key ?_
    rw [all_from okC xs _ (fun i h => by simp [h])]
    cases xs.all okC <;> rfl
  · intro i hi hp r hr
    refine Ev.succ ?_
    have e : okC (rd_T109 xs (i : Int)) = true := by rw [rdC_at hi]; simpa [hi] using hp
    simp only [impl_validCells.l0, if_pos (show (i : Int) < (xs.length : Int) by omega), if_pos (show (0 : Int) ≤ (i : Int) by omega), isCell_is, e, Option.bind_some, if_true, wsucc (show i < 9223372036854775807 by omega)]
    exact hr
  · intro i hi hp
    refine Ev.succ ?_
    have e : okC (rd_T109 xs (i : Int)) = false := by rw [rdC_at hi]; simpa [hi] using hp
    simp only [impl_validCells.l0, if_pos (show (i : Int) < (xs.length : Int) by omega), if_pos (show (0 : Int) ≤ (i : Int) by omega), isCell_is, e, Option.bind_some, Bool.false_eq_true, if_false]
    exact Ev.now _
  · refine Ev.succ ?_
    simp only [impl_validCells.l0, if_neg (show ¬ (xs.length : Int) < (xs.length : Int) by omega)]
    exact Ev.now _
theorem prod_le {a b : Int} (h1 : 1 ≤ a) (h2 : a ≤ 10) (h3 : 1 ≤ b) (h4 : b ≤ 9) : 1 ≤ a * b ∧ a * b ≤ 90 := by
  have := Int.mul_le_mul h2 h4 (by omega) (by omega)
  have := Int.mul_le_mul h1 h3 (by omega) (by omega)
  omega
theorem isBoard_ev (b : BD) : Ev (fun k => impl_IsBoard.f k b.f0 b.f1 b.f2) (okB b) := by
  unfold impl_IsBoard.f okB
  by_cases h1 : b.f0 ≥ 1
  · by_cases h2 : b.f0 ≤ 10
    · by_cases h3 : b.f1 ≥ 1
      · by_cases h4 : b.f1 ≤ 9
        · have hp := prod_le h1 h2 h3 h4
          have ew : wrap64 (b.f0 * b.f1) = b.f0 * b.f1 := w64 (by omega) (by omega)
          simp only [if_pos h1, if_pos h2, if_pos h3, if_pos h4, ew]
          by_cases h5 : (b.f2.length : Int) = b.f0 * b.f1
          · simp only [if_pos h5]
            refine Ev.bind (validCells_ev b.f2 (by omega)) (ev_some ?_)
            rw [decide_eq_true (by exact ⟨h1, h2, h3, h4, h5⟩), Bool.true_and]
          · simp only [if_neg h5]
            exact ev_some (by rw [decide_eq_false (by intro h; exact h5 h.2.2.2.2), Bool.false_and])
        · simp only [if_pos h1, if_pos h2, if_pos h3, if_neg h4]
          exact ev_some (by rw [decide_eq_false (by omega), Bool.false_and])
      · simp only [if_pos h1, if_pos h2, if_neg h3]
        exact ev_some (by rw [decide_eq_false (by omega), Bool.false_and])
    · simp only [if_pos h1, if_neg h2]
      exact ev_some (by rw [decide_eq_false (by omega), Bool.false_and])
  · simp only [if_neg h1]
    exact ev_some (by rw [decide_eq_false (by omega), Bool.false_and])
theorem boGood_l0 (xs : List S109) (hx : xs.length ≤ 9223372036854775806) : Ev (fun k => spec_boGood.l0 k xs (xs.length : Int) 0) (xs.all okC) := by
  have key := ev_all (fun k i => spec_boGood.l0 k xs (xs.length : Int) i) xs.length (fun i => okC (xs.getD i z109)) false true ?_ ?_ ?_ xs.length 0 (by omega)
  · refine ev_eq key ?_
    rw [all_from okC xs _ (fun i h => by simp [h])]
    cases xs.all okC <;> rfl
  · intro i hi hp r hr
    refine Ev.succ ?_
    have e : okC (rd_T109 xs (i : Int)) = true := by rw [rdC_at hi]; simpa [hi] using hp
    simp only [spec_boGood.l0, if_pos (show (i : Int) < (xs.length : Int) by omega), if_pos (show (0 : Int) ≤ (i : Int) by omega), paGood_is, e, Option.bind_some, if_true, wsucc (show i < 9223372036854775807 by omega)]
    exact hr
  · intro i hi hp
    refine Ev.succ ?_
    have e : okC (rd_T109 xs (i : Int)) = false := by rw [rdC_at hi]; simpa [hi] using hp
    simp only [spec_boGood.l0, if_pos (show (i : Int) < (xs.length : Int) by omega), if_pos (show (0 : Int) ≤ (i : Int) by omega), paGood_is, e, Option.bind_some, Bool.false_eq_true, if_false]
    exact Ev.now _
  · refine Ev.succ ?_
    simp only [spec_boGood.l0, if_neg (show ¬ (xs.length : Int) < (xs.length : Int) by omega)]
    exact Ev.now _
theorem l1In_is (a b c : Int) : spec_l1In.f a b c = some (decide (b ≤ a ∧ a ≤ c)) := by
  unfold spec_l1In.f
  by_cases h : a ≥ b
  · rw [if_pos h]; congr 1; simp [h]
  · rw [if_neg h]; congr 1; simp; omega
theorem boGood_ev (b : BD) (hx : b.f2.length ≤ 9223372036854775806) : Ev (fun k => spec_boGood.f k b.f0 b.f1 b.f2) (okB b) := by
  unfold spec_boGood.f okB
  simp only [l1In_is, Option.bind_some]
  by_cases h1 : 1 ≤ b.f0 ∧ b.f0 ≤ 10
  · by_cases h2 : 1 ≤ b.f1 ∧ b.f1 ≤ 9
    · have hp := prod_le h1.1 h1.2 h2.1 h2.2
      have ew : wrap64 (b.f0 * b.f1) = b.f0 * b.f1 := w64 (by omega) (by omega)
      simp only [decide_eq_true h1, decide_eq_true h2, if_true, ew]
      refine Ev.succ ?_
      simp only [spec_boGood.j0]
      by_cases h5 : (b.f2.length : Int) = b.f0 * b.f1
      · have hb : ((b.f2.length : Int) != b.f0 * b.f1) = false := by rw [h5]; simp
        simp only [hb, Bool.false_eq_true, if_false]
        refine ev_eq (boGood_l0 b.f2 hx) ?_
        rw [decide_eq_true (by exact ⟨h1.1, h1.2, h2.1, h2.2, h5⟩), Bool.true_and]
      · simp only [bne_iff_ne.2 h5, if_true]
        exact ev_some (by rw [decide_eq_false (by intro h; exact h5 h.2.2.2.2), Bool.false_and])
    · simp only [decide_eq_true h1, decide_eq_false h2, if_true, Bool.false_eq_true, if_false]
      refine Ev.succ ?_
      simp only [spec_boGood.j0, if_true]
      exact ev_some (by rw [decide_eq_false (fun h => h2 ⟨h.2.2.1, h.2.2.2.1⟩), Bool.false_and])
  · simp only [decide_eq_false h1, Bool.false_eq_true, if_false]
    refine Ev.succ ?_
    simp only [spec_boGood.j0, if_true]
    exact ev_some (by rw [decide_eq_false (by omega), Bool.false_and])
-- the parts of a board
def cntG (xs : List S109) (i : Nat) (s : List Int) : List Int := s.set (xs.getD i z109).f0.toNat (wrap64 (rd s (xs.getD i z109).f0 + 1))
def cnt (xs : List S109) : List Int := upto (cntG xs) xs.length 0 (List.replicate 8 0)
theorem cnt_length (xs : List S109) : (cnt xs).length = 8 := upto_inv (g := cntG xs) (Inv := fun _ s => s.length = 8) (n := xs.length) (fun i s _ h => by simpa [cntG] using h) xs.length 0 (List.replicate 8 0) (by omega) (by simp)
def parts (xs : List S109) : List Int := (cnt xs).drop 1
theorem parts_length (xs : List S109) : (parts xs).length = 7 := by simp [parts, cnt_length]
theorem boParts_ev (a b : Int) (xs : List S109) (hx : xs.length ≤ 1048576) (hok : xs.all okC = true) : Ev (fun k => spec_boParts.f k a b xs) (cnt xs) := by
  unfold spec_boParts.f
  simp only [if_pos (show 8 ≤ 35184372088832 by omega)]
  refine ev_for (fun k (s : List Int) i => spec_boParts.l0 k s xs (xs.length : Int) i) xs.length (cntG xs) (fun _ s => s.length = 8) (fun s => s) ?_ ?_ xs.length 0 _ (by omega) (by simp)
  · intro i s hi hs
    refine ⟨by simpa [cntG] using hs, fun r hr => ?_⟩
    have ok := List.all_eq_true.1 hok xs[i] (List.getElem_mem _)
    simp only [okC, decide_eq_true_eq] at ok
    refine Ev.succ ?_
    simp only [spec_boParts.l0, if_pos (show (i : Int) < (xs.length : Int) by omega), if_pos (show (0 : Int) ≤ (i : Int) by omega), rdC_at hi, if_pos ok.1, if_pos (show xs[i].f0 < (s.length : Int) by omega), wsucc (show i < 9223372036854775807 by omega)]
    have e : xs.getD i z109 = xs[i] := by simp [hi]
    simp only [cntG, e] at hr
    exact hr
  · intro s hs
    refine Ev.succ ?_
    simp only [spec_boParts.l0, if_neg (show ¬ (xs.length : Int) < (xs.length : Int) by omega)]
    exact Ev.now _
theorem countKinds_ev (xs : List S109) (hx : xs.length ≤ 90) (hok : xs.all okC = true) : Ev (fun k => impl_CountKinds.f k xs) (cnt xs, true) := by
  unfold impl_CountKinds.f
  refine Ev.bind (validCells_ev xs hx) ?_
  rw [hok]
  simp only [if_true, if_pos (show 8 ≤ 35184372088832 by omega)]
  refine ev_for (fun k (s : List Int) i => impl_CountKinds.l0 k s xs (xs.length : Int) i) xs.length (cntG xs) (fun _ s => s.length = 8) (fun s => (s, true)) ?_ ?_ xs.length 0 _ (by omega) (by simp)
  · intro i s hi hs
    refine ⟨by simpa [cntG] using hs, fun r hr => ?_⟩
    have ok := List.all_eq_true.1 hok xs[i] (List.getElem_mem _)
    simp only [okC, decide_eq_true_eq] at ok
    refine Ev.succ ?_
    simp only [impl_CountKinds.l0, if_pos (show (i : Int) < (xs.length : Int) by omega), if_pos (show (0 : Int) ≤ (i : Int) by omega), rdC_at hi, if_pos ok.1, if_pos (show xs[i].f0 < (s.length : Int) by omega), wsucc (show i < 9223372036854775807 by omega)]
    have e : xs.getD i z109 = xs[i] := by simp [hi]
    simp only [cntG, e] at hr
    exact hr
  · intro s hs
    refine Ev.succ ?_
    simp only [impl_CountKinds.l0, if_neg (show ¬ (xs.length : Int) < (xs.length : Int) by omega)]
    exact Ev.now _
theorem okB_cells {b : BD} (h : okB b = true) : b.f2.length ≤ 90 ∧ b.f2.all okC = true := by
  simp only [okB, Bool.and_eq_true, decide_eq_true_eq] at h
  obtain ⟨⟨h1, h2, h3, h4, h5⟩, h6⟩ := h
  have := prod_le h1 h2 h3 h4
  exact ⟨by omega, h6⟩
theorem kiOf_ev (b : BD) (h : okB b = true) : Ev (fun k => spec_kiOf.f k b.f0 b.f1 b.f2) (parts b.f2) := by
  obtain ⟨h1, h2⟩ := okB_cells h
  unfold spec_kiOf.f
  refine Ev.bind (boParts_ev b.f0 b.f1 b.f2 (by omega) h2) ?_
  have := cnt_length b.f2
  simp only [if_pos (show (1 : Int) ≤ ((cnt b.f2).length : Int) by omega)]
  exact Ev.now _
theorem neededParts_ev (b : BD) (h : okB b = true) : Ev (fun k => impl_neededParts.f k b.f0 b.f1 b.f2) (parts b.f2) := by
  obtain ⟨h1, h2⟩ := okB_cells h
  unfold impl_neededParts.f
  refine Ev.bind (countKinds_ev b.f2 h1 h2) ?_
  have := cnt_length b.f2
  simp only [Option.bind_some, if_pos (show (1 : Int) ≤ ((cnt b.f2).length : Int) by omega), List.nil_append, List.length_nil, List.length_drop, if_pos (show 0 + ((cnt b.f2).length - 1) < 17592186044416 by omega)]
  exact Ev.now _
end Go.Proofs.Ytgblcbgkkfipoaa.PureB
