/-
  Plain lemmas for FnExactSharedKit: what the printed functions answer.
-/
import Derived.Test.YtbojcipcdefipaaXFnExactSharedKitx
import Derived.Test.YtbojcipcdefipaaWEvs
namespace Go.Proofs.Ytbojcipcdefipaa.Pure
open Go.RowKit Go.Proofs.YtbojcipcdefipaaW.PrintWords Go.Proofs.YtbojcipcdefipaaW.PrintLast Go.Proofs.YtbojcipcdefipaaW.PrintMore Go.Proofs.YtbojcipcdefipaaW.Evs Go.Proofs.Ytbojcipcdefipaa.XFnExactSharedKit
set_option linter.unusedVariables false
set_option linter.unusedSimpArgs false
-- a law's boards and the program's
def toC (c : S108) : S99 := ⟨c.f0, c.f1⟩
def toB (b : S67) : S71 := ⟨b.f0, b.f1, b.f2.map toC⟩
theorem rdC_at {xs : List S99} {i : Nat} (h : i < xs.length) : rd_T99 xs (i : Int) = xs[i] := by simp [rd_T99, h]
theorem rdB_at {xs : List S71} {i : Nat} (h : i < xs.length) : rd_T71 xs (i : Int) = xs[i] := by simp [rd_T71, h]
theorem rdLC_at {xs : List S108} {i : Nat} (h : i < xs.length) : rd_T108 xs (i : Int) = xs[i] := by simp [rd_T108, h]
theorem rdLB_at {xs : List S67} {i : Nat} (h : i < xs.length) : rd_T67 xs (i : Int) = xs[i] := by simp [rd_T67, h]
theorem toCellS_ev (xs : List S108) (hx : xs.length ≤ 1048576) : Ev (fun k => laws_toCellS.f k xs) (xs.map toC) := by
  unfold laws_toCellS.f
  simp only [if_pos (show (0 : Int) ≤ (xs.length : Int) by omega), if_pos (show ((xs.length : Int) : Int).toNat ≤ 17592186044416 by omega)]
  have key := ev_for (fun k (s : List S99) i => laws_toCellS.l0 k xs s i) xs.length (fun i s => s.set i (toC (xs.getD i z108))) (fun i s => s.length = xs.length ∧ s.take i = (xs.map toC).take i) (fun s => s) ?_ ?_ xs.length 0
    (List.replicate ((xs.length : Int) : Int).toNat z99) (by omega) ⟨by simp, by simp⟩
  · refine ev_eq key ?_
    have h := upto_inv (g := fun i (s : List S99) => s.set i (toC (xs.getD i z108))) (Inv := fun i s => s.length = xs.length ∧ s.take i = (xs.map toC).take i) (n := xs.length)
      (fun i s hi hs => ⟨by simpa using hs.1, by
        rw [List.take_succ_eq_append_getElem (by simpa [hs.1] using hi), List.getElem_set_self, List.take_set_of_le (Nat.le_refl _), hs.2, List.take_succ_eq_append_getElem (by simpa using hi)]
        simp [hi]⟩) xs.length 0 (List.replicate ((xs.length : Int) : Int).toNat z99) (by omega) ⟨by simp, by simp⟩
    obtain ⟨h1, h2⟩ := h
    rw [List.take_of_length_le (by omega), List.take_of_length_le (by simp)] at h2
    exact h2
  · rintro i s hi ⟨hl, ht⟩
    refine ⟨⟨by simpa using hl, ?_⟩, fun r hr => ?_⟩
    · rw [List.take_succ_eq_append_getElem (by simpa [hl] using hi), List.getElem_set_self, List.take_set_of_le (Nat.le_refl _), ht, List.take_succ_eq_append_getElem (by simpa using hi)]
      simp [hi]
    · refine Ev.succ ?_
      simp only [laws_toCellS.l0, if_pos (show (i : Int) < (xs.length : Int) by omega), if_pos (show (0 : Int) ≤ (i : Int) by omega), if_pos (show (i : Int) < (s.length : Int) by omega), wsucc (show i < 9223372036854775807 by omega), laws_toCell.f, Option.bind_some, Int.toNat_natCast]
      exact hr
  · rintro s ⟨hl, ht⟩
    refine Ev.succ ?_
    simp only [laws_toCellS.l0, if_neg (show ¬ (xs.length : Int) < (xs.length : Int) by omega)]
    exact Ev.now _
theorem toBoard_ev (b : S67) (hx : b.f2.length ≤ 1048576) : Ev (fun k => laws_toBoard.f k b.f0 b.f1 b.f2) (b.f0, b.f1, b.f2.map toC) := by
  unfold laws_toBoard.f
  exact Ev.bind (toCellS_ev b.f2 hx) (Ev.now _)
-- compared: a list of cells, a board
theorem eqCell_refl (c : S99) : laws_eqCell.f c.f0 c.f1 c.f0 c.f1 = some true := by simp [laws_eqCell.f]
theorem eqCellS_refl (xs : List S99) (hx : xs.length ≤ 9223372036854775806) : Ev (fun k => laws_eqCellS.f k xs xs) true := by
  unfold laws_eqCellS.f
  simp only [if_true]
  have key := ev_all (fun k i => laws_eqCellS.l0 k xs xs i) xs.length (fun _ => true) false true ?_ ?_ ?_ xs.length 0 (by omega)
  · refine ev_eq key ?_
    rw [if_pos (allFrom_iff.2 (fun _ _ _ => rfl))]
  · intro i hi hp r hr
    refine Ev.succ ?_
    simp only [laws_eqCellS.l0, if_pos (show (i : Int) < (xs.length : Int) by omega), if_pos (show (0 : Int) ≤ (i : Int) by omega), eqCell_refl, Option.bind_some, if_true, wsucc (show i < 9223372036854775807 by omega)]
    exact hr
  · intro i hi hp; cases hp
  · refine Ev.succ ?_
    simp only [laws_eqCellS.l0, if_neg (show ¬ (xs.length : Int) < (xs.length : Int) by omega)]
    exact Ev.now _
theorem eqBoard_refl (b : S71) (hx : b.f2.length ≤ 9223372036854775806) : Ev (fun k => laws_eqBoard.f k b.f0 b.f1 b.f2 b.f0 b.f1 b.f2) true := by
  unfold laws_eqBoard.f
  simp only [if_true]
  exact Ev.bind (eqCellS_refl b.f2 hx) (Ev.now _)
-- what is a valid cell, a valid board
def okC (c : S99) : Bool := decide (0 ≤ c.f0 ∧ c.f0 ≤ 7 ∧ (c.f1 = 0 ∨ c.f1 = 1 ∧ (c.f0 = 3 ∨ c.f0 = 6)))
def okB (b : S71) : Bool := decide (1 ≤ b.f0 ∧ b.f0 ≤ 10 ∧ 1 ≤ b.f1 ∧ b.f1 ≤ 9 ∧ (b.f2.length : Int) = b.f0 * b.f1) && b.f2.all okC
theorem isCell_is (c : S99) : impl_IsCell.f c.f0 c.f1 = some (okC c) := by
  unfold impl_IsCell.f okC
  repeat' split
  all_goals (first | exact congrArg some (decide_eq_true (by omega)).symm | exact congrArg some (decide_eq_false (by omega)).symm | (congr 1; rw [Bool.eq_iff_iff, beq_iff_eq, decide_eq_true_eq]; omega))
theorem paGood_is (c : S99) : spec_paGood.f c.f0 c.f1 = some (okC c) := by
  unfold spec_paGood.f spec_l1In.f spec_paTurning.f okC
  by_cases h0 : c.f0 ≥ 0
  · simp only [if_pos h0, Option.bind_some]
    by_cases h7 : c.f0 ≤ 7
    · simp only [decide_eq_true h7, if_true]
      by_cases a0 : c.f1 = 0
      · rw [if_pos a0]; exact congrArg some (decide_eq_true (by omega)).symm
      · rw [if_neg a0]
        by_cases a1 : c.f1 = 1
        · rw [if_pos a1]
          by_cases b3 : c.f0 = 3
          · rw [if_pos b3]; exact congrArg some (decide_eq_true (by omega)).symm
          · rw [if_neg b3]
            refine congrArg some ?_
            rw [Bool.eq_iff_iff, beq_iff_eq, decide_eq_true_eq]; omega
        · rw [if_neg a1]; exact congrArg some (decide_eq_false (by omega)).symm
    · simp only [decide_eq_false h7, Bool.false_eq_true, if_false]
      exact congrArg some (decide_eq_false (by omega)).symm
  · simp only [if_neg h0, Option.bind_some, Bool.false_eq_true, if_false]
    exact congrArg some (decide_eq_false (by omega)).symm
theorem all_from {α : Type} (p : α → Bool) (xs : List α) (q : Nat → Bool) (hq : ∀ i (h : i < xs.length), q i = p xs[i]) : allFrom q xs.length 0 = xs.all p := by
  rw [Bool.eq_iff_iff, allFrom_iff, List.all_eq_true]
  constructor
  · intro h x hx
    obtain ⟨i, hi, rfl⟩ := List.mem_iff_getElem.1 hx
    rw [← hq i hi]; exact h i (by omega) (by omega)
  · intro h j _ hj
    rw [hq j (by omega)]; exact h _ (List.getElem_mem _)
theorem validCells_ev (xs : List S99) (hx : xs.length ≤ 90) : Ev (fun k => impl_validCells.f k xs) (xs.all okC) := by
  unfold impl_validCells.f
  simp only [if_neg (show ¬ (xs.length : Int) > 90 by omega)]
  have key := ev_all (fun k i => impl_validCells.l0 k xs (xs.length : Int) i) xs.length (fun i => okC (xs.getD i z99)) false true ?_ ?_ ?_ xs.length 0 (by omega)
  · refine ev_eq key ?_
    rw [all_from okC xs _ (fun i h => by simp [h])]
    cases xs.all okC <;> rfl
  · intro i hi hp r hr
    refine Ev.succ ?_
    have e : okC (rd_T99 xs (i : Int)) = true := by rw [rdC_at hi]; simpa [hi] using hp
    simp only [impl_validCells.l0, if_pos (show (i : Int) < (xs.length : Int) by omega), if_pos (show (0 : Int) ≤ (i : Int) by omega), isCell_is, e, Option.bind_some, if_true, wsucc (show i < 9223372036854775807 by omega)]
    exact hr
  · intro i hi hp
    refine Ev.succ ?_
    have e : okC (rd_T99 xs (i : Int)) = false := by rw [rdC_at hi]; simpa [hi] using hp
    simp only [impl_validCells.l0, if_pos (show (i : Int) < (xs.length : Int) by omega), if_pos (show (0 : Int) ≤ (i : Int) by omega), isCell_is, e, Option.bind_some, Bool.false_eq_true, if_false]
    exact Ev.now _
  · refine Ev.succ ?_
    simp only [impl_validCells.l0, if_neg (show ¬ (xs.length : Int) < (xs.length : Int) by omega)]
    exact Ev.now _
theorem prod_le {a b : Int} (h1 : 1 ≤ a) (h2 : a ≤ 10) (h3 : 1 ≤ b) (h4 : b ≤ 9) : 1 ≤ a * b ∧ a * b ≤ 90 := by
  have := Int.mul_le_mul h2 h4 (by omega) (by omega)
  have := Int.mul_le_mul h1 h3 (by omega) (by omega)
  omega
theorem isBoard_ev (b : S71) : Ev (fun k => impl_IsBoard.f k b.f0 b.f1 b.f2) (okB b) := by
  unfold impl_IsBoard.f okB
  by_cases h1 : b.f0 ≥ 1
  · by_cases h2 : b.f0 ≤ 10
    · by_cases h3 : b.f1 ≥ 1
      · by_cases h4 : b.f1 ≤ 9
        · have hp := prod_le h1 h2 h3 h4
          have ew : wrap64 (b.f0 * b.f1) = b.f0 * b.f1 := w64 (by omega) (by omega)
          simp only [if_pos h1, if_pos h2, if_pos h3, if_pos h4, ew]
          by_cases h5 : (b.f2.length : Int) = b.f0 * b.f1
          · simp only [if_pos h5]
            refine Ev.bind (validCells_ev b.f2 (by omega)) (ev_some ?_)
            rw [decide_eq_true (by exact ⟨h1, h2, h3, h4, h5⟩), Bool.true_and]
          · simp only [if_neg h5]
            exact ev_some (by rw [decide_eq_false (by intro h; exact h5 h.2.2.2.2), Bool.false_and])
        · simp only [if_pos h1, if_pos h2, if_pos h3, if_neg h4]
          exact ev_some (by rw [decide_eq_false (by omega), Bool.false_and])
      · simp only [if_pos h1, if_pos h2, if_neg h3]
        exact ev_some (by rw [decide_eq_false (by omega), Bool.false_and])
    · simp only [if_pos h1, if_neg h2]
      exact ev_some (by rw [decide_eq_false (by omega), Bool.false_and])
  · simp only [if_neg h1]
    exact ev_some (by rw [decide_eq_false (by omega), Bool.false_and])
theorem boGood_l0 (xs : List S99) (hx : xs.length ≤ 9223372036854775806) : Ev (fun k => spec_boGood.l0 k xs (xs.length : Int) 0) (xs.all okC) := by
  have key := ev_all (fun k i => spec_boGood.l0 k xs (xs.length : Int) i) xs.length (fun i => okC (xs.getD i z99)) false true ?_ ?_ ?_ xs.length 0 (by omega)
  · refine ev_eq key ?_
    rw [all_from okC xs _ (fun i h => by simp [h])]
    cases xs.all okC <;> rfl
  · intro i hi hp r hr
    refine Ev.succ ?_
    have e : okC (rd_T99 xs (i : Int)) = true := by rw [rdC_at hi]; simpa [hi] using hp
    simp only [spec_boGood.l0, if_pos (show (i : Int) < (xs.length : Int) by omega), if_pos (show (0 : Int) ≤ (i : Int) by omega), paGood_is, e, Option.bind_some, if_true, wsucc (show i < 9223372036854775807 by omega)]
    exact hr
  · intro i hi hp
    refine Ev.succ ?_
    have e : okC (rd_T99 xs (i : Int)) = false := by rw [rdC_at hi]; simpa [hi] using hp
    simp only [spec_boGood.l0, if_pos (show (i : Int) < (xs.length : Int) by omega), if_pos (show (0 : Int) ≤ (i : Int) by omega), paGood_is, e, Option.bind_some, Bool.false_eq_true, if_false]
    exact Ev.now _
  · refine Ev.succ ?_
    simp only [spec_boGood.l0, if_neg (show ¬ (xs.length : Int) < (xs.length : Int) by omega)]
    exact Ev.now _
theorem l1In_is (a b c : Int) : spec_l1In.f a b c = some (decide (b ≤ a ∧ a ≤ c)) := by
  unfold spec_l1In.f
  by_cases h : a ≥ b
  · rw [if_pos h]; congr 1; simp [h]
  · rw [if_neg h]; congr 1; simp; omega
theorem boGood_ev (b : S71) (hx : b.f2.length ≤ 9223372036854775806) : Ev (fun k => spec_boGood.f k b.f0 b.f1 b.f2) (okB b) := by
  unfold spec_boGood.f okB
  simp only [l1In_is, Option.bind_some]
  by_cases h1 : 1 ≤ b.f0 ∧ b.f0 ≤ 10
  · by_cases h2 : 1 ≤ b.f1 ∧ b.f1 ≤ 9
    · have hp := prod_le h1.1 h1.2 h2.1 h2.2
      have ew : wrap64 (b.f0 * b.f1) = b.f0 * b.f1 := w64 (by omega) (by omega)
      simp only [decide_eq_true h1, decide_eq_true h2, if_true, ew]
      refine Ev.succ ?_
      simp only [spec_boGood.j0]
      by_cases h5 : (b.f2.length : Int) = b.f0 * b.f1
      · have hb : ((b.f2.length : Int) != b.f0 * b.f1) = false := by rw [h5]; simp
        simp only [hb, Bool.false_eq_true, if_false]
        refine ev_eq (boGood_l0 b.f2 hx) ?_
        rw [decide_eq_true (by exact ⟨h1.1, h1.2, h2.1, h2.2, h5⟩), Bool.true_and]
      · simp only [bne_iff_ne.2 h5, if_true]
        exact ev_some (by rw [decide_eq_false (by intro h; exact h5 h.2.2.2.2), Bool.false_and])
    · simp only [decide_eq_true h1, decide_eq_false h2, if_true, Bool.false_eq_true, if_false]
      refine Ev.succ ?_
      simp only [spec_boGood.j0, if_true]
      exact ev_some (by rw [decide_eq_false (fun h => h2 ⟨h.2.2.1, h.2.2.2.1⟩), Bool.false_and])
  · simp only [decide_eq_false h1, Bool.false_eq_true, if_false]
    refine Ev.succ ?_
    simp only [spec_boGood.j0, if_true]
    exact ev_some (by rw [decide_eq_false (by omega), Bool.false_and])
end Go.Proofs.Ytbojcipcdefipaa.Pure
