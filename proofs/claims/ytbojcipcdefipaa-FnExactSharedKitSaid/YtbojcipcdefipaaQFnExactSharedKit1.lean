/-
  Plain lemmas for FnExactSharedKit: what the printed functions answer.
-/
import Derived.Test.YtbojcipcdefipaaXFnExactSharedKitx
import Derived.Test.YtbojcipcdefipaaWEvs
namespace Go.Proofs.Ytbojcipcdefipaa.Pure
open Go.RowKit Go.Proofs.YtbojcipcdefipaaW.PrintWords Go.Proofs.YtbojcipcdefipaaW.PrintLast Go.Proofs.YtbojcipcdefipaaW.PrintMore Go.Proofs.YtbojcipcdefipaaW.Evs Go.Proofs.Ytbojcipcdefipaa.XFnExactSharedKit
set_option linter.unusedVariables false
set_option linter.unusedSimpArgs false
-- lists of whole numbers: compared, marked, held
def marks (a : Int) (n : Nat) : List Int := (List.range n).map fun i : Nat => a + (i : Int)
theorem marks_length (a : Int) (n : Nat) : (marks a n).length = n := by simp [marks]
theorem eqIntS_ev (xs ys : List Int) (hx : xs.length ≤ 9223372036854775806) : Ev (fun k => laws_eqIntS.f k xs ys) (decide (xs = ys)) := by
  unfold laws_eqIntS.f
  by_cases hl : xs.length = ys.length
  · have hl' : (xs.length : Int) = (ys.length : Int) := by omega
    simp only [if_pos hl']
    have key := ev_all (fun k i => laws_eqIntS.l0 k xs ys i) xs.length (fun i => decide (xs[i]? = ys[i]?)) false true ?_ ?_ ?_ xs.length 0 (by omega)
    · refine ev_eq key ?_
      cases hd : allFrom (fun i => decide (xs[i]? = ys[i]?)) xs.length 0 with
      | true =>
        rw [allFrom_iff] at hd
        have : xs = ys := List.ext_getElem? (fun i => by
          rcases Nat.lt_or_ge i xs.length with h | h
          · simpa using hd i (by omega) (by omega)
          · rw [List.getElem?_eq_none (by omega), List.getElem?_eq_none (by omega)])
        simp [this]
      | false =>
        have : xs ≠ ys := fun e => by
          subst e
          have : allFrom (fun i => decide (xs[i]? = xs[i]?)) xs.length 0 = true := allFrom_iff.2 (fun _ _ _ => by simp)
          rw [this] at hd; cases hd
        simp [this]
    · intro i hi hp r hr
      have hi2 : i < ys.length := by omega
      have e : rd xs (i : Int) = rd ys (i : Int) := by
        rw [rd_at hi, rd_at hi2]
        simpa [List.getElem?_eq_getElem hi, List.getElem?_eq_getElem hi2] using hp
      refine Ev.succ ?_
      simp only [laws_eqIntS.l0, if_pos (show (i : Int) < (xs.length : Int) by omega), if_pos (show (0 : Int) ≤ (i : Int) by omega), if_pos (show (i : Int) < (ys.length : Int) by omega), if_pos e, wsucc (show i < 9223372036854775807 by omega)]
      exact hr
    · intro i hi hp
      have hi2 : i < ys.length := by omega
      have e : ¬ rd xs (i : Int) = rd ys (i : Int) := by
        rw [rd_at hi, rd_at hi2]
        simpa [List.getElem?_eq_getElem hi, List.getElem?_eq_getElem hi2] using hp
      refine Ev.succ ?_
      simp only [laws_eqIntS.l0, if_pos (show (i : Int) < (xs.length : Int) by omega), if_pos (show (0 : Int) ≤ (i : Int) by omega), if_pos (show (i : Int) < (ys.length : Int) by omega), if_neg e]
      exact Ev.now _
    · refine Ev.succ ?_
      simp only [laws_eqIntS.l0, if_neg (show ¬ (xs.length : Int) < (xs.length : Int) by omega)]
      exact Ev.now _
  · simp only [if_neg (show ¬ (xs.length : Int) = (ys.length : Int) by omega)]
    exact ev_some (by simp; intro e; exact hl (by rw [e]))
theorem set_marks {xs : List Int} {a : Int} {i : Nat} (h : i < xs.length) (hx : xs.take i = marks a i) : (xs.set i (a + (i : Int))).take (i + 1) = marks a (i + 1) := by
  rw [List.take_succ_eq_append_getElem (by simpa using h), List.getElem_set_self, List.take_set_of_le (Nat.le_refl _), hx]
  simp [marks, List.range_succ]
theorem markIntS_ev (xs : List Int) (hx : xs.length ≤ 4611686018427387904) : Ev (fun k => laws_markIntS.f k xs 1) (1 + (xs.length : Int), marks 1 xs.length) := by
  unfold laws_markIntS.f
  have key := ev_for (fun k (s : List Int × Int) i => laws_markIntS.l0 k s.1 s.2 i) xs.length (fun i s => (s.1.set i (1 + (i : Int)), 1 + ((i : Int) + 1)))
    (fun i s => s.1.length = xs.length ∧ s.2 = 1 + (i : Int) ∧ s.1.take i = marks 1 i) (fun s => (s.2, s.1)) ?_ ?_ xs.length 0 (xs, 1) (by omega) ⟨rfl, rfl, by simp [marks]⟩
  · refine ev_eq key ?_
    obtain ⟨h1, h2, h3⟩ := upto_inv (g := fun i (s : List Int × Int) => (s.1.set i (1 + (i : Int)), 1 + ((i : Int) + 1))) (Inv := fun i s => s.1.length = xs.length ∧ s.2 = 1 + (i : Int) ∧ s.1.take i = marks 1 i) (n := xs.length)
      (fun i s hi hs => ⟨by simpa using hs.1, by simp, set_marks (by rw [hs.1]; exact hi) hs.2.2⟩) xs.length 0 (xs, 1) (by omega) ⟨rfl, rfl, by simp [marks]⟩
    refine Prod.ext h2 ?_
    rw [List.take_of_length_le (by omega)] at h3
    exact h3
  · rintro i ⟨s, a⟩ hi ⟨hl, ha, ht⟩
    simp only at hl ha ht
    subst ha
    refine ⟨⟨by simpa using hl, by simp, set_marks (by simpa [hl] using hi) ht⟩, fun r hr => ?_⟩
    refine Ev.succ ?_
    simp only [laws_markIntS.l0, if_pos (show (i : Int) < (s.length : Int) by omega), if_pos (show (0 : Int) ≤ (i : Int) by omega), wsucc (show i < 9223372036854775807 by omega), Int.toNat_natCast, w64 (show -9223372036854775808 ≤ 1 + (i : Int) + 1 by omega) (by omega)]
    rw [show 1 + (i : Int) + 1 = 1 + ((i : Int) + 1) by omega]
    exact hr
  · rintro ⟨s, a⟩ ⟨hl, ha, ht⟩
    simp only at hl ha ht
    refine Ev.succ ?_
    simp only [laws_markIntS.l0, if_neg (show ¬ (xs.length : Int) < (s.length : Int) by omega)]
    exact Ev.now _
theorem heldIntS_ev (n : Nat) (hx : n ≤ 4611686018427387904) : Ev (fun k => laws_heldIntS.f k (marks 1 n) 1) (1 + (n : Int)) := by
  unfold laws_heldIntS.f
  have key := ev_for (fun k (s : Int) i => laws_heldIntS.l0 k (marks 1 n) s i) n (fun i _ => 1 + ((i : Int) + 1)) (fun i s => s = 1 + (i : Int)) (fun s => s) ?_ ?_ n 0 1 (by omega) rfl
  · refine ev_eq key ?_
    exact upto_inv (g := fun i (_ : Int) => 1 + ((i : Int) + 1)) (Inv := fun i s => s = 1 + (i : Int)) (n := n) (fun i s hi hs => by simp) n 0 1 (by omega) rfl
  · intro i s hi hs
    subst hs
    refine ⟨by simp, fun r hr => ?_⟩
    refine Ev.succ ?_
    have e : rd (marks 1 n) (i : Int) = 1 + (i : Int) := by rw [rd_at (by rw [marks_length]; exact hi)]; simp [marks]
    have hl := marks_length 1 n
    simp only [laws_heldIntS.l0, if_pos (show (i : Int) < ((marks 1 n).length : Int) by omega), if_pos (show (0 : Int) ≤ (i : Int) by omega), if_pos e, wsucc (show i < 9223372036854775807 by omega), w64 (show -9223372036854775808 ≤ 1 + (i : Int) + 1 by omega) (by omega)]
    rw [show 1 + (i : Int) + 1 = 1 + ((i : Int) + 1) by omega]
    exact hr
  · intro s hs
    refine Ev.succ ?_
    have hl := marks_length 1 n
    simp only [laws_heldIntS.l0, if_neg (show ¬ (n : Int) < ((marks 1 n).length : Int) by omega)]
    exact Ev.now _
end Go.Proofs.Ytbojcipcdefipaa.Pure
