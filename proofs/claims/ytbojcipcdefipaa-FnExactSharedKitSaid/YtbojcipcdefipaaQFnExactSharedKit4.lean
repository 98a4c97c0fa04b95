/-
  Plain lemmas for FnExactSharedKit: what the printed functions answer.
-/
import Derived.Test.YtbojcipcdefipaaQFnExactSharedKit3
import Derived.Test.YtbojcipcdefipaaWEvs
namespace Go.Proofs.Ytbojcipcdefipaa.Pure
open Go.RowKit Go.Proofs.YtbojcipcdefipaaW.PrintWords Go.Proofs.YtbojcipcdefipaaW.PrintLast Go.Proofs.YtbojcipcdefipaaW.PrintMore Go.Proofs.YtbojcipcdefipaaW.Evs Go.Proofs.Ytbojcipcdefipaa.XFnExactSharedKit
set_option linter.unusedVariables false
set_option linter.unusedSimpArgs false
-- the parts of a board
def cntG (xs : List S99) (i : Nat) (s : List Int) : List Int := s.set (xs.getD i z99).f0.toNat (wrap64 (rd s (xs.getD i z99).f0 + 1))
def cnt (xs : List S99) : List Int := upto (cntG xs) xs.length 0 (List.replicate 8 0)
theorem cnt_length (xs : List S99) : (cnt xs).length = 8 := upto_inv (g := cntG xs) (Inv := fun _ s => s.length = 8) (n := xs.length) (fun i s _ h => by simpa [cntG] using h) xs.length 0 (List.replicate 8 0) (by omega) (by simp)
def parts (xs : List S99) : List Int := (cnt xs).drop 1
theorem parts_length (xs : List S99) : (parts xs).length = 7 := by simp [parts, cnt_length]
theorem boParts_ev (a b : Int) (xs : List S99) (hx : xs.length ≤ 1048576) (hok : xs.all okC = true) : Ev (fun k => spec_boParts.f k a b xs) (cnt xs) := by
  unfold spec_boParts.f
  simp only [if_pos (show 8 ≤ 35184372088832 by omega)]
  refine ev_for (fun k (s : List Int) i => spec_boParts.l0 k s xs (xs.length : Int) i) xs.length (cntG xs) (fun _ s => s.length = 8) (fun s => s) ?_ ?_ xs.length 0 _ (by omega) (by simp)
  · intro i s hi hs
    refine ⟨by simpa [cntG] using hs, fun r hr => ?_⟩
    have ok := List.all_eq_true.1 hok xs[i] (List.getElem_mem _)
    simp only [okC, decide_eq_true_eq] at ok
    refine Ev.succ ?_
    simp only [spec_boParts.l0, if_pos (show (i : Int) < (xs.length : Int) by omega), if_pos (show (0 : Int) ≤ (i : Int) by omega), rdC_at hi, if_pos ok.1, if_pos (show xs[i].f0 < (s.length : Int) by omega), wsucc (show i < 9223372036854775807 by omega)]
    have e : xs.getD i z99 = xs[i] := by simp [hi]
    simp only [cntG, e] at hr
    exact hr
  · intro s hs
    refine Ev.succ ?_
    simp only [spec_boParts.l0, if_neg (show ¬ (xs.length : Int) < (xs.length : Int) by omega)]
    exact Ev.now _
theorem countKinds_ev (xs : List S99) (hx : xs.length ≤ 90) (hok : xs.all okC = true) : Ev (fun k => impl_CountKinds.f k xs) (cnt xs, true) := by
  unfold impl_CountKinds.f
  refine Ev.bind (validCells_ev xs hx) ?_
  rw [hok]
  simp only [if_true, if_pos (show 8 ≤ 35184372088832 by omega)]
  refine ev_for (fun k (s : List Int) i => impl_CountKinds.l0 k s xs (xs.length : Int) i) xs.length (cntG xs) (fun _ s => s.length = 8) (fun s => (s, true)) ?_ ?_ xs.length 0 _ (by omega) (by simp)
  · intro i s hi hs
    refine ⟨by simpa [cntG] using hs, fun r hr => ?_⟩
    have ok := List.all_eq_true.1 hok xs[i] (List.getElem_mem _)
    simp only [okC, decide_eq_true_eq] at ok
    refine Ev.succ ?_
    simp only [impl_CountKinds.l0, if_pos (show (i : Int) < (xs.length : Int) by omega), if_pos (show (0 : Int) ≤ (i : Int) by omega), rdC_at hi, if_pos ok.1, if_pos (show xs[i].f0 < (s.length : Int) by omega), wsucc (show i < 9223372036854775807 by omega)]
    have e : xs.getD i z99 = xs[i] := by simp [hi]
    simp only [cntG, e] at hr
    exact hr
  · intro s hs
    refine Ev.succ ?_
    simp only [impl_CountKinds.l0, if_neg (show ¬ (xs.length : Int) < (xs.length : Int) by omega)]
    exact Ev.now _
theorem okB_cells {b : S71} (h : okB b = true) : b.f2.length ≤ 90 ∧ b.f2.all okC = true := by
  simp only [okB, Bool.and_eq_true, decide_eq_true_eq] at h
  obtain ⟨⟨h1, h2, h3, h4, h5⟩, h6⟩ := h
  have := prod_le h1 h2 h3 h4
  exact ⟨by omega, h6⟩
theorem kiOf_ev (b : S71) (h : okB b = true) : Ev (fun k => spec_kiOf.f k b.f0 b.f1 b.f2) (parts b.f2) := by
  obtain ⟨h1, h2⟩ := okB_cells h
  unfold spec_kiOf.f
  refine Ev.bind (boParts_ev b.f0 b.f1 b.f2 (by omega) h2) ?_
  have := cnt_length b.f2
  simp only [if_pos (show (1 : Int) ≤ ((cnt b.f2).length : Int) by omega)]
  exact Ev.now _
theorem neededParts_ev (b : S71) (h : okB b = true) : Ev (fun k => impl_neededParts.f k b.f0 b.f1 b.f2) (parts b.f2) := by
  obtain ⟨h1, h2⟩ := okB_cells h
  unfold impl_neededParts.f
  refine Ev.bind (countKinds_ev b.f2 h1 h2) ?_
  have := cnt_length b.f2
  simp only [Option.bind_some, if_pos (show (1 : Int) ≤ ((cnt b.f2).length : Int) by omega), List.nil_append, List.length_nil, List.length_drop, if_pos (show 0 + ((cnt b.f2).length - 1) < 17592186044416 by omega)]
  exact Ev.now _
end Go.Proofs.Ytbojcipcdefipaa.Pure
