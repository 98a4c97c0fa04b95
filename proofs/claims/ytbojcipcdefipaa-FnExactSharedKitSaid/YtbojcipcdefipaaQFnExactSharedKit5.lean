/-
  Plain lemmas for FnExactSharedKit: what the printed functions answer.
-/
import Derived.Test.YtbojcipcdefipaaQFnExactSharedKit1
import Derived.Test.YtbojcipcdefipaaQFnExactSharedKit4
import Derived.Test.YtbojcipcdefipaaWEvs
namespace Go.Proofs.Ytbojcipcdefipaa.Pure
open Go.RowKit Go.Proofs.YtbojcipcdefipaaW.PrintWords Go.Proofs.YtbojcipcdefipaaW.PrintLast Go.Proofs.YtbojcipcdefipaaW.PrintMore Go.Proofs.YtbojcipcdefipaaW.Evs Go.Proofs.Ytbojcipcdefipaa.XFnExactSharedKit
set_option linter.unusedVariables false
set_option linter.unusedSimpArgs false
-- the greatest of several boards' parts, kind by kind
def shrG (ps : List Int) (i : Nat) (s : List Int) : List Int := s.set i (mx (rd s (i : Int)) (rd ps (i : Int)))
theorem l1Most_is (a b : Int) : spec_l1Most.f a b = some (mx a b) := by unfold spec_l1Most.f mx; split <;> split <;> first | rfl | (exact congrArg some (by omega))
def shrAll (l : List S71) (i : Nat) (s : List Int) : List Int := upto (shrG (parts (l.getD i z71).f2)) 7 0 s
def shrKit (l : List S71) : List Int := upto (shrAll l) l.length 0 (List.replicate 7 0)
theorem shrAll_length (l : List S71) (i : Nat) (s : List Int) (h : s.length = 7) : (shrAll l i s).length = 7 :=
  upto_inv (g := shrG (parts (l.getD i z71).f2)) (Inv := fun _ s => s.length = 7) (n := 7) (fun i s _ h => by simpa [shrG] using h) 7 0 s (by omega) h
theorem shrKit_length (l : List S71) : (shrKit l).length = 7 := upto_inv (g := shrAll l) (Inv := fun _ s => s.length = 7) (n := l.length) (fun i s _ h => shrAll_length l i s h) l.length 0 (List.replicate 7 0) (by omega) (by simp)
theorem implShr_l1 (l : List S71) (j : Nat) (hj : j < 9223372036854775807) (ps : List Int) (hp : ps.length = 7) (s : List Int) (hs : s.length = 7) (r : List Int × Bool)
    (h : Ev (fun k => impl_SharedKit.l0 k (upto (shrG ps) 7 0 s) l (l.length : Int) ((j + 1 : Nat) : Int)) r) : Ev (fun k => impl_SharedKit.l1 k s l (l.length : Int) (j : Int) ps (ps.length : Int) 0) r := by
  rw [hp]
  refine ev_for_to (fun k (s : List Int) i => impl_SharedKit.l1 k s l (l.length : Int) (j : Int) ps ((7 : Nat) : Int) i) 7 (shrG ps) (fun _ s => s.length = 7) ?_ 7 0 s (by omega) hs r ?_
  · intro i s hi hs
    refine ⟨by simpa [shrG] using hs, fun r hr => ?_⟩
    refine Ev.succ ?_
    simp only [impl_SharedKit.l1, if_pos (show (i : Int) < ((7 : Nat) : Int) by omega), if_pos (show (0 : Int) ≤ (i : Int) by omega), if_pos (show (i : Int) < (ps.length : Int) by omega), if_pos (show (i : Int) < (s.length : Int) by omega), wsucc (show i < 9223372036854775807 by omega), Int.toNat_natCast]
    exact hr
  · refine Ev.succ ?_
    simp only [impl_SharedKit.l1, if_neg (show ¬ ((7 : Nat) : Int) < ((7 : Nat) : Int) by omega), wsucc hj]
    exact h
theorem specShr_l1 (l : List S71) (j : Nat) (hj : j < 9223372036854775807) (ps : List Int) (hp : ps.length = 7) (s : List Int) (hs : s.length = 7) (r : List Int × Bool)
    (h : Ev (fun k => spec_SharedKit.l0 k (upto (shrG ps) 7 0 s) l (l.length : Int) ((j + 1 : Nat) : Int)) r) : Ev (fun k => spec_SharedKit.l1 k s l (l.length : Int) (j : Int) ps (ps.length : Int) 0) r := by
  rw [hp]
  refine ev_for_to (fun k (s : List Int) i => spec_SharedKit.l1 k s l (l.length : Int) (j : Int) ps ((7 : Nat) : Int) i) 7 (shrG ps) (fun _ s => s.length = 7) ?_ 7 0 s (by omega) hs r ?_
  · intro i s hi hs
    refine ⟨by simpa [shrG] using hs, fun r hr => ?_⟩
    refine Ev.succ ?_
    simp only [l1Most_is, Option.bind_some, spec_SharedKit.l1, if_pos (show (i : Int) < ((7 : Nat) : Int) by omega), if_pos (show (0 : Int) ≤ (i : Int) by omega), if_pos (show (i : Int) < (ps.length : Int) by omega), if_pos (show (i : Int) < (s.length : Int) by omega), wsucc (show i < 9223372036854775807 by omega), Int.toNat_natCast]
    exact hr
  · refine Ev.succ ?_
    simp only [spec_SharedKit.l1, if_neg (show ¬ ((7 : Nat) : Int) < ((7 : Nat) : Int) by omega), wsucc hj]
    exact h
def shrAns (l : List S71) : List Int × Bool := if (decide (1 ≤ l.length ∧ l.length ≤ 6) && l.all okB) = true then (shrKit l, true) else ([], false)
theorem implShr_ev (l : List S71) (hl : l.length ≤ 1048576) : Ev (fun k => impl_SharedKit.f k l) (shrAns l) := by
  unfold impl_SharedKit.f shrAns
  refine Ev.bind (areBoards_ev l hl) ?_
  cases hc : (decide (1 ≤ l.length ∧ l.length ≤ 6) && l.all okB) with
  | false => simp only [Bool.false_eq_true, if_false]; exact Ev.now _
  | true =>
    simp only [if_true, if_pos (show 7 ≤ 35184372088832 by omega)]
    rw [Bool.and_eq_true] at hc
    refine ev_for (fun k (s : List Int) i => impl_SharedKit.l0 k s l (l.length : Int) i) l.length (shrAll l) (fun _ s => s.length = 7) (fun s => (s, true)) ?_ ?_ l.length 0 _ (by omega) (by simp)
    · intro i s hi hs
      refine ⟨shrAll_length l i s hs, fun r hr => ?_⟩
      refine Ev.succ ?_
      simp only [impl_SharedKit.l0, if_pos (show (i : Int) < (l.length : Int) by omega), if_pos (show (0 : Int) ≤ (i : Int) by omega), rdB_at hi]
      refine Ev.bind (neededParts_ev l[i] (List.all_eq_true.1 hc.2 _ (List.getElem_mem _))) ?_
      refine implShr_l1 l i (by omega) _ (parts_length _) s hs r ?_
      have e : l.getD i z71 = l[i] := by simp [hi]
      simp only [shrAll, e] at hr
      exact hr
    · intro s hs
      refine Ev.succ ?_
      simp only [impl_SharedKit.l0, if_neg (show ¬ (l.length : Int) < (l.length : Int) by omega)]
      exact Ev.now _
theorem specShr_ev (l : List S71) (hl : l.length ≤ 1048576) (hb : ∀ b ∈ l, b.f2.length ≤ 1048576) : Ev (fun k => spec_SharedKit.f k l) (shrAns l) := by
  unfold spec_SharedKit.f shrAns
  refine Ev.bind (kiBoards_ev l hl hb) ?_
  cases hc : (decide (1 ≤ l.length ∧ l.length ≤ 6) && l.all okB) with
  | false => simp only [Bool.false_eq_true, if_false]; exact Ev.now _
  | true =>
    simp only [if_true, if_pos (show 7 ≤ 35184372088832 by omega)]
    rw [Bool.and_eq_true] at hc
    refine ev_for (fun k (s : List Int) i => spec_SharedKit.l0 k s l (l.length : Int) i) l.length (shrAll l) (fun _ s => s.length = 7) (fun s => (s, true)) ?_ ?_ l.length 0 _ (by omega) (by simp)
    · intro i s hi hs
      refine ⟨shrAll_length l i s hs, fun r hr => ?_⟩
      refine Ev.succ ?_
      simp only [spec_SharedKit.l0, if_pos (show (i : Int) < (l.length : Int) by omega), if_pos (show (0 : Int) ≤ (i : Int) by omega), rdB_at hi]
      refine Ev.bind (kiOf_ev l[i] (List.all_eq_true.1 hc.2 _ (List.getElem_mem _))) ?_
      refine specShr_l1 l i (by omega) _ (parts_length _) s hs r ?_
      have e : l.getD i z71 = l[i] := by simp [hi]
      simp only [shrAll, e] at hr
      exact hr
    · intro s hs
      refine Ev.succ ?_
      simp only [spec_SharedKit.l0, if_neg (show ¬ (l.length : Int) < (l.length : Int) by omega)]
      exact Ev.now _
theorem shrAns_length (l : List S71) : (shrAns l).1.length ≤ 7 := by
  unfold shrAns
  split
  · exact Nat.le_of_eq (shrKit_length l)
  · simp
theorem law_ev (l : List S67) (hl : l.length ≤ 9223372036854775807) (hb : ∀ b ∈ l, b.f2.length ≤ 9223372036854775807) : Ev (fun k => laws_FnExactSharedKit.f k l) true := by
  unfold laws_FnExactSharedKit.f
  obtain ⟨v, hv, hp⟩ := szBoardS_ev l hl hb
  refine Ev.bind hv ?_
  by_cases h0 : v < 0
  · simp only [if_pos h0]; exact Ev.now _
  · simp only [if_neg h0]
    obtain ⟨_, hl2, hb2⟩ := hp.resolve_left h0
    have hto := toBoardS_ev l hl2 hb2
    have hl3 : (l.map toB).length ≤ 1048576 := by simpa using hl2
    have hb3 : ∀ b ∈ l.map toB, b.f2.length ≤ 1048576 := by
      intro b h
      obtain ⟨b', h', rfl⟩ := List.mem_map.1 h
      simpa [toB] using hb2 b' h'
    have hsp := specShr_ev (l.map toB) hl3 hb3
    have him := implShr_ev (l.map toB) hl3
    have hq := shrAns_length (l.map toB)
    obtain ⟨⟨q1, q2⟩, hqq⟩ : ∃ q, q = shrAns (l.map toB) := ⟨_, rfl⟩
    rw [← hqq] at hsp him hq
    have heq : Ev (fun k => laws_eqIntS.f k q1 q1) true := ev_eq (eqIntS_ev q1 q1 (by simp only at hq; omega)) (by simp)
    refine Ev.bind hto (Ev.bind hsp (Ev.bind hto (Ev.bind him (Ev.bind heq ?_))))
    simp only [if_true, bne_self_eq_false]
    refine Ev.succ ?_
    simp only [laws_FnExactSharedKit.j0, Bool.false_eq_true, if_false]
    refine Ev.bind hto (Ev.bind (eqBoardS_refl _ hl3 hb3) ?_)
    simp only [if_true]
    obtain ⟨m, hm, hm0⟩ := markBoardS_ev (l.map toB) hl3 hb3
    refine Ev.bind hm ?_
    simp only [if_neg (show ¬ m < 0 by omega)]
    refine Ev.bind heq ?_
    simp only [if_true, bne_self_eq_false]
    refine Ev.succ ?_
    simp only [laws_FnExactSharedKit.j1, Bool.false_eq_true, if_false]
    refine Ev.bind (markIntS_ev q1 (by simp only at hq; omega)) (Ev.bind (heldIntS_ev q1.length (by simp only at hq; omega)) ?_)
    simp only [if_neg (show ¬ 1 + (q1.length : Int) < 0 by omega), if_true]
    refine Ev.bind hto (Ev.bind him (Ev.bind heq ?_))
    simp only [if_true, bne_self_eq_false]
    refine Ev.succ ?_
    simp only [laws_FnExactSharedKit.j2, Bool.false_eq_true, if_false]
    refine Ev.bind (heldIntS_ev q1.length (by simp only at hq; omega)) ?_
    simp only [if_neg (show ¬ 1 + (q1.length : Int) < 0 by omega), if_true]
    exact Ev.now _
end Go.Proofs.Ytbojcipcdefipaa.Pure
