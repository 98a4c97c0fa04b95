/-
  Plain lemmas for FnExactSharedKit: what the printed functions answer.
-/
import Derived.Test.YtbojcipcdefipaaQFnExactSharedKit2
import Derived.Test.YtbojcipcdefipaaWEvs
namespace Go.Proofs.Ytbojcipcdefipaa.Pure
open Go.RowKit Go.Proofs.YtbojcipcdefipaaW.PrintWords Go.Proofs.YtbojcipcdefipaaW.PrintLast Go.Proofs.YtbojcipcdefipaaW.PrintMore Go.Proofs.YtbojcipcdefipaaW.Evs Go.Proofs.Ytbojcipcdefipaa.XFnExactSharedKit
set_option linter.unusedVariables false
set_option linter.unusedSimpArgs false
-- a law's list of boards: its size, its copies, the program's own
theorem szBoard_is (b : S67) (a : Int) (ha : 0 ≤ a) (ha2 : a ≤ 1048576) (hb : b.f2.length ≤ 9223372036854775807) :
    laws_szBoard.f b.f0 b.f1 b.f2 a = some (if a - (b.f2.length : Int) < 0 then -1 else a - (b.f2.length : Int)) := by
  unfold laws_szBoard.f laws_szCellS.f
  rw [w64 (by omega) (by omega)]
  by_cases h : a - (b.f2.length : Int) < 0
  · simp [if_pos h]
  · simp only [if_neg h, Option.bind_some]
theorem szBoardS_l0 (l : List S67) (hb : ∀ b ∈ l, b.f2.length ≤ 9223372036854775807) (hl : l.length ≤ 1048576) : ∀ m i a, i + m = l.length → 0 ≤ a → a ≤ 1048576 →
    ∃ v, Ev (fun k => laws_szBoardS.l0 k l a (i : Int)) v ∧ (v < 0 ∨ 0 ≤ v ∧ ∀ j (h : j < l.length), i ≤ j → l[j].f2.length ≤ 1048576)
  | 0, i, a, e, h0, h1 => by
    refine ⟨a, ?_, .inr ⟨h0, fun j hj hij => by omega⟩⟩
    refine Ev.succ ?_
    simp only [laws_szBoardS.l0, if_neg (show ¬ (i : Int) < (l.length : Int) by omega)]
    exact Ev.now _
  | m + 1, i, a, e, h0, h1 => by
    have hi : i < l.length := by omega
    have hz := szBoard_is l[i] a h0 h1 (hb _ (List.getElem_mem _))
    by_cases h : a - (l[i].f2.length : Int) < 0
    · refine ⟨-1, ?_, .inl (by omega)⟩
      rw [if_pos h] at hz
      refine Ev.succ ?_
      simp only [laws_szBoardS.l0, if_pos (show (i : Int) < (l.length : Int) by omega), if_pos (show (0 : Int) ≤ (i : Int) by omega), rdLB_at hi, hz, Option.bind_some, if_pos (show (-1 : Int) < 0 by omega)]
      exact Ev.now _
    · rw [if_neg h] at hz
      obtain ⟨v, hv, hp⟩ := szBoardS_l0 l hb hl m (i + 1) (a - (l[i].f2.length : Int)) (by omega) (by omega) (by omega)
      refine ⟨v, ?_, hp.imp id (fun h2 => ⟨h2.1, fun j hj hij => ?_⟩)⟩
      · refine Ev.succ ?_
        simp only [laws_szBoardS.l0, if_pos (show (i : Int) < (l.length : Int) by omega), if_pos (show (0 : Int) ≤ (i : Int) by omega), rdLB_at hi, hz, Option.bind_some, if_neg h, wsucc (show i < 9223372036854775807 by omega)]
        exact hv
      · by_cases hji : j = i
        · subst hji; omega
        · exact h2.2 j hj (by omega)
theorem szBoardS_ev (l : List S67) (hl : l.length ≤ 9223372036854775807) (hb : ∀ b ∈ l, b.f2.length ≤ 9223372036854775807) :
    ∃ v, Ev (fun k => laws_szBoardS.f k l 1048576) v ∧ (v < 0 ∨ 0 ≤ v ∧ l.length ≤ 1048576 ∧ ∀ b ∈ l, b.f2.length ≤ 1048576) := by
  unfold laws_szBoardS.f
  rw [w64 (show -9223372036854775808 ≤ 1048576 - (l.length : Int) by omega) (by omega)]
  by_cases h : 1048576 - (l.length : Int) < 0
  · exact ⟨-1, by simp only [if_pos h]; exact Ev.now _, .inl (by omega)⟩
  · obtain ⟨v, hv, hp⟩ := szBoardS_l0 l hb (by omega) l.length 0 (1048576 - (l.length : Int)) (by omega) (by omega) (by omega)
    refine ⟨v, by simp only [if_neg h]; exact hv, hp.imp id (fun h2 => ⟨h2.1, by omega, fun b hb2 => ?_⟩)⟩
    obtain ⟨j, hj, rfl⟩ := List.mem_iff_getElem.1 hb2
    exact h2.2 j hj (by omega)
theorem toBoardS_ev (l : List S67) (hl : l.length ≤ 1048576) (hb : ∀ b ∈ l, b.f2.length ≤ 1048576) : Ev (fun k => laws_toBoardS.f k l) (l.map toB) := by
  unfold laws_toBoardS.f
  simp only [if_pos (show (0 : Int) ≤ (l.length : Int) by omega), if_pos (show ((l.length : Int) : Int).toNat ≤ 7036874417766 by omega)]
  have hstep : ∀ (i : Nat) (s : List S71), i < l.length → (s.length = l.length ∧ s.take i = (l.map toB).take i) → ((s.set i (toB (l.getD i z67))).length = l.length ∧ (s.set i (toB (l.getD i z67))).take (i + 1) = (l.map toB).take (i + 1)) := by
    rintro i s hi ⟨hl', ht⟩
    refine ⟨by simpa using hl', ?_⟩
    rw [List.take_succ_eq_append_getElem (by simpa [hl'] using hi), List.getElem_set_self, List.take_set_of_le (Nat.le_refl _), ht, List.take_succ_eq_append_getElem (by simpa using hi)]
    simp [hi]
  have key := ev_for (fun k (s : List S71) i => laws_toBoardS.l0 k l s i) l.length (fun i s => s.set i (toB (l.getD i z67))) (fun i s => s.length = l.length ∧ s.take i = (l.map toB).take i) (fun s => s) ?_ ?_ l.length 0
    (List.replicate ((l.length : Int) : Int).toNat z71) (by omega) ⟨by simp, by simp⟩
  · refine ev_eq key ?_
    obtain ⟨h1, h2⟩ := upto_inv (Inv := fun i s => s.length = l.length ∧ s.take i = (l.map toB).take i) (n := l.length) hstep l.length 0 (List.replicate ((l.length : Int) : Int).toNat z71) (by omega) ⟨by simp, by simp⟩
    rw [List.take_of_length_le (by omega), List.take_of_length_le (by simp)] at h2
    exact h2
  · intro i s hi hs
    refine ⟨hstep i s hi hs, fun r hr => ?_⟩
    refine Ev.succ ?_
    have hs1 := hs.1
    simp only [laws_toBoardS.l0, if_pos (show (i : Int) < (l.length : Int) by omega), if_pos (show (0 : Int) ≤ (i : Int) by omega), if_pos (show (i : Int) < (s.length : Int) by omega), wsucc (show i < 9223372036854775807 by omega), Int.toNat_natCast, rdLB_at hi]
    refine Ev.bind (toBoard_ev l[i] (hb _ (List.getElem_mem _))) ?_
    have e : l.getD i z67 = l[i] := by simp [hi]
    rw [e] at hr
    exact hr
  · rintro s ⟨hl', ht⟩
    refine Ev.succ ?_
    simp only [laws_toBoardS.l0, if_neg (show ¬ (l.length : Int) < (l.length : Int) by omega)]
    exact Ev.now _
theorem eqBoardS_refl (l : List S71) (hl : l.length ≤ 1048576) (hb : ∀ b ∈ l, b.f2.length ≤ 1048576) : Ev (fun k => laws_eqBoardS.f k l l) true := by
  unfold laws_eqBoardS.f
  simp only [if_true]
  have key := ev_all (fun k i => laws_eqBoardS.l0 k l l i) l.length (fun _ => true) false true ?_ ?_ ?_ l.length 0 (by omega)
  · refine ev_eq key ?_
    rw [if_pos (allFrom_iff.2 (fun _ _ _ => rfl))]
  · intro i hi hp r hr
    refine Ev.succ ?_
    simp only [laws_eqBoardS.l0, if_pos (show (i : Int) < (l.length : Int) by omega), if_pos (show (0 : Int) ≤ (i : Int) by omega), rdB_at hi, wsucc (show i < 9223372036854775807 by omega)]
    refine Ev.bind (eqBoard_refl l[i] (by have := hb _ (List.getElem_mem hi); omega)) ?_
    simp only [if_true]
    exact hr
  · intro i hi hp; cases hp
  · refine Ev.succ ?_
    simp only [laws_eqBoardS.l0, if_neg (show ¬ (l.length : Int) < (l.length : Int) by omega)]
    exact Ev.now _
theorem markCellS_ev (xs : List S99) (a : Int) (ha : 0 ≤ a) (ha2 : a ≤ 1152921504606846976) (hx : xs.length ≤ 1048576) :
    ∃ ys, Ev (fun k => laws_markCellS.f k xs a) (a + 2 * (xs.length : Int), ys) ∧ ys.length = xs.length := by
  unfold laws_markCellS.f
  suffices H : ∀ m i (s : List S99), i + m = xs.length → s.length = xs.length → ∃ ys, Ev (fun k => laws_markCellS.l0 k s (a + 2 * (i : Int)) (i : Int)) (a + 2 * (xs.length : Int), ys) ∧ ys.length = xs.length by
    obtain ⟨ys, h, hl⟩ := H xs.length 0 xs (by omega) rfl
    exact ⟨ys, by simpa using h, hl⟩
  intro m
  induction m with
  | zero =>
    intro i s e hs
    have : i = xs.length := by omega
    subst this
    refine ⟨s, Ev.succ ?_, hs⟩
    simp only [laws_markCellS.l0, if_neg (show ¬ (xs.length : Int) < (s.length : Int) by omega)]
    exact Ev.now _
  | succ m ih =>
    intro i s e hs
    obtain ⟨ys, h, hl⟩ := ih (i + 1) ((s.set i (⟨a + 2 * (i : Int), (rd_T99 s (i : Int)).f1⟩ : S99)).set i (⟨(rd_T99 (s.set i (⟨a + 2 * (i : Int), (rd_T99 s (i : Int)).f1⟩ : S99)) (i : Int)).f0, a + 2 * (i : Int) + 1⟩ : S99)) (by omega) (by simpa using hs)
    refine ⟨ys, Ev.succ ?_, hl⟩
    simp only [laws_markCellS.l0, if_pos (show (i : Int) < (s.length : Int) by omega), if_pos (show (0 : Int) ≤ (i : Int) by omega), Option.bind_some, Int.toNat_natCast, wsucc (show i < 9223372036854775807 by omega), w64 (show -9223372036854775808 ≤ a + 2 * (i : Int) + 1 by omega) (by omega), w64 (show -9223372036854775808 ≤ a + 2 * (i : Int) + 1 + 1 by omega) (by omega)]
    first | exact h | (rw [show a + 2 * (i : Int) + 1 + 1 = a + 2 * ((i + 1 : Nat) : Int) by omega]; exact h)
theorem markBoardS_ev (l : List S71) (hl : l.length ≤ 1048576) (hb : ∀ b ∈ l, b.f2.length ≤ 1048576) : ∃ v, Ev (fun k => laws_markBoardS.f k l 1) v ∧ 0 ≤ v := by
  unfold laws_markBoardS.f
  suffices H : ∀ m i (s : List S71) (a : Int), i + m = l.length → s.length = l.length → (∀ j (h : j < s.length), s[j].f2.length ≤ 1048576) → 1 ≤ a → a ≤ 1 + 2097154 * (i : Int) → ∃ v, Ev (fun k => laws_markBoardS.l0 k s a (i : Int)) v ∧ 0 ≤ v by
    exact H l.length 0 l 1 (by omega) rfl (fun j h => hb _ (List.getElem_mem h)) (by omega) (by omega)
  intro m
  induction m with
  | zero =>
    intro i s a e hs hb' h1 h2
    refine ⟨a, Ev.succ ?_, by omega⟩
    simp only [laws_markBoardS.l0, if_neg (show ¬ (i : Int) < (s.length : Int) by omega)]
    exact Ev.now _
  | succ m ih =>
    intro i s a e hs hb' h1 h2
    have hi : i < s.length := by omega
    obtain ⟨y1, hy1⟩ : ∃ y, y = s.set i (⟨a, (rd_T71 s (i : Int)).f1, (rd_T71 s (i : Int)).f2⟩ : S71) := ⟨_, rfl⟩
    obtain ⟨y2, hy2⟩ : ∃ y, y = y1.set i (⟨(rd_T71 y1 (i : Int)).f0, a + 1, (rd_T71 y1 (i : Int)).f2⟩ : S71) := ⟨_, rfl⟩
    have l1 : y1.length = s.length := by rw [hy1]; simp
    have l2 : y2.length = s.length := by rw [hy2]; simp [l1]
    have c1 : (rd_T71 y1 (i : Int)).f2 = s[i].f2 := by rw [rdB_at (by omega)]; simp [hy1, rdB_at hi]
    have c2 : (rd_T71 y2 (i : Int)).f2 = s[i].f2 := by rw [rdB_at (by omega)]; simp [hy2, c1]
    have hbi := hb' i hi
    obtain ⟨ys, hm, hyl⟩ := markCellS_ev s[i].f2 (a + 1 + 1) (by omega) (by omega) hbi
    have hnew : ∀ j (h : j < (y2.set i (⟨(rd_T71 y2 (i : Int)).f0, (rd_T71 y2 (i : Int)).f1, ys⟩ : S71)).length), ((y2.set i (⟨(rd_T71 y2 (i : Int)).f0, (rd_T71 y2 (i : Int)).f1, ys⟩ : S71))[j]).f2.length ≤ 1048576 := by
      intro j hj
      have hj' : j < y2.length := by simpa using hj
      by_cases hji : j = i
      · subst hji; simp [hyl, hbi]
      · have e3 : (y2.set i (⟨(rd_T71 y2 (i : Int)).f0, (rd_T71 y2 (i : Int)).f1, ys⟩ : S71))[j] = s[j]'(by omega) := by
          simp [hy2, hy1, List.getElem_set, Ne.symm hji]
        rw [e3]; exact hb' j (by omega)
    obtain ⟨v, hv, hp⟩ := ih (i + 1) (y2.set i (⟨(rd_T71 y2 (i : Int)).f0, (rd_T71 y2 (i : Int)).f1, ys⟩ : S71)) (a + 1 + 1 + 2 * (s[i].f2.length : Int)) (by omega) (by simp [l2, hs]) hnew (by omega) (by omega)
    refine ⟨v, Ev.succ ?_, hp⟩
    simp only [laws_markBoardS.l0, if_pos (show (i : Int) < (s.length : Int) by omega), if_pos (show (0 : Int) ≤ (i : Int) by omega), Option.bind_some, Int.toNat_natCast, wsucc (show i < 9223372036854775807 by omega), w64 (show -9223372036854775808 ≤ a + 1 by omega) (by omega), w64 (show -9223372036854775808 ≤ a + 1 + 1 by omega) (by omega), ← hy1, ← hy2, c2]
    exact Ev.bind hm hv
theorem areBoards_ev (l : List S71) (hl : l.length ≤ 1048576) : Ev (fun k => impl_areBoards.f k l) (decide (1 ≤ l.length ∧ l.length ≤ 6) && l.all okB) := by
  unfold impl_areBoards.f
  have hz : ∀ b : Bool, Ev (fun k => impl_areBoards.j0 k l b) (!b && l.all okB) := by
    intro b
    refine Ev.succ ?_
    simp only [impl_areBoards.j0]
    cases b with
    | true => simp only [if_true]; exact ev_some (by simp)
    | false =>
      simp only [Bool.false_eq_true, if_false]
      have key := ev_all (fun k i => impl_areBoards.l0 k l (l.length : Int) i) l.length (fun i => okB (l.getD i z71)) false true ?_ ?_ ?_ l.length 0 (by omega)
      · refine ev_eq key ?_
        rw [all_from okB l _ (fun i h => by simp [h])]
        cases l.all okB <;> rfl
      · intro i hi hp r hr
        refine Ev.succ ?_
        have e : okB l[i] = true := by simpa [hi] using hp
        simp only [impl_areBoards.l0, if_pos (show (i : Int) < (l.length : Int) by omega), if_pos (show (0 : Int) ≤ (i : Int) by omega), rdB_at hi, wsucc (show i < 9223372036854775807 by omega)]
        refine Ev.bind (isBoard_ev l[i]) ?_
        rw [e]; simp only [if_true]; exact hr
      · intro i hi hp
        refine Ev.succ ?_
        have e : okB l[i] = false := by simpa [hi] using hp
        simp only [impl_areBoards.l0, if_pos (show (i : Int) < (l.length : Int) by omega), if_pos (show (0 : Int) ≤ (i : Int) by omega), rdB_at hi, wsucc (show i < 9223372036854775807 by omega)]
        refine Ev.bind (isBoard_ev l[i]) ?_
        rw [e]; simp only [Bool.false_eq_true, if_false]; exact Ev.now _
      · refine Ev.succ ?_
        simp only [impl_areBoards.l0, if_neg (show ¬ (l.length : Int) < (l.length : Int) by omega)]
        exact Ev.now _
  by_cases h1 : (l.length : Int) < 1
  · simp only [if_pos h1]
    exact ev_eq (hz true) (by rw [decide_eq_false (by omega)]; simp)
  · simp only [if_neg h1]
    refine ev_eq (hz _) ?_
    by_cases h2 : (l.length : Int) > 6
    · rw [decide_eq_true h2, decide_eq_false (by omega)]; simp
    · rw [decide_eq_false h2, decide_eq_true (by omega)]; simp
theorem kiBoards_ev (l : List S71) (hl : l.length ≤ 1048576) (hb : ∀ b ∈ l, b.f2.length ≤ 1048576) : Ev (fun k => spec_kiBoards.f k l) (decide (1 ≤ l.length ∧ l.length ≤ 6) && l.all okB) := by
  unfold spec_kiBoards.f
  have key := ev_all (fun k i => spec_kiBoards.l0 k l l (l.length : Int) i) l.length (fun i => okB (l.getD i z71)) false (decide (1 ≤ (l.length : Int) ∧ (l.length : Int) ≤ 6)) ?_ ?_ ?_ l.length 0 (by omega)
  · refine ev_eq key ?_
    rw [all_from okB l _ (fun i h => by simp [h])]
    have e : decide (1 ≤ (l.length : Int) ∧ (l.length : Int) ≤ 6) = decide (1 ≤ l.length ∧ l.length ≤ 6) := by rw [Bool.eq_iff_iff, decide_eq_true_eq, decide_eq_true_eq]; omega
    rw [e]
    cases l.all okB <;> simp
  · intro i hi hp r hr
    refine Ev.succ ?_
    have e : okB l[i] = true := by simpa [hi] using hp
    simp only [spec_kiBoards.l0, if_pos (show (i : Int) < (l.length : Int) by omega), if_pos (show (0 : Int) ≤ (i : Int) by omega), rdB_at hi, wsucc (show i < 9223372036854775807 by omega)]
    refine Ev.bind (boGood_ev l[i] (by have := hb _ (List.getElem_mem hi); omega)) ?_
    rw [e]; simp only [if_true]; exact hr
  · intro i hi hp
    refine Ev.succ ?_
    have e : okB l[i] = false := by simpa [hi] using hp
    simp only [spec_kiBoards.l0, if_pos (show (i : Int) < (l.length : Int) by omega), if_pos (show (0 : Int) ≤ (i : Int) by omega), rdB_at hi, wsucc (show i < 9223372036854775807 by omega)]
    refine Ev.bind (boGood_ev l[i] (by have := hb _ (List.getElem_mem hi); omega)) ?_
    rw [e]; simp only [Bool.false_eq_true, if_false]; exact Ev.now _
  · refine Ev.succ ?_
    simp only [spec_kiBoards.l0, if_neg (show ¬ (l.length : Int) < (l.length : Int) by omega), l1In_is, Option.bind_some]
    exact Ev.now _
end Go.Proofs.Ytbojcipcdefipaa.Pure
