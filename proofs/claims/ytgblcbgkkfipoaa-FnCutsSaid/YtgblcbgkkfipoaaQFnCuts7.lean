/-
  Plain lemmas for FnCuts: what the printed functions answer.
-/
import Derived.Test.YtgblcbgkkfipoaaQFnCuts6
import Derived.Test.YtgblcbgkkfipoaaXFnCutsx14
import Derived.Test.YtgblcbgkkfipoaaWEvs
namespace Go.Proofs.Ytgblcbgkkfipoaa.Pure
open Go.RowKit Go.Proofs.YtgblcbgkkfipoaaW.PrintWords Go.Proofs.YtgblcbgkkfipoaaW.PrintLast Go.Proofs.YtgblcbgkkfipoaaW.PrintMore Go.Proofs.YtgblcbgkkfipoaaW.Evs Go.Proofs.Ytgblcbgkkfipoaa.XFnCuts
set_option linter.unusedVariables false
set_option linter.unusedSimpArgs false
-- cuts: the functions and the law
theorem l1Least_is (a b : Int) : ∃ m, spec_l1Least.f a b = some m ∧ (m = a ∧ a ≤ b ∨ m = b ∧ b ≤ a) := by
  unfold spec_l1Least.f
  split
  · exact ⟨_, rfl, .inl ⟨rfl, by omega⟩⟩
  · exact ⟨_, rfl, .inr ⟨rfl, by omega⟩⟩
theorem l1Own_is (x : List Int) (hx : x.length ≤ 1000000) : spec_l1Own.f x = some x := by
  unfold spec_l1Own.f
  rw [Option.bind_some, if_pos (by simp; omega), List.nil_append]
theorem jrCount_is (n : Int) : spec_jrCount.f n = some (decide (0 ≤ n ∧ n ≤ 200)) := by
  unfold spec_jrCount.f; rw [l1In_is]; rfl
def cutAns (x : List Int) (n : Int) : List Int × Bool := if Nums x ∧ 0 ≤ n ∧ n ≤ 200 then (x.take n.toNat, true) else ([], false)
theorem cutAns_yes {x : List Int} {n : Int} (h : Nums x ∧ 0 ≤ n ∧ n ≤ 200) : cutAns x n = (x.take n.toNat, true) := if_pos h
theorem cutAns_no {x : List Int} {n : Int} (h : ¬ (Nums x ∧ 0 ≤ n ∧ n ≤ 200)) : cutAns x n = ([], false) := if_neg h
theorem implCut_ev (x : List Int) (n : Int) (hx : x.length ≤ 1000000) : Ev (fun k => impl_CutNumbers.f k x n) (cutAns x n) := by
  unfold impl_CutNumbers.f
  refine Ev.bind (areNumbers_ev x (by omega)) ?_
  by_cases hg : Nums x
  · refine Ev.pos (decide_eq_true hg) ?_
    by_cases h0 : n < 0
    · rw [cutAns_no (by omega)]; exact Ev.pos h0 (Ev.now _)
    · refine Ev.neg h0 ?_
      by_cases h2 : n > 200
      · rw [cutAns_no (by omega)]; exact Ev.pos h2 (Ev.now _)
      · rw [cutAns_yes ⟨hg, by omega, by omega⟩]
        refine Ev.neg h2 ?_
        simp only [Option.bind_some, List.nil_append, List.length_nil]
        have hm := mn_is n (x.length : Int)
        rw [take_min (by omega) hm]
        exact Ev.pos (by omega) (Ev.pos (by omega) (Ev.pos (by simp only [List.length_take]; omega) (Ev.now _)))
  · rw [cutAns_no (fun h => hg h.1)]
    exact Ev.neg (by rw [decide_eq_true_eq]; exact hg) (Ev.now _)
theorem specCut_ev (x : List Int) (n : Int) (hx : x.length ≤ 1000000) : Ev (fun k => spec_CutNumbers.f k x n) (cutAns x n) := by
  unfold spec_CutNumbers.f
  refine Ev.bind (jrList_ev x (by omega)) ?_
  by_cases hg : Nums x
  · refine Ev.pos (decide_eq_true hg) (Ev.bindS (jrCount_is n) (Ev.succ ?_))
    simp only [spec_CutNumbers.j0]
    by_cases h : 0 ≤ n ∧ n ≤ 200
    · rw [cutAns_yes ⟨hg, h.1, h.2⟩]
      obtain ⟨m, hm, hm2⟩ := l1Least_is n (x.length : Int)
      refine Ev.neg (by simp [h]) (Ev.bindS hm ?_)
      rw [take_min h.1 hm2]
      exact Ev.pos (by omega) (Ev.pos (by omega) (Ev.bindS (l1Own_is _ (by simp only [List.length_take]; omega)) (Ev.now _)))
    · rw [cutAns_no (fun h2 => h h2.2)]
      exact Ev.pos (by simp [h]) (Ev.now _)
  · rw [cutAns_no (fun h => hg h.1)]
    refine Ev.neg (by rw [decide_eq_true_eq]; exact hg) (Ev.succ ?_)
    simp only [spec_CutNumbers.j0]
    exact Ev.pos trivial (Ev.now _)
def chgAns (u : List Int) (i v : Int) : List Int × Bool := if Nums u ∧ (0 ≤ i ∧ i < (u.length : Int)) ∧ 0 ≤ v ∧ v ≤ 9999 then (u.set i.toNat v, true) else ([], false)
theorem chgAns_yes {u : List Int} {i v : Int} (h : Nums u ∧ (0 ≤ i ∧ i < (u.length : Int)) ∧ 0 ≤ v ∧ v ≤ 9999) : chgAns u i v = (u.set i.toNat v, true) := if_pos h
theorem chgAns_no {u : List Int} {i v : Int} (h : ¬ (Nums u ∧ (0 ≤ i ∧ i < (u.length : Int)) ∧ 0 ≤ v ∧ v ≤ 9999)) : chgAns u i v = ([], false) := if_neg h
theorem implChg_ev (u : List Int) (i v : Int) (hu : u.length ≤ 1000000) : Ev (fun k => impl_ChangeNumber.f k u i v) (chgAns u i v) := by
  unfold impl_ChangeNumber.f
  refine Ev.bind (areNumbers_ev u (by omega)) ?_
  simp only [Option.bind_some, List.nil_append, List.length_nil]
  by_cases hg : Nums u
  · refine Ev.pos (decide_eq_true hg) ?_
    by_cases h0 : i < 0
    · rw [chgAns_no (by omega)]; exact Ev.pos h0 (Ev.now _)
    · refine Ev.neg h0 ?_
      by_cases h1 : i ≥ (u.length : Int)
      · rw [chgAns_no (by omega)]; exact Ev.pos h1 (Ev.now _)
      · refine Ev.neg h1 ?_
        by_cases h2 : v < 0
        · rw [chgAns_no (by omega)]; exact Ev.pos h2 (Ev.now _)
        · refine Ev.neg h2 ?_
          by_cases h3 : v > 9999
          · rw [chgAns_no (by omega)]; exact Ev.pos h3 (Ev.now _)
          · rw [chgAns_yes ⟨hg, ⟨by omega, by omega⟩, by omega, by omega⟩]
            exact Ev.neg h3 (Ev.pos (by omega) (Ev.pos (by omega) (Ev.pos (by omega) (Ev.now _))))
  · rw [chgAns_no (fun h => hg h.1)]
    exact Ev.neg (by rw [decide_eq_true_eq]; exact hg) (Ev.now _)
theorem specChg_ev (u : List Int) (i v : Int) (hu : u.length ≤ 1000000) : Ev (fun k => spec_ChangeNumber.f k u i v) (chgAns u i v) := by
  unfold spec_ChangeNumber.f
  refine Ev.bind (jrList_ev u (by omega)) ?_
  have ew : wrap64 ((u.length : Int) - 1) = (u.length : Int) - 1 := w64 (by omega) (by omega)
  rw [ew]
  by_cases hg : Nums u
  · refine Ev.pos (decide_eq_true hg) (Ev.bindS (l1In_is _ _ _) ?_)
    by_cases h1 : 0 ≤ i ∧ i ≤ (u.length : Int) - 1
    · refine Ev.pos (decide_eq_true h1) (Ev.bindS (l1In_is _ _ _) ?_)
      by_cases h2 : 0 ≤ v ∧ v ≤ 9999
      · rw [chgAns_yes ⟨hg, ⟨by omega, by omega⟩, h2⟩]
        exact Ev.pos (decide_eq_true h2) (Ev.bindS (l1Own_is u hu) (Ev.pos (by omega) (Ev.pos (by omega) (Ev.now _))))
      · rw [chgAns_no (fun h => h2 h.2.2)]
        exact Ev.neg (by rw [decide_eq_true_eq]; exact h2) (Ev.now _)
    · rw [chgAns_no (fun h => h1 ⟨h.2.1.1, by have := h.2.1.2; omega⟩)]
      exact Ev.neg (by rw [decide_eq_true_eq]; exact h1) (Ev.now _)
  · rw [chgAns_no (fun h => hg h.1)]
    exact Ev.neg (by rw [decide_eq_true_eq]; exact hg) (Ev.now _)
theorem lostAns_yes {l : List R} {n : Int} (h : Good l ∧ 0 ≤ n ∧ n ≤ 200) : lostAns l n = (((lost (vals (rec5 ((jall 0 l).take n.toNat))) (vals l) : Nat) : Int), true) := if_pos h
theorem lostAns_no {l : List R} {n : Int} (h : ¬ (Good l ∧ 0 ≤ n ∧ n ≤ 200)) : lostAns l n = (0, false) := if_neg h
theorem specLost_ev (l : List R) (n : Int) (hl : l.length ≤ 1000000) : Ev (fun k => spec_LostAfterCut.f k l n) (lostAns l n) := by
  unfold spec_LostAfterCut.f
  refine Ev.bind (jrGood_ev l (by omega)) ?_
  by_cases hg : Good l
  · refine Ev.pos (decide_eq_true hg) (Ev.bindS (jrCount_is n) (Ev.succ ?_))
    simp only [spec_LostAfterCut.j0]
    by_cases h : 0 ≤ n ∧ n ≤ 200
    · rw [lostAns_yes ⟨hg, h.1, h.2⟩]
      obtain ⟨m, hm, hm2⟩ := l1Least_is n ((jall 0 l).length : Int)
      refine Ev.neg (by simp [h]) (Ev.bind (jrAll_ev hg) (Ev.bindS hm ?_))
      rw [take_min h.1 hm2]
      have hgr := rec5_good ((jall 0 l).take n.toNat)
      have hlen := jall_length l 0
      have hg1 := hg.1
      refine Ev.pos (by omega) (Ev.pos (by omega) (Ev.bind (jrRecover_ev _ (by rw [List.length_take]; omega)) (Ev.bind (jrValues_ev hgr) (Ev.bind (jrValues_ev hg) ?_))))
      have h8 := (vals_ok hgr).1
      have h8' := (vals_ok hg).1
      rw [h8']
      refine lost_gen (fun k s i => spec_LostAfterCut.l0 k (vals (rec5 ((jall 0 l).take n.toNat))) s (vals l) ((8 : Nat) : Int) i) _ _ h8 h8' ?_ ?_ 8 0 rfl
      · intro i hi hi2 s h9 r hr
        refine Ev.succ ?_
        simp only [spec_LostAfterCut.l0, rd_at hi, rd_at hi2, wsucc (show i < 9223372036854775807 by omega), wsucc (show s < 9223372036854775807 by omega)]
        refine Ev.pos (by omega) (Ev.pos (by omega) (Ev.pos (by omega) (Ev.pos (by omega) ?_)))
        by_cases e : (vals (rec5 ((jall 0 l).take n.toNat)))[i] = (vals l)[i]
        · rw [if_pos e] at hr; exact Ev.pos e hr
        · rw [if_neg e] at hr; exact Ev.neg e hr
      · intro s
        refine Ev.succ ?_
        simp only [spec_LostAfterCut.l0]
        exact Ev.neg (by omega) (Ev.now _)
    · rw [lostAns_no (fun h2 => h h2.2)]
      exact Ev.pos (by simp [h]) (Ev.now _)
  · rw [lostAns_no (fun h => hg h.1)]
    refine Ev.neg (by rw [decide_eq_true_eq]; exact hg) (Ev.succ ?_)
    simp only [spec_LostAfterCut.j0]
    exact Ev.pos trivial (Ev.now _)
theorem lostAns_in (l : List R) (n : Int) : 0 ≤ (lostAns l n).1 ∧ (lostAns l n).1 ≤ 8 := by
  unfold lostAns
  split
  · rename_i h
    have := lost_le (vals (rec5 ((jall 0 l).take n.toNat))) (vals l)
    rw [(vals_ok (rec5_good _)).1] at this
    simp only; omega
  · simp
theorem specRn_is (r : R) (n : Int) : spec_RecordNumbers.f r.f0 r.f1 r.f2 n = some (rnAns r n) := by
  unfold spec_RecordNumbers.f rnAns
  rw [jrRec_is, Option.bind_some]
  by_cases hv : Valid r
  · rw [if_pos (decide_eq_true hv), l1In_is, Option.bind_some]
    by_cases h : 0 ≤ n ∧ n ≤ 39
    · rw [if_pos (decide_eq_true h), if_pos ⟨hv, by omega, by omega⟩]
      have := jrOf_is (a := r.f0) (b := r.f1) (c := r.f2) hv (n := n.toNat) (by omega)
      rw [Int.toNat_of_nonneg (by omega)] at this
      rw [this]; rfl
    · rw [if_neg (by rw [decide_eq_true_eq]; exact h), if_neg (by omega)]
  · rw [if_neg (by rw [decide_eq_true_eq]; exact hv), if_neg (fun h => hv h.1)]
theorem rnAns_len (r : R) (n : Int) : (rnAns r n).1.length ≤ 5 := by
  unfold rnAns; split <;> simp [rn]
theorem cutP {c : List Int} (hc : Bytes c) {p : Nat × Nat} {b : Nat} (hb : b + 20 < 1152921504606846976) (hp : Ok b p) : ∃ a, spec_l1Cur_cutAt.f c (p.1 : Int) (p.2 : Int) = some a ∧ After (b + 6) a.2 := by
  unfold spec_l1Cur_cutAt.f
  obtain ⟨⟨v1, q1⟩, h1, ⟨p1, hq1, hp1⟩, _⟩ := pickP hc (by omega) hp 60
  simp only at hq1
  subst hq1
  rw [h1, Option.bind_some]
  obtain ⟨⟨v2, q2⟩, h2, ⟨p2, hq2, hp2⟩, _⟩ := amongP hc (b := b + 2) (by omega) hp1 (l := [201, -1]) (by simp) (by simp)
  simp only at hq2 h2
  subst hq2
  simp only
  rw [h2, Option.bind_some]
  obtain ⟨⟨v3, q3⟩, h3, ⟨p3, hq3, hp3⟩, _⟩ := amongP hc (b := b + 4) (by omega) hp2 (l := [0, 1, 5, 9, 10, v1, 200, v2]) (by simp) (by simp)
  simp only at hq3 h3
  subst hq3
  simp only
  rw [h3, Option.bind_some]
  exact ⟨_, rfl, p3, rfl, hp3⟩
theorem drawCut_ev {c : List Int} (hc : Bytes c) : EvP (fun k => spec_DrawCutNumbers.f k c) (fun v => v.1.length ≤ 201) := by
  unfold spec_DrawCutNumbers.f
  refine EvP.bind (numbers_draw hc (p := (0, 0)) (b := 0) (by unfold BIG; omega) ⟨Nat.le_refl _, by simp⟩) ?_
  rintro ⟨x, q⟩ ⟨hx, p', rfl, hp'⟩
  refine EvP.bindQ (cutP hc (by unfold BIG; omega) hp') ?_
  rintro ⟨n, q2⟩ _
  exact EvP.now hx
theorem drawChg_ev {c : List Int} (hc : Bytes c) : EvP (fun k => spec_DrawChangeNumber.f k c) (fun v => v.1.length ≤ 201) := by
  unfold spec_DrawChangeNumber.f
  have hB : BIG = 2251799813685248 := rfl
  refine EvP.bind (numbers_draw hc (p := (0, 0)) (b := 0) (by omega) ⟨Nat.le_refl _, by simp⟩) ?_
  rintro ⟨x, q⟩ ⟨hx, p', rfl, hp'⟩
  refine EvP.bindQ (pickP hc (by omega) hp' _) ?_
  rintro ⟨v1, q1⟩ ⟨⟨p1, rfl, hp1⟩, _⟩
  refine EvP.bindQ (pickP hc (by omega) hp1 _) ?_
  rintro ⟨v2, q2⟩ ⟨⟨p2, rfl, hp2⟩, _⟩
  refine EvP.bindQ (pickP hc (by omega) hp2 _) ?_
  rintro ⟨v3, q3⟩ ⟨⟨p3, rfl, hp3⟩, _⟩
  refine EvP.bindQ (amongP hc (by omega) hp3 (by simp) (by simp)) ?_
  rintro ⟨v4, q4⟩ ⟨⟨p4, rfl, hp4⟩, _⟩
  refine EvP.bindQ (amongP hc (by omega) hp4 (by simp) (by simp)) ?_
  rintro ⟨v5, q5⟩ _
  exact EvP.now hx
theorem drawLost_ev {c : List Int} (hc : Bytes c) : EvP (fun k => spec_DrawLostAfterCut.f k c) (fun v => v.1.length ≤ 41) := by
  unfold spec_DrawLostAfterCut.f
  refine EvP.bind (jrecs_draw hc (p := (0, 0)) (b := 0) (by unfold BIG; omega) ⟨Nat.le_refl _, by simp⟩) ?_
  rintro ⟨x, q⟩ ⟨hx, p', rfl, hp'⟩
  refine EvP.bindQ (cutP hc (by unfold BIG; omega) hp') ?_
  rintro ⟨n, q2⟩ _
  exact EvP.now hx
theorem drawRn_ev {c : List Int} (hc : Bytes c) : EvP (fun k => spec_DrawRecordNumbers.f k c) (fun _ => True) := by
  unfold spec_DrawRecordNumbers.f
  refine EvP.bind (rec_draw hc (p := (0, 0)) (b := 0) (by omega) ⟨Nat.le_refl _, by simp⟩) ?_
  rintro ⟨x, y, z, q⟩ ⟨p', hq, hcase⟩
  simp only at hq
  subst hq
  have hp' : Ok 7 p' := by
    rcases hcase with ⟨rfl, _⟩ | rfl
    · exact (Ok.it (n := 6) (b := 0) ⟨Nat.le_refl _, by simp⟩).mono (by omega)
    · exact Ok.it (n := 7) (b := 0) ⟨Nat.le_refl _, by simp⟩
  refine EvP.bindQ (amongP hc (by omega) hp' (by simp) (by simp)) ?_
  rintro ⟨v4, q4⟩ ⟨⟨p4, rfl, hp4⟩, _⟩
  refine EvP.bindQ (amongP hc (by omega) hp4 (by simp) (by simp)) ?_
  rintro ⟨v5, q5⟩ _
  exact EvP.now trivial
theorem drawRec_ev {c : List Int} (hc : Bytes c) : EvP (fun k => spec_DrawRecoverRecords.f k c) (fun v => v.length ≤ 201) := by
  unfold spec_DrawRecoverRecords.f
  refine EvP.bind (numbers_draw hc (p := (0, 0)) (b := 0) (by unfold BIG; omega) ⟨Nat.le_refl _, by simp⟩) ?_
  rintro ⟨x, q⟩ ⟨hx, _⟩
  exact EvP.now hx
theorem drawIs_ev {c : List Int} (hc : Bytes c) : EvP (fun k => spec_DrawIsJournalRecord.f k c) (fun _ => True) := by
  unfold spec_DrawIsJournalRecord.f
  refine EvP.bind (rec_draw hc (p := (0, 0)) (b := 0) (by omega) ⟨Nat.le_refl _, by simp⟩) ?_
  rintro ⟨x, y, z, q⟩ _
  exact EvP.now trivial
-- the law
theorem recAns_len (x : List Int) : (recAns x).1.length ≤ 40 := by
  unfold recAns; split
  · exact (rec5_good x).1
  · simp
theorem law_j3 {c : List Int} (hc : Bytes c) : EvP (fun k => laws_FnCuts.j3 k c) (fun v => v = true) := by
  refine EvP.succ ?_
  simp only [laws_FnCuts.j3]
  refine EvP.bind (drawLost_ev hc) ?_
  rintro ⟨l, m⟩ hl
  simp only at hl
  refine EvP.bindE (implLost_ev l m (by omega)) (EvP.bindE (specLost_ev l m (by omega)) (EvP.bind (drawRn_ev hc) ?_))
  rintro ⟨r0, r1, r2, w⟩ _
  refine EvP.bindS (implRn_is ⟨r0, r1, r2⟩ w) (EvP.bindS (specRn_is ⟨r0, r1, r2⟩ w) (EvP.bind (drawRec_ev hc) ?_))
  intro y hy
  refine EvP.bindE (implRec_ev y (by omega)) (EvP.bindE (specRec_ev y (by omega)) (EvP.bind (drawIs_ev hc) ?_))
  rintro ⟨t0, t1, t2⟩ _
  have hli := lostAns_in l m
  have hrl := rnAns_len ⟨r0, r1, r2⟩ w
  have hcl := recAns_len y
  have hfin : EvP (fun k => if ((rnAns ⟨r0, r1, r2⟩ w).2 == (rnAns ⟨r0, r1, r2⟩ w).2) = true then ((laws_sameInts.f k (rnAns ⟨r0, r1, r2⟩ w).1 (rnAns ⟨r0, r1, r2⟩ w).1).bind fun t675 => (if t675 = true then (if ((recAns y).2.2 == (recAns y).2.2) = true then ((laws_pSameRecords.f k (recAns y).1 (recAns y).1).bind fun t676 => (if t676 = true then (if (recAns y).2.1 = (recAns y).2.1 then ((impl_IsJournalRecord.f t0 t1 t2).bind fun t677 => ((spec_IsJournalRecord.f t0 t1 t2).bind fun t678 => (some (t677 == t678)))) else (some false)) else (some false))) else (some false)) else (some false))) else (some false)) (fun v => v = true) := by
    refine EvP.pos (by simp) (EvP.bindE (sameInts_self _ (by omega)) (EvP.pos rfl (EvP.pos (by simp) (EvP.bindE (sameRecs_self _ (by omega)) (EvP.pos rfl (EvP.pos rfl (EvP.bindS (isRec_is _ _ _) ?_)))))))
    have e : spec_IsJournalRecord.f t0 t1 t2 = some (decide (Valid ⟨t0, t1, t2⟩)) := by unfold spec_IsJournalRecord.f; rw [jrRec_is]; rfl
    exact EvP.bindS e (EvP.now (by simp))
  refine EvP.pos (by simp) (EvP.pos rfl (EvP.ite (fun _ => EvP.pos hli.1 (EvP.pos hli.2 hfin)) (fun _ => hfin)))
theorem tdiv5 {i : Int} (h : 0 ≤ i) (h2 : i ≤ 1000000) : wrap64 (Int.tdiv i 5) = ((i.toNat / 5 : Nat) : Int) := by
  rw [Int.tdiv_eq_ediv_of_nonneg h, w64 (by omega) (by omega)]; omega
theorem nums_set {u : List Int} {i : Nat} {v : Int} (h : Nums u) (h0 : 0 ≤ v) (h1 : v ≤ 9999) : Nums (u.set i v) := by
  refine ⟨by rw [List.length_set]; exact h.1, fun w hw => ?_⟩
  rcases List.mem_or_eq_of_mem_set hw with hw | rfl
  · exact h.2 w hw
  · exact ⟨h0, h1⟩
theorem nums_take {u : List Int} {i : Nat} (h : Nums u) : Nums (u.take i) := ⟨by rw [List.length_take]; have := h.1; omega, fun w hw => h.2 w (List.mem_of_mem_take hw)⟩
theorem recAns_of {x : List Int} (h : Nums x) : recAns x = (rec5 x, ((5 * (rec5 x).length : Nat) : Int), true) := if_pos h
theorem law_j2 {c : List Int} (hc : Bytes c) (u : List Int) (i v : Int) (hu : u.length ≤ 201) :
    EvP (fun k => laws_FnCuts.j2 k c u i (chgAns u i v).1 (chgAns u i v).2 (chgAns u i v).1 false) (fun v => v = true) := by
  refine EvP.succ ?_
  simp only [laws_FnCuts.j2]
  refine EvP.neg (by simp) ?_
  by_cases h : Nums u ∧ (0 ≤ i ∧ i < (u.length : Int)) ∧ 0 ≤ v ∧ v ≤ 9999
  · have e : chgAns u i v = (u.set i.toNat v, true) := if_pos h
    obtain ⟨hn, ⟨h0, h1⟩, hv0, hv1⟩ := h
    have hi : i.toNat < u.length := by omega
    have hrd : rd u i = u[i.toNat] := by
      have := rd_at hi
      rwa [Int.toNat_of_nonneg h0] at this
    have hu2 := hn.2 _ (List.getElem_mem hi)
    have hs := nums_set (i := i.toNat) hn hv0 hv1
    have e2 : chgAns (u.set i.toNat v) i u[i.toNat] = (u, true) := by
      unfold chgAns
      rw [if_pos ⟨hs, ⟨h0, by rw [List.length_set]; exact h1⟩, hu2⟩, List.set_set, List.set_getElem_self]
    simp only [e]
    refine EvP.pos trivial (EvP.pos h0 (EvP.pos h1 ?_))
    rw [hrd]
    refine EvP.bindE (implChg_ev _ _ _ (by rw [List.length_set]; omega)) ?_
    rw [e2]
    refine EvP.bindE (implRec_ev _ (by rw [List.length_set]; omega)) (EvP.bindE (specRec_ev _ (by rw [List.length_set]; omega)) (EvP.bindE (specRec_ev u (by omega)) ?_))
    rw [recAns_of hs, recAns_of hn]
    have l1 := (rec5_good (u.set i.toNat v)).1
    have l2 := (rec5_good u).1
    refine EvP.pos rfl (EvP.bindE (sameInts_self _ (by simp only; omega)) (EvP.pos rfl (EvP.pos rfl (EvP.pos rfl (EvP.pos rfl (EvP.bindE (sameRecs_self _ (by simp only; omega)) (EvP.pos rfl ?_)))))))
    rw [tdiv5 h0 (by omega)]
    refine EvP.ite (fun hlt => ?_) (fun _ => law_j3 hc)
    have hq : i.toNat / 5 ≤ (rec5 u).length := by simp only at hlt; omega
    have hq2 := rec5_set_len u i.toNat v hq
    refine EvP.pos (by omega) (EvP.pos (by simp only; omega) (EvP.pos (by simp only; omega) ?_))
    simp only [Int.toNat_natCast]
    rw [rec5_set]
    exact EvP.bindE (sameRecs_self _ (by rw [List.length_take]; omega)) (EvP.pos rfl (law_j3 hc))
  · have e : chgAns u i v = ([], false) := if_neg h
    simp only [e]
    exact EvP.neg (by simp) (law_j3 hc)
theorem chgAns_len (u : List Int) (i v : Int) (hu : u.length ≤ 201) : (chgAns u i v).1.length ≤ 201 := by
  unfold chgAns; split
  · simpa using hu
  · simp
theorem law_j1 {c : List Int} (hc : Bytes c) : EvP (fun k => laws_FnCuts.j1 k c) (fun v => v = true) := by
  refine EvP.succ ?_
  simp only [laws_FnCuts.j1]
  refine EvP.bind (drawChg_ev hc) ?_
  rintro ⟨u, i, v⟩ hu
  simp only at hu
  have hl := chgAns_len u i v hu
  refine EvP.bindE (implChg_ev u i v (by omega)) (EvP.bindE (specChg_ev u i v (by omega)) (EvP.neg (by simp) (EvP.bindE (sameInts_self _ (by omega)) ?_)))
  exact law_j2 hc u i v hu
theorem cutAns_len (x : List Int) (n : Int) (hx : x.length ≤ 201) : (cutAns x n).1.length ≤ 201 := by
  unfold cutAns; split
  · simp only [List.length_take]; omega
  · simp
theorem law_j0 {c : List Int} (hc : Bytes c) (x : List Int) (n : Int) (hx : x.length ≤ 201) :
    EvP (fun k => laws_FnCuts.j0 k c x (cutAns x n).1 (cutAns x n).2 (cutAns x n).1 false) (fun v => v = true) := by
  refine EvP.succ ?_
  simp only [laws_FnCuts.j0]
  refine EvP.neg (by simp) ?_
  by_cases h : Nums x ∧ 0 ≤ n ∧ n ≤ 200
  · have e : cutAns x n = (x.take n.toNat, true) := if_pos h
    simp only [e]
    have ht := nums_take (i := n.toNat) h.1
    have l0 : (x.take n.toNat).length ≤ 201 := by rw [List.length_take]; omega
    refine EvP.pos trivial (EvP.bindE (implRec_ev _ (by omega)) (EvP.bindE (specRec_ev _ (by omega)) (EvP.bindE (specRec_ev x (by omega)) ?_)))
    rw [recAns_of ht, recAns_of h.1]
    have l1 := (rec5_good (x.take n.toNat)).1
    have l2 := (rec5_good x).1
    have ep : rec5 (x.take n.toNat) = (rec5 x).take (n.toNat / 5) := recs_take 40 0 x n.toNat
    have l3 := (recs_len 40 0 (x.take n.toNat)).2
    have l3' : 5 * (rec5 (x.take n.toNat)).length ≤ (x.take n.toNat).length := l3
    have l4 : (rec5 (x.take n.toNat)).length ≤ (rec5 x).length := by rw [ep, List.length_take]; omega
    have ew := w5len (x.take n.toNat)
    have et : (rec5 x).take (rec5 (x.take n.toNat)).length = rec5 (x.take n.toNat) := by
      rw [ep, List.length_take, ← List.take_eq_take_min]
    refine EvP.pos rfl (EvP.pos rfl (EvP.pos rfl (EvP.bindE (sameRecs_self _ (by simp only; omega)) (EvP.pos rfl (EvP.pos rfl (EvP.neg (by simp only; omega) (EvP.neg (by simp only; omega) (EvP.pos ew.symm (EvP.pos (by omega) (EvP.pos (by simp only; omega) ?_))))))))))
    simp only [Int.toNat_natCast, et]
    exact EvP.bindE (sameRecs_self _ (by omega)) (EvP.pos rfl (law_j1 hc))
  · have e : cutAns x n = ([], false) := if_neg h
    simp only [e]
    exact EvP.neg (by simp) (law_j1 hc)
theorem law_ev (c d : List Int) (hc : c.length ≤ 1152921504606846976) (hd : d.length ≤ 1152921504606846976) (bc : ∀ v ∈ c, 0 ≤ v ∧ v ≤ 255) (bd : ∀ v ∈ d, 0 ≤ v ∧ v ≤ 255) :
    EvP (fun k => laws_FnCuts.f k c d) (fun v => v = true) := by
  unfold laws_FnCuts.f
  obtain ⟨t, ht, htf⟩ := big_is c d hc hd
  refine EvP.bindS ht (EvP.ite (fun _ => EvP.now rfl) (fun h => ?_))
  have hh := htf (by simpa using h)
  have hC : Bytes c := ⟨hh.1, bc⟩
  have hD : Bytes d := ⟨hh.2, bd⟩
  refine EvP.bind (drawCut_ev hC) ?_
  rintro ⟨x, n⟩ hx
  simp only at hx
  have hl := cutAns_len x n hx
  refine EvP.bindE (implCut_ev x n (by omega)) (EvP.bindE (specCut_ev x n (by omega)) (EvP.neg (by simp) (EvP.bindE (sameInts_self _ (by omega)) ?_)))
  exact law_j0 hD x n hx
end Go.Proofs.Ytgblcbgkkfipoaa.Pure
