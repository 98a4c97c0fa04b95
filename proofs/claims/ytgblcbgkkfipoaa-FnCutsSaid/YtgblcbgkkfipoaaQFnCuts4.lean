/-
  Plain lemmas for FnCuts: what the printed functions answer.
-/
import Derived.Test.YtgblcbgkkfipoaaQFnCuts3
import Derived.Test.YtgblcbgkkfipoaaWEvs
namespace Go.Proofs.Ytgblcbgkkfipoaa.Pure
open Go.RowKit Go.Proofs.YtgblcbgkkfipoaaW.PrintWords Go.Proofs.YtgblcbgkkfipoaaW.PrintLast Go.Proofs.YtgblcbgkkfipoaaW.PrintMore Go.Proofs.YtgblcbgkkfipoaaW.Evs Go.Proofs.Ytgblcbgkkfipoaa.XFnCuts
set_option linter.unusedVariables false
set_option linter.unusedSimpArgs false
-- the journal's numbers, the committed part, the committed values
theorem jall_gen (F : Nat → List Int → List R → Int → Int → Option (List Int)) (l : List R) (hl : l.length ≤ 40)
    (hs : ∀ (i : Nat) (h : i < l.length) (s : List Int), s.length ≤ 200 → ∀ r, Ev (fun k => F k (s ++ rn l[i] i) l (l.length : Int) ((i + 1 : Nat) : Int)) r → Ev (fun k => F k s l (l.length : Int) (i : Int)) r)
    (he : ∀ s, Ev (fun k => F k s l (l.length : Int) (l.length : Int)) s) :
    ∀ m i s, i + m = l.length → s.length = 5 * i → Ev (fun k => F k s l (l.length : Int) (i : Int)) (s ++ jall i (l.drop i))
  | 0, i, s, e, h5 => by
    obtain rfl : i = l.length := by omega
    refine ev_eq (he s) ?_
    rw [List.drop_of_length_le (by omega)]; simp [jall]
  | m + 1, i, s, e, h5 => by
    have hi : i < l.length := by omega
    rw [List.drop_eq_getElem_cons hi, jall, ← List.append_assoc]
    exact hs i hi s (by omega) _ (jall_gen F l hl hs he m (i + 1) (s ++ rn l[i] i) (by omega) (by simp [rn, h5]; omega))
theorem journal_ev {l : List R} (hg : Good l) : Ev (fun k => impl_journalNumbers.f k l) (jall 0 l) := by
  unfold impl_journalNumbers.f
  have hl := hg.1
  have := jall_gen impl_journalNumbers.l0 l hg.1 ?_ ?_ l.length 0 [] (by omega) (by simp)
  · simpa using this
  · intro i hi s h5 r hr
    refine Ev.succ ?_
    simp only [impl_journalNumbers.l0, rdR_at hi, wsucc (show i < 9223372036854775807 by omega)]
    exact Ev.pos (by omega) (Ev.pos (by omega) (Ev.pos (by omega) (Ev.bindS (recNums_is (hg.2 _ (List.getElem_mem hi)) (by omega)) (Ev.pos (by simp [rn]; omega) hr))))
  · intro s
    refine Ev.succ ?_
    simp only [impl_journalNumbers.l0]
    exact Ev.neg (by omega) (Ev.now _)
theorem jrAll_ev {l : List R} (hg : Good l) : Ev (fun k => spec_jrAll.f k l) (jall 0 l) := by
  unfold spec_jrAll.f
  have hl := hg.1
  have := jall_gen spec_jrAll.l0 l hg.1 ?_ ?_ l.length 0 [] (by omega) (by simp)
  · simpa using this
  · intro i hi s h5 r hr
    refine Ev.succ ?_
    simp only [spec_jrAll.l0, rdR_at hi, wsucc (show i < 9223372036854775807 by omega)]
    exact Ev.pos (by omega) (Ev.pos (by omega) (Ev.pos (by omega) (Ev.bindS (jrOf_is (hg.2 _ (List.getElem_mem hi)) (by omega)) (Ev.pos (by simp [rn]; omega) hr))))
  · intro s
    refine Ev.succ ?_
    simp only [spec_jrAll.l0]
    exact Ev.neg (by omega) (Ev.now _)
theorem take_succ_at {l : List R} {i : Nat} (h : i < l.length) : l.take (i + 1) = l.take i ++ [l[i]] := by simp [h]
theorem committed_l (l : List R) (hl : l.length ≤ 1000) : ∀ e : Nat, e ≤ l.length → Ev (fun k => impl_committedPart.l0 k l (e : Int)) (l.take (cend (l.take e)))
  | 0, _ => by
    refine Ev.succ ?_
    simp only [impl_committedPart.l0, Option.bind_some, List.nil_append, List.length_nil]
    refine Ev.neg (by omega) (Ev.pos (by omega) (Ev.pos (by omega) (Ev.pos (by simp) (ev_some ?_))))
    simp [cend]
  | e + 1, he => by
    have hi : e < l.length := by omega
    refine Ev.succ ?_
    simp only [impl_committedPart.l0, Option.bind_some, List.nil_append, List.length_nil, wsub (show e < 9223372036854775807 by omega), rdR_at hi, Int.toNat_natCast]
    refine Ev.pos (by omega) (Ev.pos (by omega) (Ev.pos (by omega) ?_))
    rw [take_succ_at hi, cend_snoc]
    by_cases h : l[e].f0 = 2
    · refine Ev.pos h (Ev.pos (by omega) (Ev.pos (by omega) (Ev.pos (by simp only [List.length_append, List.length_take, List.length_cons, List.length_nil]; omega) (ev_some ?_))))
      rw [if_pos h, List.length_take, Nat.min_eq_left (by omega), take_succ_at hi]
    · rw [if_neg h]
      exact Ev.neg h (committed_l l hl e (by omega))
theorem committed_ev (l : List R) (hl : l.length ≤ 1000) : Ev (fun k => impl_committedPart.f k l) (com l) := by
  unfold impl_committedPart.f com
  have := committed_l l hl l.length (Nat.le_refl _)
  rwa [List.take_length] at this
theorem jrCommitted_l (l : List R) (hl : l.length ≤ 1000) : ∀ m i, i + m = l.length → Ev (fun k => spec_jrCommitted.l0 k l ((cend (l.take i) : Nat) : Int) l (l.length : Int) (i : Int)) (com l)
  | 0, i, e => by
    obtain rfl : i = l.length := by omega
    refine Ev.succ ?_
    have hc := cend_le l
    simp only [spec_jrCommitted.l0, Option.bind_some, List.nil_append, List.length_nil, List.take_length, Int.toNat_natCast]
    exact Ev.neg (by omega) (Ev.pos (by omega) (Ev.pos (by omega) (Ev.pos (by simp only [List.length_take]; omega) (ev_some rfl))))
  | m + 1, i, e => by
    have hi : i < l.length := by omega
    have ih := jrCommitted_l l hl m (i + 1) (by omega)
    rw [take_succ_at hi, cend_snoc, List.length_take, Nat.min_eq_left (by omega)] at ih
    refine Ev.succ ?_
    simp only [spec_jrCommitted.l0, rdR_at hi, wsucc (show i < 9223372036854775807 by omega)]
    refine Ev.pos (by omega) (Ev.pos (by omega) (Ev.pos (by omega) ?_))
    by_cases h : l[i].f0 = 2
    · rw [if_pos h] at ih
      exact Ev.pos h ih
    · rw [if_neg h] at ih
      exact Ev.neg h ih
theorem jrCommitted_ev (l : List R) (hl : l.length ≤ 1000) : Ev (fun k => spec_jrCommitted.f k l) (com l) := by
  unfold spec_jrCommitted.f
  have := jrCommitted_l l hl l.length 0 (by omega)
  simpa [cend] using this
theorem put_gen (F : Nat → List Int → List R → Int → Int → Option (List Int))
    (hF : ∀ k s l n i, F (k + 1) s l n i = if i < n then (if 0 ≤ i then (if i < (l.length : Int) then (if ((rd_T61 l i).f0) = 1 then (if 0 ≤ ((rd_T61 l i).f1) then (if ((rd_T61 l i).f1) < (s.length : Int) then (F k (s.set (((rd_T61 l i).f1) : Int).toNat ((rd_T61 l i).f2)) l n (wrap64 (i + 1))) else (none)) else (none)) else (F k s l n (wrap64 (i + 1)))) else (none)) else (none)) else (some s))
    (l : List R) (hl : l.length ≤ 1000) (hv : ∀ r ∈ l, Valid r) : ∀ m i s, i + m = l.length → s.length = 8 → Ev (fun k => F k s l (l.length : Int) (i : Int)) ((l.drop i).foldl put s)
  | 0, i, s, e, h8 => by
    refine Ev.succ ?_
    simp only [hF]
    refine Ev.neg (by omega) (ev_some ?_)
    rw [List.drop_of_length_le (by omega)]; rfl
  | m + 1, i, s, e, h8 => by
    have hi : i < l.length := by omega
    rw [List.drop_eq_getElem_cons hi, List.foldl_cons]
    have ih := put_gen F hF l hl hv m (i + 1) (put s l[i]) (by omega) (by simp only [put]; split <;> simp [h8])
    refine Ev.succ ?_
    simp only [hF, rdR_at hi, wsucc (show i < 9223372036854775807 by omega)]
    refine Ev.pos (by omega) (Ev.pos (by omega) (Ev.pos (by omega) ?_))
    have hr := hv _ (List.getElem_mem hi)
    by_cases h : l[i].f0 = 1
    · have e1 : put s l[i] = s.set (l[i].f1).toNat l[i].f2 := by simp only [put, if_pos h]
      rw [e1] at ih ⊢
      exact Ev.pos h (Ev.pos (by rcases hr with hr | hr <;> omega) (Ev.pos (by rcases hr with hr | hr <;> omega) ih))
    · have e1 : put s l[i] = s := by simp only [put, if_neg h]
      rw [e1] at ih ⊢
      exact Ev.neg h ih
theorem values_l {l : List R} (hg : Good l) : ∀ m i, i + m = 8 → Ev (fun k => impl_committedValues.l0 k l (List.replicate i (-1) ++ List.replicate m 0) 8 (i : Int)) (vals l)
  | 0, i, e => by
    obtain rfl : i = 8 := by omega
    refine Ev.succ ?_
    simp only [impl_committedValues.l0]
    refine Ev.neg (by omega) (Ev.bind (committed_ev l (by have := hg.1; omega)) ?_)
    have hc := com_good hg
    exact put_gen impl_committedValues.l1 (fun _ _ _ _ _ => rfl) (com l) (by have := hc.1; omega) hc.2 (com l).length 0 none8 (by omega) rfl
  | m + 1, i, e => by
    refine Ev.succ ?_
    simp only [impl_committedValues.l0, wsucc (show i < 9223372036854775807 by omega), Int.toNat_natCast]
    refine Ev.pos (by omega) (Ev.pos (by omega) (Ev.pos (by simp only [List.length_append, List.length_replicate]; omega) ?_))
    have ih := values_l hg m (i + 1) (by omega)
    have es : (List.replicate i (-1) ++ List.replicate (m + 1) (0 : Int)).set i (-1) = List.replicate (i + 1) (-1) ++ List.replicate m 0 := by
      rw [List.set_append_right _ _ (by simp), List.length_replicate, Nat.sub_self, List.replicate_succ, List.set_cons_zero, List.replicate_succ', List.append_assoc]; rfl
    rw [es]; exact ih
theorem values_ev {l : List R} (hg : Good l) : Ev (fun k => impl_committedValues.f k l) (vals l) := by
  unfold impl_committedValues.f
  refine Ev.pos (by omega) ?_
  simp only [Option.bind_some, List.length_replicate]
  exact values_l hg 8 0 rfl
theorem jrValues_l {l : List R} (hg : Good l) : ∀ m i, i + m = 8 → Ev (fun k => spec_jrValues.l0 k l (List.replicate i (-1))) (vals l)
  | 0, i, e => by
    obtain rfl : i = 8 := by omega
    refine Ev.succ ?_
    simp only [spec_jrValues.l0]
    refine Ev.neg (by simp) (Ev.bind (jrCommitted_ev l (by have := hg.1; omega)) ?_)
    have hc := com_good hg
    exact put_gen spec_jrValues.l1 (fun _ _ _ _ _ => rfl) (com l) (by have := hc.1; omega) hc.2 (com l).length 0 none8 (by omega) rfl
  | m + 1, i, e => by
    refine Ev.succ ?_
    simp only [spec_jrValues.l0]
    refine Ev.pos (by simp only [List.length_replicate]; omega) (Ev.pos (by simp only [List.length_replicate]; omega) ?_)
    rw [← List.replicate_succ']
    exact jrValues_l hg m (i + 1) (by omega)
theorem jrValues_ev {l : List R} (hg : Good l) : Ev (fun k => spec_jrValues.f k l) (vals l) := by
  unfold spec_jrValues.f
  exact jrValues_l hg 8 0 rfl
-- how many keys are lost
theorem lost_take (a b : List Int) (i : Nat) (h : i < a.length) (h2 : i < b.length) : lost (a.take (i + 1)) (b.take (i + 1)) = lost (a.take i) (b.take i) + if a[i] = b[i] then 0 else 1 := by
  rw [show a.take (i + 1) = a.take i ++ [a[i]] by simp [h], show b.take (i + 1) = b.take i ++ [b[i]] by simp [h2]]
  exact lost_snoc _ _ _ _ (by simp only [List.length_take]; omega)
theorem lost_gen (F : Nat → Int → Int → Option (Int × Bool)) (a b : List Int) (ha : a.length = 8) (hb : b.length = 8)
    (hs : ∀ (i : Nat) (h : i < a.length) (h2 : i < b.length) (s : Nat), s ≤ 8 → ∀ r, Ev (fun k => F k ((s + (if a[i] = b[i] then 0 else 1) : Nat) : Int) ((i + 1 : Nat) : Int)) r → Ev (fun k => F k (s : Int) (i : Int)) r)
    (he : ∀ s : Nat, Ev (fun k => F k (s : Int) 8) ((s : Int), true)) :
    ∀ m i, i + m = 8 → Ev (fun k => F k ((lost (a.take i) (b.take i) : Nat) : Int) (i : Int)) (((lost a b : Nat) : Int), true)
  | 0, i, e => by
    obtain rfl : i = 8 := by omega
    rw [List.take_of_length_le (by omega), List.take_of_length_le (by omega)]
    exact he _
  | m + 1, i, e => by
    have ih := lost_gen F a b ha hb hs he m (i + 1) (by omega)
    rw [lost_take a b i (by omega) (by omega)] at ih
    have hle := lost_le (a.take i) (b.take i)
    simp only [List.length_take] at hle
    exact hs i (by omega) (by omega) _ (by omega) _ ih
def lostAns (l : List R) (n : Int) : Int × Bool := if Good l ∧ 0 ≤ n ∧ n ≤ 200 then (((lost (vals (rec5 ((jall 0 l).take n.toNat))) (vals l) : Nat) : Int), true) else (0, false)
theorem take_min {x : List Int} {n : Int} (h : 0 ≤ n) {j : Int} (hj : j = n ∧ n ≤ (x.length : Int) ∨ j = (x.length : Int) ∧ (x.length : Int) ≤ n) : x.take j.toNat = x.take n.toNat := by
  rcases hj with ⟨rfl, _⟩ | ⟨rfl, h2⟩
  · rfl
  · rw [Int.toNat_natCast, List.take_length, List.take_of_length_le (by omega)]
theorem mn_is (a b : Int) : mn a b = a ∧ a ≤ b ∨ mn a b = b ∧ b ≤ a := by unfold mn; split <;> omega
theorem implLost_ev (l : List R) (n : Int) (hl : l.length ≤ 1000000) : Ev (fun k => impl_LostAfterCut.f k l n) (lostAns l n) := by
  unfold impl_LostAfterCut.f lostAns
  refine Ev.bind (areRecords_ev l (by omega)) ?_
  by_cases hg : Good l
  · refine Ev.pos (decide_eq_true hg) ?_
    by_cases h0 : n < 0
    · rw [if_neg (by omega)]
      refine Ev.pos h0 (Ev.succ ?_)
      simp only [impl_LostAfterCut.j0]
      exact Ev.pos trivial (Ev.now _)
    · refine Ev.neg h0 (Ev.succ ?_)
      simp only [impl_LostAfterCut.j0]
      by_cases h2 : n > 200
      · rw [if_neg (by omega)]
        exact Ev.pos (decide_eq_true h2) (Ev.now _)
      · rw [if_pos ⟨hg, by omega, by omega⟩]
        refine Ev.neg (by rw [decide_eq_true_eq]; exact h2) (Ev.bind (journal_ev hg) (Ev.bind (values_ev hg) ?_))
        have hm := mn_is n ((jall 0 l).length : Int)
        rw [take_min (by omega) hm]
        have hgr := rec5_good ((jall 0 l).take n.toNat)
        have hlen := jall_length l 0
        refine Ev.pos (by omega) (Ev.pos (by omega) (Ev.bind (recovered_ev _ (by rw [List.length_take]; omega)) (Ev.bind (values_ev hgr) ?_)))
        have h8 := (vals_ok hgr).1
        have h8' := (vals_ok hg).1
        rw [h8]
        refine lost_gen (fun k s i => impl_LostAfterCut.l0 k (vals l) s (vals (rec5 ((jall 0 l).take n.toNat))) ((8 : Nat) : Int) i) _ _ h8 h8' ?_ ?_ 8 0 rfl
        · intro i hi hi2 s h9 r hr
          refine Ev.succ ?_
          simp only [impl_LostAfterCut.l0, rd_at hi, rd_at hi2, wsucc (show i < 9223372036854775807 by omega), wsucc (show s < 9223372036854775807 by omega)]
          refine Ev.pos (by omega) (Ev.pos (by omega) (Ev.pos (by omega) (Ev.pos (by omega) ?_)))
          by_cases e : (vals (rec5 ((jall 0 l).take n.toNat)))[i] = (vals l)[i]
          · rw [if_pos e] at hr; exact Ev.pos e hr
          · rw [if_neg e] at hr; exact Ev.neg e hr
        · intro s
          refine Ev.succ ?_
          simp only [impl_LostAfterCut.l0]
          exact Ev.neg (by omega) (Ev.now _)
  · rw [if_neg (fun h => hg h.1)]
    refine Ev.neg (by rw [decide_eq_true_eq]; exact hg) (Ev.succ ?_)
    simp only [impl_LostAfterCut.j0]
    exact Ev.pos trivial (Ev.now _)
def rnAns (r : R) (n : Int) : List Int × Bool := if Valid r ∧ 0 ≤ n ∧ n < 40 then (rn r n.toNat, true) else ([], false)
theorem implRn_is (r : R) (n : Int) : impl_RecordNumbers.f r.f0 r.f1 r.f2 n = some (rnAns r n) := by
  unfold impl_RecordNumbers.f rnAns
  rw [isRec_is, Option.bind_some]
  by_cases hv : Valid r
  · rw [if_pos (decide_eq_true hv)]
    by_cases h0 : n < 0
    · rw [if_pos h0, if_neg (by omega)]
    · rw [if_neg h0]
      by_cases h4 : n ≥ 40
      · rw [if_pos h4, if_neg (by omega)]
      · rw [if_neg h4, if_pos ⟨hv, by omega, by omega⟩]
        have := recNums_is (a := r.f0) (b := r.f1) (c := r.f2) hv (n := n.toNat) (by omega)
        rw [Int.toNat_of_nonneg (by omega)] at this
        rw [this]; rfl
  · rw [if_neg (by rw [decide_eq_true_eq]; exact hv), if_neg (fun h => hv h.1)]
theorem big_is (a b : List Int) (ha : a.length ≤ 1152921504606846976) (hb : b.length ≤ 1152921504606846976) : ∃ t, laws_big.f a b = some t ∧ (t = false → a.length ≤ 1048576 ∧ b.length ≤ 1048576) := by
  unfold laws_big.f
  by_cases h : (a.length : Int) > 1048576
  · exact ⟨true, by rw [if_pos h], fun h => by cases h⟩
  · refine ⟨_, by rw [if_neg h], fun h2 => ?_⟩
    have h3 := of_decide_eq_false h2
    rw [w64 (by omega) (by omega)] at h3
    omega
end Go.Proofs.Ytgblcbgkkfipoaa.Pure
