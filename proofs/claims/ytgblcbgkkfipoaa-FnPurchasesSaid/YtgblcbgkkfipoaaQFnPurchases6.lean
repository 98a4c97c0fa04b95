/-
  Plain lemmas for FnPurchases: what the printed functions answer.
-/
import Derived.Test.YtgblcbgkkfipoaaQFnPurchases5
import Derived.Test.YtgblcbgkkfipoaaXFnPurchasesx8
import Derived.Test.YtgblcbgkkfipoaaXFnPurchasesx9
import Derived.Test.YtgblcbgkkfipoaaWEvs
namespace Go.Proofs.Ytgblcbgkkfipoaa.Pure
open Go.RowKit Go.Proofs.YtgblcbgkkfipoaaW.PrintWords Go.Proofs.YtgblcbgkkfipoaaW.PrintLast Go.Proofs.YtgblcbgkkfipoaaW.PrintMore Go.Proofs.YtgblcbgkkfipoaaW.Evs Go.Proofs.Ytgblcbgkkfipoaa.XFnPurchases
set_option linter.unusedVariables false
set_option linter.unusedSimpArgs false
theorem p0_ev (xs : List Int) (hx : xs.length ≤ 1048576) : Ev (fun k => impl_CheapestKits.p0 k xs 0) (xs.all fun v => okN v 10000) := by
  have key := ev_all (fun k i => impl_CheapestKits.p0 k xs i) xs.length (fun i => okN (xs.getD i 0) 10000) false true ?_ ?_ ?_ xs.length 0 (by omega)
  · refine ev_eq key ?_
    rw [if_tf]; exact all_of_allFrom (p := fun v => okN v 10000)
  · intro i hi' hp r hr
    have e : xs.getD i 0 = xs[i] := by simp [hi']
    rw [e] at hp
    simp only [okN, decide_eq_true_eq] at hp
    refine Ev.succ ?_
    simp only [impl_CheapestKits.p0, if_pos (show (i : Int) < (xs.length : Int) by omega), if_pos (show (0 : Int) ≤ (i : Int) by omega), rd_at hi', if_neg (show ¬ xs[i] < 0 by omega), if_neg (show ¬ xs[i] > 10000 by omega), wsucc (show i < 9223372036854775807 by omega)]
    exact hr
  · intro i hi' hp
    have e : xs.getD i 0 = xs[i] := by simp [hi']
    rw [e] at hp
    simp only [okN, decide_eq_false_iff_not] at hp
    refine Ev.succ ?_
    simp only [impl_CheapestKits.p0, if_pos (show (i : Int) < (xs.length : Int) by omega), if_pos (show (0 : Int) ≤ (i : Int) by omega), rd_at hi']
    by_cases h0 : xs[i] < 0
    · simp only [if_pos h0]; exact Ev.now _
    · simp only [if_neg h0, if_pos (show xs[i] > 10000 by omega)]; exact Ev.now _
  · refine Ev.succ ?_
    simp only [impl_CheapestKits.p0, if_neg (show ¬ (xs.length : Int) < (xs.length : Int) by omega)]
    exact Ev.now _
theorem s0_ev (l : List (List Int)) (prices x : List Int) (hp : prices.length = l.length) (hf : Fits l x) : Ev (fun k => impl_CheapestKits.s0 k prices x 0 0) (sm prices x) := by
  have hfew := hf.few
  refine ev_for (fun k (q : Int) j => impl_CheapestKits.s0 k prices x q j) x.length (smG prices x) (fun _ _ => True) (fun s => s) ?_ ?_ x.length 0 0 (by omega) trivial
  · intro j q hj _
    refine ⟨trivial, fun r hr => ?_⟩
    obtain ⟨h1, h2⟩ := hf.mem x[j] (List.getElem_mem _)
    have e : x.getD j 0 = x[j] := by simp [hj]
    simp only [smG, e] at hr
    refine Ev.succ ?_
    simp only [impl_CheapestKits.s0, if_pos (show (j : Int) < (x.length : Int) by omega), if_pos (show (0 : Int) ≤ (j : Int) by omega), rd_at hj, if_pos h1, if_pos (show x[j] < (prices.length : Int) by omega), wsucc (show j < 9223372036854775807 by omega)]
    exact hr
  · intro q _
    refine Ev.succ ?_
    simp only [impl_CheapestKits.s0, if_neg (show ¬ (x.length : Int) < (x.length : Int) by omega)]
    exact Ev.now _
theorem cheapest_l0 (l : List (List Int)) (prices need : List Int) (h6 : l.length ≤ 6) (hl : ∀ b ∈ l, b.length = 7) (hn : need.length = 7) (hp : prices.length = l.length) :
    Ev (fun k => impl_CheapestKits.l0 k l prices need (P l.length) [] (-1) 0) (if (best l prices need).2 < 0 then ([], 0, false) else ((best l prices need).1, (best l prices need).2, true)) := by
  have hlen : (P l.length).length ≤ 64 := by
    have : ∀ n : Fin 7, (P n.val).length ≤ 64 := by decide +kernel
    exact this ⟨l.length, by omega⟩
  have key := ev_for (fun k (s : List Int × Int) i => impl_CheapestKits.l0 k l prices need (P l.length) s.1 s.2 i) (P l.length).length (fun i s => stI (en l need) (sm prices) s ((P l.length).getD i [])) (fun _ _ => True) (fun s => if s.2 < 0 then ([], 0, false) else (s.1, s.2, true)) ?_ ?_ (P l.length).length 0 ([], -1) (by omega) trivial
  · rw [upto_foldl (stI (en l need) (sm prices)) (P l.length) (fun i s => stI (en l need) (sm prices) s ((P l.length).getD i [])) (fun i s h => by simp [h]) (P l.length).length 0 _ (by omega)] at key
    exact key
  · rintro i ⟨b, m⟩ hi _
    refine ⟨trivial, fun r hr => ?_⟩
    have e : (P l.length).getD i [] = (P l.length)[i] := by simp [hi]
    rw [e] at hr
    have hf := fits_P h6 rfl (List.getElem_mem hi)
    refine Ev.succ ?_
    simp only [impl_CheapestKits.l0, if_pos (show (i : Int) < ((P l.length).length : Int) by omega), if_pos (show (0 : Int) ≤ (i : Int) by omega), rdRow_at hi, wsucc (show i < 9223372036854775807 by omega)]
    refine Ev.bind (s0_ev l prices _ hp hf) (Ev.bind (sum_ev l _ hl hf) (Ev.bind (isEnough_ev _ _ hn (tot_length _ _)) ?_))
    change Ev (fun k => if en l need (P l.length)[i] = true then _ else _) r
    unfold stI at hr
    cases hen : en l need (P l.length)[i] with
    | false => simp only [hen, Bool.false_eq_true, if_false] at hr ⊢; exact hr
    | true =>
      simp only [hen, if_true] at hr ⊢
      by_cases c1 : m < 0
      · simp only [if_pos c1] at hr ⊢; exact hr
      · simp only [if_neg c1] at hr ⊢
        by_cases c2 : sm prices (P l.length)[i] < m
        · simp only [if_pos c2] at hr ⊢; exact hr
        · simp only [if_neg c2] at hr ⊢; exact hr
  · rintro ⟨b, m⟩ _
    refine Ev.succ ?_
    simp only [impl_CheapestKits.l0, if_neg (show ¬ ((P l.length).length : Int) < ((P l.length).length : Int) by omega)]
    by_cases c : m < 0
    · simp only [if_pos c]; exact Ev.now _
    · simp only [if_neg c]; exact Ev.now _
def cheapOk (l : List (List Int)) (prices need : List Int) : Bool := okKits l && okKit need && decide (prices.length = l.length) && prices.all fun v => okN v 10000
def cheapAns (l : List (List Int)) (prices need : List Int) : List Int × Int × Bool :=
  if cheapOk l prices need = true then (if (best l prices need).2 < 0 then ([], 0, false) else ((best l prices need).1, (best l prices need).2, true)) else ([], 0, false)
theorem cheapOk_all {l : List (List Int)} {prices need : List Int} (h : cheapOk l prices need = true) : (l.length ≤ 6 ∧ ∀ b ∈ l, b.length = 7) ∧ need.length = 7 ∧ prices.length = l.length ∧ ∀ v ∈ prices, 0 ≤ v ∧ v ≤ 10000 := by
  simp only [cheapOk, Bool.and_eq_true, decide_eq_true_eq] at h
  refine ⟨okKits_both h.1.1.1, okKit_length h.1.1.2, h.1.2, fun v hv => ?_⟩
  simpa [okN] using List.all_eq_true.1 h.2 v hv
theorem cheapAns_length (l : List (List Int)) (prices need : List Int) : (cheapAns l prices need).1.length ≤ 6 := by
  unfold cheapAns
  split
  · rename_i h
    obtain ⟨⟨h6, _⟩, _, hp, hv⟩ := cheapOk_all h
    split
    · simp
    · exact best_length _ _ _ h6 (fun x hx => sm_bound hv hp (fits_P h6 rfl hx))
  · simp
theorem cheapest_ev (l : List (List Int)) (prices need : List Int) (hl : l.length ≤ 1048576) (hb : ∀ b ∈ l, b.length ≤ 1048576) (hn : need.length ≤ 1048576) (hpl : prices.length ≤ 1048576) : Ev (fun k => impl_CheapestKits.f k l prices need) (cheapAns l prices need) := by
  unfold impl_CheapestKits.f cheapAns
  refine Ev.bind (areKits_ev l hl hb) ?_
  cases hk : okKits l with
  | false => simp only [cheapOk, hk, Bool.false_eq_true, if_false, Bool.false_and]; exact Ev.now _
  | true =>
    simp only [if_true]
    refine Ev.bind (isKit_ev need hn) ?_
    cases hd : okKit need with
    | false => simp only [cheapOk, hk, hd, Bool.false_eq_true, if_false, Bool.true_and, Bool.false_and]; exact Ev.now _
    | true =>
      simp only [if_true]
      by_cases hp : prices.length = l.length
      · simp only [if_pos (show (prices.length : Int) = (l.length : Int) by omega)]
        refine Ev.bind (p0_ev prices hpl) ?_
        cases hv : (prices.all fun v => okN v 10000) with
        | false => simp only [cheapOk, hk, hd, hp, hv, Bool.false_eq_true, if_false, decide_true, Bool.and_false]; exact Ev.now _
        | true =>
          have hok : cheapOk l prices need = true := by simp [cheapOk, hk, hd, hp, hv]
          obtain ⟨⟨h6, h7⟩, hn7, _, _⟩ := cheapOk_all hok
          simp only [if_true, purchases_is h6, Option.bind_some, hok]
          exact cheapest_l0 l prices need h6 h7 hn7 hp
      · simp only [if_neg (show ¬ (prices.length : Int) = (l.length : Int) by omega), cheapOk, hk, hd, hp, decide_false, Bool.and_false, Bool.false_and, Bool.false_eq_true, if_false]
        exact Ev.now _
theorem specCheap_ev (l : List (List Int)) (prices need : List Int) (hl : l.length ≤ 1048576) (hb : ∀ b ∈ l, b.length ≤ 1048576) (hn : need.length ≤ 1048576) (hpl : prices.length ≤ 1048576) : Ev (fun k => spec_CheapestKits.f k l prices need) (cheapAns l prices need) := by
  unfold spec_CheapestKits.f cheapAns
  refine Ev.bind (kiKits_ev l hl hb) ?_
  cases hk : okKits l with
  | false =>
    simp only [cheapOk, hk, Bool.false_eq_true, if_false, Bool.false_and]
    refine Ev.succ ?_
    simp only [spec_CheapestKits.j0, if_true]
    exact Ev.now _
  | true =>
    simp only [if_true]
    by_cases hp : prices.length = l.length
    · simp only [if_pos (show (prices.length : Int) = (l.length : Int) by omega)]
      refine Ev.bind (l1All_ev prices 10000 hpl) ?_
      cases hv : (prices.all fun v => okN v 10000) with
      | false =>
        simp only [cheapOk, hk, hp, hv, Bool.false_eq_true, if_false, Bool.and_false]
        refine Ev.succ ?_
        simp only [spec_CheapestKits.j0, if_true]
        exact Ev.now _
      | true =>
        simp only [if_true]
        refine Ev.bind (kiParts_ev need hn) ?_
        cases hd : okKit need with
        | false =>
          simp only [cheapOk, hk, hd, Bool.not_false, Bool.false_eq_true, if_false, Bool.true_and, Bool.false_and]
          refine Ev.succ ?_
          simp only [spec_CheapestKits.j0, if_true]
          exact Ev.now _
        | true =>
          have hok : cheapOk l prices need = true := by simp [cheapOk, hk, hd, hp, hv]
          obtain ⟨⟨h6, h7⟩, hn7, _, hb⟩ := cheapOk_all hok
          simp only [Bool.not_true, hok, if_true]
          refine Ev.succ ?_
          simp only [spec_CheapestKits.j0, Bool.false_eq_true, if_false]
          refine Ev.bind (kiBest_ev l prices need h6 h7 hn7 hp) ?_
          rw [best_eq h6 _ _ (fun x hx => sm_bound hb hp (fits_P h6 rfl hx))]
          change Ev (fun k => if (best l prices need).2 < 0 then _ else _) _
          by_cases c : (best l prices need).2 < 0
          · simp only [if_pos c]; exact Ev.now _
          · simp only [if_neg c]; exact Ev.now _
    · simp only [if_neg (show ¬ (prices.length : Int) = (l.length : Int) by omega), cheapOk, hk, hp, decide_false, Bool.and_false, Bool.false_and, Bool.false_eq_true, if_false]
      refine Ev.succ ?_
      simp only [spec_CheapestKits.j0, if_true]
      exact Ev.now _
end Go.Proofs.Ytgblcbgkkfipoaa.Pure
