/-
  Plain lemmas for FnPurchases: what the printed functions answer.
-/
import Derived.Test.YtgblcbgkkfipoaaQFnPurchases3
import Derived.Test.YtgblcbgkkfipoaaWEvs
namespace Go.Proofs.Ytgblcbgkkfipoaa.Pure
open Go.RowKit Go.Proofs.YtgblcbgkkfipoaaW.PrintWords Go.Proofs.YtgblcbgkkfipoaaW.PrintLast Go.Proofs.YtgblcbgkkfipoaaW.PrintMore Go.Proofs.YtgblcbgkkfipoaaW.Evs Go.Proofs.Ytgblcbgkkfipoaa.XFnPurchases
set_option linter.unusedVariables false
set_option linter.unusedSimpArgs false
-- what the two walks over the purchases compute
theorem tot_both : ∀ k, (∀ a b c d e, spec_kiTotal.l0 k a b c d e = impl_sumOfKits.l0 k a b c d e) ∧ (∀ a b c d e f g h, spec_kiTotal.l1 k a b c d e f g h = impl_sumOfKits.l1 k a b c d e f g h)
  | 0 => ⟨fun _ _ _ _ _ => rfl, fun _ _ _ _ _ _ _ _ => rfl⟩
  | k + 1 => by
    obtain ⟨h0, h1⟩ := tot_both k
    constructor
    · intro a b c d e
      simp only [spec_kiTotal.l0, impl_sumOfKits.l0, h1]
    · intro a b c d e f g h
      simp only [spec_kiTotal.l1, impl_sumOfKits.l1, h0, h1]
theorem tot_eq (k : Nat) (l : List (List Int)) (x : List Int) : spec_kiTotal.f k l x = impl_sumOfKits.f k l x := by
  unfold spec_kiTotal.f impl_sumOfKits.f
  rw [(tot_both k).1]
theorem enough_both : ∀ k, (∀ a b c d, spec_kiEnough.l0 k a b c d = impl_isEnough.l0 k a b c d)
  | 0 => fun _ _ _ _ => rfl
  | k + 1 => by
    intro a b c d
    simp only [spec_kiEnough.l0, impl_isEnough.l0, enough_both k]
theorem enough_eq (k : Nat) (t need : List Int) : spec_kiEnough.f k t need = impl_isEnough.f k t need := by
  unfold spec_kiEnough.f impl_isEnough.f
  rw [enough_both k]
def rowG (row : List Int) (j : Nat) (s : List Int) : List Int := s.set j (wrap64 (rd s (j : Int) + rd row (j : Int)))
def totG (l : List (List Int)) (x : List Int) (i : Nat) (s : List Int) : List Int := upto (rowG (l.getD (x.getD i 0).toNat [])) 7 0 s
def tot (l : List (List Int)) (x : List Int) : List Int := upto (totG l x) x.length 0 (List.replicate 7 0)
theorem rowG_length (row : List Int) (s : List Int) (h : s.length = 7) : (upto (rowG row) 7 0 s).length = 7 :=
  upto_inv (g := rowG row) (Inv := fun _ s => s.length = 7) (n := 7) (fun i s _ h => by simpa [rowG] using h) 7 0 s (by omega) h
theorem tot_length (l : List (List Int)) (x : List Int) : (tot l x).length = 7 :=
  upto_inv (g := totG l x) (Inv := fun _ s => s.length = 7) (n := x.length) (fun i s _ h => rowG_length _ s h) x.length 0 _ (by omega) (by simp)
structure Fits (l : List (List Int)) (x : List Int) : Prop where
  few : x.length ≤ 6
  mem : ∀ v ∈ x, 0 ≤ v ∧ v < (l.length : Int)
theorem sum_ev (l : List (List Int)) (x : List Int) (hl : ∀ b ∈ l, b.length = 7) (hx : Fits l x) : Ev (fun k => impl_sumOfKits.f k l x) (tot l x) := by
  have hfew := hx.few
  unfold impl_sumOfKits.f
  simp only [if_pos (show 7 ≤ 35184372088832 by omega)]
  refine ev_for (fun k (s : List Int) i => impl_sumOfKits.l0 k l s x (x.length : Int) i) x.length (totG l x) (fun _ s => s.length = 7) (fun s => s) ?_ ?_ x.length 0 _ (by omega) (by simp)
  · intro i s hi hs
    refine ⟨rowG_length _ s hs, fun r hr => ?_⟩
    obtain ⟨h1, h2⟩ := hx.mem x[i] (List.getElem_mem _)
    refine Ev.succ ?_
    simp only [impl_sumOfKits.l0, if_pos (show (i : Int) < (x.length : Int) by omega), if_pos (show (0 : Int) ≤ (i : Int) by omega), rd_at hi, if_pos h1, if_pos h2]
    have hn : x[i].toNat < l.length := by omega
    have e1 : rd_L3 l x[i] = l[x[i].toNat] := by simp [rd_L3, hn]
    have hrow := hl l[x[i].toNat] (List.getElem_mem _)
    have e2 : l.getD (x.getD i 0).toNat [] = l[x[i].toNat] := by simp [hi, hn]
    simp only [totG, e2] at hr
    simp only [e1, hrow]
    refine ev_for_to (fun k (s : List Int) j => impl_sumOfKits.l1 k l s x (x.length : Int) (i : Int) l[x[i].toNat] ((7 : Nat) : Int) j) 7 (rowG l[x[i].toNat]) (fun _ s => s.length = 7) ?_ 7 0 s (by omega) hs r ?_
    · intro j s hj hs
      refine ⟨by simpa [rowG] using hs, fun r hr => ?_⟩
      refine Ev.succ ?_
      simp only [impl_sumOfKits.l1, if_pos (show (j : Int) < ((7 : Nat) : Int) by omega), if_pos (show (0 : Int) ≤ (j : Int) by omega), hrow, if_pos (show (j : Int) < (s.length : Int) by omega), wsucc (show j < 9223372036854775807 by omega), Int.toNat_natCast]
      exact hr
    · refine Ev.succ ?_
      simp only [impl_sumOfKits.l1, if_neg (show ¬ ((7 : Nat) : Int) < ((7 : Nat) : Int) by omega), wsucc (show i < 9223372036854775807 by omega)]
      exact hr
  · intro s hs
    refine Ev.succ ?_
    simp only [impl_sumOfKits.l0, if_neg (show ¬ (x.length : Int) < (x.length : Int) by omega)]
    exact Ev.now _
def enG (t need : List Int) (i : Nat) : Bool := !decide (rd t (i : Int) < rd need (i : Int))
def en (l : List (List Int)) (need : List Int) (x : List Int) : Bool := allFrom (enG (tot l x) need) 7 0
theorem isEnough_ev (t need : List Int) (h : need.length = 7) (ht : t.length = 7) : Ev (fun k => impl_isEnough.f k t need) (allFrom (enG t need) 7 0) := by
  unfold impl_isEnough.f
  rw [h]
  have key := ev_all (fun k i => impl_isEnough.l0 k t need ((7 : Nat) : Int) i) 7 (enG t need) false true ?_ ?_ ?_ 7 0 (by omega)
  · refine ev_eq key ?_
    rw [if_tf]
  · intro i hi hp r hr
    simp only [enG, Bool.not_eq_true', decide_eq_false_iff_not] at hp
    refine Ev.succ ?_
    simp only [impl_isEnough.l0, if_pos (show (i : Int) < ((7 : Nat) : Int) by omega), if_pos (show (0 : Int) ≤ (i : Int) by omega), if_pos (show (i : Int) < (need.length : Int) by omega), if_pos (show (i : Int) < (t.length : Int) by omega), if_neg hp, wsucc (show i < 9223372036854775807 by omega)]
    exact hr
  · intro i hi hp
    simp only [enG, Bool.not_eq_false', decide_eq_true_eq] at hp
    refine Ev.succ ?_
    simp only [impl_isEnough.l0, if_pos (show (i : Int) < ((7 : Nat) : Int) by omega), if_pos (show (0 : Int) ≤ (i : Int) by omega), if_pos (show (i : Int) < (need.length : Int) by omega), if_pos (show (i : Int) < (t.length : Int) by omega), if_pos hp]
    exact Ev.now _
  · refine Ev.succ ?_
    simp only [impl_isEnough.l0, if_neg (show ¬ ((7 : Nat) : Int) < ((7 : Nat) : Int) by omega)]
    exact Ev.now _
def smG (prices x : List Int) (j : Nat) (s : Int) : Int := wrap64 (s + rd prices (x.getD j 0))
def sm (prices x : List Int) : Int := upto (smG prices x) x.length 0 0
theorem rd_bound {prices : List Int} {c : Int} (h : ∀ v ∈ prices, 0 ≤ v ∧ v ≤ c) {i : Int} (h0 : 0 ≤ i) (h1 : i < (prices.length : Int)) : 0 ≤ rd prices i ∧ rd prices i ≤ c := by
  have hn : i.toNat < prices.length := by omega
  have e : rd prices i = prices[i.toNat] := by simp [rd, hn]
  rw [e]; exact h _ (List.getElem_mem _)
theorem sm_bound {l : List (List Int)} {prices x : List Int} (hp : ∀ v ∈ prices, 0 ≤ v ∧ v ≤ 10000) (hl : prices.length = l.length) (hx : Fits l x) : 0 ≤ sm prices x := by
  have hfew := hx.few
  have := upto_inv (g := smG prices x) (Inv := fun i s => 0 ≤ s ∧ s ≤ 10000 * (i : Int)) (n := x.length) (fun i s hi h => by
    have e : x.getD i 0 = x[i] := by simp [hi]
    obtain ⟨h1, h2⟩ := hx.mem x[i] (List.getElem_mem _)
    obtain ⟨q1, q2⟩ := rd_bound hp h1 (by omega)
    simp only [smG, e]
    rw [w64 (by omega) (by omega)]
    omega) x.length 0 0 (by omega) (by omega)
  exact this.1
theorem sm_ones {l : List (List Int)} {x : List Int} (hx : Fits l x) : sm (List.replicate l.length 1) x = (x.length : Int) := by
  have hfew := hx.few
  exact upto_inv (g := smG (List.replicate l.length 1) x) (Inv := fun i s => s = (i : Int)) (n := x.length) (fun i s hi h => by
    have e : x.getD i 0 = x[i] := by simp [hi]
    obtain ⟨h1, h2⟩ := hx.mem x[i] (List.getElem_mem _)
    obtain ⟨q1, q2⟩ := rd_bound (prices := List.replicate l.length 1) (c := 1) (fun v hv => by rw [List.eq_of_mem_replicate hv]; omega) h1 (by simpa using h2)
    have q3 : rd (List.replicate l.length (1 : Int)) x[i] = 1 := by
      have hn : x[i].toNat < l.length := by omega
      simp [rd, hn]
    simp only [smG, e, q3]
    rw [w64 (by omega) (by omega)]
    omega) x.length 0 0 (by omega) (by omega)
theorem fits_P {n : Nat} (hn : n ≤ 6) {l : List (List Int)} (hl : l.length = n) {x : List Int} (hx : x ∈ P n) : Fits l x := by
  obtain ⟨h1, h2⟩ := el_P ⟨n, by omega⟩ x hx
  exact ⟨h1, fun v hv => by rw [hl]; exact h2 v hv⟩
theorem kiBest_ev (l : List (List Int)) (prices need : List Int) (h6 : l.length ≤ 6) (hl : ∀ b ∈ l, b.length = 7) (hn : need.length = 7) (hp : prices.length = l.length) :
    Ev (fun k => spec_kiBest.f k l prices need) ((E l.length).foldl (stS (en l need) (sm prices)) ([], -1)) := by
  unfold spec_kiBest.f
  have h64 := pow_le h6
  obtain ⟨hs1, hs2⟩ : shl .i64 1 (IntKind.u64.wrap (l.length : Int)) = ((2 ^ l.length : Nat) : Int) ∧ 0 ≤ IntKind.u64.wrap (l.length : Int) := shl_at ⟨l.length, by omega⟩
  have key := ev_for (fun k (s : List Int × Int) i => spec_kiBest.l0 k l prices need s.1 s.2 i) (2 ^ l.length) (fun i s => stS (en l need) (sm prices) s (sub i)) (fun _ _ => True) (fun s => (s.1, s.2)) ?_ ?_ (2 ^ l.length) 0 ([], -1) (by omega) trivial
  · refine ev_eq key ?_
    rw [upto_foldl (stS (en l need) (sm prices)) (E l.length) (fun i s => stS (en l need) (sm prices) s (sub i)) (fun i s h => by simp [E]) (2 ^ l.length) 0 _ (by simp [E])]
    rfl
  · intro i s hi _
    refine ⟨trivial, fun r hr => ?_⟩
    have hmem := (mem_PE h6 (sub i)).1 (List.mem_map.2 ⟨i, by simpa using hi, rfl⟩)
    have hf := fits_P h6 rfl hmem
    have hfew := hf.few
    refine Ev.succ ?_
    simp only [spec_kiBest.l0, if_pos hs2, hs1, if_pos (show (i : Int) < ((2 ^ l.length : Nat) : Int) by omega)]
    refine Ev.bind (kiList_ev h6 hi) ?_
    refine Ev.bind (show Ev (fun k => spec_kiTotal.f k l (sub i)) (tot l (sub i)) by simp only [tot_eq]; exact sum_ev l _ hl hf) ?_
    refine Ev.bind (show Ev (fun k => spec_kiEnough.f k (tot l (sub i)) need) (en l need (sub i)) by simp only [enough_eq]; exact isEnough_ev _ _ hn (tot_length _ _)) ?_
    cases he : en l need (sub i) with
    | false =>
      simp only [Bool.false_eq_true, if_false, wsucc (show i < 9223372036854775807 by omega)]
      simp only [stS, he, Bool.false_eq_true, if_false] at hr
      exact hr
    | true =>
      simp only [if_true]
      refine ev_for_to (fun k (q : Int) j => spec_kiBest.l1 k l prices need s.1 s.2 (i : Int) (sub i) q (sub i) ((sub i).length : Int) j) (sub i).length (smG prices (sub i)) (fun _ _ => True) ?_ (sub i).length 0 0 (by omega) trivial r ?_
      · intro j q hj _
        refine ⟨trivial, fun r hr => ?_⟩
        obtain ⟨h1, h2⟩ := hf.mem (sub i)[j] (List.getElem_mem _)
        have e : (sub i).getD j 0 = (sub i)[j] := by simp [hj]
        simp only [smG, e] at hr
        refine Ev.succ ?_
        simp only [spec_kiBest.l1, if_pos (show (j : Int) < ((sub i).length : Int) by omega), if_pos (show (0 : Int) ≤ (j : Int) by omega), rd_at hj, if_pos h1, if_pos (show (sub i)[j] < (prices.length : Int) by omega), wsucc (show j < 9223372036854775807 by omega)]
        exact hr
      · refine Ev.succ ?_
        change Ev (fun k => spec_kiBest.l1 (k + 1) l prices need s.1 s.2 (i : Int) (sub i) (sm prices (sub i)) (sub i) ((sub i).length : Int) ((sub i).length : Int)) r
        simp only [spec_kiBest.l1, if_neg (show ¬ ((sub i).length : Int) < ((sub i).length : Int) by omega), wsucc (show i < 9223372036854775807 by omega)]
        simp only [stS, he, if_true] at hr
        by_cases c1 : s.2 < 0
        · simp only [if_pos c1] at hr ⊢; exact hr
        · simp only [if_neg c1] at hr ⊢
          by_cases c2 : sm prices (sub i) < s.2
          · simp only [if_pos c2] at hr ⊢; exact hr
          · simp only [if_neg c2] at hr ⊢
            by_cases c3 : sm prices (sub i) = s.2
            · simp only [if_pos c3] at hr ⊢
              refine Ev.bind (kiBefore_ev (sub i) s.1 (by omega)) ?_
              by_cases c4 : bef (sub i) s.1 = true
              · simp only [if_pos c4] at hr ⊢; exact hr
              · simp only [if_neg c4] at hr ⊢; exact hr
            · simp only [if_neg c3] at hr ⊢; exact hr
  · intro s _
    refine Ev.succ ?_
    simp only [spec_kiBest.l0, if_pos hs2, hs1, if_neg (show ¬ ((2 ^ l.length : Nat) : Int) < ((2 ^ l.length : Nat) : Int) by omega)]
    exact Ev.now _
theorem purchases_is {n : Nat} (h : n ≤ 6) : impl_purchases.f (n : Int) = some (P n) := by
  unfold impl_purchases.f
  rw [if_pos (by omega), Int.toNat_natCast]; rfl
end Go.Proofs.Ytgblcbgkkfipoaa.Pure
