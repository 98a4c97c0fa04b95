/-
  Plain lemmas for FnPurchases: what the printed functions answer.
-/
import Derived.Test.YtgblcbgkkfipoaaQFnPurchases4
import Derived.Test.YtgblcbgkkfipoaaXFnPurchasesx8
import Derived.Test.YtgblcbgkkfipoaaXFnPurchasesx9
import Derived.Test.YtgblcbgkkfipoaaXFnPurchasesx4
import Derived.Test.YtgblcbgkkfipoaaWEvs
namespace Go.Proofs.Ytgblcbgkkfipoaa.Pure
open Go.RowKit Go.Proofs.YtgblcbgkkfipoaaW.PrintWords Go.Proofs.YtgblcbgkkfipoaaW.PrintLast Go.Proofs.YtgblcbgkkfipoaaW.PrintMore Go.Proofs.YtgblcbgkkfipoaaW.Evs Go.Proofs.Ytgblcbgkkfipoaa.XFnPurchases
set_option linter.unusedVariables false
set_option linter.unusedSimpArgs false
-- the program's own walks, and the answers
def best (l : List (List Int)) (prices need : List Int) : List Int × Int := (P l.length).foldl (stI (en l need) (sm prices)) ([], -1)
theorem best_length (l : List (List Int)) (prices need : List Int) (h6 : l.length ≤ 6) (h0 : ∀ x ∈ P l.length, 0 ≤ sm prices x) : (best l prices need).1.length ≤ 6 := by
  rcases stI_inv (en l need) (sm prices) _ (sorted_P ⟨l.length, by omega⟩) h0 with ⟨h, _⟩ | h
  · unfold best; rw [h]; simp
  · exact (el_P ⟨l.length, by omega⟩ _ h.1).1
theorem okKit_length {x : List Int} (h : okKit x = true) : x.length = 7 := by
  simp only [okKit, Bool.and_eq_true, decide_eq_true_eq] at h; exact h.1
theorem okKits_both {l : List (List Int)} (h : okKits l = true) : l.length ≤ 6 ∧ ∀ b ∈ l, b.length = 7 := by
  simp only [okKits, Bool.and_eq_true, decide_eq_true_eq] at h
  exact ⟨h.1.2, fun b hb => okKit_length (List.all_eq_true.1 h.2 b hb)⟩
def stF (en : List Int → Bool) (s : List Int × Bool) (x : List Int) : List Int × Bool :=
  if en x = true then (if s.2 = true then (if (x.length : Int) < (s.1.length : Int) then (x, true) else s) else (x, true)) else s
def same (s : List Int × Bool) (t : List Int × Int) : Prop := s.1 = t.1 ∧ ((s.2 = false ∧ t.2 = -1) ∨ (s.2 = true ∧ t.2 = (t.1.length : Int)))
theorem fold_same (en : List Int → Bool) (sm : List Int → Int) : ∀ (L : List (List Int)) s t, (∀ x ∈ L, sm x = (x.length : Int)) → same s t → same (L.foldl (stF en) s) (L.foldl (stI en sm) t)
  | [], s, t, _, h => h
  | x :: L, ⟨sb, sf⟩, ⟨tb, tm⟩, hL, h => by
    refine fold_same en sm L _ _ (fun y hy => hL y (List.mem_cons_of_mem _ hy)) ?_
    have hx := hL x (List.mem_cons_self ..)
    obtain ⟨h1, h2⟩ := h
    simp only at h1 h2
    subst h1
    unfold stF stI
    cases hen : en x with
    | false => simp only [Bool.false_eq_true, if_false]; exact ⟨rfl, h2⟩
    | true =>
      simp only [if_true]
      rcases h2 with ⟨rfl, rfl⟩ | ⟨rfl, rfl⟩
      · simp only [Bool.false_eq_true, if_false, if_pos (show (-1 : Int) < 0 by omega)]
        exact ⟨rfl, .inr ⟨rfl, hx⟩⟩
      · simp only [if_true, if_neg (show ¬ (sb.length : Int) < 0 by omega), hx]
        by_cases c : (x.length : Int) < (sb.length : Int)
        · simp only [if_pos c]; exact ⟨rfl, .inr ⟨rfl, rfl⟩⟩
        · simp only [if_neg c]; exact ⟨rfl, .inr ⟨rfl, rfl⟩⟩
theorem fewest_l0 (l : List (List Int)) (need : List Int) (h6 : l.length ≤ 6) (hl : ∀ b ∈ l, b.length = 7) (hn : need.length = 7) :
    Ev (fun k => impl_FewestKits.l0 k l need (P l.length) [] false 0) (if ((P l.length).foldl (stF (en l need)) ([], false)).2 = true then (((P l.length).foldl (stF (en l need)) ([], false)).1, true) else ([], false)) := by
  have hlen : (P l.length).length ≤ 64 := by
    have : ∀ n : Fin 7, (P n.val).length ≤ 64 := by decide +kernel
    exact this ⟨l.length, by omega⟩
  have key := ev_for (fun k (s : List Int × Bool) i => impl_FewestKits.l0 k l need (P l.length) s.1 s.2 i) (P l.length).length (fun i s => stF (en l need) s ((P l.length).getD i [])) (fun _ _ => True) (fun s => if s.2 = true then (s.1, true) else ([], false)) ?_ ?_ (P l.length).length 0 ([], false) (by omega) trivial
  · rw [upto_foldl (stF (en l need)) (P l.length) (fun i s => stF (en l need) s ((P l.length).getD i [])) (fun i s h => by simp [h]) (P l.length).length 0 _ (by omega)] at key
    exact key
  · rintro i ⟨b, f⟩ hi _
    refine ⟨trivial, fun r hr => ?_⟩
    have e : (P l.length).getD i [] = (P l.length)[i] := by simp [hi]
    rw [e] at hr
    have hf := fits_P h6 rfl (List.getElem_mem hi)
    refine Ev.succ ?_
    simp only [impl_FewestKits.l0, if_pos (show (i : Int) < ((P l.length).length : Int) by omega), if_pos (show (0 : Int) ≤ (i : Int) by omega), rdRow_at hi, wsucc (show i < 9223372036854775807 by omega)]
    refine Ev.bind (sum_ev l _ hl hf) (Ev.bind (isEnough_ev _ _ hn (tot_length _ _)) ?_)
    change Ev (fun k => if en l need (P l.length)[i] = true then _ else _) r
    unfold stF at hr
    cases hen : en l need (P l.length)[i] with
    | false => simp only [hen, Bool.false_eq_true, if_false] at hr ⊢; exact hr
    | true =>
      simp only [hen, if_true] at hr ⊢
      cases f with
      | false => simp only [Bool.false_eq_true, if_false] at hr ⊢; exact hr
      | true =>
        simp only [if_true] at hr ⊢
        by_cases c : ((P l.length)[i].length : Int) < (b.length : Int)
        · simp only [if_pos c] at hr ⊢; exact hr
        · simp only [if_neg c] at hr ⊢; exact hr
  · rintro ⟨b, f⟩ _
    refine Ev.succ ?_
    simp only [impl_FewestKits.l0, if_neg (show ¬ ((P l.length).length : Int) < ((P l.length).length : Int) by omega)]
    cases f <;> exact Ev.now _
def fewAns (l : List (List Int)) (need : List Int) : List Int × Bool :=
  if (okKits l && okKit need) = true then (if (best l (List.replicate l.length 1) need).2 < 0 then ([], false) else ((best l (List.replicate l.length 1) need).1, true)) else ([], false)
theorem fewAns_length (l : List (List Int)) (need : List Int) : (fewAns l need).1.length ≤ 6 := by
  unfold fewAns
  split
  · rename_i h
    rw [Bool.and_eq_true] at h
    obtain ⟨h6, _⟩ := okKits_both h.1
    split
    · simp
    · exact best_length _ _ _ h6 (fun x hx => by rw [sm_ones (fits_P h6 rfl hx)]; omega)
  · simp
theorem fewest_ev (l : List (List Int)) (need : List Int) (hl : l.length ≤ 1048576) (hb : ∀ b ∈ l, b.length ≤ 1048576) (hn : need.length ≤ 1048576) : Ev (fun k => impl_FewestKits.f k l need) (fewAns l need) := by
  unfold impl_FewestKits.f fewAns
  refine Ev.bind (areKits_ev l hl hb) ?_
  cases hk : okKits l with
  | false => simp only [Bool.false_eq_true, if_false, Bool.false_and]; exact Ev.now _
  | true =>
    simp only [if_true, Bool.true_and]
    refine Ev.bind (isKit_ev need hn) ?_
    cases hd : okKit need with
    | false => simp only [Bool.false_eq_true, if_false]; exact Ev.now _
    | true =>
      obtain ⟨h6, h7⟩ := okKits_both hk
      simp only [if_true, purchases_is h6, Option.bind_some]
      refine ev_eq (fewest_l0 l need h6 h7 (okKit_length hd)) ?_
      have hs := fold_same (en l need) (sm (List.replicate l.length 1)) (P l.length) ([], false) ([], -1) (fun x hx => sm_ones (fits_P h6 rfl hx)) ⟨rfl, .inl ⟨rfl, rfl⟩⟩
      change same _ (best l (List.replicate l.length 1) need) at hs
      obtain ⟨e1, e2⟩ := hs
      rcases e2 with ⟨e2, e3⟩ | ⟨e2, e3⟩
      · rw [e2, e3, if_neg (by simp), if_pos (by omega)]
      · rw [e2, e3, if_pos rfl, if_neg (by omega), e1]
theorem ones_loop (l : List (List Int)) (need : List Int) (n : Nat) (hn : n ≤ 6) (r : List Int × Bool) (h : Ev (fun k => spec_FewestKits.l0 k l need (List.replicate n 1) (n : Int) (n : Int)) r) :
    Ev (fun k => spec_FewestKits.l0 k l need (List.replicate n 0) (n : Int) 0) r := by
  refine ev_for_to (fun k (s : List Int) i => spec_FewestKits.l0 k l need s (n : Int) i) n (fun i s => s.set i 1) (fun i s => s.length = n ∧ s.take i = List.replicate i 1) ?_ n 0 (List.replicate n 0) (by omega) (by simp) r ?_
  · rintro i s hi ⟨h1, h2⟩
    refine ⟨⟨by simpa using h1, ?_⟩, fun r hr => ?_⟩
    · rw [List.take_succ_eq_append_getElem (by simpa [h1] using hi), List.getElem_set_self, List.take_set_of_le (Nat.le_refl _), h2, List.replicate_succ']
    · refine Ev.succ ?_
      simp only [spec_FewestKits.l0, if_pos (show (i : Int) < (n : Int) by omega), if_pos (show (0 : Int) ≤ (i : Int) by omega), if_pos (show (i : Int) < (s.length : Int) by omega), wsucc (show i < 9223372036854775807 by omega), Int.toNat_natCast]
      exact hr
  · obtain ⟨h1, h2⟩ := upto_inv (g := fun i (s : List Int) => s.set i 1) (Inv := fun i s => s.length = n ∧ s.take i = List.replicate i 1) (n := n) (fun i s hi hs => ⟨by simpa using hs.1, by
      rw [List.take_succ_eq_append_getElem (by simpa [hs.1] using hi), List.getElem_set_self, List.take_set_of_le (Nat.le_refl _), hs.2, List.replicate_succ']⟩) n 0 (List.replicate n 0) (by omega) (by simp)
    rw [List.take_of_length_le (by omega)] at h2
    rw [h2]; exact h
theorem specFew_ev (l : List (List Int)) (need : List Int) (hl : l.length ≤ 1048576) (hb : ∀ b ∈ l, b.length ≤ 1048576) (hn : need.length ≤ 1048576) : Ev (fun k => spec_FewestKits.f k l need) (fewAns l need) := by
  unfold spec_FewestKits.f fewAns
  refine Ev.bind (kiKits_ev l hl hb) ?_
  cases hk : okKits l with
  | false =>
    simp only [Bool.false_eq_true, if_false, Bool.false_and]
    refine Ev.succ ?_
    simp only [spec_FewestKits.j0, if_true]
    exact Ev.now _
  | true =>
    simp only [if_true, Bool.true_and]
    refine Ev.bind (kiParts_ev need hn) ?_
    cases hd : okKit need with
    | false =>
      simp only [Bool.not_false, Bool.false_eq_true, if_false]
      refine Ev.succ ?_
      simp only [spec_FewestKits.j0, if_true]
      exact Ev.now _
    | true =>
      obtain ⟨h6, h7⟩ := okKits_both hk
      simp only [Bool.not_true, if_true]
      refine Ev.succ ?_
      simp only [spec_FewestKits.j0, Bool.false_eq_true, if_false, if_pos (show (0 : Int) ≤ (l.length : Int) by omega), Int.toNat_natCast, if_pos (show l.length ≤ 35184372088832 by omega), Option.bind_some, List.length_replicate]
      refine ones_loop l need l.length h6 _ ?_
      refine Ev.succ ?_
      simp only [spec_FewestKits.l0, if_neg (show ¬ (l.length : Int) < (l.length : Int) by omega)]
      refine Ev.bind (kiBest_ev l (List.replicate l.length 1) need h6 h7 (okKit_length hd) (by simp)) ?_
      rw [best_eq h6 _ _ (fun x hx => by rw [sm_ones (fits_P h6 rfl hx)]; omega)]
      change Ev (fun k => if (best l (List.replicate l.length 1) need).2 < 0 then _ else _) _
      by_cases c : (best l (List.replicate l.length 1) need).2 < 0
      · simp only [if_pos c]; exact Ev.now _
      · simp only [if_neg c]; exact Ev.now _
end Go.Proofs.Ytgblcbgkkfipoaa.Pure
