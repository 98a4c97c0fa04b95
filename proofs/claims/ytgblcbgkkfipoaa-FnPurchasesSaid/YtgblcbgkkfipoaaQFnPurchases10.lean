/-
  Plain lemmas for FnPurchases: what the printed functions answer.
-/
import Derived.Test.YtgblcbgkkfipoaaQFnPurchases6
import Derived.Test.YtgblcbgkkfipoaaQFnPurchases8
import Derived.Test.YtgblcbgkkfipoaaQFnPurchases9
import Derived.Test.YtgblcbgkkfipoaaXFnPurchasesx12
import Derived.Test.YtgblcbgkkfipoaaWEvs
namespace Go.Proofs.Ytgblcbgkkfipoaa.Pure
open Go.RowKit Go.Proofs.YtgblcbgkkfipoaaW.PrintWords Go.Proofs.YtgblcbgkkfipoaaW.PrintLast Go.Proofs.YtgblcbgkkfipoaaW.PrintMore Go.Proofs.YtgblcbgkkfipoaaW.Evs Go.Proofs.Ytgblcbgkkfipoaa.XFnPurchases
set_option linter.unusedVariables false
set_option linter.unusedSimpArgs false
-- two lists of whole numbers held against each other; the inputs' size
theorem same_gen (F : Nat → List Int → List Int → Int → Int → Option Bool)
    (hF : ∀ k x y n i, F (k + 1) x y n i = if i < n then (if 0 ≤ i then (if i < (x.length : Int) then (if i < (y.length : Int) then (if (rd x i) = (rd y i) then (F k x y n (wrap64 (i + 1))) else (some false)) else (none)) else (none)) else (none)) else (some true))
    (x y : List Int) (hl : x.length = y.length) (hx : x.length ≤ 9223372036854775806) : ∀ m i, i + m = x.length → Ev (fun k => F k x y (x.length : Int) (i : Int)) (decide (x.drop i = y.drop i))
  | 0, i, e => by
    refine Ev.succ ?_
    simp only [hF]
    refine Ev.neg (by omega) (ev_some ?_)
    rw [List.drop_of_length_le (by omega), List.drop_of_length_le (by omega)]; simp
  | m + 1, i, e => by
    have hi : i < x.length := by omega
    have hi2 : i < y.length := by omega
    rw [List.drop_eq_getElem_cons hi, List.drop_eq_getElem_cons hi2]
    refine Ev.succ ?_
    simp only [hF, rd_at hi, rd_at hi2, wsucc (show i < 9223372036854775807 by omega)]
    refine Ev.pos (by omega) (Ev.pos (by omega) (Ev.pos (by omega) (Ev.pos (by omega) ?_)))
    by_cases h : x[i] = y[i]
    · refine Ev.pos h (ev_eq (same_gen F hF x y hl hx m (i + 1) (by omega)) ?_)
      simp only [List.cons.injEq, h, true_and]
    · refine Ev.neg h (ev_some ?_)
      simp only [List.cons.injEq, h, false_and, decide_false]
theorem same_f (F : Nat → List Int → List Int → Int → Int → Option Bool)
    (hF : ∀ k x y n i, F (k + 1) x y n i = if i < n then (if 0 ≤ i then (if i < (x.length : Int) then (if i < (y.length : Int) then (if (rd x i) = (rd y i) then (F k x y n (wrap64 (i + 1))) else (some false)) else (none)) else (none)) else (none)) else (some true))
    (x y : List Int) (hx : x.length ≤ 9223372036854775806) : Ev (fun k => if (x.length : Int) = (y.length : Int) then (F k x y (x.length : Int) 0) else (some false)) (decide (x = y)) := by
  by_cases hl : x.length = y.length
  · refine Ev.pos (by omega) ?_
    have := same_gen F hF x y hl hx x.length 0 (by omega)
    simpa using this
  · refine Ev.neg (by omega) (ev_some ?_)
    simp; intro e; exact hl (by rw [e])
theorem sameInts_ev (x y : List Int) (hx : x.length ≤ 9223372036854775806) : Ev (fun k => laws_sameInts.f k x y) (decide (x = y)) := same_f laws_sameInts.l0 (fun _ _ _ _ _ => rfl) x y hx
theorem sameInts_self (x : List Int) (hx : x.length ≤ 9223372036854775806) : Ev (fun k => laws_sameInts.f k x x) true := ev_eq (sameInts_ev x x hx) (by simp)
theorem big_is (a b : List Int) (ha : a.length ≤ 1152921504606846976) (hb : b.length ≤ 1152921504606846976) : ∃ t, laws_big.f a b = some t ∧ (t = false → a.length ≤ 1048576 ∧ b.length ≤ 1048576) := by
  unfold laws_big.f
  by_cases h : (a.length : Int) > 1048576
  · exact ⟨true, by rw [if_pos h], fun h => by cases h⟩
  · refine ⟨_, by rw [if_neg h], fun h2 => ?_⟩
    have h3 := of_decide_eq_false h2
    rw [w64 (by omega) (by omega)] at h3
    omega
-- purchases: the law
theorem best_inv {l : List (List Int)} {prices need : List Int} (h6 : l.length ≤ 6) (h0 : ∀ x ∈ P l.length, 0 ≤ sm prices x) : Inv (en l need) (sm prices) (P l.length) (best l prices need) :=
  stI_inv (en l need) (sm prices) _ (sorted_P ⟨l.length, by omega⟩) h0
theorem cheap_more {l : List (List Int)} {prices need : List Int} (h : (cheapAns l prices need).2.2 = true) :
    okKits l = true ∧ okKit need = true ∧ prices.length = l.length ∧ (∀ v ∈ prices, 0 ≤ v ∧ v ≤ 10000) ∧ (cheapAns l prices need).1 ∈ P l.length ∧ en l need (cheapAns l prices need).1 = true ∧
      (cheapAns l prices need).2.1 = sm prices (cheapAns l prices need).1 ∧ ∀ x ∈ P l.length, en l need x = true → sm prices (cheapAns l prices need).1 ≤ sm prices x := by
  unfold cheapAns at h ⊢
  by_cases hc : cheapOk l prices need = true
  · rw [if_pos hc] at h ⊢
    obtain ⟨⟨h6, h7⟩, hn, hp, hv⟩ := cheapOk_all hc
    by_cases hb : (best l prices need).2 < 0
    · rw [if_pos hb] at h; simp at h
    · rw [if_neg hb]
      have hi := best_inv (l := l) (prices := prices) (need := need) h6 (fun x hx => sm_bound hv hp (fits_P h6 rfl hx))
      have hok := hc
      simp only [cheapOk, Bool.and_eq_true, decide_eq_true_eq] at hok
      rcases hi with ⟨e, _⟩ | ⟨m1, m2, m3, m4⟩
      · rw [e] at hb; simp at hb
      · exact ⟨hok.1.1.1, hok.1.1.2, hp, hv, m1, m2, m3, fun x hx hen => by have := (m4 x hx hen).1; simp only; omega⟩
  · rw [if_neg hc] at h; simp at h
theorem few_more {l : List (List Int)} {need x : List Int} (hk : okKits l = true) (hn : okKit need = true) (hx : x ∈ P l.length) (hen : en l need x = true) :
    (fewAns l need).2 = true ∧ (fewAns l need).1 ∈ P l.length ∧ en l need (fewAns l need).1 = true ∧ (fewAns l need).1.length ≤ x.length := by
  obtain ⟨h6, h7⟩ := okKits_both hk
  have hones : ∀ y ∈ P l.length, sm (List.replicate l.length 1) y = (y.length : Int) := fun y hy => sm_ones (fits_P h6 rfl hy)
  have hi := best_inv (l := l) (prices := List.replicate l.length 1) (need := need) h6 (fun y hy => by rw [hones y hy]; omega)
  unfold fewAns
  rw [if_pos (by rw [hk, hn]; rfl)]
  rcases hi with ⟨e, hno⟩ | ⟨m1, m2, m3, m4⟩
  · have := hno x hx; rw [hen] at this; cases this
  · have e1 := hones _ m1
    rw [if_neg (by rw [m3, e1]; omega)]
    have h4 := (m4 x hx hen).1
    rw [m3, e1, hones x hx] at h4
    exact ⟨rfl, m1, m2, by simp only; omega⟩
theorem kit_price_ans (x y : List Int) (hx : x.length ≤ 7) (hy : y.length ≤ 7) : ∃ a, Ev (fun k => impl_KitPrice.f k x y) a ∧ Ev (fun k => spec_KitPrice.f k x y) a := by
  unfold impl_KitPrice.f spec_KitPrice.f
  have hk := isKit_ev x (by omega)
  have hk2 := kiParts_ev x (by omega)
  cases ho : okKit x with
  | false =>
    rw [ho] at hk hk2
    refine ⟨(0, false), Ev.bind hk (Ev.neg (by simp) (Ev.succ ?_)), Ev.bind hk2 (Ev.neg (by simp) (Ev.succ ?_))⟩
    · simp only [impl_KitPrice.j0]; exact Ev.pos trivial (Ev.now _)
    · simp only [spec_KitPrice.j0]; exact Ev.pos trivial (Ev.now _)
  | true =>
    rw [ho] at hk hk2
    have h7 := okKit_length ho
    by_cases hl : y.length = 7
    · have ha := l1All_ev y 100 (by omega)
      have hall : ∀ (m i : Nat) (s : Int), i + m = 7 → Ev (fun k => impl_KitPrice.l0 k x s y (y.length : Int) (i : Int)) (if (y.drop i).all (fun v => okN v 100) = true then ((List.range' i m).foldl (fun (s : Int) (j : Nat) => wrap64 (s + (wrap64 ((rd x (j : Int)) * (rd y (j : Int)))))) s, true) else (0, false)) := by
        intro m
        induction m with
        | zero =>
          intro i s e
          refine Ev.succ ?_
          simp only [impl_KitPrice.l0]
          refine Ev.neg (by omega) (ev_some ?_)
          rw [List.drop_of_length_le (by omega)]; simp
        | succ m ih =>
          intro i s e
          have hi : i < y.length := by omega
          refine Ev.succ ?_
          rw [List.drop_eq_getElem_cons hi]
          simp only [impl_KitPrice.l0, rd_at hi, wsucc (show i < 9223372036854775807 by omega)]
          refine Ev.pos (by omega) (Ev.pos (by omega) (Ev.pos (by omega) ?_))
          have hcons : (y[i] :: y.drop (i + 1)).all (fun v => okN v 100) = (okN y[i] 100 && (y.drop (i + 1)).all (fun v => okN v 100)) := rfl
          rw [hcons]
          by_cases h0 : y[i] < 0
          · have e1 : okN y[i] 100 = false := by simp [okN]; omega
            rw [e1]; exact Ev.pos h0 (ev_some (by simp))
          · refine Ev.neg h0 ?_
            by_cases h1 : y[i] > 100
            · have e1 : okN y[i] 100 = false := by simp [okN]; omega
              rw [e1]; exact Ev.pos h1 (ev_some (by simp))
            · have e1 : okN y[i] 100 = true := by simp [okN]; omega
              refine Ev.neg h1 (Ev.pos (by omega) (ev_eq (ih (i + 1) _ (by omega)) ?_))
              rw [e1, Bool.true_and, List.range'_succ, List.foldl_cons, rd_at hi]
      have hsp : ∀ (m i : Nat) (s : Int), i + m = 7 → Ev (fun k => spec_KitPrice.l0 k y s x (x.length : Int) (i : Int)) ((List.range' i m).foldl (fun (s : Int) (j : Nat) => wrap64 (s + (wrap64 ((rd x (j : Int)) * (rd y (j : Int)))))) s, true) := by
        intro m
        induction m with
        | zero =>
          intro i s e
          refine Ev.succ ?_
          simp only [spec_KitPrice.l0]
          exact Ev.neg (by omega) (Ev.now _)
        | succ m ih =>
          intro i s e
          refine Ev.succ ?_
          simp only [spec_KitPrice.l0, wsucc (show i < 9223372036854775807 by omega)]
          refine Ev.pos (by omega) (Ev.pos (by omega) (Ev.pos (by omega) (Ev.pos (by omega) ?_)))
          rw [List.range'_succ, List.foldl_cons]
          exact ih (i + 1) _ (by omega)
      refine ⟨(if y.all (fun v => okN v 100) = true then ((List.range' 0 7).foldl (fun (s : Int) (j : Nat) => wrap64 (s + (wrap64 ((rd x (j : Int)) * (rd y (j : Int)))))) 0, true) else (0, false)), Ev.bind hk (Ev.pos rfl (Ev.succ ?_)), Ev.bind hk2 (Ev.pos rfl (Ev.pos (by omega) (Ev.bind ha (Ev.succ ?_))))⟩
      · simp only [impl_KitPrice.j0]
        refine Ev.neg (by simp [hl]) ?_
        exact hall 7 0 0 rfl
      · simp only [spec_KitPrice.j0]
        cases hy2 : y.all (fun v => okN v 100) with
        | true =>
          refine Ev.neg (by simp) ?_
          rw [if_pos rfl]
          exact hsp 7 0 0 rfl
        | false =>
          rw [if_neg (by simp)]
          exact Ev.pos (by simp) (Ev.now _)
    · refine ⟨(0, false), Ev.bind hk (Ev.pos rfl (Ev.succ ?_)), Ev.bind hk2 (Ev.pos rfl (Ev.neg (by omega) (Ev.succ ?_)))⟩
      · simp only [impl_KitPrice.j0]; exact Ev.pos (by simp; omega) (Ev.now _)
      · simp only [spec_KitPrice.j0]; exact Ev.pos trivial (Ev.now _)
open Go.Proofs.Ytgblcbgkkfipoaa.PureB in
theorem needed_ans (a b : Int) (x : List S109) (hx : x.length ≤ 90) : ∃ r : List Int × Bool, r.1.length ≤ 7 ∧ Ev (fun k => impl_NeededParts.f k a b x) r ∧ Ev (fun k => spec_NeededParts.f k a b x) r := by
  unfold impl_NeededParts.f spec_NeededParts.f
  have h1 := isBoard_ev ⟨a, b, x⟩
  have h2 := boGood_ev ⟨a, b, x⟩ (by simp only; omega)
  cases ho : okB ⟨a, b, x⟩ with
  | false =>
    rw [ho] at h1 h2
    exact ⟨([], false), by simp, Ev.bind h1 (Ev.neg (by simp) (Ev.now _)), Ev.bind h2 (Ev.neg (by simp) (Ev.now _))⟩
  | true =>
    have h3 := neededParts_ev _ ho
    have h4 := kiOf_ev _ ho
    rw [ho] at h1 h2
    exact ⟨(parts x, true), by simp only [parts_length]; omega, Ev.bind h1 (Ev.pos rfl (Ev.bind h3 (Ev.now _))), Ev.bind h2 (Ev.pos rfl (Ev.bind h4 (Ev.now _)))⟩
theorem law_j6 {d : List Int} (hd : Bytes d) : EvP (fun k => laws_FnPurchases.j6 k d) (fun v => v = true) := by
  refine EvP.succ ?_
  simp only [laws_FnPurchases.j6]
  refine EvP.bind (drawPrice_ev hd) ?_
  rintro ⟨x, y⟩ ⟨hx, hy⟩
  simp only at hx hy
  obtain ⟨r, hr1, hr2⟩ := kit_price_ans x y hx hy
  refine EvP.bindE hr1 (EvP.bindE hr2 (EvP.bind (drawFew_ev hd) ?_))
  rintro ⟨l, need⟩ ⟨h1, h2, h3⟩
  simp only at h1 h2 h3
  have hf := fewAns_length l need
  refine EvP.bindE (fewest_ev l need (by omega) (fun b hb => by have := h1 b hb; omega) (by omega)) (EvP.bindE (specFew_ev l need (by omega) (fun b hb => by have := h1 b hb; omega) (by omega)) (EvP.bind (drawNeeded_ev hd) ?_))
  rintro ⟨a, b, z⟩ hz
  simp only at hz
  obtain ⟨q, hq, hq1, hq2⟩ := needed_ans a b z hz
  exact EvP.bindE hq1 (EvP.bindE hq2 (EvP.pos (by simp) (EvP.pos rfl (EvP.pos (by simp) (EvP.bindE (sameInts_self _ (by omega)) (EvP.pos rfl (EvP.pos (by simp) (EvP.bindE (sameInts_self _ (by omega)) (EvP.now rfl)))))))))
theorem law_l4 {d : List Int} (hd : Bytes d) (need x z : List Int) (s paid flat : Int) (have_ few : List Int) (hn : need.length = 7) (h1 : have_.length = 7) (h2 : few.length = 7)
    (e1 : ∀ i, i < 7 → enG have_ need i = true) (e2 : ∀ i, i < 7 → enG few need i = true) (hp : paid = s) (hf : s ≤ flat) (hl : z.length ≤ x.length) :
    ∀ (m i : Nat), i + m = 7 → EvP (fun k => laws_FnPurchases.l4 k d x s z paid flat have_ few need (need.length : Int) (i : Int)) (fun v => v = true)
  | 0, i, e => by
    refine EvP.succ ?_
    simp only [laws_FnPurchases.l4]
    exact EvP.neg (by omega) (EvP.pos hp (EvP.neg (by omega) (EvP.neg (by omega) (law_j6 hd))))
  | m + 1, i, e => by
    have g1 := e1 i (by omega)
    have g2 := e2 i (by omega)
    simp only [enG, Bool.not_eq_true', decide_eq_false_iff_not] at g1 g2
    refine EvP.succ ?_
    simp only [laws_FnPurchases.l4, wsucc (show i < 9223372036854775807 by omega)]
    exact EvP.pos (by omega) (EvP.pos (by omega) (EvP.pos (by omega) (EvP.pos (by omega) (EvP.neg g1 (EvP.pos (by omega) (EvP.neg g2 (law_l4 hd need x z s paid flat have_ few hn h1 h2 e1 e2 hp hf hl m (i + 1) (by omega))))))))
theorem en_all {l : List (List Int)} {need x : List Int} (h : en l need x = true) : ∀ i, i < 7 → enG (tot l x) need i = true := fun i hi => allFrom_iff.1 h i (by omega) (by omega)
theorem upto_snoc {σ : Type} (g : Nat → σ → σ) : ∀ m i s, upto g (m + 1) i s = g (i + m) (upto g m i s)
  | 0, i, s => rfl
  | m + 1, i, s => by
    show upto g (m + 1) (i + 1) (g i s) = _
    rw [upto_snoc g m (i + 1) (g i s)]
    show g (i + 1 + m) (upto g m (i + 1) (g i s)) = g (i + (m + 1)) (upto g m (i + 1) (g i s))
    rw [show i + 1 + m = i + (m + 1) by omega]
theorem law_l2 {d : List Int} (hd : Bytes d) (l : List (List Int)) (prices need x z : List Int) (s : Int) (hb : ∀ b ∈ l, b.length = 7) (hpl : prices.length = l.length) (hz : Fits l z) (paid : Int) (have_ : List Int)
    (K : EvP (fun k => laws_FnPurchases.l4 k d x s z paid (sm prices z) have_ (tot l z) need (need.length : Int) 0) (fun v => v = true)) :
    ∀ m i, i + m = z.length → EvP (fun k => laws_FnPurchases.l2 k d l prices need x s z paid (upto (smG prices z) i 0 0) have_ (upto (totG l z) i 0 (List.replicate 7 0)) z (z.length : Int) (i : Int)) (fun v => v = true)
  | 0, i, e => by
    obtain rfl : i = z.length := by omega
    refine EvP.succ ?_
    simp only [laws_FnPurchases.l2]
    exact EvP.neg (by omega) K
  | m + 1, i, e => by
    have hfew := hz.few
    have hi : i < z.length := by omega
    obtain ⟨g1, g2⟩ := hz.mem z[i] (List.getElem_mem _)
    have hn : z[i].toNat < l.length := by omega
    have e1 : rd_L3 l z[i] = l[z[i].toNat] := by simp [rd_L3, hn]
    have hrow := hb l[z[i].toNat] (List.getElem_mem _)
    have ih := law_l2 hd l prices need x z s hb hpl hz paid have_ K m (i + 1) (by omega)
    rw [upto_snoc, upto_snoc, Nat.zero_add] at ih
    have e2 : l.getD z[i].toNat [] = l[z[i].toNat] := by simp [hn]
    have e3 : z.getD i 0 = z[i] := by simp [hi]
    generalize hT : upto (totG l z) i 0 (List.replicate 7 0) = T at ih ⊢
    have hT7 : T.length = 7 := by
      rw [← hT]
      exact upto_inv (g := totG l z) (Inv := fun _ s => s.length = 7) (n := i) (fun i s _ h => rowG_length _ s h) i 0 _ (by omega) (by simp)
    generalize upto (smG prices z) i 0 0 = S at ih ⊢
    simp only [totG, smG, e3, e2] at ih
    refine EvP.succ ?_
    simp only [laws_FnPurchases.l2, rd_at hi]
    refine EvP.pos (by omega) (EvP.pos (by omega) (EvP.pos (by omega) (EvP.pos g1 (EvP.pos (by omega) (EvP.pos g2 ?_)))))
    rw [e1, hrow]
    have hin : ∀ (r j : Nat) (t : List Int), j + r = 7 → t.length = 7 → upto (rowG l[z[i].toNat]) r j t = upto (rowG l[z[i].toNat]) 7 0 T → EvP (fun k => laws_FnPurchases.l3 k d l prices need x s z paid (wrap64 (S + rd prices z[i])) have_ t z (z.length : Int) (i : Int) l[z[i].toNat] ((7 : Nat) : Int) (j : Int)) (fun v => v = true) := by
      intro r
      induction r with
      | zero =>
        intro j t ej ht et
        refine EvP.succ ?_
        simp only [laws_FnPurchases.l3, wsucc (show i < 9223372036854775807 by omega)]
        refine EvP.neg (by omega) ?_
        have et' : t = upto (rowG l[z[i].toNat]) 7 0 T := et
        rw [et']; exact ih
      | succ r ihr =>
        intro j t ej ht et
        refine EvP.succ ?_
        simp only [laws_FnPurchases.l3, wsucc (show j < 9223372036854775807 by omega), Int.toNat_natCast, hrow]
        refine EvP.pos (by omega) (EvP.pos (by omega) (EvP.pos (by omega) (EvP.pos (by omega) ?_)))
        exact ihr (j + 1) _ (by omega) (by simpa using ht) et
    exact hin 7 0 T rfl hT7 rfl
theorem law_l0 {d : List Int} (hd : Bytes d) (l : List (List Int)) (prices need x z : List Int) (s : Int) (hb : ∀ b ∈ l, b.length = 7) (hpl : prices.length = l.length) (hx : Fits l x)
    (K : EvP (fun k => laws_FnPurchases.l2 k d l prices need x s z (sm prices x) 0 (tot l x) (List.replicate 7 0) z (z.length : Int) 0) (fun v => v = true)) :
    ∀ m i, i + m = x.length → EvP (fun k => laws_FnPurchases.l0 k d l prices need x s z (upto (smG prices x) i 0 0) 0 (upto (totG l x) i 0 (List.replicate 7 0)) (List.replicate 7 0) x (x.length : Int) (i : Int)) (fun v => v = true)
  | 0, i, e => by
    obtain rfl : i = x.length := by omega
    refine EvP.succ ?_
    simp only [laws_FnPurchases.l0]
    exact EvP.neg (by omega) K
  | m + 1, i, e => by
    have hfew := hx.few
    have hi : i < x.length := by omega
    obtain ⟨g1, g2⟩ := hx.mem x[i] (List.getElem_mem _)
    have hn : x[i].toNat < l.length := by omega
    have e1 : rd_L3 l x[i] = l[x[i].toNat] := by simp [rd_L3, hn]
    have hrow := hb l[x[i].toNat] (List.getElem_mem _)
    have ih := law_l0 hd l prices need x z s hb hpl hx K m (i + 1) (by omega)
    rw [upto_snoc, upto_snoc, Nat.zero_add] at ih
    have e2 : l.getD x[i].toNat [] = l[x[i].toNat] := by simp [hn]
    have e3 : x.getD i 0 = x[i] := by simp [hi]
    generalize hT : upto (totG l x) i 0 (List.replicate 7 0) = T at ih ⊢
    have hT7 : T.length = 7 := by
      rw [← hT]
      exact upto_inv (g := totG l x) (Inv := fun _ s => s.length = 7) (n := i) (fun i s _ h => rowG_length _ s h) i 0 _ (by omega) (by simp)
    generalize upto (smG prices x) i 0 0 = S at ih ⊢
    simp only [totG, smG, e3, e2] at ih
    refine EvP.succ ?_
    simp only [laws_FnPurchases.l0, rd_at hi]
    refine EvP.pos (by omega) (EvP.pos (by omega) (EvP.pos (by omega) (EvP.pos g1 (EvP.pos (by omega) (EvP.pos g2 ?_)))))
    rw [e1, hrow]
    have hin : ∀ (r j : Nat) (t : List Int), j + r = 7 → t.length = 7 → upto (rowG l[x[i].toNat]) r j t = upto (rowG l[x[i].toNat]) 7 0 T → EvP (fun k => laws_FnPurchases.l1 k d l prices need x s z (wrap64 (S + rd prices x[i])) 0 t (List.replicate 7 0) x (x.length : Int) (i : Int) l[x[i].toNat] ((7 : Nat) : Int) (j : Int)) (fun v => v = true) := by
      intro r
      induction r with
      | zero =>
        intro j t ej ht et
        refine EvP.succ ?_
        simp only [laws_FnPurchases.l1, wsucc (show i < 9223372036854775807 by omega)]
        refine EvP.neg (by omega) ?_
        have et' : t = upto (rowG l[x[i].toNat]) 7 0 T := et
        rw [et']; exact ih
      | succ r ihr =>
        intro j t ej ht et
        refine EvP.succ ?_
        simp only [laws_FnPurchases.l1, wsucc (show j < 9223372036854775807 by omega), Int.toNat_natCast, hrow]
        refine EvP.pos (by omega) (EvP.pos (by omega) (EvP.pos (by omega) (EvP.pos (by omega) ?_)))
        exact ihr (j + 1) _ (by omega) (by simpa using ht) et
    exact hin 7 0 T rfl hT7 rfl
theorem law_ev (c d : List Int) (hc : c.length ≤ 1152921504606846976) (hd : d.length ≤ 1152921504606846976) (bc : ∀ v ∈ c, 0 ≤ v ∧ v ≤ 255) (bd : ∀ v ∈ d, 0 ≤ v ∧ v ≤ 255) :
    EvP (fun k => laws_FnPurchases.f k c d) (fun v => v = true) := by
  unfold laws_FnPurchases.f
  obtain ⟨t, ht, htf⟩ := big_is c d hc hd
  refine EvP.bindS ht (EvP.ite (fun _ => EvP.now rfl) (fun h => ?_))
  have hh := htf (by simpa using h)
  have hC : Bytes c := ⟨hh.1, bc⟩
  have hD : Bytes d := ⟨hh.2, bd⟩
  refine EvP.bind (drawCheap_ev hC) ?_
  rintro ⟨l, prices, need⟩ ⟨h1, h2, h3, h4⟩
  simp only at h1 h2 h3 h4
  have hb : ∀ b ∈ l, b.length ≤ 1048576 := fun b hb => by have := h1 b hb; omega
  have hca := cheapAns_length l prices need
  have hfa := fewAns_length l need
  refine EvP.bindE (cheapest_ev l prices need (by omega) hb (by omega) (by omega)) (EvP.bindE (specCheap_ev l prices need (by omega) hb (by omega) (by omega)) (EvP.bindE (fewest_ev l need (by omega) hb (by omega)) (EvP.bindE (specFew_ev l need (by omega) hb (by omega)) ?_)))
  refine EvP.neg (by simp) (EvP.bindE (sameInts_self _ (by omega)) (EvP.pos rfl (EvP.pos rfl (EvP.neg (by simp) (EvP.bindE (sameInts_self _ (by omega)) (EvP.pos rfl ?_))))))
  cases hok : (cheapAns l prices need).2.2 with
  | false =>
    refine EvP.neg (by simp) (EvP.succ ?_)
    simp only [laws_FnPurchases.j0]
    exact EvP.neg (by simp) (EvP.neg (by simp) (law_j6 hD))
  | true =>
    obtain ⟨g1, g2, g3, g4, g5, g6, g7, g8⟩ := cheap_more hok
    obtain ⟨f1, f2, f3, f4⟩ := few_more g1 g2 g5 g6
    obtain ⟨h6, h7⟩ := okKits_both g1
    have hn7 := okKit_length g2
    rw [f1]
    refine EvP.pos rfl (EvP.succ ?_)
    simp only [laws_FnPurchases.j0]
    refine EvP.neg (by simp) (EvP.pos trivial (EvP.pos (by omega) ?_))
    rw [g7]
    have hfl := g8 _ f2 f3
    refine law_l0 hD l prices need _ _ _ h7 g3 (fits_P h6 rfl g5) ?_ _ 0 (Nat.zero_add _)
    refine law_l2 hD l prices need _ _ _ h7 g3 (fits_P h6 rfl f2) _ _ ?_ _ 0 (Nat.zero_add _)
    exact law_l4 hD need _ _ _ _ _ _ _ hn7 (tot_length _ _) (tot_length _ _) (en_all g6) (en_all f3) rfl hfl f4 7 0 rfl
end Go.Proofs.Ytgblcbgkkfipoaa.Pure
