/-
  Plain lemmas for FnPurchases: what the printed functions answer.
-/
import Derived.Test.YtgblcbgkkfipoaaQFnPurchases2
import Derived.Test.YtgblcbgkkfipoaaXFnPurchasesx8
import Derived.Test.YtgblcbgkkfipoaaXFnPurchasesx9
import Derived.Test.YtgblcbgkkfipoaaWEvs
namespace Go.Proofs.Ytgblcbgkkfipoaa.Pure
open Go.RowKit Go.Proofs.YtgblcbgkkfipoaaW.PrintWords Go.Proofs.YtgblcbgkkfipoaaW.PrintLast Go.Proofs.YtgblcbgkkfipoaaW.PrintMore Go.Proofs.YtgblcbgkkfipoaaW.Evs Go.Proofs.Ytgblcbgkkfipoaa.XFnPurchases
set_option linter.unusedVariables false
set_option linter.unusedSimpArgs false
-- purchases: the sets as they are numbered, and as they are listed
def sub (s : Nat) : List Int := (List.range 6).filterMap fun b => if s.testBit b then some (b : Int) else none
def bef : List Int → List Int → Bool
  | [], [] => false
  | [], _ :: _ => true
  | _ :: _, [] => false
  | a :: as_, b :: bs => if a = b then bef as_ bs else decide (a < b)
def P (n : Nat) : List (List Int) := [] :: impl_purchases.tails n [] 0
def E (n : Nat) : List (List Int) := (List.range (2 ^ n)).map sub
theorem kiList_at : ∀ s : Fin 64, spec_kiList.f 10 (s.val : Int) = some (sub s.val) := by decide +kernel
theorem sorted_P : ∀ n : Fin 7, (P n.val).Pairwise (fun a b => bef b a = false) := by decide +kernel
theorem sub_P : ∀ n : Fin 7, (∀ s ∈ List.range (2 ^ n.val), sub s ∈ P n.val) ∧ (∀ x ∈ P n.val, x ∈ E n.val) := by decide +kernel
theorem el_P : ∀ n : Fin 7, ∀ x ∈ P n.val, x.length ≤ 6 ∧ ∀ v ∈ x, 0 ≤ v ∧ v < (n.val : Int) := by decide +kernel
theorem shl_at : ∀ n : Fin 7, shl .i64 1 (IntKind.u64.wrap (n.val : Int)) = ((2 ^ n.val : Nat) : Int) ∧ 0 ≤ IntKind.u64.wrap (n.val : Int) := by decide +kernel
theorem pow_le {n : Nat} (h : n ≤ 6) : 2 ^ n ≤ 64 := Nat.pow_le_pow_right (by omega) h
theorem kiList_ev {n s : Nat} (hn : n ≤ 6) (h : s < 2 ^ n) : Ev (fun k => spec_kiList.f k (s : Int)) (sub s) :=
  Ev.of (fun k => spec_kiList.mono _ k) (kiList_at ⟨s, by have := pow_le hn; omega⟩)
theorem mem_PE {n : Nat} (hn : n ≤ 6) (x : List Int) : x ∈ E n ↔ x ∈ P n := by
  constructor
  · intro h
    obtain ⟨s, hs, rfl⟩ := List.mem_map.1 h
    exact (sub_P ⟨n, by omega⟩).1 s hs
  · exact (sub_P ⟨n, by omega⟩).2 x
theorem bef_irr : ∀ x, bef x x = false
  | [] => rfl
  | a :: as_ => by simp [bef, bef_irr as_]
theorem bef_tot : ∀ x y, bef x y = false → bef y x = false → x = y
  | [], [], _, _ => rfl
  | [], _ :: _, h, _ => by simp [bef] at h
  | _ :: _, [], _, h => by simp [bef] at h
  | a :: as_, b :: bs, h, k => by
    by_cases e : a = b
    · subst e
      simp only [bef, if_true] at h k
      rw [bef_tot as_ bs h k]
    · simp only [bef, if_neg e, if_neg (Ne.symm e), decide_eq_false_iff_not] at h k
      omega
theorem bef_trans : ∀ x y z, bef x y = true → bef y z = true → bef x z = true
  | [], _, [], _, k => by rename_i y _; cases y <;> simp [bef] at k
  | [], _, _ :: _, _, _ => rfl
  | _ :: _, [], _, h, _ => by simp [bef] at h
  | _ :: _, _ :: _, [], _, k => by simp [bef] at k
  | a :: as_, b :: bs, c :: cs, h, k => by
    simp only [bef] at h k ⊢
    by_cases e : a = b
    · subst e
      rw [if_pos rfl] at h
      by_cases e2 : a = c
      · subst e2
        rw [if_pos rfl] at k ⊢
        exact bef_trans _ _ _ h k
      · rw [if_neg e2] at k ⊢
        exact k
    · rw [if_neg e, decide_eq_true_eq] at h
      by_cases e2 : b = c
      · subst e2
        rw [if_neg e, decide_eq_true_eq]
        exact h
      · rw [if_neg e2, decide_eq_true_eq] at k
        rw [if_neg (by omega), decide_eq_true_eq]
        omega
theorem kiBefore_l0 (x y : List Int) (hx : x.length ≤ 1048576) : ∀ m i, i + m = x.length → i ≤ y.length → Ev (fun k => spec_kiBefore.l0 k x y x (x.length : Int) (i : Int)) (bef (x.drop i) (y.drop i))
  | 0, i, e, hi => by
    have : i = x.length := by omega
    subst this
    refine Ev.succ ?_
    simp only [spec_kiBefore.l0, if_neg (show ¬ (x.length : Int) < (x.length : Int) by omega)]
    refine ev_some ?_
    rw [List.drop_length]
    by_cases h : x.length < y.length
    · rw [List.drop_eq_getElem_cons h]; simp [bef]; omega
    · rw [List.drop_of_length_le (by omega)]; simp [bef]; omega
  | m + 1, i, e, hi => by
    have hi1 : i < x.length := by omega
    refine Ev.succ ?_
    simp only [spec_kiBefore.l0, if_pos (show (i : Int) < (x.length : Int) by omega), if_pos (show (0 : Int) ≤ (i : Int) by omega)]
    rw [List.drop_eq_getElem_cons hi1]
    by_cases h : i = y.length
    · simp only [if_pos (show (i : Int) = (y.length : Int) by omega), if_neg (show ¬ (i : Int) < (y.length : Int) by omega)]
      refine ev_some ?_
      rw [show y.drop i = [] from List.drop_of_length_le (by omega)]; simp [bef]
    · have hi2 : i < y.length := by omega
      rw [List.drop_eq_getElem_cons hi2]
      simp only [if_neg (show ¬ (i : Int) = (y.length : Int) by omega), if_pos (show (i : Int) < (y.length : Int) by omega), rd_at hi1, rd_at hi2, bef]
      by_cases h2 : x[i] = y[i]
      · simp only [if_pos h2, wsucc (show i < 9223372036854775807 by omega)]
        exact kiBefore_l0 x y hx m (i + 1) (by omega) (by omega)
      · simp only [if_neg h2]
        exact Ev.now _
theorem kiBefore_ev (x y : List Int) (hx : x.length ≤ 1048576) : Ev (fun k => spec_kiBefore.f k x y) (bef x y) := by
  have := kiBefore_l0 x y hx x.length 0 (by omega) (by omega)
  unfold spec_kiBefore.f
  simpa using this
-- the best of a list
def stS (en : List Int → Bool) (sm : List Int → Int) (s : List Int × Int) (x : List Int) : List Int × Int :=
  if en x = true then (if s.2 < 0 then (x, sm x) else if sm x < s.2 then (x, sm x) else if sm x = s.2 then (if bef x s.1 = true then (x, sm x) else s) else s) else s
def stI (en : List Int → Bool) (sm : List Int → Int) (s : List Int × Int) (x : List Int) : List Int × Int :=
  if en x = true then (if s.2 < 0 then (x, sm x) else if sm x < s.2 then (x, sm x) else s) else s
def Inv (en : List Int → Bool) (sm : List Int → Int) (Q : List (List Int)) (s : List Int × Int) : Prop :=
  (s = ([], -1) ∧ ∀ x ∈ Q, en x = false) ∨ (s.1 ∈ Q ∧ en s.1 = true ∧ s.2 = sm s.1 ∧ ∀ x ∈ Q, en x = true → s.2 ≤ sm x ∧ (sm x = s.2 → bef x s.1 = false))
theorem fold_inv {σ : Type} (f : σ → List Int → σ) (I : List (List Int) → σ → Prop) (L : List (List Int)) (h : ∀ Q x R s, Q ++ x :: R = L → I Q s → I (Q ++ [x]) (f s x)) :
    ∀ R Q s, Q ++ R = L → I Q s → I L (R.foldl f s)
  | [], Q, s, e, hs => by
    rw [List.append_nil] at e
    subst e; exact hs
  | x :: R, Q, s, e, hs => fold_inv f I L h R (Q ++ [x]) (f s x) (by simpa using e) (h Q x R s e hs)
theorem inv_first {en : List Int → Bool} {sm : List Int → Int} {Q : List (List Int)} {x : List Int} (hx : en x = true) (h : ∀ y ∈ Q, en y = true → sm x ≤ sm y ∧ (sm y = sm x → bef y x = false)) : Inv en sm (Q ++ [x]) (x, sm x) := by
  refine .inr ⟨by simp, hx, rfl, fun y hy hey => ?_⟩
  rcases List.mem_append.1 hy with hy | hy
  · exact h y hy hey
  · rw [List.mem_singleton.1 hy]
    exact ⟨Int.le_refl _, fun _ => bef_irr x⟩
theorem inv_keep {en : List Int → Bool} {sm : List Int → Int} {Q : List (List Int)} {s : List Int × Int} {x : List Int} (h : s.1 ∈ Q ∧ en s.1 = true ∧ s.2 = sm s.1 ∧ ∀ x ∈ Q, en x = true → s.2 ≤ sm x ∧ (sm x = s.2 → bef x s.1 = false))
    (hx : en x = true → s.2 ≤ sm x ∧ (sm x = s.2 → bef x s.1 = false)) : Inv en sm (Q ++ [x]) s := by
  refine .inr ⟨List.mem_append.2 (.inl h.1), h.2.1, h.2.2.1, fun y hy hey => ?_⟩
  rcases List.mem_append.1 hy with hy | hy
  · exact h.2.2.2 y hy hey
  · rw [List.mem_singleton.1 hy] at hey ⊢
    exact hx hey
theorem inv_none {en : List Int → Bool} {sm : List Int → Int} {Q : List (List Int)} {x : List Int} (hx : en x = false) (h : ∀ x ∈ Q, en x = false) : Inv en sm (Q ++ [x]) ([], -1) := by
  refine .inl ⟨rfl, fun y hy => ?_⟩
  rcases List.mem_append.1 hy with hy | hy
  · exact h y hy
  · rw [List.mem_singleton.1 hy]; exact hx
theorem stI_inv (en : List Int → Bool) (sm : List Int → Int) (L : List (List Int)) (hs : L.Pairwise (fun a b => bef b a = false)) (h0 : ∀ x ∈ L, 0 ≤ sm x) : Inv en sm L (L.foldl (stI en sm) ([], -1)) := by
  refine fold_inv _ (Inv en sm) L ?_ L [] _ rfl (.inl ⟨rfl, by simp⟩)
  intro Q x R s e hi
  subst e
  have hord : ∀ q ∈ Q, bef x q = false := fun q hq => (List.pairwise_append.1 hs).2.2 q hq x (by simp)
  unfold stI
  by_cases hx : en x = true
  · rw [if_pos hx]
    rcases hi with ⟨rfl, hi⟩ | hi
    · rw [if_pos (by omega)]
      exact inv_first hx (fun y hy hey => by rw [hi y hy] at hey; cases hey)
    · have hp := h0 s.1 (List.mem_append.2 (.inl hi.1))
      have h2 := hi.2.2.1
      rw [if_neg (by omega)]
      by_cases hlt : sm x < s.2
      · rw [if_pos hlt]
        exact inv_first hx (fun y hy hey => by have := (hi.2.2.2 y hy hey).1; exact ⟨by omega, fun _ => by omega⟩)
      · rw [if_neg hlt]
        exact inv_keep hi (fun _ => ⟨by omega, fun _ => hord _ hi.1⟩)
  · rw [if_neg hx]
    rcases hi with ⟨rfl, hi⟩ | hi
    · exact inv_none (by simpa using hx) hi
    · exact inv_keep hi (fun h => absurd h hx)
theorem stS_inv (en : List Int → Bool) (sm : List Int → Int) (L : List (List Int)) (h0 : ∀ x ∈ L, 0 ≤ sm x) : Inv en sm L (L.foldl (stS en sm) ([], -1)) := by
  refine fold_inv _ (Inv en sm) L ?_ L [] _ rfl (.inl ⟨rfl, by simp⟩)
  intro Q x R s e hi
  subst e
  unfold stS
  by_cases hx : en x = true
  · rw [if_pos hx]
    rcases hi with ⟨rfl, hi⟩ | hi
    · rw [if_pos (by omega)]
      exact inv_first hx (fun y hy hey => by rw [hi y hy] at hey; cases hey)
    · have hp := h0 s.1 (List.mem_append.2 (.inl hi.1))
      have h2 := hi.2.2.1
      rw [if_neg (by omega)]
      by_cases hlt : sm x < s.2
      · rw [if_pos hlt]
        exact inv_first hx (fun y hy hey => by have := (hi.2.2.2 y hy hey).1; exact ⟨by omega, fun _ => by omega⟩)
      · rw [if_neg hlt]
        by_cases he : sm x = s.2
        · rw [if_pos he]
          by_cases hb : bef x s.1 = true
          · rw [if_pos hb]
            refine inv_first hx (fun y hy hey => ?_)
            obtain ⟨q1, q2⟩ := hi.2.2.2 y hy hey
            refine ⟨by omega, fun hyx => ?_⟩
            cases hc : bef y x with
            | false => rfl
            | true =>
              have := bef_trans _ _ _ hc hb
              rw [q2 (by omega)] at this
              cases this
          · rw [if_neg hb]
            exact inv_keep hi (fun _ => ⟨by omega, fun _ => by simpa using hb⟩)
        · rw [if_neg he]
          exact inv_keep hi (fun _ => ⟨by omega, fun h => absurd h he⟩)
  · rw [if_neg hx]
    rcases hi with ⟨rfl, hi⟩ | hi
    · exact inv_none (by simpa using hx) hi
    · exact inv_keep hi (fun h => absurd h hx)
theorem inv_unique {en : List Int → Bool} {sm : List Int → Int} {L M : List (List Int)} (hm : ∀ x, x ∈ L ↔ x ∈ M) {s t : List Int × Int} (h : Inv en sm L s) (k : Inv en sm M t) : s = t := by
  rcases h with ⟨rfl, h⟩ | h <;> rcases k with ⟨rfl, k⟩ | k
  · rfl
  · rw [h _ ((hm _).2 k.1)] at k; cases k.2.1
  · rw [k _ ((hm _).1 h.1)] at h; cases h.2.1
  · obtain ⟨a1, a2⟩ := h.2.2.2 t.1 ((hm _).2 k.1) k.2.1
    obtain ⟨b1, b2⟩ := k.2.2.2 s.1 ((hm _).1 h.1) h.2.1
    have e1 := h.2.2.1
    have e2 := k.2.2.1
    have := bef_tot _ _ (b2 (by omega)) (a2 (by omega))
    exact Prod.ext this (by omega)
theorem best_eq {n : Nat} (hn : n ≤ 6) (en : List Int → Bool) (sm : List Int → Int) (h0 : ∀ x ∈ P n, 0 ≤ sm x) : (E n).foldl (stS en sm) ([], -1) = (P n).foldl (stI en sm) ([], -1) :=
  inv_unique (mem_PE hn) (stS_inv en sm _ (fun x hx => h0 x ((mem_PE hn x).1 hx))) (stI_inv en sm _ (sorted_P ⟨n, by omega⟩) h0)
theorem upto_foldl {σ : Type} (f : σ → List Int → σ) (L : List (List Int)) (g : Nat → σ → σ) (hg : ∀ (i : Nat) (s : σ) (h : i < L.length), g i s = f s L[i]) : ∀ m i s, i + m = L.length → upto g m i s = (L.drop i).foldl f s
  | 0, i, s, e => by
    rw [List.drop_of_length_le (by omega)]; rfl
  | m + 1, i, s, e => by
    rw [List.drop_eq_getElem_cons (show i < L.length by omega), List.foldl_cons, upto, hg i s (by omega)]
    exact upto_foldl f L g hg m (i + 1) _ (by omega)
end Go.Proofs.Ytgblcbgkkfipoaa.Pure
