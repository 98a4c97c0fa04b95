/-
  Plain lemmas for FnExactFewestKits: what the printed functions answer.
-/
import Derived.Test.YtbojcipcdefipaaXKitsx
import Derived.Test.YtbojcipcdefipaaWEvs
namespace Go.Proofs.Ytbojcipcdefipaa.Pure
open Go.RowKit Go.Proofs.YtbojcipcdefipaaW.PrintWords Go.Proofs.YtbojcipcdefipaaW.PrintLast Go.Proofs.YtbojcipcdefipaaW.PrintMore Go.Proofs.YtbojcipcdefipaaW.Evs Go.Proofs.Ytbojcipcdefipaa.XKits
set_option linter.unusedVariables false
set_option linter.unusedSimpArgs false
-- lists of whole numbers: compared, marked, held
def marks (a : Int) (n : Nat) : List Int := (List.range n).map fun i : Nat => a + (i : Int)
theorem marks_length (a : Int) (n : Nat) : (marks a n).length = n := by simp [marks]
theorem eqIntS_ev (xs ys : List Int) (hx : xs.length ≤ 9223372036854775806) : Ev (fun k => laws_eqIntS.f k xs ys) (decide (xs = ys)) := by
  unfold laws_eqIntS.f
  by_cases hl : xs.length = ys.length
  · have hl' : (xs.length : Int) = (ys.length : Int) := by omega
    simp only [if_pos hl']
    have key := ev_all (fun k i => laws_eqIntS.l0 k xs ys i) xs.length (fun i => decide (xs[i]? = ys[i]?)) false true ?_ ?_ ?_ xs.length 0 (by omega)
    · refine ev_eq key ?_
      cases hd : allFrom (fun i => decide (xs[i]? = ys[i]?)) xs.length 0 with
      | true =>
        rw [allFrom_iff] at hd
        have : xs = ys := List.ext_getElem? (fun i => by
          rcases Nat.lt_or_ge i xs.length with h | h
          · simpa using hd i (by omega) (by omega)
          · rw [List.getElem?_eq_none (by omega), List.getElem?_eq_none (by omega)])
        simp [this]
      | false =>
        have : xs ≠ ys := fun e => by
          subst e
          have : allFrom (fun i => decide (xs[i]? = xs[i]?)) xs.length 0 = true := allFrom_iff.2 (fun _ _ _ => by simp)
          rw [this] at hd; cases hd
        simp [this]
    · intro i hi hp r hr
      have hi2 : i < ys.length := by omega
      have e : rd xs (i : Int) = rd ys (i : Int) := by
        rw [rd_at hi, rd_at hi2]
        simpa [List.getElem?_eq_getElem hi, List.getElem?_eq_getElem hi2] using hp
      refine Ev.succ ?_
      simp only [laws_eqIntS.l0, if_pos (show (i : Int) < (xs.length : Int) by omega), if_pos (show (0 : Int) ≤ (i : Int) by omega), if_pos (show (i : Int) < (ys.length : Int) by omega), if_pos e, wsucc (show i < 9223372036854775807 by omega)]
      exact hr
    · intro i hi hp
      have hi2 : i < ys.length := by omega
      have e : ¬ rd xs (i : Int) = rd ys (i : Int) := by
        rw [rd_at hi, rd_at hi2]
        simpa [List.getElem?_eq_getElem hi, List.getElem?_eq_getElem hi2] using hp
      refine Ev.succ ?_
      simp only [laws_eqIntS.l0, if_pos (show (i : Int) < (xs.length : Int) by omega), if_pos (show (0 : Int) ≤ (i : Int) by omega), if_pos (show (i : Int) < (ys.length : Int) by omega), if_neg e]
      exact Ev.now _
    · refine Ev.succ ?_
      simp only [laws_eqIntS.l0, if_neg (show ¬ (xs.length : Int) < (xs.length : Int) by omega)]
      exact Ev.now _
  · simp only [if_neg (show ¬ (xs.length : Int) = (ys.length : Int) by omega)]
    exact ev_some (by simp; intro e; exact hl (by rw [e]))
theorem set_marks {xs : List Int} {a : Int} {i : Nat} (h : i < xs.length) (hx : xs.take i = marks a i) : (xs.set i (a + (i : Int))).take (i + 1) = marks a (i + 1) := by
  rw [List.take_succ_eq_append_getElem (by simpa using h), List.getElem_set_self, List.take_set_of_le (Nat.le_refl _), hx]
  simp [marks, List.range_succ]
theorem markIntS_ev (xs : List Int) (hx : xs.length ≤ 4611686018427387904) : Ev (fun k => laws_markIntS.f k xs 1) (1 + (xs.length : Int), marks 1 xs.length) := by
  unfold laws_markIntS.f
  have key := ev_for (fun k (s : List Int × Int) i => laws_markIntS.l0 k s.1 s.2 i) xs.length (fun i s => (s.1.set i (1 + (i : Int)), 1 + ((i : Int) + 1)))
    (fun i s => s.1.length = xs.length ∧ s.2 = 1 + (i : Int) ∧ s.1.take i = marks 1 i) (fun s => (s.2, s.1)) ?_ ?_ xs.length 0 (xs, 1) (by omega) ⟨rfl, rfl, by simp [marks]⟩
  · refine ev_eq key ?_
    obtain ⟨h1, h2, h3⟩ := upto_inv (g := fun i (s : List Int × Int) => (s.1.set i (1 + (i : Int)), 1 + ((i : Int) + 1))) (Inv := fun i s => s.1.length = xs.length ∧ s.2 = 1 + (i : Int) ∧ s.1.take i = marks 1 i) (n := xs.length)
      (fun i s hi hs => ⟨by simpa using hs.1, by simp, set_marks (by rw [hs.1]; exact hi) hs.2.2⟩) xs.length 0 (xs, 1) (by omega) ⟨rfl, rfl, by simp [marks]⟩
    refine Prod.ext h2 ?_
    rw [List.take_of_length_le (by omega)] at h3
    exact h3
  · rintro i ⟨s, a⟩ hi ⟨hl, ha, ht⟩
    simp only at hl ha ht
    subst ha
    refine ⟨⟨by simpa using hl, by simp, set_marks (by simpa [hl] using hi) ht⟩, fun r hr => ?_⟩
    refine Ev.succ ?_
    simp only [laws_markIntS.l0, if_pos (show (i : Int) < (s.length : Int) by omega), if_pos (show (0 : Int) ≤ (i : Int) by omega), wsucc (show i < 9223372036854775807 by omega), Int.toNat_natCast, w64 (show -9223372036854775808 ≤ 1 + (i : Int) + 1 by omega) (by omega)]
    rw [show 1 + (i : Int) + 1 = 1 + ((i : Int) + 1) by omega]
    exact hr
  · rintro ⟨s, a⟩ ⟨hl, ha, ht⟩
    simp only at hl ha ht
    refine Ev.succ ?_
    simp only [laws_markIntS.l0, if_neg (show ¬ (xs.length : Int) < (s.length : Int) by omega)]
    exact Ev.now _
theorem heldIntS_ev (n : Nat) (hx : n ≤ 4611686018427387904) : Ev (fun k => laws_heldIntS.f k (marks 1 n) 1) (1 + (n : Int)) := by
  unfold laws_heldIntS.f
  have key := ev_for (fun k (s : Int) i => laws_heldIntS.l0 k (marks 1 n) s i) n (fun i _ => 1 + ((i : Int) + 1)) (fun i s => s = 1 + (i : Int)) (fun s => s) ?_ ?_ n 0 1 (by omega) rfl
  · refine ev_eq key ?_
    exact upto_inv (g := fun i (_ : Int) => 1 + ((i : Int) + 1)) (Inv := fun i s => s = 1 + (i : Int)) (n := n) (fun i s hi hs => by simp) n 0 1 (by omega) rfl
  · intro i s hi hs
    subst hs
    refine ⟨by simp, fun r hr => ?_⟩
    refine Ev.succ ?_
    have e : rd (marks 1 n) (i : Int) = 1 + (i : Int) := by rw [rd_at (by rw [marks_length]; exact hi)]; simp [marks]
    have hl := marks_length 1 n
    simp only [laws_heldIntS.l0, if_pos (show (i : Int) < ((marks 1 n).length : Int) by omega), if_pos (show (0 : Int) ≤ (i : Int) by omega), if_pos e, wsucc (show i < 9223372036854775807 by omega), w64 (show -9223372036854775808 ≤ 1 + (i : Int) + 1 by omega) (by omega)]
    rw [show 1 + (i : Int) + 1 = 1 + ((i : Int) + 1) by omega]
    exact hr
  · intro s hs
    refine Ev.succ ?_
    have hl := marks_length 1 n
    simp only [laws_heldIntS.l0, if_neg (show ¬ (n : Int) < ((marks 1 n).length : Int) by omega)]
    exact Ev.now _
-- lists of lists of whole numbers: their size, their copies, the copies' own
theorem rdL_at {xs : List (List Int)} {i : Nat} (h : i < xs.length) : rd_L1 xs (i : Int) = xs[i] := by simp [rd_L1, h]
theorem rdRow_at {xs : List (List Int)} {i : Nat} (h : i < xs.length) : rdRow xs (i : Int) = xs[i] := by simp [rdRow, h]
theorem szIntS_is (b : List Int) (a : Int) (ha : 0 ≤ a) (ha2 : a ≤ 1048576) (hb : b.length ≤ 9223372036854775807) :
    laws_szIntS.f b a = some (if a - (b.length : Int) < 0 then -1 else a - (b.length : Int)) := by
  unfold laws_szIntS.f
  rw [w64 (by omega) (by omega)]
  by_cases h : a - (b.length : Int) < 0
  · simp [if_pos h]
  · simp only [if_neg h]
theorem szIntSS_l0 (l : List (List Int)) (hb : ∀ b ∈ l, b.length ≤ 9223372036854775807) (hl : l.length ≤ 1048576) : ∀ m i a, i + m = l.length → 0 ≤ a → a ≤ 1048576 →
    ∃ v, Ev (fun k => laws_szIntSS.l0 k l a (i : Int)) v ∧ (v < 0 ∨ 0 ≤ v ∧ ∀ j (h : j < l.length), i ≤ j → l[j].length ≤ 1048576)
  | 0, i, a, e, h0, h1 => by
    refine ⟨a, ?_, .inr ⟨h0, fun j hj hij => by omega⟩⟩
    refine Ev.succ ?_
    simp only [laws_szIntSS.l0, if_neg (show ¬ (i : Int) < (l.length : Int) by omega)]
    exact Ev.now _
  | m + 1, i, a, e, h0, h1 => by
    have hi : i < l.length := by omega
    have hz := szIntS_is l[i] a h0 h1 (hb _ (List.getElem_mem _))
    by_cases h : a - (l[i].length : Int) < 0
    · refine ⟨-1, ?_, .inl (by omega)⟩
      rw [if_pos h] at hz
      refine Ev.succ ?_
      simp only [laws_szIntSS.l0, if_pos (show (i : Int) < (l.length : Int) by omega), if_pos (show (0 : Int) ≤ (i : Int) by omega), rdL_at hi, hz, Option.bind_some, if_pos (show (-1 : Int) < 0 by omega)]
      exact Ev.now _
    · rw [if_neg h] at hz
      obtain ⟨v, hv, hp⟩ := szIntSS_l0 l hb hl m (i + 1) (a - (l[i].length : Int)) (by omega) (by omega) (by omega)
      refine ⟨v, ?_, hp.imp id (fun h2 => ⟨h2.1, fun j hj hij => ?_⟩)⟩
      · refine Ev.succ ?_
        simp only [laws_szIntSS.l0, if_pos (show (i : Int) < (l.length : Int) by omega), if_pos (show (0 : Int) ≤ (i : Int) by omega), rdL_at hi, hz, Option.bind_some, if_neg h, wsucc (show i < 9223372036854775807 by omega)]
        exact hv
      · by_cases hji : j = i
        · subst hji; omega
        · exact h2.2 j hj (by omega)
theorem szIntSS_ev (l : List (List Int)) (hl : l.length ≤ 9223372036854775807) (hb : ∀ b ∈ l, b.length ≤ 9223372036854775807) :
    ∃ v, Ev (fun k => laws_szIntSS.f k l 1048576) v ∧ (v < 0 ∨ 0 ≤ v ∧ l.length ≤ 1048576 ∧ ∀ b ∈ l, b.length ≤ 1048576) := by
  unfold laws_szIntSS.f
  rw [w64 (show -9223372036854775808 ≤ 1048576 - (l.length : Int) by omega) (by omega)]
  by_cases h : 1048576 - (l.length : Int) < 0
  · exact ⟨-1, by simp only [if_pos h]; exact Ev.now _, .inl (by omega)⟩
  · obtain ⟨v, hv, hp⟩ := szIntSS_l0 l hb (by omega) l.length 0 (1048576 - (l.length : Int)) (by omega) (by omega) (by omega)
    refine ⟨v, by simp only [if_neg h]; exact hv, hp.imp id (fun h2 => ⟨h2.1, by omega, fun b hb2 => ?_⟩)⟩
    obtain ⟨j, hj, rfl⟩ := List.mem_iff_getElem.1 hb2
    exact h2.2 j hj (by omega)
theorem toIntS_ev (l : List Int) (hl : l.length ≤ 1048576) : Ev (fun k => laws_toIntS.f k l) l := by
  unfold laws_toIntS.f
  simp only [if_pos (show (0 : Int) ≤ (l.length : Int) by omega), if_pos (show ((l.length : Int) : Int).toNat ≤ 35184372088832 by omega)]
  have hstep : ∀ (i : Nat) (s : List Int), i < l.length → (s.length = l.length ∧ s.take i = l.take i) → ((s.set i (l.getD i 0)).length = l.length ∧ (s.set i (l.getD i 0)).take (i + 1) = l.take (i + 1)) := by
    rintro i s hi ⟨hl', ht⟩
    refine ⟨by simpa using hl', ?_⟩
    rw [List.take_succ_eq_append_getElem (by simpa [hl'] using hi), List.getElem_set_self, List.take_set_of_le (Nat.le_refl _), ht, List.take_succ_eq_append_getElem (by simpa using hi)]
    simp [hi]
  have key := ev_for (fun k (s : List Int) i => laws_toIntS.l0 k l s i) l.length (fun i s => s.set i (l.getD i 0)) (fun i s => s.length = l.length ∧ s.take i = l.take i) (fun s => s) ?_ ?_ l.length 0
    (List.replicate ((l.length : Int) : Int).toNat 0) (by omega) ⟨by simp, by simp⟩
  · refine ev_eq key ?_
    obtain ⟨h1, h2⟩ := upto_inv (Inv := fun i s => s.length = l.length ∧ s.take i = l.take i) (n := l.length) hstep l.length 0 (List.replicate ((l.length : Int) : Int).toNat 0) (by omega) ⟨by simp, by simp⟩
    rw [List.take_of_length_le (by omega), List.take_of_length_le (by simp)] at h2
    exact h2
  · intro i s hi hs
    refine ⟨hstep i s hi hs, fun r hr => ?_⟩
    refine Ev.succ ?_
    have hs1 := hs.1
    have e : l.getD i 0 = l[i] := by simp [hi]
    rw [e] at hr
    simp only [laws_toIntS.l0, if_pos (show (i : Int) < (l.length : Int) by omega), if_pos (show (0 : Int) ≤ (i : Int) by omega), if_pos (show (i : Int) < (s.length : Int) by omega), wsucc (show i < 9223372036854775807 by omega), Int.toNat_natCast, rd_at hi]
    exact hr
  · rintro s ⟨hl', ht⟩
    refine Ev.succ ?_
    simp only [laws_toIntS.l0, if_neg (show ¬ (l.length : Int) < (l.length : Int) by omega)]
    exact Ev.now _
theorem toIntSS_ev (l : List (List Int)) (hl : l.length ≤ 1048576) (hb : ∀ b ∈ l, b.length ≤ 1048576) : Ev (fun k => laws_toIntSS.f k l) l := by
  unfold laws_toIntSS.f
  simp only [if_pos (show (0 : Int) ≤ (l.length : Int) by omega), if_pos (show ((l.length : Int) : Int).toNat ≤ 11728124029610 by omega)]
  have hstep : ∀ (i : Nat) (s : List (List Int)), i < l.length → (s.length = l.length ∧ s.take i = l.take i) → ((s.set i (l.getD i [])).length = l.length ∧ (s.set i (l.getD i [])).take (i + 1) = l.take (i + 1)) := by
    rintro i s hi ⟨hl', ht⟩
    refine ⟨by simpa using hl', ?_⟩
    rw [List.take_succ_eq_append_getElem (by simpa [hl'] using hi), List.getElem_set_self, List.take_set_of_le (Nat.le_refl _), ht, List.take_succ_eq_append_getElem (by simpa using hi)]
    simp [hi]
  have key := ev_for (fun k (s : List (List Int)) i => laws_toIntSS.l0 k l s i) l.length (fun i s => s.set i (l.getD i [])) (fun i s => s.length = l.length ∧ s.take i = l.take i) (fun s => s) ?_ ?_ l.length 0
    (List.replicate ((l.length : Int) : Int).toNat []) (by omega) ⟨by simp, by simp⟩
  · refine ev_eq key ?_
    obtain ⟨h1, h2⟩ := upto_inv (Inv := fun i s => s.length = l.length ∧ s.take i = l.take i) (n := l.length) hstep l.length 0 (List.replicate ((l.length : Int) : Int).toNat []) (by omega) ⟨by simp, by simp⟩
    rw [List.take_of_length_le (by omega), List.take_of_length_le (by simp)] at h2
    exact h2
  · intro i s hi hs
    refine ⟨hstep i s hi hs, fun r hr => ?_⟩
    refine Ev.succ ?_
    have hs1 := hs.1
    have e : l.getD i [] = l[i] := by simp [hi]
    rw [e] at hr
    simp only [laws_toIntSS.l0, if_pos (show (i : Int) < (l.length : Int) by omega), if_pos (show (0 : Int) ≤ (i : Int) by omega), if_pos (show (i : Int) < (s.length : Int) by omega), wsucc (show i < 9223372036854775807 by omega), Int.toNat_natCast, rdL_at hi]
    refine Ev.bind (toIntS_ev l[i] (hb _ (List.getElem_mem _))) ?_
    exact hr
  · rintro s ⟨hl', ht⟩
    refine Ev.succ ?_
    simp only [laws_toIntSS.l0, if_neg (show ¬ (l.length : Int) < (l.length : Int) by omega)]
    exact Ev.now _
theorem eqIntSS_refl (l : List (List Int)) (hl : l.length ≤ 1048576) (hb : ∀ b ∈ l, b.length ≤ 1048576) : Ev (fun k => laws_eqIntSS.f k l l) true := by
  unfold laws_eqIntSS.f
  simp only [if_true]
  have key := ev_all (fun k i => laws_eqIntSS.l0 k l l i) l.length (fun _ => true) false true ?_ ?_ ?_ l.length 0 (by omega)
  · refine ev_eq key ?_
    rw [if_pos (allFrom_iff.2 (fun _ _ _ => rfl))]
  · intro i hi hp r hr
    refine Ev.succ ?_
    simp only [laws_eqIntSS.l0, if_pos (show (i : Int) < (l.length : Int) by omega), if_pos (show (0 : Int) ≤ (i : Int) by omega), rdL_at hi, wsucc (show i < 9223372036854775807 by omega)]
    refine Ev.bind (ev_eq (eqIntS_ev l[i] l[i] (by have := hb _ (List.getElem_mem hi); omega)) (decide_eq_true rfl)) ?_
    simp only [if_true]
    exact hr
  · intro i hi hp; cases hp
  · refine Ev.succ ?_
    simp only [laws_eqIntSS.l0, if_neg (show ¬ (l.length : Int) < (l.length : Int) by omega)]
    exact Ev.now _
theorem markIntS_any (xs : List Int) (a : Int) (ha : 0 ≤ a) (ha2 : a ≤ 1152921504606846976) (hx : xs.length ≤ 1048576) :
    ∃ ys, Ev (fun k => laws_markIntS.f k xs a) (a + (xs.length : Int), ys) ∧ ys.length = xs.length := by
  unfold laws_markIntS.f
  suffices H : ∀ m i (s : List Int), i + m = xs.length → s.length = xs.length → ∃ ys, Ev (fun k => laws_markIntS.l0 k s (a + (i : Int)) (i : Int)) (a + (xs.length : Int), ys) ∧ ys.length = xs.length by
    obtain ⟨ys, h, hl⟩ := H xs.length 0 xs (by omega) rfl
    exact ⟨ys, by simpa using h, hl⟩
  intro m
  induction m with
  | zero =>
    intro i s e hs
    have : i = xs.length := by omega
    subst this
    refine ⟨s, Ev.succ ?_, hs⟩
    simp only [laws_markIntS.l0, if_neg (show ¬ (xs.length : Int) < (s.length : Int) by omega)]
    exact Ev.now _
  | succ m ih =>
    intro i s e hs
    obtain ⟨ys, h, hl⟩ := ih (i + 1) (s.set i (a + (i : Int))) (by omega) (by simpa using hs)
    refine ⟨ys, Ev.succ ?_, hl⟩
    simp only [laws_markIntS.l0, if_pos (show (i : Int) < (s.length : Int) by omega), if_pos (show (0 : Int) ≤ (i : Int) by omega), Int.toNat_natCast, wsucc (show i < 9223372036854775807 by omega), w64 (show -9223372036854775808 ≤ a + (i : Int) + 1 by omega) (by omega)]
    rw [show a + (i : Int) + 1 = a + ((i + 1 : Nat) : Int) by omega]
    exact h
theorem markIntSS_ev (l : List (List Int)) (hl : l.length ≤ 1048576) (hb : ∀ b ∈ l, b.length ≤ 1048576) : ∃ v, Ev (fun k => laws_markIntSS.f k l 1) v ∧ 0 ≤ v ∧ v ≤ 1099511627777 := by
  unfold laws_markIntSS.f
  suffices H : ∀ m i (s : List (List Int)) (a : Int), i + m = l.length → s.length = l.length → (∀ j (h : j < s.length), s[j].length ≤ 1048576) → 1 ≤ a → a ≤ 1 + 1048576 * (i : Int) → ∃ v, Ev (fun k => laws_markIntSS.l0 k s a (i : Int)) v ∧ 0 ≤ v ∧ v ≤ 1099511627777 by
    exact H l.length 0 l 1 (by omega) rfl (fun j h => hb _ (List.getElem_mem h)) (by omega) (by omega)
  intro m
  induction m with
  | zero =>
    intro i s a e hs hb' h1 h2
    refine ⟨a, Ev.succ ?_, by omega, by omega⟩
    simp only [laws_markIntSS.l0, if_neg (show ¬ (i : Int) < (s.length : Int) by omega)]
    exact Ev.now _
  | succ m ih =>
    intro i s a e hs hb' h1 h2
    have hi : i < s.length := by omega
    have hbi := hb' i hi
    obtain ⟨ys, hm, hyl⟩ := markIntS_any s[i] a (by omega) (by omega) hbi
    obtain ⟨v, hv, hp⟩ := ih (i + 1) (s.set i ys) (a + (s[i].length : Int)) (by omega) (by simp [hs]) (fun j hj => by
      have hj' : j < s.length := by simpa using hj
      by_cases hji : j = i
      · subst hji; simp [hyl, hbi]
      · rw [show (s.set i ys)[j] = s[j]'hj' by simp [List.getElem_set, Ne.symm hji]]; exact hb' j hj') (by omega) (by omega)
    refine ⟨v, Ev.succ ?_, hp⟩
    simp only [laws_markIntSS.l0, if_pos (show (i : Int) < (s.length : Int) by omega), if_pos (show (0 : Int) ≤ (i : Int) by omega), Int.toNat_natCast, wsucc (show i < 9223372036854775807 by omega), rdRow_at hi]
    exact Ev.bind hm hv
end Go.Proofs.Ytbojcipcdefipaa.Pure
