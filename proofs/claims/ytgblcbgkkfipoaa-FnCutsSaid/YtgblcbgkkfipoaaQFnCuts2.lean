/-
  Plain lemmas for FnCuts: what the printed functions answer.
-/
import Derived.Test.YtgblcbgkkfipoaaQFnCuts1
import Derived.Test.YtgblcbgkkfipoaaWEvs
namespace Go.Proofs.Ytgblcbgkkfipoaa.Pure
open Go.RowKit Go.Proofs.YtgblcbgkkfipoaaW.PrintWords Go.Proofs.YtgblcbgkkfipoaaW.PrintLast Go.Proofs.YtgblcbgkkfipoaaW.PrintMore Go.Proofs.YtgblcbgkkfipoaaW.Evs Go.Proofs.Ytgblcbgkkfipoaa.XFnCuts
set_option linter.unusedVariables false
set_option linter.unusedSimpArgs false
-- the journal on lists: records, their numbers, what is recovered, what is committed
abbrev R := S61
def Valid (r : R) : Prop := (r.f0 = 1 ∧ 0 ≤ r.f1 ∧ r.f1 < 8 ∧ 0 ≤ r.f2 ∧ r.f2 ≤ 999) ∨ (r.f0 = 2 ∧ r.f1 = 0 ∧ r.f2 = 0)
instance (r : R) : Decidable (Valid r) := by unfold Valid; infer_instance
def Good (l : List R) : Prop := l.length ≤ 40 ∧ ∀ r ∈ l, Valid r
def Nums (x : List Int) : Prop := x.length ≤ 200 ∧ ∀ v ∈ x, 0 ≤ v ∧ v ≤ 9999
def rn (r : R) (n : Nat) : List Int := [r.f0, r.f1, r.f2, (n : Int), (3 * r.f0 + 5 * r.f1 + 7 * r.f2 + 11 * (n : Int) + 13) % 997]
def jall : Nat → List R → List Int
  | _, [] => []
  | n, r :: l => rn r n ++ jall (n + 1) l
theorem jall_length : ∀ (l : List R) n, (jall n l).length = 5 * l.length
  | [], n => rfl
  | r :: l, n => by simp only [jall, rn, List.length_append, List.length_cons, List.length_nil, jall_length l]; omega
theorem jall_append : ∀ (a b : List R) n, jall n (a ++ b) = jall n a ++ jall (n + a.length) b
  | [], b, n => by simp [jall]
  | r :: a, b, n => by
    have e : n + (r :: a).length = n + 1 + a.length := by simp; omega
    rw [List.cons_append, jall, jall, jall_append a b (n + 1), e, List.append_assoc]
theorem jall_nums : ∀ (l : List R) n, n + l.length ≤ 40 → (∀ r ∈ l, Valid r) → ∀ v ∈ jall n l, 0 ≤ v ∧ v ≤ 9999
  | [], n, _, _ => by simp [jall]
  | r :: l, n, hn, hv => by
    have h := hv r (by simp)
    simp only [List.length_cons] at hn
    have ih := jall_nums l (n + 1) (by omega) (fun r hr => hv r (by simp [hr]))
    intro v hm
    simp only [jall, rn, List.mem_append, List.mem_cons, List.not_mem_nil, or_false] at hm
    rcases hm with hm | hm
    · rcases h with h | h <;> omega
    · exact ih v hm
theorem jall_ok {l : List R} (h : Good l) : Nums (jall 0 l) := ⟨by rw [jall_length]; have := h.1; omega, jall_nums l 0 (by have := h.1; omega) h.2⟩
theorem jall_at : ∀ (l : List R) n i (h : i < l.length), ((jall n l).take (5 * i + 5)).drop (5 * i) = rn l[i] (n + i)
  | r :: l, n, 0, h => by simp [jall, rn]
  | r :: l, n, i + 1, h => by
    have e : ((jall n (r :: l)).take (5 * (i + 1) + 5)).drop (5 * (i + 1)) = ((jall (n + 1) l).take (5 * i + 5)).drop (5 * i) := by
      rw [show 5 * (i + 1) + 5 = (5 * i + 5) + 5 by omega, show 5 * (i + 1) = 5 * i + 5 by omega]
      simp only [jall, rn, List.cons_append, List.nil_append, List.take_succ_cons, List.drop_succ_cons]
    rw [e, jall_at l (n + 1) i (by simpa using h), show n + 1 + i = n + (i + 1) by omega]
    rfl
def recs : Nat → Nat → List Int → List R
  | m + 1, n, a :: b :: c :: d :: e :: t => if Valid ⟨a, b, c⟩ ∧ rn ⟨a, b, c⟩ n = [a, b, c, d, e] then ⟨a, b, c⟩ :: recs m (n + 1) t else []
  | _, _, _ => []
theorem recs_zero (n : Nat) (t : List Int) : recs 0 n t = [] := by simp [recs]
theorem recs_short (m n : Nat) : ∀ (t : List Int), t.length < 5 → recs m n t = []
  | [], _ => by simp [recs]
  | [_], _ => by simp [recs]
  | [_, _], _ => by simp [recs]
  | [_, _, _], _ => by simp [recs]
  | [_, _, _, _], _ => by simp [recs]
  | _ :: _ :: _ :: _ :: _ :: _, h => by simp at h; omega
theorem five {t : List Int} (h : 5 ≤ t.length) : ∃ a b c d e u, t = a :: b :: c :: d :: e :: u := by
  match t, h with
  | a :: b :: c :: d :: e :: u, _ => exact ⟨a, b, c, d, e, u, rfl⟩
  | [], h => simp at h
  | [_], h => simp at h
  | [_, _], h => simp at h
  | [_, _, _], h => simp at h
  | [_, _, _, _], h => simp at h
theorem recs_five (m n : Nat) (a b c d e : Int) (t : List Int) : recs (m + 1) n (a :: b :: c :: d :: e :: t) = if Valid ⟨a, b, c⟩ ∧ rn ⟨a, b, c⟩ n = [a, b, c, d, e] then ⟨a, b, c⟩ :: recs m (n + 1) t else [] := by simp only [recs]
theorem recs_jall : ∀ (l : List R) m n, l.length ≤ m → (∀ r ∈ l, Valid r) → recs m n (jall n l) = l
  | [], m, n, _, _ => recs_short _ _ _ (by simp [jall])
  | r :: l, 0, n, h, _ => by simp at h
  | r :: l, m + 1, n, h, hv => by
    have e : jall n (r :: l) = r.f0 :: r.f1 :: r.f2 :: (n : Int) :: ((3 * r.f0 + 5 * r.f1 + 7 * r.f2 + 11 * (n : Int) + 13) % 997) :: jall (n + 1) l := rfl
    rw [e, recs_five, if_pos ⟨hv r (by simp), rfl⟩, recs_jall l m (n + 1) (by simpa using h) (fun r hr => hv r (by simp [hr]))]
theorem recs_take : ∀ m n (t : List Int) j, recs m n (t.take j) = (recs m n t).take (j / 5)
  | 0, n, t, j => by simp [recs_zero]
  | m + 1, n, t, j => by
    rcases Nat.lt_or_ge j 5 with h | h
    · rw [recs_short _ _ _ (by simp; omega), show j / 5 = 0 by omega, List.take_zero]
    · rcases Nat.lt_or_ge t.length 5 with h2 | h2
      · rw [recs_short _ _ _ (by simp; omega), recs_short _ _ _ h2, List.take_nil]
      · obtain ⟨a, b, c, d, e, u, rfl⟩ := five h2
        obtain ⟨i, rfl⟩ : ∃ i, j = i + 5 := ⟨j - 5, by omega⟩
        simp only [List.take_succ_cons, recs_five]
        rw [show (i + 5) / 5 = i / 5 + 1 by omega]
        split
        · rw [List.take_succ_cons, recs_take m (n + 1) u i]
        · rw [List.take_nil]
theorem recs_valid : ∀ m n (t : List Int), ∀ r ∈ recs m n t, Valid r
  | 0, n, t => by simp [recs_zero]
  | m + 1, n, t => by
    rcases Nat.lt_or_ge t.length 5 with h2 | h2
    · rw [recs_short _ _ _ h2]; simp
    · obtain ⟨a, b, c, d, e, u, rfl⟩ := five h2
      rw [recs_five]
      split
      · rename_i h
        intro r hr
        rcases List.mem_cons.1 hr with rfl | hr
        · exact h.1
        · exact recs_valid m (n + 1) u r hr
      · simp
theorem recs_len : ∀ m n (t : List Int), (recs m n t).length ≤ m ∧ 5 * (recs m n t).length ≤ t.length
  | 0, n, t => by simp [recs_zero]
  | m + 1, n, t => by
    rcases Nat.lt_or_ge t.length 5 with h2 | h2
    · rw [recs_short _ _ _ h2]; simp
    · obtain ⟨a, b, c, d, e, u, rfl⟩ := five h2
      rw [recs_five]
      split
      · have := recs_len m (n + 1) u
        simp only [List.length_cons]; omega
      · simp
def rec5 (x : List Int) : List R := recs 40 0 x
theorem rec5_good (x : List Int) : Good (rec5 x) := ⟨(recs_len _ _ _).1, recs_valid _ _ _⟩
theorem rec5_jall {l : List R} (h : Good l) : rec5 (jall 0 l) = l := recs_jall l 40 0 h.1 h.2
theorem rec5_set (x : List Int) (i : Nat) (v : Int) : (rec5 (x.set i v)).take (i / 5) = (rec5 x).take (i / 5) := by
  unfold rec5
  rw [← recs_take, ← recs_take, List.take_set_of_le (Nat.le_refl _)]
theorem rec5_set_len (x : List Int) (i : Nat) (v : Int) (h : i / 5 ≤ (rec5 x).length) : i / 5 ≤ (rec5 (x.set i v)).length := by
  have := congrArg List.length (rec5_set x i v)
  simp only [List.length_take] at this
  omega
def cend : List R → Nat
  | [] => 0
  | r :: l => if 0 < cend l then cend l + 1 else if r.f0 = 2 then 1 else 0
def com (l : List R) : List R := l.take (cend l)
theorem cend_le : ∀ l : List R, cend l ≤ l.length
  | [] => by simp [cend]
  | r :: l => by
    have := cend_le l
    simp only [cend, List.length_cons]
    repeat' split
    all_goals omega
theorem com_length (l : List R) : (com l).length = cend l := by simp only [com, List.length_take]; have := cend_le l; omega
theorem cend_snoc : ∀ (l : List R) (r : R), cend (l ++ [r]) = if r.f0 = 2 then l.length + 1 else cend l
  | [], r => by simp [cend]
  | s :: l, r => by
    simp only [List.cons_append, cend, cend_snoc l r, List.length_cons]
    by_cases h : r.f0 = 2
    · simp [h]
    · simp [h]
theorem cend_com : ∀ l : List R, cend (l.take (cend l)) = cend l
  | [] => by simp [cend]
  | r :: l => by
    have ih := cend_com l
    by_cases h : 0 < cend l
    · have e : cend (r :: l) = cend l + 1 := by simp only [cend, if_pos h]
      rw [e, List.take_succ_cons]
      simp only [cend, ih, if_pos h]
    · by_cases h2 : r.f0 = 2
      · have e : cend (r :: l) = 1 := by simp only [cend, if_neg h, if_pos h2]
        rw [e, show (1 : Nat) = 0 + 1 from rfl, List.take_succ_cons, List.take_zero]
        simp [cend, h2]
      · have e : cend (r :: l) = 0 := by simp only [cend, if_neg h, if_neg h2]
        rw [e, List.take_zero]; rfl
theorem com_com (l : List R) : com (com l) = com l := by
  show (l.take (cend l)).take (cend (l.take (cend l))) = l.take (cend l)
  rw [cend_com, List.take_take, Nat.min_self]
theorem com_last : ∀ (l : List R) (i : Nat), i + 1 = cend l → ∃ h : i < l.length, l[i].f0 = 2
  | [], i, h => by simp [cend] at h
  | r :: l, i, h => by
    by_cases h1 : 0 < cend l
    · simp only [cend, if_pos h1] at h
      obtain ⟨j, rfl⟩ : ∃ j, i = j + 1 := ⟨i - 1, by omega⟩
      obtain ⟨h3, h4⟩ := com_last l j (by omega)
      exact ⟨by simp; omega, by simpa using h4⟩
    · by_cases h2 : r.f0 = 2
      · simp only [cend, if_neg h1, if_pos h2] at h
        obtain rfl : i = 0 := by omega
        exact ⟨by simp, h2⟩
      · simp only [cend, if_neg h1, if_neg h2] at h; omega
theorem com_good {l : List R} (h : Good l) : Good (com l) := ⟨by have := h.1; rw [com_length]; have := cend_le l; omega, fun r hr => h.2 r (List.mem_of_mem_take hr)⟩
def put (s : List Int) (r : R) : List Int := if r.f0 = 1 then s.set r.f1.toNat r.f2 else s
def none8 : List Int := List.replicate 8 (-1)
def Val8 (s : List Int) : Prop := s.length = 8 ∧ ∀ v ∈ s, v = -1 ∨ 0 ≤ v ∧ v ≤ 999
theorem none8_ok : Val8 none8 := ⟨rfl, fun v h => .inl (List.eq_of_mem_replicate h)⟩
theorem put_ok {s : List Int} {r : R} (h : Val8 s) (hr : Valid r) : Val8 (put s r) := by
  unfold put
  split
  · refine ⟨by simpa using h.1, fun v hv => ?_⟩
    rcases List.mem_or_eq_of_mem_set hv with hv | rfl
    · exact h.2 v hv
    · right; rcases hr with hr | hr <;> omega
  · exact h
theorem foldl_put_ok : ∀ (l : List R) (s : List Int), Val8 s → (∀ r ∈ l, Valid r) → Val8 (l.foldl put s)
  | [], s, h, _ => h
  | r :: l, s, h, hv => foldl_put_ok l (put s r) (put_ok h (hv r (by simp))) (fun r hr => hv r (by simp [hr]))
def vals (l : List R) : List Int := (com l).foldl put none8
theorem vals_ok {l : List R} (h : Good l) : Val8 (vals l) := foldl_put_ok _ _ none8_ok (com_good h).2
theorem vals_com (l : List R) : vals (com l) = vals l := by unfold vals; rw [com_com]
def sets : Nat → List Int → List R
  | _, [] => []
  | k, v :: t => if v ≥ 0 then ⟨1, (k : Int), v⟩ :: sets (k + 1) t else sets (k + 1) t
theorem sets_len : ∀ k t, (sets k t).length ≤ t.length
  | _, [] => by simp [sets]
  | k, v :: t => by have := sets_len (k + 1) t; simp only [sets]; split <;> simp only [List.length_cons] <;> omega
theorem sets_valid : ∀ t k, k + t.length ≤ 8 → (∀ v ∈ t, v = -1 ∨ 0 ≤ v ∧ v ≤ 999) → ∀ r ∈ sets k t, Valid r
  | [], k, _, _ => by simp [sets]
  | v :: t, k, h, hv => by
    simp only [List.length_cons] at h
    have ih := sets_valid t (k + 1) (by omega) (fun v hh => hv v (by simp [hh]))
    have h1 := hv v (by simp)
    simp only [sets]
    split
    · intro r hr
      rcases List.mem_cons.1 hr with rfl | hr
      · left; exact ⟨rfl, by simp, by simp only; omega, by simp only; omega, by simp only; omega⟩
      · exact ih r hr
    · exact ih
theorem foldl_sets : ∀ (t pre : List Int), (∀ v ∈ t, v = -1 ∨ 0 ≤ v ∧ v ≤ 999) → (sets pre.length t).foldl put (pre ++ List.replicate t.length (-1)) = pre ++ t
  | [], pre, _ => by simp [sets]
  | v :: t, pre, hv => by
    have h1 := hv v (by simp)
    have ih := foldl_sets t (pre ++ [v]) (fun v hh => hv v (by simp [hh]))
    simp only [List.length_append, List.length_cons, List.length_nil, List.append_assoc, List.cons_append, List.nil_append] at ih
    simp only [sets, List.length_cons, List.replicate_succ]
    split
    · rw [List.foldl_cons]
      have e : put (pre ++ -1 :: List.replicate t.length (-1)) ⟨1, (pre.length : Int), v⟩ = pre ++ v :: List.replicate t.length (-1) := by
        simp [put]
      rw [e]; exact ih
    · obtain rfl : v = -1 := by omega
      exact ih
def endC : R := ⟨2, 0, 0⟩
def compact (l : List R) : List R := if 0 < (sets 0 (vals l)).length then sets 0 (vals l) ++ [endC] else sets 0 (vals l)
theorem compact_good {l : List R} (h : Good l) : Good (compact l) ∧ (compact l).length ≤ 9 := by
  have h8 := vals_ok h
  have hl := sets_len 0 (vals l)
  have hv := sets_valid (vals l) 0 (by rw [h8.1]; omega) h8.2
  rw [h8.1] at hl
  unfold compact
  split
  · refine ⟨⟨by simp; omega, fun r hr => ?_⟩, by simp; omega⟩
    rcases List.mem_append.1 hr with hr | hr
    · exact hv r hr
    · rw [List.mem_singleton.1 hr]; right; exact ⟨rfl, rfl, rfl⟩
  · exact ⟨⟨by omega, hv⟩, by omega⟩
theorem com_compact (l : List R) : com (compact l) = compact l := by
  unfold compact
  split
  · unfold com
    rw [cend_snoc, if_pos (show endC.f0 = 2 from rfl), List.take_of_length_le (by simp)]
  · rename_i h
    rw [List.eq_nil_of_length_eq_zero (show (sets 0 (vals l)).length = 0 by omega)]; rfl
theorem vals_compact {l : List R} (h : Good l) : vals (compact l) = vals l := by
  have h8 := vals_ok h
  have e := foldl_sets (vals l) [] h8.2
  rw [h8.1, List.nil_append, List.nil_append] at e
  have e2 : vals (compact l) = (compact l).foldl put none8 := by unfold vals; rw [com_compact]
  rw [e2]
  unfold compact
  split
  · rw [List.foldl_append]
    refine Eq.trans ?_ e
    rfl
  · exact e
def lost : List Int → List Int → Nat
  | x :: a, y :: b => (if x = y then 0 else 1) + lost a b
  | _, _ => 0
theorem lost_comm : ∀ a b, lost a b = lost b a
  | x :: a, y :: b => by simp only [lost, lost_comm a b, eq_comm]
  | [], [] => rfl
  | [], _ :: _ => by simp [lost]
  | _ :: _, [] => by simp [lost]
theorem lost_self : ∀ a, lost a a = 0
  | x :: a => by simp [lost, lost_self a]
  | [] => rfl
theorem lost_le : ∀ a b, lost a b ≤ a.length
  | x :: a, y :: b => by have := lost_le a b; simp only [lost, List.length_cons]; split <;> omega
  | [], _ => by simp [lost]
  | _ :: _, [] => by simp [lost]
theorem lost_snoc : ∀ (a b : List Int) (x y : Int), a.length = b.length → lost (a ++ [x]) (b ++ [y]) = lost a b + if x = y then 0 else 1
  | [], [], x, y, _ => by simp [lost]
  | u :: a, v :: b, x, y, h => by
    have := lost_snoc a b x y (by simpa using h)
    simp only [List.cons_append, lost, this]; omega
  | [], _ :: _, _, _, h => by simp at h
  | _ :: _, [], _, _, h => by simp at h
end Go.Proofs.Ytgblcbgkkfipoaa.Pure
