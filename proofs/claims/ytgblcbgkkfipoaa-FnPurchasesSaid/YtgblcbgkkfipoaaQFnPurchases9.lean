/-
  Plain lemmas for FnPurchases: what the printed functions answer.
-/
import Derived.Test.YtgblcbgkkfipoaaQFnPurchases1
import Derived.Test.YtgblcbgkkfipoaaQFnPurchases7
import Derived.Test.YtgblcbgkkfipoaaXFnPurchasesx10
import Derived.Test.YtgblcbgkkfipoaaXFnPurchasesx11
import Derived.Test.YtgblcbgkkfipoaaWEvs
namespace Go.Proofs.Ytgblcbgkkfipoaa.Pure
open Go.RowKit Go.Proofs.YtgblcbgkkfipoaaW.PrintWords Go.Proofs.YtgblcbgkkfipoaaW.PrintLast Go.Proofs.YtgblcbgkkfipoaaW.PrintMore Go.Proofs.YtgblcbgkkfipoaaW.Evs Go.Proofs.Ytgblcbgkkfipoaa.XFnPurchases
set_option linter.unusedVariables false
set_option linter.unusedSimpArgs false
-- boards as they are drawn
theorem paTurning_is (a b : Int) : ∃ t, spec_paTurning.f a b = some t := by
  unfold spec_paTurning.f
  split <;> exact ⟨_, rfl⟩
theorem paAll_l0 : ∀ (m : Nat) (x : List S109) (i : Nat), i + m = 8 → x.length ≤ 2 * i → 1 ≤ x.length + m → EvP (fun k => spec_paAll.l0 k x (i : Int)) (fun v => 1 ≤ v.length ∧ v.length ≤ 16)
  | 0, x, i, e, h1, h2 => by
    refine EvP.succ ?_
    simp only [spec_paAll.l0]
    exact EvP.neg (by omega) (EvP.now ⟨by omega, by omega⟩)
  | m + 1, x, i, e, h1, h2 => by
    obtain ⟨t, ht⟩ := paTurning_is (i : Int) 1
    have hi : i < 8 := by omega
    refine EvP.succ ?_
    simp only [spec_paAll.l0, Option.bind_some, ht, wsucc (show i < 9223372036854775807 by omega)]
    refine EvP.pos (by omega) (EvP.pos (by omega) (EvP.ite (fun _ => EvP.pos (by simp; omega) ?_) (fun _ => ?_)))
    · exact paAll_l0 m _ (i + 1) (by omega) (by simp; omega) (by simp; omega)
    · exact paAll_l0 m _ (i + 1) (by omega) (by simp; omega) (by simp; omega)
theorem paAll_ev : EvP (fun k => spec_paAll.f k) (fun v => 1 ≤ v.length ∧ v.length ≤ 16) := by
  unfold spec_paAll.f
  exact paAll_l0 8 [] 0 rfl (by simp) (by simp)
theorem cell_draw {c : List Int} (hc : Bytes c) {p : Nat × Nat} {b : Nat} (hb : b + 20 < 1152921504606846976) (hp : Ok b p) : EvP (fun k => spec_l1Cur_cell.f k c (p.1 : Int) (p.2 : Int)) (fun v => After (b + 2) v.2.2) := by
  unfold spec_l1Cur_cell.f
  refine EvP.bind paAll_ev ?_
  rintro l ⟨h1, h2⟩
  refine EvP.bindQ (pickP hc (by omega) hp _) ?_
  rintro ⟨v, q⟩ ⟨ha, h0, h3⟩
  simp only at h0 h3
  exact EvP.pos h0 (EvP.pos (by simp only; omega) (EvP.now ha))
def DrewB (b : Nat) (v : Int × Int × List S109 × Int × Int) : Prop := v.2.2.1.length ≤ 90 ∧ 1 ≤ v.2.2.1.length ∧ After b v.2.2.2
theorem boardOf_l0 {c : List Int} (hc : Bytes c) (r s w : Int) (n : Nat) (hn : wrap64 (r * s) = (n : Int)) (h1n : 1 ≤ n) (hn90 : n ≤ 90) : ∀ (m : Nat) (x : List S109) (y z : Int) (p : Nat × Nat) (b : Nat), x.length + m = n → Ok b p → b + 12 * m + 20 < 1152921504606846976 →
    EvP (fun k => spec_l1Cur_boardOf.l0 k r s w c (p.1 : Int) (p.2 : Int) y z x) (DrewB (b + 12 * m))
  | 0, x, y, z, p, b, e, hp, hb => by
    refine EvP.succ ?_
    simp only [spec_l1Cur_boardOf.l0, hn]
    exact EvP.neg (by omega) (EvP.now ⟨by simp only; omega, by simp only; omega, p, rfl, hp⟩)
  | m + 1, x, y, z, p, b, e, hp, hb => by
    have hnext : ∀ (a : S109) (q : Nat × Nat), Ok (b + 12) q → EvP (fun k => spec_l1Cur_boardOf.l0 k r s w c (q.1 : Int) (q.2 : Int) y z (x ++ [a])) (DrewB (b + 12 * (m + 1))) := fun a q hq =>
      (boardOf_l0 hc r s w n hn h1n hn90 m (x ++ [a]) y z q (b + 12) (by simp; omega) hq (by omega)).mono (fun v h => ⟨h.1, h.2.1, by obtain ⟨p2, e, h2⟩ := h.2.2; exact ⟨p2, e, h2.mono (by omega)⟩⟩)
    have hj2 : ∀ (u v : Int) (q : Nat × Nat), Ok (b + 6) q → EvP (fun k => spec_l1Cur_boardOf.j2 k r s w c (q.1 : Int) (q.2 : Int) y z x u v) (DrewB (b + 12 * (m + 1))) := by
      intro u v q hq
      refine EvP.succ ?_
      simp only [spec_l1Cur_boardOf.j2]
      refine EvP.ite (fun _ => EvP.bindQ (oneP hc (by omega) hq _) ?_) (fun _ => EvP.pos (by omega) (hnext _ q (hq.mono (by omega))))
      rintro ⟨t, q2⟩ ⟨p2, rfl, hp2⟩
      refine EvP.ite (fun _ => EvP.pos (by omega) (hnext _ p2 (hp2.mono (by omega)))) (fun _ => EvP.bindQ (pickP hc (by omega) hp2 _) ?_)
      rintro ⟨t, q3⟩ ⟨⟨p3, rfl, hp3⟩, _⟩
      exact EvP.pos (by omega) (hnext _ p3 (hp3.mono (by omega)))
    have hj1 : ∀ (t : Bool) (u v : Int) (q : Nat × Nat), Ok (b + 4) q → EvP (fun k => spec_l1Cur_boardOf.j1 k r s w t c (q.1 : Int) (q.2 : Int) y z x u v) (DrewB (b + 12 * (m + 1))) := by
      intro t u v q hq
      refine EvP.succ ?_
      simp only [spec_l1Cur_boardOf.j1]
      refine EvP.ite (fun _ => EvP.bind (cell_draw hc (by omega) hq) ?_) (fun _ => hj2 _ _ q (hq.mono (by omega)))
      rintro ⟨t1, t2, q2⟩ ⟨p2, hq2, hp2⟩
      simp only at hq2
      subst hq2
      exact hj2 _ _ p2 (hp2.mono (by omega))
    refine EvP.succ ?_
    simp only [spec_l1Cur_boardOf.l0, hn]
    refine EvP.pos (by omega) (EvP.bindQ (oneP hc (by omega) hp _) ?_)
    rintro ⟨t, q2⟩ ⟨p2, rfl, hp2⟩
    refine EvP.ite (fun _ => hj1 _ _ _ p2 (hp2.mono (by omega))) (fun _ => EvP.bindQ (oneP hc (by omega) hp2 _) ?_)
    rintro ⟨t, q3⟩ ⟨p3, rfl, hp3⟩
    exact hj1 _ _ _ p3 (hp3.mono (by omega))
theorem prod_le10 {a b : Int} (h1 : 1 ≤ a) (h2 : a ≤ 10) (h3 : 1 ≤ b) (h4 : b ≤ 9) : 1 ≤ a * b ∧ a * b ≤ 90 := by
  have := Int.mul_le_mul h2 h4 (by omega) (by omega)
  have := Int.mul_le_mul h1 h3 (by omega) (by omega)
  omega
theorem boardOf_draw {c : List Int} (hc : Bytes c) {p : Nat × Nat} {b : Nat} (hb : b + 2000 < 1152921504606846976) (hp : Ok b p) (r s : Int) (h1 : 1 ≤ r) (h2 : r ≤ 10) (h3 : 1 ≤ s) (h4 : s ≤ 9) :
    EvP (fun k => spec_l1Cur_boardOf.f k c (p.1 : Int) (p.2 : Int) r s) (DrewB (b + 1200)) := by
  unfold spec_l1Cur_boardOf.f
  refine EvP.bindQ (amongP hc (by omega) hp (by simp) (by simp)) ?_
  rintro ⟨v3, q3⟩ ⟨⟨p3, rfl, hp3⟩, _⟩
  have hpr := prod_le10 h1 h2 h3 h4
  obtain ⟨n, hn, hn1, hn90⟩ : ∃ n : Nat, wrap64 (r * s) = (n : Int) ∧ 1 ≤ n ∧ n ≤ 90 := ⟨(r * s).toNat, by rw [w64 (by omega) (by omega)]; omega, by omega, by omega⟩
  exact (boardOf_l0 hc r s v3 n hn hn1 hn90 n [] r s p3 (b + 2) (by simp) hp3 (by omega)).mono (fun v h => ⟨h.1, h.2.1, by obtain ⟨p2, e, h2⟩ := h.2.2; exact ⟨p2, e, h2.mono (by omega)⟩⟩)
theorem board_draw {c : List Int} (hc : Bytes c) {p : Nat × Nat} {b : Nat} (hb : b + 3000 < 1152921504606846976) (hp : Ok b p) : EvP (fun k => spec_l1Cur_board.f k c (p.1 : Int) (p.2 : Int)) (DrewB (b + 1300)) := by
  unfold spec_l1Cur_board.f
  refine EvP.bindQ (oneP hc (by omega) hp _) ?_
  rintro ⟨t, q2⟩ ⟨p2, rfl, hp2⟩
  refine EvP.ite (fun _ => EvP.bindQ (amongP hc (by omega) hp2 (by simp) (by simp)) ?_) (fun _ => EvP.bindQ (pickP hc (by omega) hp2 _) ?_)
  · rintro ⟨v3, q3⟩ ⟨⟨p3, rfl, hp3⟩, m3⟩
    refine EvP.bindQ (amongP hc (by omega) hp3 (by simp) (by simp)) ?_
    rintro ⟨v4, q4⟩ ⟨⟨p4, rfl, hp4⟩, m4⟩
    simp only [List.mem_cons, List.not_mem_nil, or_false] at m3 m4
    refine EvP.bind (boardOf_draw hc (by omega) hp4 v3 v4 (by omega) (by omega) (by omega) (by omega)) ?_
    rintro ⟨a1, a2, a3, a4, a5⟩ ⟨h1, h2, p5, e5, h5⟩
    exact EvP.now ⟨h1, h2, p5, e5, h5.mono (by omega)⟩
  · rintro ⟨v3, q3⟩ ⟨⟨p3, rfl, hp3⟩, h30, h31⟩
    refine EvP.bindQ (pickP hc (by omega) hp3 _) ?_
    rintro ⟨v4, q4⟩ ⟨⟨p4, rfl, hp4⟩, h40, h41⟩
    simp only at h30 h31 h40 h41
    simp only [w64 (n := 1 + v3) (by omega) (by omega), w64 (n := 1 + v4) (by omega) (by omega)]
    refine EvP.bind (boardOf_draw hc (by omega) hp4 (1 + v3) (1 + v4) (by omega) (by omega) (by omega) (by omega)) ?_
    rintro ⟨a1, a2, a3, a4, a5⟩ ⟨h1, h2, p5, e5, h5⟩
    exact EvP.now ⟨h1, h2, p5, e5, h5.mono (by omega)⟩
theorem anyCell_draw {c : List Int} (hc : Bytes c) {p : Nat × Nat} {b : Nat} (hb : b + 40 < 1152921504606846976) (hp : Ok b p) : EvP (fun k => spec_l1Cur_anyCell.f k c (p.1 : Int) (p.2 : Int)) (fun v => After (b + 10) v.2.2) := by
  unfold spec_l1Cur_anyCell.f
  refine EvP.bind (cell_draw hc (by omega) hp) ?_
  rintro ⟨t1, t2, q2⟩ ⟨p2, hq2, hp2⟩
  simp only at hq2
  subst hq2
  refine EvP.bindQ (pickP hc (by omega) hp2 _) ?_
  rintro ⟨v4, q4⟩ ⟨⟨p4, rfl, hp4⟩, _⟩
  refine EvP.ite (fun _ => EvP.bindQ (amongP hc (by omega) hp4 (by simp) (by simp)) ?_) (fun _ => EvP.ite (fun _ => EvP.bindQ (amongP hc (by omega) hp4 (by simp) (by simp)) ?_) (fun _ => EvP.now ⟨p4, rfl, hp4.mono (by omega)⟩))
  · rintro ⟨v5, q5⟩ ⟨⟨p5, rfl, hp5⟩, _⟩
    exact EvP.now ⟨p5, rfl, hp5.mono (by omega)⟩
  · rintro ⟨v5, q5⟩ ⟨⟨p5, rfl, hp5⟩, _⟩
    exact EvP.now ⟨p5, rfl, hp5.mono (by omega)⟩
def DrewB0 (b : Nat) (v : Int × Int × List S109 × Int × Int) : Prop := v.2.2.1.length ≤ 90 ∧ After b v.2.2.2
theorem anyBoard_draw {c : List Int} (hc : Bytes c) {p : Nat × Nat} {b : Nat} (hb : b + 4000 < 1152921504606846976) (hp : Ok b p) : EvP (fun k => spec_l1Cur_anyBoard.f k c (p.1 : Int) (p.2 : Int)) (DrewB0 (b + 1400)) := by
  unfold spec_l1Cur_anyBoard.f
  refine EvP.bind (board_draw hc (by omega) hp) ?_
  rintro ⟨a1, a2, a3, q⟩ ⟨h1, h2, p5, e5, h5⟩
  simp only at h1 h2 e5
  subst e5
  refine EvP.bindQ (pickP hc (by omega) h5 _) ?_
  rintro ⟨v4, q4⟩ ⟨⟨p4, rfl, hp4⟩, _⟩
  refine EvP.ite (fun _ => EvP.bindQ (amongP hc (by omega) hp4 (by simp) (by simp)) ?_) (fun _ => EvP.ite (fun _ => EvP.bindQ (amongP hc (by omega) hp4 (by simp) (by simp)) ?_) (fun _ => EvP.ite (fun _ => EvP.bindQ (pickP hc (by omega) hp4 _) ?_) (fun _ => EvP.ite (fun _ => EvP.pos (by simp only; omega) (EvP.now ⟨by simp; omega, p4, rfl, hp4.mono (by omega)⟩)) (fun _ => EvP.ite (fun _ => EvP.pos (by omega) (EvP.now ⟨by simp, p4, rfl, hp4.mono (by omega)⟩)) (fun _ => EvP.ite (fun _ => EvP.pos (by omega) (EvP.now ⟨by simp, p4, rfl, hp4.mono (by omega)⟩)) (fun _ => EvP.now ⟨h1, p4, rfl, hp4.mono (by omega)⟩))))))
  · rintro ⟨v6, q6⟩ ⟨⟨p6, rfl, hp6⟩, _⟩
    exact EvP.now ⟨h1, p6, rfl, hp6.mono (by omega)⟩
  · rintro ⟨v6, q6⟩ ⟨⟨p6, rfl, hp6⟩, _⟩
    exact EvP.now ⟨h1, p6, rfl, hp6.mono (by omega)⟩
  · rintro ⟨v6, q6⟩ ⟨⟨p6, rfl, hp6⟩, h60, h61⟩
    simp only at h60 h61
    refine EvP.bind (anyCell_draw hc (by omega) hp6) ?_
    rintro ⟨t1, t2, q2⟩ ⟨p2, hq2, hp2⟩
    simp only at hq2
    subst hq2
    exact EvP.pos h60 (EvP.pos (by simp only; omega) (EvP.now ⟨by simp only [List.length_set]; exact h1, p2, rfl, hp2.mono (by omega)⟩))
theorem drawNeeded_ev {c : List Int} (hc : Bytes c) : EvP (fun k => spec_DrawNeededParts.f k c) (fun v => v.2.2.length ≤ 90) := by
  unfold spec_DrawNeededParts.f
  refine EvP.bind (anyBoard_draw hc (p := (0, 0)) (b := 0) (by omega) ⟨Nat.le_refl _, by simp⟩) ?_
  rintro ⟨a1, a2, a3, q⟩ ⟨h1, _⟩
  exact EvP.now h1
end Go.Proofs.Ytgblcbgkkfipoaa.Pure
