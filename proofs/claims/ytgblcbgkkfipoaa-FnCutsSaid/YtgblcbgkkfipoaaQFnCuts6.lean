/-
  Plain lemmas for FnCuts: what the printed functions answer.
-/
import Derived.Test.YtgblcbgkkfipoaaQFnCuts5
import Derived.Test.YtgblcbgkkfipoaaWEvs
namespace Go.Proofs.Ytgblcbgkkfipoaa.Pure
open Go.RowKit Go.Proofs.YtgblcbgkkfipoaaW.PrintWords Go.Proofs.YtgblcbgkkfipoaaW.PrintLast Go.Proofs.YtgblcbgkkfipoaaW.PrintMore Go.Proofs.YtgblcbgkkfipoaaW.Evs Go.Proofs.Ytgblcbgkkfipoaa.XFnCuts
set_option linter.unusedVariables false
set_option linter.unusedSimpArgs false
-- records and numbers as they are drawn
theorem good_one : Good [⟨1, 2, 5⟩] := ⟨by simp, fun r hr => by rw [List.mem_singleton.1 hr]; left; exact ⟨rfl, by simp, by simp, by simp, by simp⟩⟩
theorem recJ_draw {c : List Int} (hc : Bytes c) {p : Nat × Nat} {b : Nat} (hb : b + 9 < 1152921504606846976) (hp : Ok b p) (x y z : Int) (hv : Valid ⟨x, y, z⟩) :
    EvP (fun k => spec_l1Cur_journalRecord.j0 k c (p.1 : Int) (p.2 : Int) x y z)
      (fun v => (v.2.2.2 = (((nx c p).1 : Int), ((nx c p).2 : Int)) ∧ Valid ⟨v.1, v.2.1, v.2.2.1⟩) ∨ v.2.2.2 = (((nx c (nx c p)).1 : Int), ((nx c (nx c p)).2 : Int))) := by
  refine EvP.succ ?_
  simp only [spec_l1Cur_journalRecord.j0]
  refine EvP.bindS (pick_is hc (by omega) hp (n := 40) (by omega) (by omega)) ?_
  refine EvP.ite (fun _ => ?_) (fun _ => EvP.ite (fun _ => ?_) (fun _ => EvP.ite (fun _ => ?_) (fun _ => EvP.now (.inl ⟨rfl, hv⟩))))
  · obtain ⟨w, hw, _⟩ := amongX hc (b := b + 1) (by omega) (hp.nx (c := c)) (l := [0, 3]) (by simp) (by simp)
    exact EvP.bindS hw (EvP.now (.inr rfl))
  · obtain ⟨w, hw, _⟩ := amongX hc (b := b + 1) (by omega) (hp.nx (c := c)) (l := [-1, 1, 8]) (by simp) (by simp)
    exact EvP.bindS hw (EvP.now (.inr rfl))
  · obtain ⟨w, hw, _⟩ := amongX hc (b := b + 1) (by omega) (hp.nx (c := c)) (l := [-1, 1, 1000]) (by simp) (by simp)
    exact EvP.bindS hw (EvP.now (.inr rfl))
theorem rec_draw {c : List Int} (hc : Bytes c) {p : Nat × Nat} {b : Nat} (hb : b + 20 < 1152921504606846976) (hp : Ok b p) :
    EvP (fun k => spec_l1Cur_journalRecord.f k c (p.1 : Int) (p.2 : Int))
      (fun v => ∃ p', v.2.2.2 = ((p'.1 : Int), (p'.2 : Int)) ∧ ((p' = it (nx c) 6 p ∧ Valid ⟨v.1, v.2.1, v.2.2.1⟩) ∨ p' = it (nx c) 7 p)) := by
  unfold spec_l1Cur_journalRecord.f
  have h8 := Nat.mod_lt (nv c p) (show 0 < 8 by omega)
  have h1000 := Nat.mod_lt (nv c (nx c p) * 256 + nv c (nx c (nx c p))) (show 0 < 1000 by omega)
  refine EvP.bindS (pick_is hc (by omega) hp (n := 8) (by omega) (by omega)) ?_
  refine EvP.bindS (pick2_is hc (b := b + 1) (by omega) (hp.nx (c := c)) (n := 1000) (by omega)) ?_
  obtain ⟨w, hw, hm⟩ := amongX hc (b := b + 3) (by omega) (hp.nx (c := c)).nx.nx (l := [0, 5, 999, (((nv c (nx c p) * 256 + nv c (nx c (nx c p))) % 1000 : Nat) : Int)]) (by simp) (by simp)
  refine EvP.bindS hw ?_
  refine EvP.bindS (one_is hc (b := b + 4) (by omega) (hp.nx (c := c)).nx.nx.nx (n := 3) (by omega) (by omega)) ?_
  have hq : Ok (b + 5) (nx c (nx c (nx c (nx c (nx c p))))) := (hp.nx (c := c)).nx.nx.nx.nx
  have hfin : ∀ x y z, Valid ⟨x, y, z⟩ → EvP (fun k => spec_l1Cur_journalRecord.j0 k c ((nx c (nx c (nx c (nx c (nx c p))))).1 : Int) ((nx c (nx c (nx c (nx c (nx c p))))).2 : Int) x y z)
      (fun v => ∃ p', v.2.2.2 = ((p'.1 : Int), (p'.2 : Int)) ∧ ((p' = it (nx c) 6 p ∧ Valid ⟨v.1, v.2.1, v.2.2.1⟩) ∨ p' = it (nx c) 7 p)) := by
    intro x y z hv
    refine (recJ_draw hc (b := b + 5) (by omega) hq x y z hv).mono ?_
    rintro v (⟨h1, h2⟩ | h1)
    · exact ⟨_, h1, .inl ⟨rfl, h2⟩⟩
    · exact ⟨_, h1, .inr rfl⟩
  refine EvP.ite (fun _ => hfin 2 0 0 (.inr ⟨rfl, rfl, rfl⟩)) (fun _ => hfin 1 _ _ (.inl ⟨rfl, ?_, ?_, ?_, ?_⟩))
  · simp only; omega
  · simp only; omega
  · simp only [List.mem_cons, List.not_mem_nil, or_false] at hm
    simp only; omega
  · simp only [List.mem_cons, List.not_mem_nil, or_false] at hm
    simp only; omega
def WW : Nat := 29686823387145
def Drew (n b : Nat) (v : List R × Int × Int) : Prop := v.1.length ≤ n ∧ After b v.2
theorem jrecs_in {c : List Int} (hc : Bytes c) (n : Nat) (hn : n ≤ 41) (acc : List R) (hl : acc.length < n) (m : Nat)
    (ih : ∀ (acc' : List R) (p : Nat × Nat) (b : Nat), acc'.length = acc.length + 1 → Ok b p → b + m ≤ 1152921504606846000 → EvP (fun k => spec_l1Cur_journalRecords.l0 k acc' (n : Int) c (p.1 : Int) (p.2 : Int)) (Drew n (b + m))) :
    ∀ (J : Nat) (p : Nat × Nat) (b : Nat), nv c (it (nx c) (9 * J + 7) p) % 4 = 0 → Ok b p → b + (9 * (J + 1) + m) ≤ 1152921504606846000 →
      EvP (fun k => spec_l1Cur_journalRecords.l0 k acc (n : Int) c (p.1 : Int) (p.2 : Int)) (Drew n (b + (9 * (J + 1) + m))) := by
  intro J
  induction J with
  | zero =>
    intro p b hJ hp hb
    refine EvP.succ ?_
    simp only [spec_l1Cur_journalRecords.l0]
    refine EvP.pos (by omega) (EvP.bind (rec_draw hc (by omega) hp) ?_)
    rintro ⟨x, y, z, q⟩ ⟨p', hq, hcase⟩
    simp only at hq hcase
    subst hq
    refine EvP.bindS (jrRec_is _ _ _) ?_
    by_cases hv : Valid ⟨x, y, z⟩
    · refine EvP.pos (decide_eq_true hv) (EvP.succ ?_)
      simp only [spec_l1Cur_journalRecords.j2]
      refine EvP.pos trivial (EvP.pos (by omega) (EvP.succ ?_))
      simp only [spec_l1Cur_journalRecords.j3]
      refine EvP.bindS (jrRec_is _ _ _) (EvP.pos (decide_eq_true hv) ?_)
      have hp' : Ok (b + 7) p' := by
        rcases hcase with ⟨rfl, _⟩ | rfl
        · exact (Ok.it hp).mono (by omega)
        · exact Ok.it hp
      exact (ih _ p' (b + 7) (by simp) hp' (by omega)).mono (fun v h => ⟨h.1, by obtain ⟨p2, e, h2⟩ := h.2; exact ⟨p2, e, h2.mono (by omega)⟩⟩)
    · obtain rfl : p' = it (nx c) 7 p := hcase.resolve_left (fun h => hv h.2)
      have hp' : Ok (b + 7) (it (nx c) 7 p) := Ok.it hp
      refine EvP.neg (by rw [decide_eq_true_eq]; exact hv) (EvP.bindS (one_is hc (by omega) hp' (n := 4) (by omega) (by omega)) (EvP.succ ?_))
      simp only [spec_l1Cur_journalRecords.j2]
      refine EvP.pos (decide_eq_true hJ) (EvP.pos (by omega) (EvP.succ ?_))
      simp only [spec_l1Cur_journalRecords.j3]
      refine EvP.bindS (jrRec_is _ _ _) (EvP.neg (by rw [decide_eq_true_eq]; exact hv) (EvP.bindS (one_is hc (b := b + 8) (by omega) hp'.nx (n := 8) (by omega) (by omega)) (EvP.ite (fun _ => EvP.now ?_) (fun _ => ?_))))
      · exact ⟨by simp; omega, _, rfl, hp'.nx.nx.mono (by omega)⟩
      · exact (ih _ _ (b + 9) (by simp) hp'.nx.nx (by omega)).mono (fun v h => ⟨h.1, by obtain ⟨p2, e, h2⟩ := h.2; exact ⟨p2, e, h2.mono (by omega)⟩⟩)
  | succ J ihJ =>
    intro p b hJ hp hb
    refine EvP.succ ?_
    simp only [spec_l1Cur_journalRecords.l0]
    refine EvP.pos (by omega) (EvP.bind (rec_draw hc (by omega) hp) ?_)
    rintro ⟨x, y, z, q⟩ ⟨p', hq, hcase⟩
    simp only at hq hcase
    subst hq
    refine EvP.bindS (jrRec_is _ _ _) ?_
    by_cases hv : Valid ⟨x, y, z⟩
    · refine EvP.pos (decide_eq_true hv) (EvP.succ ?_)
      simp only [spec_l1Cur_journalRecords.j2]
      refine EvP.pos trivial (EvP.pos (by omega) (EvP.succ ?_))
      simp only [spec_l1Cur_journalRecords.j3]
      refine EvP.bindS (jrRec_is _ _ _) (EvP.pos (decide_eq_true hv) ?_)
      have hp' : Ok (b + 7) p' := by
        rcases hcase with ⟨rfl, _⟩ | rfl
        · exact (Ok.it hp).mono (by omega)
        · exact Ok.it hp
      exact (ih _ p' (b + 7) (by simp) hp' (by omega)).mono (fun v h => ⟨h.1, by obtain ⟨p2, e, h2⟩ := h.2; exact ⟨p2, e, h2.mono (by omega)⟩⟩)
    · obtain rfl : p' = it (nx c) 7 p := hcase.resolve_left (fun h => hv h.2)
      have hp' : Ok (b + 7) (it (nx c) 7 p) := Ok.it hp
      refine EvP.neg (by rw [decide_eq_true_eq]; exact hv) (EvP.bindS (one_is hc (by omega) hp' (n := 4) (by omega) (by omega)) (EvP.succ ?_))
      simp only [spec_l1Cur_journalRecords.j2]
      have hbreak : ∀ acc' : List R, acc'.length ≤ n → EvP (fun k => spec_l1Cur_journalRecords.l0 k acc' (n : Int) c ((nx c (nx c (it (nx c) 7 p))).1 : Int) ((nx c (nx c (it (nx c) 7 p))).2 : Int)) (Drew n (b + (9 * (J + 1 + 1) + m))) →
          EvP (fun k => spec_l1Cur_journalRecords.j3 k acc' (n : Int) c ((nx c (it (nx c) 7 p)).1 : Int) ((nx c (it (nx c) 7 p)).2 : Int) x y z) (Drew n (b + (9 * (J + 1 + 1) + m))) := by
        intro acc' h' hrest
        refine EvP.succ ?_
        simp only [spec_l1Cur_journalRecords.j3]
        refine EvP.bindS (jrRec_is _ _ _) (EvP.neg (by rw [decide_eq_true_eq]; exact hv) (EvP.bindS (one_is hc (b := b + 8) (by omega) hp'.nx (n := 8) (by omega) (by omega)) (EvP.ite (fun _ => EvP.now ?_) (fun _ => hrest))))
        exact ⟨h', _, rfl, hp'.nx.nx.mono (by omega)⟩
      refine EvP.ite (fun _ => EvP.pos (by omega) (hbreak _ (by simp; omega) ?_)) (fun _ => hbreak _ (by omega) ?_)
      · exact (ih _ _ (b + 9) (by simp) hp'.nx.nx (by omega)).mono (fun v h => ⟨h.1, by obtain ⟨p2, e, h2⟩ := h.2; exact ⟨p2, e, h2.mono (by omega)⟩⟩)
      · have e9 : nx c (nx c (it (nx c) 7 p)) = it (nx c) 9 p := by rw [← it_snoc (nx c) 7 p, ← it_snoc (nx c) 8 p]
        rw [e9]
        refine (ihJ (it (nx c) 9 p) (b + 9) ?_ (Ok.it hp) (by omega)).mono (fun v h => ⟨h.1, by obtain ⟨p2, e, h2⟩ := h.2; exact ⟨p2, e, h2.mono (by omega)⟩⟩)
        rw [← it_add, show 9 + (9 * J + 7) = 9 * (J + 1) + 7 by omega]
        exact hJ
theorem jrecs_l {c : List Int} (hc : Bytes c) (n : Nat) (hn : n ≤ 41) : ∀ (d : Nat) (acc : List R) (p : Nat × Nat) (b : Nat), acc.length + d = n → Ok b p → b + d * WW ≤ 1152921504606846000 →
    EvP (fun k => spec_l1Cur_journalRecords.l0 k acc (n : Int) c (p.1 : Int) (p.2 : Int)) (Drew n (b + d * WW))
  | 0, acc, p, b, hd, hp, hb => by
    refine EvP.succ ?_
    simp only [spec_l1Cur_journalRecords.l0]
    exact EvP.neg (by omega) (EvP.now ⟨by simp only; omega, p, rfl, hp.mono (by omega)⟩)
  | d + 1, acc, p, b, hd, hp, hb => by
    obtain ⟨J, hJ, hh⟩ := hit_ex c p
    have hc1 := hc.1
    have hW : 9 * (J + 1) ≤ WW := by unfold WW; omega
    have hm : (d + 1) * WW = WW + d * WW := by rw [Nat.succ_mul, Nat.add_comm]
    refine (jrecs_in hc n hn acc (by omega) (d * WW) (fun acc' p' b' h1 h2 h3 => jrecs_l hc n hn d acc' p' b' (by omega) h2 h3) J p b hh hp (by omega)).mono ?_
    exact fun v h => ⟨h.1, by obtain ⟨p2, e, h2⟩ := h.2; exact ⟨p2, e, h2.mono (by omega)⟩⟩
def BIG : Nat := 2251799813685248
theorem jrecs_draw {c : List Int} (hc : Bytes c) {p : Nat × Nat} {b : Nat} (hb : b + BIG ≤ 1152921504606840000) (hp : Ok b p) :
    EvP (fun k => spec_l1Cur_journalRecords.f k c (p.1 : Int) (p.2 : Int)) (Drew 41 (b + BIG)) := by
  have hB : BIG = 2251799813685248 := rfl
  have hj0 : ∀ (n : Nat) (p' : Nat × Nat), n ≤ 41 → Ok (b + 10) p' → EvP (fun k => spec_l1Cur_journalRecords.j0 k ([] : List R) (n : Int) c (p'.1 : Int) (p'.2 : Int)) (Drew 41 (b + BIG)) := by
    intro n p' hn hp'
    refine EvP.succ ?_
    simp only [spec_l1Cur_journalRecords.j0]
    have hnW : n * WW ≤ 41 * WW := Nat.mul_le_mul_right _ hn
    have hW : WW = 29686823387145 := rfl
    refine (jrecs_l hc n hn n [] p' (b + 10) (by simp) hp' (by omega)).mono ?_
    exact fun v h => ⟨Nat.le_trans h.1 hn, by obtain ⟨p2, e, h2⟩ := h.2; exact ⟨p2, e, h2.mono (by omega)⟩⟩
  unfold spec_l1Cur_journalRecords.f
  have h9 := Nat.mod_lt (nv c p) (show 0 < 9 by omega)
  refine EvP.bindS (pick_is hc (by omega) hp (n := 9) (by omega) (by omega)) ?_
  refine EvP.bindS (one_is hc (b := b + 1) (by omega) (hp.nx (c := c)) (n := 16) (by omega) (by omega)) ?_
  refine EvP.ite (fun _ => ?_) (fun _ => hj0 _ _ (by omega) ((hp.nx (c := c)).nx.mono (by omega)))
  have h2 := Nat.mod_lt (nv c (nx c (nx c p))) (show 0 < 2 by omega)
  refine EvP.bindS (pick_is hc (b := b + 2) (by omega) (hp.nx (c := c)).nx (n := 2) (by omega) (by omega)) ?_
  have e : wrap64 (40 + ((nv c (nx c (nx c p)) % 2 : Nat) : Int)) = ((40 + nv c (nx c (nx c p)) % 2 : Nat) : Int) := by unfold wrap64; omega
  simp only [e]
  exact hj0 _ _ (by omega) ((hp.nx (c := c)).nx.nx.mono (by omega))
def DrewN (b : Nat) (v : List Int × Int × Int) : Prop := v.1.length ≤ 201 ∧ After b v.2
theorem numbers_l {c : List Int} (p : Nat × Nat) (n : Nat) (b : Nat) (hp : Ok b p) (hn : n ≤ 201) : ∀ (m : Nat) (x : List Int), x.length ≤ 200 ∨ x.length ≤ n → n ≤ x.length + m →
    EvP (fun k => spec_l1Cur_numbers.l0 k x (n : Int) c (p.1 : Int) (p.2 : Int)) (DrewN b)
  | 0, x, hx, hm => by
    refine EvP.succ ?_
    simp only [spec_l1Cur_numbers.l0]
    exact EvP.neg (by omega) (EvP.now ⟨by simp only; omega, p, rfl, hp⟩)
  | m + 1, x, hx, hm => by
    refine EvP.succ ?_
    simp only [spec_l1Cur_numbers.l0]
    refine EvP.ite (fun h => EvP.pos (by omega) (numbers_l p n b hp hn m (x ++ [1]) (.inr (by simp; omega)) (by simp; omega))) (fun h => EvP.now ⟨by simp only; omega, p, rfl, hp⟩)
theorem numbers_j1 {c : List Int} (hc : Bytes c) {p : Nat × Nat} {b : Nat} (hb : b + 20 < 1152921504606846976) (hp : Ok b p) (x : List Int) (hx : x.length ≤ 200) (w : Int) (t : Bool) :
    EvP (fun k => spec_l1Cur_numbers.j1 k x w t c (p.1 : Int) (p.2 : Int)) (DrewN (b + 20)) := by
  refine EvP.succ ?_
  simp only [spec_l1Cur_numbers.j1]
  have ew : wrap64 ((x.length : Int) + 1) = ((x.length + 1 : Nat) : Int) := by unfold wrap64; omega
  simp only [ew]
  refine EvP.ite (fun _ => EvP.bindQ (pickP hc (by omega) hp _) ?_) (fun _ => ?_)
  · rintro ⟨v, q⟩ ⟨⟨p', rfl, hp'⟩, h0, h1⟩
    simp only at h0 h1
    exact EvP.pos h0 (EvP.pos (by simp only; omega) (EvP.now ⟨by simp only [List.length_take]; omega, p', rfl, hp'.mono (by omega)⟩))
  · refine EvP.ite (fun _ => EvP.ite (fun hlen => EvP.bindQ (pickP hc (by omega) hp _) ?_) (fun _ => EvP.now ⟨by simp only; omega, p, rfl, hp.mono (by omega)⟩)) (fun _ => EvP.ite (fun _ => EvP.ite (fun hlen => EvP.bindQ (pickP hc (by omega) hp _) ?_) (fun _ => EvP.now ⟨by simp only; omega, p, rfl, hp.mono (by omega)⟩)) (fun _ => EvP.ite (fun _ => EvP.bindQ (pickP hc (by omega) hp _) ?_) (fun _ => EvP.now ⟨by simp only; omega, p, rfl, hp.mono (by omega)⟩)))
    · rintro ⟨v, q⟩ ⟨⟨p', rfl, hp'⟩, h0, h1⟩
      simp only at h0 h1
      refine EvP.bindQ (pickP hc (by omega) hp' _) ?_
      rintro ⟨v2, q2⟩ ⟨⟨p2, rfl, hp2⟩, _, _⟩
      refine EvP.bindQ (amongP hc (by omega) hp2 (by simp) (by simp)) ?_
      rintro ⟨v3, q3⟩ ⟨⟨p3, rfl, hp3⟩, _⟩
      exact EvP.pos h0 (EvP.pos (by simp only; omega) (EvP.now ⟨by simp only [List.length_set]; omega, p3, rfl, hp3.mono (by omega)⟩))
    · rintro ⟨v, q⟩ ⟨⟨p', rfl, hp'⟩, h0, h1⟩
      exact EvP.pos (by omega) (EvP.now ⟨by simp only [List.length_append, List.length_cons, List.length_nil]; omega, p', rfl, hp'.mono (by omega)⟩)
    · rintro ⟨v, q⟩ ⟨⟨p', rfl, hp'⟩, h0, h1⟩
      refine EvP.ite (fun _ => EvP.bindQ (pickP hc (by omega) hp' _) ?_) (fun _ => EvP.ite (fun _ => EvP.bindQ (amongP hc (by omega) hp' (by simp) (by simp)) ?_) (fun _ => EvP.now ⟨by simp only; omega, p', rfl, hp'.mono (by omega)⟩))
      · rintro ⟨v2, q2⟩ ⟨⟨p2, rfl, hp2⟩, h2, h3⟩
        simp only at h2 h3
        obtain ⟨n, hn, hn1⟩ : ∃ n : Nat, wrap64 (200 + v2) = (n : Int) ∧ n ≤ 201 := ⟨(200 + v2).toNat, by unfold wrap64; omega, by omega⟩
        simp only [hn]
        exact (numbers_l p2 n _ hp2 hn1 n x (.inl hx) (by omega)).mono (fun v h => ⟨h.1, by obtain ⟨p3, e, h4⟩ := h.2; exact ⟨p3, e, h4.mono (by omega)⟩⟩)
      · rintro ⟨v2, q2⟩ ⟨⟨p2, rfl, hp2⟩, _⟩
        exact EvP.pos (by omega) (EvP.now ⟨by simp only [List.length_append, List.length_cons, List.length_nil]; omega, p2, rfl, hp2.mono (by omega)⟩)
theorem numbers_j0 {c : List Int} (hc : Bytes c) {p : Nat × Nat} {b : Nat} (hb : b + 30 < 1152921504606846976) (hp : Ok b p) (l : List R) (hl : Good l) :
    EvP (fun k => spec_l1Cur_numbers.j0 k l c (p.1 : Int) (p.2 : Int)) (DrewN (b + 30)) := by
  refine EvP.succ ?_
  simp only [spec_l1Cur_numbers.j0]
  have h1 := jall_length l 0
  have h2 := hl.1
  refine EvP.bindE (jrAll_ev hl) (EvP.bindQ (pickP hc (by omega) hp _) ?_)
  rintro ⟨v, q⟩ ⟨⟨p', rfl, hp'⟩, _, _⟩
  have hj := fun w t => (numbers_j1 hc (by omega) hp' (jall 0 l) (by omega) w t).mono (Q := DrewN (b + 30)) (fun v h => ⟨h.1, by obtain ⟨p3, e, h4⟩ := h.2; exact ⟨p3, e, h4.mono (by omega)⟩⟩)
  exact EvP.ite (fun _ => hj _ _) (fun _ => hj _ _)
theorem numbers_draw {c : List Int} (hc : Bytes c) {p : Nat × Nat} {b : Nat} (hb : b + BIG ≤ 1152921504606840000) (hp : Ok b p) :
    EvP (fun k => spec_l1Cur_numbers.f k c (p.1 : Int) (p.2 : Int)) (DrewN (b + BIG + 30)) := by
  unfold spec_l1Cur_numbers.f
  refine EvP.bind (jrecs_draw hc hb hp) ?_
  rintro ⟨l, q⟩ ⟨hl, p', rfl, hp'⟩
  simp only at hl
  refine EvP.bindE (jrGood_ev l (by omega)) ?_
  exact EvP.ite (fun h => numbers_j0 hc (by omega) hp' l (of_decide_eq_true h)) (fun _ => numbers_j0 hc (by omega) hp' _ good_one)
end Go.Proofs.Ytgblcbgkkfipoaa.Pure
