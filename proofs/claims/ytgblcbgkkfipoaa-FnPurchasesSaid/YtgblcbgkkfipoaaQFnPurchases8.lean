/-
  Plain lemmas for FnPurchases: what the printed functions answer.
-/
import Derived.Test.YtgblcbgkkfipoaaQFnPurchases1
import Derived.Test.YtgblcbgkkfipoaaXFnPurchasesx8
import Derived.Test.YtgblcbgkkfipoaaXFnPurchasesx9
import Derived.Test.YtgblcbgkkfipoaaXFnPurchasesx10
import Derived.Test.YtgblcbgkkfipoaaXFnPurchasesx11
import Derived.Test.YtgblcbgkkfipoaaWEvs
namespace Go.Proofs.Ytgblcbgkkfipoaa.Pure
open Go.RowKit Go.Proofs.YtgblcbgkkfipoaaW.PrintWords Go.Proofs.YtgblcbgkkfipoaaW.PrintLast Go.Proofs.YtgblcbgkkfipoaaW.PrintMore Go.Proofs.YtgblcbgkkfipoaaW.Evs Go.Proofs.Ytgblcbgkkfipoaa.XFnPurchases
set_option linter.unusedVariables false
set_option linter.unusedSimpArgs false
-- kits, prices, needed parts as they are drawn
theorem seven {v : Int} (h0 : 0 ≤ v) (h1 : v < 24 ∨ v = 0) : ∃ n : Nat, wrap64 (7 - (wrap64 (Int.tdiv v 23))) = (n : Int) ∧ 6 ≤ n ∧ n ≤ 7 := by
  refine ⟨(7 - Int.tdiv v 23).toNat, ?_⟩
  rw [Int.tdiv_eq_ediv_of_nonneg h0]
  rw [w64 (n := v / 23) (by omega) (by omega), w64 (by omega) (by omega)]
  omega
def DrewL (m b : Nat) (v : List Int × Int × Int) : Prop := v.1.length ≤ m ∧ After b v.2
theorem kit_l0 {c : List Int} (hc : Bytes c) (n : Nat) (hn : 6 ≤ n) (hn7 : n ≤ 7) : ∀ (m : Nat) (x : List Int) (p : Nat × Nat) (b : Nat), x.length ≤ n → n ≤ x.length + m → Ok b p → b + 6 * m + 20 < 1152921504606846976 →
    EvP (fun k => spec_l1Cur_kit.l0 k x (n : Int) c (p.1 : Int) (p.2 : Int)) (DrewL 7 (b + 6 * m + 20)) := by
  have hend : ∀ (x : List Int) (p : Nat × Nat) (b : Nat), x.length = n → Ok b p → b + 20 < 1152921504606846976 → EvP (fun k => spec_l1Cur_kit.l0 k x (n : Int) c (p.1 : Int) (p.2 : Int)) (DrewL 7 (b + 20)) := by
    intro x p b hx hp hb
    refine EvP.succ ?_
    simp only [spec_l1Cur_kit.l0]
    refine EvP.neg (by omega) (EvP.bindQ (oneP hc (by omega) hp _) ?_)
    rintro ⟨t, q⟩ ⟨p', rfl, hp'⟩
    refine EvP.ite (fun _ => EvP.bindQ (pickP hc (by omega) hp' _) ?_) (fun _ => EvP.now ⟨by simp only; omega, p', rfl, hp'.mono (by omega)⟩)
    rintro ⟨v, q⟩ ⟨⟨p2, rfl, hp2⟩, h0, h1⟩
    simp only at h0 h1
    refine EvP.bindQ (amongP hc (by omega) hp2 (by simp) (by simp)) ?_
    rintro ⟨v3, q3⟩ ⟨⟨p3, rfl, hp3⟩, _⟩
    exact EvP.pos h0 (EvP.pos (by simp only; omega) (EvP.now ⟨by simp only [List.length_set]; omega, p3, rfl, hp3.mono (by omega)⟩))
  intro m
  induction m with
  | zero =>
    intro x p b h1 h2 hp hb
    exact (hend x p b (by omega) hp (by omega)).mono (fun v h => ⟨h.1, by obtain ⟨p2, e, h2⟩ := h.2; exact ⟨p2, e, h2.mono (by omega)⟩⟩)
  | succ m ih =>
    intro x p b h1 h2 hp hb
    by_cases hx : x.length = n
    · exact (hend x p b hx hp (by omega)).mono (fun v h => ⟨h.1, by obtain ⟨p2, e, h2⟩ := h.2; exact ⟨p2, e, h2.mono (by omega)⟩⟩)
    · refine EvP.succ ?_
      simp only [spec_l1Cur_kit.l0]
      refine EvP.pos (by omega) (EvP.bindQ (pickP hc (by omega) hp _) ?_)
      rintro ⟨v, q⟩ ⟨⟨p', rfl, hp'⟩, _⟩
      refine EvP.bindQ (amongP hc (by omega) hp' (by simp) (by simp)) ?_
      rintro ⟨v3, q3⟩ ⟨⟨p3, rfl, hp3⟩, _⟩
      refine EvP.pos (by omega) ((ih _ p3 (b + 2 + 2) (by simp; omega) (by simp; omega) hp3 (by omega)).mono (fun v h => ⟨h.1, by obtain ⟨p2, e, h2⟩ := h.2; exact ⟨p2, e, h2.mono (by omega)⟩⟩))
theorem kit_draw {c : List Int} (hc : Bytes c) {p : Nat × Nat} {b : Nat} (hb : b + 100 < 1152921504606846976) (hp : Ok b p) : EvP (fun k => spec_l1Cur_kit.f k c (p.1 : Int) (p.2 : Int)) (DrewL 7 (b + 100)) := by
  unfold spec_l1Cur_kit.f
  refine EvP.bindQ (pickP hc (by omega) hp 24) ?_
  rintro ⟨v, q⟩ ⟨⟨p', rfl, hp'⟩, h0, h1⟩
  obtain ⟨n, hn, h6, h7⟩ := seven h0 h1
  simp only at hn
  simp only [hn]
  exact (kit_l0 hc n h6 h7 7 [] p' (b + 2) (by simp) (by simp; omega) hp' (by omega)).mono (fun v h => ⟨h.1, by obtain ⟨p2, e, h2⟩ := h.2; exact ⟨p2, e, h2.mono (by omega)⟩⟩)
def DrewK (v : List (List Int) × List Int × List Int × Int × Int) : Prop := (∀ r ∈ v.1, r.length ≤ 7) ∧ v.1.length ≤ 7 ∧ v.2.1.length ≤ 7 ∧ v.2.2.1.length ≤ 7
theorem mem_snoc {α : Type} {P : α → Prop} {l : List α} {a : α} (h : ∀ r ∈ l, P r) (ha : P a) : ∀ r ∈ l ++ [a], P r := fun r hr => by
  rcases List.mem_append.1 hr with hr | hr
  · exact h r hr
  · rw [List.mem_singleton.1 hr]; exact ha
theorem kits_l2 {c : List Int} (hc : Bytes c) (l : List (List Int)) (s : List Int) (n : Nat) (hn : n ≤ 7) (hl : l.length = n) (hs : s.length = n) (hr : ∀ r ∈ l, r.length ≤ 7) :
    ∀ (m : Nat) (x : List Int) (p : Nat × Nat) (b : Nat), x.length ≤ 7 → 7 ≤ x.length + m → Ok b p → b + 2 * m + 200 < 1152921504606846976 → EvP (fun k => spec_l1Cur_kits.l2 k l s (n : Int) x c (p.1 : Int) (p.2 : Int)) DrewK := by
  have hend : ∀ (x : List Int) (p : Nat × Nat) (b : Nat), x.length = 7 → Ok b p → b + 200 < 1152921504606846976 → EvP (fun k => spec_l1Cur_kits.l2 k l s (n : Int) x c (p.1 : Int) (p.2 : Int)) DrewK := by
    intro x p b hx hp hb
    refine EvP.succ ?_
    simp only [spec_l1Cur_kits.l2]
    refine EvP.neg (by omega) (EvP.ite (fun hpos => EvP.bindQ (pickP hc (by omega) hp _) ?_) (fun _ => EvP.now ⟨hr, by simp only; omega, by simp only; omega, by simp only; omega⟩))
    rintro ⟨v, q⟩ ⟨⟨p', rfl, hp'⟩, _⟩
    refine EvP.ite (fun _ => EvP.bind (kit_draw hc (by omega) hp') ?_) (fun _ => EvP.ite (fun _ => EvP.bindQ (amongP hc (by omega) hp' (by simp) (by simp)) ?_) (fun _ => EvP.ite (fun _ => EvP.pos (by omega) (EvP.now ⟨hr, by simp only; omega, by simp; omega, by simp only; omega⟩)) (fun _ => EvP.ite (fun _ => EvP.bind (kit_draw hc (by omega) hp') ?_) (fun _ => EvP.now ⟨hr, by simp only; omega, by simp only; omega, by simp only; omega⟩))))
    · rintro ⟨y, q⟩ ⟨hy, _⟩
      refine EvP.pos (by omega) (EvP.now ⟨fun r hr2 => ?_, by simp only [List.length_set]; omega, by simp only; omega, by simp only; omega⟩)
      rcases List.mem_or_eq_of_mem_set hr2 with h | rfl
      · exact hr r h
      · exact hy
    · rintro ⟨y, q⟩ _
      exact EvP.pos (by omega) (EvP.now ⟨hr, by simp only; omega, by simp only [List.length_set]; omega, by simp only; omega⟩)
    · rintro ⟨y, q⟩ ⟨hy, _⟩
      exact EvP.now ⟨hr, by simp only; omega, by simp only; omega, hy⟩
  intro m
  induction m with
  | zero => intro x p b h1 h2 hp hb; exact hend x p b (by omega) hp (by omega)
  | succ m ih =>
    intro x p b h1 h2 hp hb
    by_cases hx : x.length = 7
    · exact hend x p b hx hp (by omega)
    · refine EvP.succ ?_
      simp only [spec_l1Cur_kits.l2]
      refine EvP.pos (by omega) (EvP.bindQ (amongP hc (by omega) hp (by simp) (by simp)) ?_)
      rintro ⟨v3, q3⟩ ⟨⟨p3, rfl, hp3⟩, _⟩
      exact EvP.pos (by omega) (ih _ p3 (b + 2) (by simp; omega) (by simp; omega) hp3 (by omega))
theorem kits_l1 {c : List Int} (hc : Bytes c) (l : List (List Int)) (s : List Int) (n : Nat) (B : Nat) (hB : B < 1152921504606846976) (hl : l.length ≤ 7) (hs : s.length ≤ 7)
    (hk : ∀ (x : List Int) (v : Int) (p : Nat × Nat), x.length = 7 → Ok B p → EvP (fun k => spec_l1Cur_kits.l0 k (l ++ [x]) (s ++ [v]) (n : Int) c (p.1 : Int) (p.2 : Int)) DrewK) :
    ∀ (m : Nat) (x : List Int) (p : Nat × Nat) (b : Nat), x.length ≤ 7 → 7 ≤ x.length + m → Ok b p → b + 2 * m + 10 ≤ B → EvP (fun k => spec_l1Cur_kits.l1 k l s (n : Int) x c (p.1 : Int) (p.2 : Int)) DrewK := by
  have hend : ∀ (x : List Int) (p : Nat × Nat) (b : Nat), x.length = 7 → Ok b p → b + 10 ≤ B → EvP (fun k => spec_l1Cur_kits.l1 k l s (n : Int) x c (p.1 : Int) (p.2 : Int)) DrewK := by
    intro x p b hx hp hb
    refine EvP.succ ?_
    simp only [spec_l1Cur_kits.l1]
    refine EvP.neg (by omega) (EvP.pos (by omega) (EvP.bindQ (pickP hc (by omega) hp _) ?_))
    rintro ⟨v, q⟩ ⟨⟨p', rfl, hp'⟩, _⟩
    refine EvP.bindQ (amongP hc (by omega) hp' (by simp) (by simp)) ?_
    rintro ⟨v3, q3⟩ ⟨⟨p3, rfl, hp3⟩, _⟩
    exact EvP.pos (by omega) (hk x v3 p3 hx (hp3.mono (by omega)))
  intro m
  induction m with
  | zero => intro x p b h1 h2 hp hb; exact hend x p b (by omega) hp (by omega)
  | succ m ih =>
    intro x p b h1 h2 hp hb
    by_cases hx : x.length = 7
    · exact hend x p b hx hp (by omega)
    · refine EvP.succ ?_
      simp only [spec_l1Cur_kits.l1]
      refine EvP.pos (by omega) (EvP.bindQ (amongP hc (by omega) hp (by simp) (by simp)) ?_)
      rintro ⟨v3, q3⟩ ⟨⟨p3, rfl, hp3⟩, _⟩
      exact EvP.pos (by omega) (ih _ p3 (b + 2) (by simp; omega) (by simp; omega) hp3 (by omega))
theorem kits_l0 {c : List Int} (hc : Bytes c) (n : Nat) (hn : n ≤ 7) : ∀ (m : Nat) (l : List (List Int)) (s : List Int) (p : Nat × Nat) (b : Nat), l.length + m = n → s.length = l.length → (∀ r ∈ l, r.length ≤ 7) → Ok b p → b + 40 * m + 300 < 1152921504606846976 →
    EvP (fun k => spec_l1Cur_kits.l0 k l s (n : Int) c (p.1 : Int) (p.2 : Int)) DrewK
  | 0, l, s, p, b, h1, h2, hr, hp, hb => by
    refine EvP.succ ?_
    simp only [spec_l1Cur_kits.l0]
    exact EvP.neg (by omega) (kits_l2 hc l s n hn (by omega) (by omega) hr 7 [] p b (by simp) (by simp) hp (by omega))
  | m + 1, l, s, p, b, h1, h2, hr, hp, hb => by
    refine EvP.succ ?_
    simp only [spec_l1Cur_kits.l0]
    refine EvP.pos (by omega) (kits_l1 hc l s n (b + 40) (by omega) (by omega) (by omega) (fun x v p' hx hp' => ?_) 7 [] p b (by simp) (by simp) hp (by omega))
    exact kits_l0 hc n hn m _ _ p' (b + 40) (by simp; omega) (by simp; omega) (mem_snoc hr (by omega)) hp' (by omega)
theorem kits_draw {c : List Int} (hc : Bytes c) {p : Nat × Nat} {b : Nat} (hb : b + 1000 < 1152921504606846976) (hp : Ok b p) : EvP (fun k => spec_l1Cur_kits.f k c (p.1 : Int) (p.2 : Int)) DrewK := by
  have hj : ∀ (n : Nat) (p : Nat × Nat), n ≤ 7 → Ok (b + 10) p → EvP (fun k => spec_l1Cur_kits.j0 k [] [] (n : Int) c (p.1 : Int) (p.2 : Int)) DrewK := by
    intro n p hn hp
    refine EvP.succ ?_
    simp only [spec_l1Cur_kits.j0]
    exact kits_l0 hc n hn n [] [] p (b + 10) (by simp) rfl (by simp) hp (by omega)
  unfold spec_l1Cur_kits.f
  refine EvP.bindQ (pickP hc (by omega) hp _) ?_
  rintro ⟨v, q⟩ ⟨⟨p', rfl, hp'⟩, h0, h1⟩
  simp only at h0 h1
  refine EvP.bindQ (oneP hc (by omega) hp' _) ?_
  rintro ⟨t, q⟩ ⟨p2, rfl, hp2⟩
  refine EvP.ite (fun _ => EvP.bindQ (amongP hc (by omega) hp2 (by simp) (by simp)) ?_) (fun _ => ?_)
  · rintro ⟨v3, q3⟩ ⟨⟨p3, rfl, hp3⟩, hm⟩
    simp only [List.mem_cons, List.not_mem_nil, or_false] at hm
    obtain ⟨n, rfl, hn⟩ : ∃ n : Nat, v3 = (n : Int) ∧ n ≤ 7 := ⟨v3.toNat, by omega, by omega⟩
    exact hj n p3 hn (hp3.mono (by omega))
  · obtain ⟨n, hn, hn7⟩ : ∃ n : Nat, wrap64 (1 + v) = (n : Int) ∧ n ≤ 7 := ⟨(1 + v).toNat, by unfold wrap64; omega, by omega⟩
    simp only [hn]
    exact hj n p2 hn7 (hp2.mono (by omega))
theorem drawCheap_ev {c : List Int} (hc : Bytes c) : EvP (fun k => spec_DrawCheapestKits.f k c) (fun v => (∀ r ∈ v.1, r.length ≤ 7) ∧ v.1.length ≤ 7 ∧ v.2.1.length ≤ 7 ∧ v.2.2.length ≤ 7) := by
  unfold spec_DrawCheapestKits.f
  refine EvP.bind (kits_draw hc (p := (0, 0)) (b := 0) (by omega) ⟨Nat.le_refl _, by simp⟩) ?_
  rintro ⟨l, s, x, q⟩ ⟨h1, h2, h3, h4⟩
  exact EvP.now ⟨h1, h2, h3, h4⟩
theorem drawFew_ev {c : List Int} (hc : Bytes c) : EvP (fun k => spec_DrawFewestKits.f k c) (fun v => (∀ r ∈ v.1, r.length ≤ 7) ∧ v.1.length ≤ 7 ∧ v.2.length ≤ 7) := by
  unfold spec_DrawFewestKits.f
  refine EvP.bind (drawCheap_ev hc) ?_
  rintro ⟨l, s, x⟩ ⟨h1, h2, h3, h4⟩
  exact EvP.now ⟨h1, h2, h4⟩
theorem price_l0 {c : List Int} (hc : Bytes c) (n : Nat) (hn : 6 ≤ n) (hn7 : n ≤ 7) : ∀ (m : Nat) (x : List Int) (p : Nat × Nat) (b : Nat), x.length ≤ n → n ≤ x.length + m → Ok b p → b + 6 * m + 200 < 1152921504606846976 →
    EvP (fun k => spec_DrawKitPrice.l0 k x (n : Int) c (p.1 : Int) (p.2 : Int)) (fun v => v.1.length ≤ 7 ∧ v.2.length ≤ 7) := by
  have hend : ∀ (x : List Int) (p : Nat × Nat) (b : Nat), x.length = n → Ok b p → b + 200 < 1152921504606846976 → EvP (fun k => spec_DrawKitPrice.l0 k x (n : Int) c (p.1 : Int) (p.2 : Int)) (fun v => v.1.length ≤ 7 ∧ v.2.length ≤ 7) := by
    intro x p b hx hp hb
    refine EvP.succ ?_
    simp only [spec_DrawKitPrice.l0]
    refine EvP.neg (by omega) (EvP.bindQ (oneP hc (by omega) hp _) ?_)
    rintro ⟨t, q⟩ ⟨p', rfl, hp'⟩
    refine EvP.ite (fun _ => EvP.bindQ (amongP hc (by omega) hp' (by simp) (by simp)) ?_) (fun _ => EvP.bind (kit_draw hc (by omega) hp') ?_)
    · rintro ⟨v3, q3⟩ ⟨⟨p3, rfl, hp3⟩, _⟩
      refine EvP.pos (by omega) (EvP.bind (kit_draw hc (by omega) hp3) ?_)
      rintro ⟨y, q⟩ ⟨hy, _⟩
      exact EvP.now ⟨hy, by simp only [List.length_set]; omega⟩
    · rintro ⟨y, q⟩ ⟨hy, _⟩
      exact EvP.now ⟨hy, by simp only; omega⟩
  intro m
  induction m with
  | zero => intro x p b h1 h2 hp hb; exact hend x p b (by omega) hp (by omega)
  | succ m ih =>
    intro x p b h1 h2 hp hb
    by_cases hx : x.length = n
    · exact hend x p b hx hp (by omega)
    · refine EvP.succ ?_
      simp only [spec_DrawKitPrice.l0]
      refine EvP.pos (by omega) (EvP.bindQ (pickP hc (by omega) hp _) ?_)
      rintro ⟨v, q⟩ ⟨⟨p', rfl, hp'⟩, _⟩
      refine EvP.bindQ (amongP hc (by omega) hp' (by simp) (by simp)) ?_
      rintro ⟨v3, q3⟩ ⟨⟨p3, rfl, hp3⟩, _⟩
      exact EvP.pos (by omega) (ih _ p3 (b + 2 + 2) (by simp; omega) (by simp; omega) hp3 (by omega))
theorem drawPrice_ev {c : List Int} (hc : Bytes c) : EvP (fun k => spec_DrawKitPrice.f k c) (fun v => v.1.length ≤ 7 ∧ v.2.length ≤ 7) := by
  unfold spec_DrawKitPrice.f
  refine EvP.bindQ (pickP hc (p := (0, 0)) (b := 0) (by omega) ⟨Nat.le_refl _, by simp⟩ 24) ?_
  rintro ⟨v, q⟩ ⟨⟨p', rfl, hp'⟩, h0, h1⟩
  obtain ⟨n, hn, h6, h7⟩ := seven h0 h1
  simp only at hn
  simp only [hn]
  exact price_l0 hc n h6 h7 7 [] p' 2 (by simp) (by simp; omega) hp' (by omega)
end Go.Proofs.Ytgblcbgkkfipoaa.Pure
