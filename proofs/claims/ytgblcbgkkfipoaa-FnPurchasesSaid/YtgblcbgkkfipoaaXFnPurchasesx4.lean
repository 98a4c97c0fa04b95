/- Written by xprint.py, a program of this session, out of the translation: what Go functions compute, as Lean functions, proved over the program. -/
import Derived.Test.YtgblcbgkkfipoaaXFnPurchasesx0
import Derived.Test.YtgblcbgkkfipoaaWQuickB
namespace Go.Proofs.Ytgblcbgkkfipoaa.XFnPurchases
open Go.RowKit Go.Proofs.YtgblcbgkkfipoaaW.PrintWords Go.Proofs.YtgblcbgkkfipoaaW.PrintLast Go.Proofs.YtgblcbgkkfipoaaW.PrintMore
attribute [local go_sem] max2_int min2_int max_two min_two max_three min_three max_four min_four   -- for this text's walks alone
set_option linter.unusedVariables false
set_option linter.unusedSimpArgs false

/-! ### impl_isKit: function 149 -/
def impl_isKit.l0 : Nat → List Int → Int → Int → Option (Bool)
 | 0, _, _, _ => none
 | k + 1, x8, x9, x10 => if x10 < x9 then (if 0 ≤ x10 then (if x10 < (x8.length : Int) then (if (rd x8 x10) < 0 then (some false) else (if (rd x8 x10) > 600 then (some false) else (impl_isKit.l0 k x8 x9 (wrap64 (x10 + 1))))) else (none)) else (none)) else (some true)
def impl_isKit.f (k : Nat) (l0 : List Int) : Option (Bool) := if (l0.length : Int) = 7 then (impl_isKit.l0 k l0 (l0.length : Int) 0) else (some false)
theorem impl_isKit.mono_l : ∀ k, (∀ y0 y1 y2, LeO (impl_isKit.l0 k y0 y1 y2) (impl_isKit.l0 (k + 1) y0 y1 y2))
 | 0 => fun _ _ _ r h => by simp [impl_isKit.l0] at h
 | k + 1 => by
  have ih0 := impl_isKit.mono_l k
  ·intro y0 y1 y2
   unfold impl_isKit.l0
   repeat' first | (with_reducible first | exact ih0 _ _ _ | exact LeO.refl _ | exact LeO.none _ | refine LeO.ite ?_ ?_ | refine LeO.bind ?_ (fun _ => ?_)) | exact ih0 _ _ _ | exact LeO.none _ | refine LeO.ite ?_ ?_ | refine LeO.bind ?_ (fun _ => ?_)
theorem impl_isKit.mono : ∀ a0 k, LeO (impl_isKit.f k a0) (impl_isKit.f (k + 1) a0) := by
 intro a0 k
 have ih0 := impl_isKit.mono_l k
 unfold impl_isKit.f
 repeat' first | (with_reducible first | exact ih0 _ _ _ | exact LeO.refl _ | exact LeO.none _ | refine LeO.ite ?_ ?_ | refine LeO.bind ?_ (fun _ => ?_)) | exact ih0 _ _ _ | exact LeO.none _ | refine LeO.ite ?_ ?_ | refine LeO.bind ?_ (fun _ => ?_)
set_option maxHeartbeats 8000000 in
set_option maxRecDepth 100000 in
theorem impl_isKit.calls (k : Nat) (A0 : Option Addr) (c0 : Nat) (l0 : List Int) (r : Bool) (w : World) (hr0 : Kd.C (Kd.int .i64) w A0 l0.length l0) (hc0 : l0.length ≤ c0) (h : impl_isKit.f k l0 = some r) :
  Calls Try.prog 149 #[.slice A0 l0.length c0] w fun e w' => e = .returned (.bool r) ∧ Drawn0 w w' := by
 have HR0 := Aside0.mk hr0
 have HC0 := Aside0.mk hc0
 clear hr0 hc0
 have H : (if (l0.length : Int) = 7 then (impl_isKit.l0 k l0 (l0.length : Int) 0) else (some false)) = some r := h
 clear h
 by_cases c2 : (l0.length : Int) = 7
 ·rw [if_pos c2] at H
  have c2b0 : ((l0.length : Int) == 7) = true := beq_iff_eq.mpr c2
  have c2b1 : ((l0.length : Int) != 7) = false := bne_eq_false_iff_eq.mpr c2
  clear c2
  have H' := Aside0.mk H
  clear H
  go_enter Try.func149, Try.ntmps149
  go_wp2
  go_loopg [10] k (fun kq v10 w' => ∃ (x10_1 : Int), v10 = .int .i64 x10_1 ∧ Aside0 (impl_isKit.l0 kq l0 (l0.length : Int) x10_1 = some r) ∧ Aside0 (kq ≤ k) ∧ Drawn0 w w')
  case atStart => exact ⟨(0), qs, H', ⟨Nat.le_refl _⟩, by repeat (first | exact Drawn0.refl _ | apply Drawn0.step)⟩
  case round =>
   clear H'
   try clear c1
   try clear c2
   try clear c2b0
   try clear c2b1
   try clear p2
   obtain ⟨x10_1, rfl, HA, HK1, ⟨m1, rfl⟩⟩ := hrel
   cases gk with
   | zero => exact absurd HA.out (by simp [impl_isKit.l0])
   | succ k1 =>
    have H := HA.out
    clear HA
    simp only [impl_isKit.l0] at H
    by_cases c3 : x10_1 < (l0.length : Int)
    ·rw [if_pos c3] at H
     have c3b0 : decide (x10_1 < (l0.length : Int)) = true := decide_eq_true c3
     clear c3
     by_cases c4 : 0 ≤ x10_1
     ·rw [if_pos c4] at H
      have c4b0 : decide (0 ≤ x10_1) = true := decide_eq_true c4
      clear c4
      by_cases c5 : x10_1 < (l0.length : Int)
      ·rw [if_pos c5] at H
       have c5b0 : decide (x10_1 < (l0.length : Int)) = true := decide_eq_true c5
       clear c5
       by_cases c6 : (rd l0 x10_1) < 0
       ·rw [if_pos c6] at H
        have c6b0 : decide ((rd l0 x10_1) < 0) = true := decide_eq_true c6
        clear c6
        obtain rfl := Option.some.inj H
        have p290 : 0 ≤ (x10_1 : Int) := of_decide_eq_true qa
        have q290 : x10_1 < (l0.length : Int) := of_decide_eq_true qa
        obtain ⟨ad290, e290, hx290_0⟩ := Kd.at_int HR0.out x10_1 p290 q290
        cases e290
        replace p290 := eq_true p290
        replace q290 := eq_true q290
        go_wp2
        go_ret
        exact ⟨qs, by repeat (first | exact Drawn0.refl _ | apply Drawn0.step)⟩
       ·rw [if_neg c6] at H
        have c6b0 : decide ((rd l0 x10_1) < 0) = false := decide_eq_false c6
        clear c6
        by_cases c7 : (rd l0 x10_1) > 600
        ·rw [if_pos c7] at H
         have c7b0 : decide (600 < (rd l0 x10_1)) = true := decide_eq_true c7
         clear c7
         obtain rfl := Option.some.inj H
         have p290 : 0 ≤ (x10_1 : Int) := of_decide_eq_true qa
         have q290 : x10_1 < (l0.length : Int) := of_decide_eq_true qa
         obtain ⟨ad290, e290, hx290_0⟩ := Kd.at_int HR0.out x10_1 p290 q290
         cases e290
         replace p290 := eq_true p290
         replace q290 := eq_true q290
         go_wp2
         go_ret
         exact ⟨qs, by repeat (first | exact Drawn0.refl _ | apply Drawn0.step)⟩
        ·rw [if_neg c7] at H
         have c7b0 : decide (600 < (rd l0 x10_1)) = false := decide_eq_false c7
         clear c7
         have H' := Aside0.mk H
         clear H
         have p290 : 0 ≤ (x10_1 : Int) := of_decide_eq_true qa
         have q290 : x10_1 < (l0.length : Int) := of_decide_eq_true qa
         obtain ⟨ad290, e290, hx290_0⟩ := Kd.at_int HR0.out x10_1 p290 q290
         cases e290
         replace p290 := eq_true p290
         replace q290 := eq_true q290
         go_wp2
         go_roundg k1
         case measure => have := HK1.out; omega
         case rel => exact ⟨(wrap64 (x10_1 + 1)), qs, H', ⟨by have := HK1.out; omega⟩, by repeat (first | exact Drawn0.refl _ | apply Drawn0.step)⟩
      ·rw [if_neg c5] at H
       exact absurd H (by simp)
     ·rw [if_neg c4] at H
      exact absurd H (by simp)
    ·rw [if_neg c3] at H
     have c3b0 : decide (x10_1 < (l0.length : Int)) = false := decide_eq_false c3
     clear c3
     obtain rfl := Option.some.inj H
     go_wp2
     go_ret
     exact ⟨qs, by repeat (first | exact Drawn0.refl _ | apply Drawn0.step)⟩
 ·rw [if_neg c2] at H
  have c2b0 : ((l0.length : Int) == 7) = false := beq_eq_false_iff_ne.mpr c2
  have c2b1 : ((l0.length : Int) != 7) = true := bne_iff_ne.mpr c2
  obtain rfl := Option.some.inj H
  go_enter Try.func149, Try.ntmps149
  go_wp2
  go_ret
  exact ⟨qs, by repeat (first | exact Drawn0.refl _ | apply Drawn0.step)⟩

/-! ### impl_isEnough: function 151 -/
def impl_isEnough.l0 : Nat → List Int → List Int → Int → Int → Option (Bool)
 | 0, _, _, _, _ => none
 | k + 1, x0, x7, x8, x9 => if x9 < x8 then (if 0 ≤ x9 then (if x9 < (x7.length : Int) then (if x9 < (x0.length : Int) then (if (rd x0 x9) < (rd x7 x9) then (some false) else (impl_isEnough.l0 k x0 x7 x8 (wrap64 (x9 + 1)))) else (none)) else (none)) else (none)) else (some true)
def impl_isEnough.f (k : Nat) (l0 : List Int) (l1 : List Int) : Option (Bool) := impl_isEnough.l0 k l0 l1 (l1.length : Int) 0
theorem impl_isEnough.mono_l : ∀ k, (∀ y0 y1 y2 y3, LeO (impl_isEnough.l0 k y0 y1 y2 y3) (impl_isEnough.l0 (k + 1) y0 y1 y2 y3))
 | 0 => fun _ _ _ _ r h => by simp [impl_isEnough.l0] at h
 | k + 1 => by
  have ih0 := impl_isEnough.mono_l k
  ·intro y0 y1 y2 y3
   unfold impl_isEnough.l0
   repeat' first | (with_reducible first | exact ih0 _ _ _ _ | exact LeO.refl _ | exact LeO.none _ | refine LeO.ite ?_ ?_ | refine LeO.bind ?_ (fun _ => ?_)) | exact ih0 _ _ _ _ | exact LeO.none _ | refine LeO.ite ?_ ?_ | refine LeO.bind ?_ (fun _ => ?_)
theorem impl_isEnough.mono : ∀ a0 a1 k, LeO (impl_isEnough.f k a0 a1) (impl_isEnough.f (k + 1) a0 a1) := by
 intro a0 a1 k
 have ih0 := impl_isEnough.mono_l k
 unfold impl_isEnough.f
 repeat' first | (with_reducible first | exact ih0 _ _ _ _ | exact LeO.refl _ | exact LeO.none _ | refine LeO.ite ?_ ?_ | refine LeO.bind ?_ (fun _ => ?_)) | exact ih0 _ _ _ _ | exact LeO.none _ | refine LeO.ite ?_ ?_ | refine LeO.bind ?_ (fun _ => ?_)
set_option maxHeartbeats 8000000 in
set_option maxRecDepth 100000 in
theorem impl_isEnough.calls (k : Nat) (A0 : Option Addr) (c0 : Nat) (l0 : List Int) (A1 : Option Addr) (c1 : Nat) (l1 : List Int) (r : Bool) (w : World) (hr0 : Kd.C (Kd.int .i64) w A0 l0.length l0) (hc0 : l0.length ≤ c0) (hr1 : Kd.C (Kd.int .i64) w A1 l1.length l1) (hc1 : l1.length ≤ c1) (h : impl_isEnough.f k l0 l1 = some r) :
  Calls Try.prog 151 #[.slice A0 l0.length c0, .slice A1 l1.length c1] w fun e w' => e = .returned (.bool r) ∧ Drawn0 w w' := by
 have HR0 := Aside0.mk hr0
 have HC0 := Aside0.mk hc0
 clear hr0 hc0
 have HR1 := Aside0.mk hr1
 have HC1 := Aside0.mk hc1
 clear hr1 hc1
 have H : (impl_isEnough.l0 k l0 l1 (l1.length : Int) 0) = some r := h
 clear h
 have H' := Aside0.mk H
 clear H
 go_enter Try.func151, Try.ntmps151
 go_wp2
 go_loopg [9] k (fun kq v9 w' => ∃ (x9_1 : Int), v9 = .int .i64 x9_1 ∧ Aside0 (impl_isEnough.l0 kq l0 l1 (l1.length : Int) x9_1 = some r) ∧ Aside0 (kq ≤ k) ∧ Drawn0 w w')
 case atStart => exact ⟨(0), qs, H', ⟨Nat.le_refl _⟩, by repeat (first | exact Drawn0.refl _ | apply Drawn0.step)⟩
 case round =>
  clear H'
  try clear c1
  try clear p2
  obtain ⟨x9_1, rfl, HA, HK1, ⟨m1, rfl⟩⟩ := hrel
  cases gk with
  | zero => exact absurd HA.out (by simp [impl_isEnough.l0])
  | succ k1 =>
   have H := HA.out
   clear HA
   simp only [impl_isEnough.l0] at H
   by_cases c3 : x9_1 < (l1.length : Int)
   ·rw [if_pos c3] at H
    have c3b0 : decide (x9_1 < (l1.length : Int)) = true := decide_eq_true c3
    clear c3
    by_cases c4 : 0 ≤ x9_1
    ·rw [if_pos c4] at H
     have c4b0 : decide (0 ≤ x9_1) = true := decide_eq_true c4
     clear c4
     by_cases c5 : x9_1 < (l1.length : Int)
     ·rw [if_pos c5] at H
      have c5b0 : decide (x9_1 < (l1.length : Int)) = true := decide_eq_true c5
      clear c5
      by_cases c6 : x9_1 < (l0.length : Int)
      ·rw [if_pos c6] at H
       have c6b0 : decide (x9_1 < (l0.length : Int)) = true := decide_eq_true c6
       clear c6
       by_cases c7 : (rd l0 x9_1) < (rd l1 x9_1)
       ·rw [if_pos c7] at H
        have c7b0 : decide ((rd l0 x9_1) < (rd l1 x9_1)) = true := decide_eq_true c7
        clear c7
        obtain rfl := Option.some.inj H
        have p291 : 0 ≤ (x9_1 : Int) := of_decide_eq_true qa
        have q291 : x9_1 < (l1.length : Int) := of_decide_eq_true qa
        obtain ⟨ad291, e291, hx291_0⟩ := Kd.at_int HR1.out x9_1 p291 q291
        cases e291
        replace p291 := eq_true p291
        replace q291 := eq_true q291
        have p292 : 0 ≤ (x9_1 : Int) := of_decide_eq_true qa
        have q292 : x9_1 < (l0.length : Int) := of_decide_eq_true qa
        obtain ⟨ad292, e292, hx292_0⟩ := Kd.at_int HR0.out x9_1 p292 q292
        cases e292
        replace p292 := eq_true p292
        replace q292 := eq_true q292
        go_wp2
        go_ret
        exact ⟨qs, by repeat (first | exact Drawn0.refl _ | apply Drawn0.step)⟩
       ·rw [if_neg c7] at H
        have c7b0 : decide ((rd l0 x9_1) < (rd l1 x9_1)) = false := decide_eq_false c7
        clear c7
        have H' := Aside0.mk H
        clear H
        have p291 : 0 ≤ (x9_1 : Int) := of_decide_eq_true qa
        have q291 : x9_1 < (l1.length : Int) := of_decide_eq_true qa
        obtain ⟨ad291, e291, hx291_0⟩ := Kd.at_int HR1.out x9_1 p291 q291
        cases e291
        replace p291 := eq_true p291
        replace q291 := eq_true q291
        have p292 : 0 ≤ (x9_1 : Int) := of_decide_eq_true qa
        have q292 : x9_1 < (l0.length : Int) := of_decide_eq_true qa
        obtain ⟨ad292, e292, hx292_0⟩ := Kd.at_int HR0.out x9_1 p292 q292
        cases e292
        replace p292 := eq_true p292
        replace q292 := eq_true q292
        go_wp2
        go_roundg k1
        case measure => have := HK1.out; omega
        case rel => exact ⟨(wrap64 (x9_1 + 1)), qs, H', ⟨by have := HK1.out; omega⟩, by repeat (first | exact Drawn0.refl _ | apply Drawn0.step)⟩
      ·rw [if_neg c6] at H
       exact absurd H (by simp)
     ·rw [if_neg c5] at H
      exact absurd H (by simp)
    ·rw [if_neg c4] at H
     exact absurd H (by simp)
   ·rw [if_neg c3] at H
    have c3b0 : decide (x9_1 < (l1.length : Int)) = false := decide_eq_false c3
    clear c3
    obtain rfl := Option.some.inj H
    go_wp2
    go_ret
    exact ⟨qs, by repeat (first | exact Drawn0.refl _ | apply Drawn0.step)⟩

/-! ### impl_areKits: function 165 -/
mutual
def impl_areKits.j0 : Nat → List (List Int) → Bool → Option (Bool)
 | 0, _, _ => none
 | k + 1, x0, x12 => if x12 = true then (some false) else (impl_areKits.l0 k x0 (x0.length : Int) 0)
def impl_areKits.l0 : Nat → List (List Int) → Int → Int → Option (Bool)
 | 0, _, _, _ => none
 | k + 1, x13, x14, x15 => if x15 < x14 then (if 0 ≤ x15 then (if x15 < (x13.length : Int) then ((impl_isKit.f k (rd_L3 x13 x15)).bind fun t294 => (if t294 = true then (impl_areKits.l0 k x13 x14 (wrap64 (x15 + 1))) else (some false))) else (none)) else (none)) else (some true)
end
def impl_areKits.f (k : Nat) (l0 : List (List Int)) : Option (Bool) := if (l0.length : Int) < 1 then (impl_areKits.j0 k l0 true) else (impl_areKits.j0 k l0 (decide ((l0.length : Int) > 6)))
theorem impl_areKits.mono_l : ∀ k, (∀ y0 y1, LeO (impl_areKits.j0 k y0 y1) (impl_areKits.j0 (k + 1) y0 y1)) ∧ (∀ y0 y1 y2, LeO (impl_areKits.l0 k y0 y1 y2) (impl_areKits.l0 (k + 1) y0 y1 y2))
 | 0 => ⟨fun _ _ r h => by simp [impl_areKits.j0] at h, fun _ _ _ r h => by simp [impl_areKits.l0] at h⟩
 | k + 1 => by
  obtain ⟨ih0, ih1⟩ := impl_areKits.mono_l k
  refine ⟨?_, ?_⟩
  ·intro y0 y1
   unfold impl_areKits.j0
   repeat' first | (with_reducible first | exact ih0 _ _ | exact ih1 _ _ _ | exact impl_isKit.mono _ _ | exact LeO.refl _ | exact LeO.none _ | refine LeO.ite ?_ ?_ | refine LeO.bind ?_ (fun _ => ?_)) | exact ih0 _ _ | exact ih1 _ _ _ | exact impl_isKit.mono _ _ | exact LeO.none _ | refine LeO.ite ?_ ?_ | refine LeO.bind ?_ (fun _ => ?_)
  ·intro y0 y1 y2
   unfold impl_areKits.l0
   repeat' first | (with_reducible first | exact ih0 _ _ | exact ih1 _ _ _ | exact impl_isKit.mono _ _ | exact LeO.refl _ | exact LeO.none _ | refine LeO.ite ?_ ?_ | refine LeO.bind ?_ (fun _ => ?_)) | exact ih0 _ _ | exact ih1 _ _ _ | exact impl_isKit.mono _ _ | exact LeO.none _ | refine LeO.ite ?_ ?_ | refine LeO.bind ?_ (fun _ => ?_)
theorem impl_areKits.mono : ∀ a0 k, LeO (impl_areKits.f k a0) (impl_areKits.f (k + 1) a0) := by
 intro a0 k
 obtain ⟨ih0, ih1⟩ := impl_areKits.mono_l k
 unfold impl_areKits.f
 repeat' first | (with_reducible first | exact ih0 _ _ | exact ih1 _ _ _ | exact impl_isKit.mono _ _ | exact LeO.refl _ | exact LeO.none _ | refine LeO.ite ?_ ?_ | refine LeO.bind ?_ (fun _ => ?_)) | exact ih0 _ _ | exact ih1 _ _ _ | exact impl_isKit.mono _ _ | exact LeO.none _ | refine LeO.ite ?_ ?_ | refine LeO.bind ?_ (fun _ => ?_)
set_option maxHeartbeats 8000000 in
set_option maxRecDepth 100000 in
theorem impl_areKits.calls (k : Nat) (A0 : Option Addr) (c0 : Nat) (l0 : List (List Int)) (r : Bool) (w : World) (hr0 : Kd.C (Kd.slice 3 (Kd.int .i64)) w A0 l0.length l0) (hc0 : l0.length ≤ c0) (h : impl_areKits.f k l0 = some r) :
  Calls Try.prog 165 #[.slice A0 l0.length c0] w fun e w' => e = .returned (.bool r) ∧ Drawn0 w w' := by
 have HR0 := Aside0.mk hr0
 have HC0 := Aside0.mk hc0
 clear hr0 hc0
 have H : (if (l0.length : Int) < 1 then (impl_areKits.j0 k l0 true) else (impl_areKits.j0 k l0 (decide ((l0.length : Int) > 6)))) = some r := h
 clear h
 have HC2 := Aside0.mk H
 clear H
 go_enter Try.func165, Try.ntmps165
 go_upto_region 1 with (fail)
 go_cut [12] (fun v12 wc => ∃ (kq : Nat) (x12_1 : Bool), v12 = .bool x12_1 ∧ Aside0 (impl_areKits.j0 kq l0 x12_1 = some r) ∧ Aside0 (kq ≤ k) ∧ Drawn0 w wc)
 case first =>
  have H := HC2.out
  clear HC2
  by_cases c3 : (l0.length : Int) < 1
  ·rw [if_pos c3] at H
   have c3b0 : decide ((l0.length : Int) < 1) = true := decide_eq_true c3
   have c3b1 : decide (l0.length < 1) = true := decide_eq_true (by omega)
   clear c3
   (first | rw [c3b0] | (simp only [i64_w, i32_w]; rw [c3b0]) | skip)
   have H' := Aside0.mk H
   clear H
   go_wp2
   go_meet
   case rel => exact ⟨_, (true), qs, H', ⟨by first | omega | exact Nat.le_refl _⟩, by repeat (first | exact Drawn0.refl _ | apply Drawn0.step)⟩
  ·rw [if_neg c3] at H
   have c3b0 : decide ((l0.length : Int) < 1) = false := decide_eq_false c3
   have c3b1 : decide (l0.length < 1) = false := decide_eq_false (by omega)
   clear c3
   (first | rw [c3b0] | (simp only [i64_w, i32_w]; rw [c3b0]) | skip)
   have H' := Aside0.mk H
   clear H
   go_wp2
   go_meet
   case rel => exact ⟨_, (decide ((l0.length : Int) > 6)), qs, H', ⟨by first | omega | exact Nat.le_refl _⟩, by repeat (first | exact Drawn0.refl _ | apply Drawn0.step)⟩
 case rest =>
  clear HC2
  try clear c1
  try clear p2
  try clear c3
  try clear c3b0
  try clear c3b1
  obtain ⟨kq, x12_1, rfl, HA, HJ1, ⟨mc1, rfl⟩⟩ := hcut
  cases kq with
  | zero => exact absurd HA.out (by simp [impl_areKits.j0])
  | succ kj1 =>
   have H := HA.out
   clear HA
   simp only [impl_areKits.j0] at H
   by_cases c4 : x12_1 = true
   ·subst c4
    rw [if_pos rfl] at H
    obtain rfl := Option.some.inj H
    go_wp2
    go_ret
    exact ⟨qs, by repeat (first | exact Drawn0.refl _ | apply Drawn0.step)⟩
   ·replace c4 := Bool.eq_false_iff.mpr c4
    subst c4
    rw [if_neg (show ¬ (false = true) by decide)] at H
    have H' := Aside0.mk H
    clear H
    go_wp2
    go_loopg [15] kj1 (fun kq v15 w' => ∃ (x15_2 : Int), v15 = .int .i64 x15_2 ∧ Aside0 (impl_areKits.l0 kq l0 (l0.length : Int) x15_2 = some r) ∧ Aside0 (kq ≤ kj1) ∧ Drawn0 w w')
    case atStart => exact ⟨(0), qs, H', ⟨Nat.le_refl _⟩, by repeat (first | exact Drawn0.refl _ | apply Drawn0.step)⟩
    case round =>
     clear H'
     try clear c1
     try clear p2
     try clear c3
     try clear c3b0
     try clear c3b1
     try clear c4
     try clear p2
     obtain ⟨x15_2, rfl, HA, HK2, ⟨m2, rfl⟩⟩ := hrel
     cases gk with
     | zero => exact absurd HA.out (by simp [impl_areKits.l0])
     | succ k2 =>
      have H := HA.out
      clear HA
      simp only [impl_areKits.l0] at H
      by_cases c5 : x15_2 < (l0.length : Int)
      ·rw [if_pos c5] at H
       have c5b0 : decide (x15_2 < (l0.length : Int)) = true := decide_eq_true c5
       clear c5
       by_cases c6 : 0 ≤ x15_2
       ·rw [if_pos c6] at H
        have c6b0 : decide (0 ≤ x15_2) = true := decide_eq_true c6
        clear c6
        by_cases c7 : x15_2 < (l0.length : Int)
        ·rw [if_pos c7] at H
         have c7b0 : decide (x15_2 < (l0.length : Int)) = true := decide_eq_true c7
         clear c7
         replace H := Option.bind_eq_some_iff.mp H
         obtain ⟨t294, A80, H⟩ := H
         replace H : (if t294 = true then (impl_areKits.l0 k2 l0 (l0.length : Int) (wrap64 (x15_2 + 1))) else (some false)) = some r := H
         have A8 := Aside0.mk A80
         clear A80
         by_cases c9 : t294 = true
         ·subst c9
          rw [if_pos rfl] at H
          have H' := Aside0.mk H
          clear H
          have p293 : 0 ≤ (x15_2 : Int) := of_decide_eq_true qa
          have q293 : x15_2 < (l0.length : Int) := of_decide_eq_true qa
          obtain ⟨ad293, A293_0, c293_0, e293, hx293_0, hl293_0, hi293_0⟩ := at_L3 HR0.out x15_2 p293 q293
          cases e293
          have HR293_0 := Aside0.mk hi293_0
          have HC293_0 := Aside0.mk hl293_0
          clear hi293_0 hl293_0
          replace p293 := eq_true p293
          replace q293 := eq_true q293
          go_wp2_with (first | ((with_reducible refine gate_callee (f := 149) rfl ?_); refine goesL_ (some 20) rfl rfl Try.func149 (by kernel_rfl) rfl #[.slice A293_0 (rd_L3 l0 x15_2).length c293_0] rfl qA ?_; (with_reducible refine (impl_isKit.calls k2 _ _ (rd_L3 l0 x15_2) true _ ?side1 ?side2 A8.out).mono ?_); (case side1 => exact uC HR293_0.out); (case side2 => exact HC293_0.out); rintro e w' ⟨rfl, ⟨nd, rfl⟩⟩; refine ⟨_, rfl, ?_⟩))
          go_roundg k2
          case measure => have := HJ1.out; have := HK2.out; omega
          case rel => exact ⟨(wrap64 (x15_2 + 1)), qs, H', ⟨by have := HJ1.out; have := HK2.out; omega⟩, by repeat (first | exact Drawn0.refl _ | apply Drawn0.step)⟩
         ·replace c9 := Bool.eq_false_iff.mpr c9
          subst c9
          rw [if_neg (show ¬ (false = true) by decide)] at H
          obtain rfl := Option.some.inj H
          have p293 : 0 ≤ (x15_2 : Int) := of_decide_eq_true qa
          have q293 : x15_2 < (l0.length : Int) := of_decide_eq_true qa
          obtain ⟨ad293, A293_0, c293_0, e293, hx293_0, hl293_0, hi293_0⟩ := at_L3 HR0.out x15_2 p293 q293
          cases e293
          have HR293_0 := Aside0.mk hi293_0
          have HC293_0 := Aside0.mk hl293_0
          clear hi293_0 hl293_0
          replace p293 := eq_true p293
          replace q293 := eq_true q293
          go_wp2_with (first | ((with_reducible refine gate_callee (f := 149) rfl ?_); refine goesL_ (some 20) rfl rfl Try.func149 (by kernel_rfl) rfl #[.slice A293_0 (rd_L3 l0 x15_2).length c293_0] rfl qA ?_; (with_reducible refine (impl_isKit.calls k2 _ _ (rd_L3 l0 x15_2) false _ ?side1 ?side2 A8.out).mono ?_); (case side1 => exact uC HR293_0.out); (case side2 => exact HC293_0.out); rintro e w' ⟨rfl, ⟨nd, rfl⟩⟩; refine ⟨_, rfl, ?_⟩))
          go_ret
          exact ⟨qs, by repeat (first | exact Drawn0.refl _ | apply Drawn0.step)⟩
        ·rw [if_neg c7] at H
         exact absurd H (by simp)
       ·rw [if_neg c6] at H
        exact absurd H (by simp)
      ·rw [if_neg c5] at H
       have c5b0 : decide (x15_2 < (l0.length : Int)) = false := decide_eq_false c5
       clear c5
       obtain rfl := Option.some.inj H
       go_wp2
       go_ret
       exact ⟨qs, by repeat (first | exact Drawn0.refl _ | apply Drawn0.step)⟩

/-! ### impl_purchases: function 166 -/
-- the lists of indices from i below n that begin with a list, in lexicographic order, the list itself left out
def impl_purchases.tails : Nat → List Int → Nat → List (List Int)
 | 0, _, _ => []
 | m + 1, l, i => ((l ++ [(i : Int)]) :: impl_purchases.tails m (l ++ [(i : Int)]) (i + 1)) ++ impl_purchases.tails m l (i + 1)
theorem impl_purchases.info : (Try.prog.info? 23).map (fun i => (i.zero, i.size, i.bytes)) = some (some (.slice none 0 0), 1, 24) := by kernel_rfl
theorem impl_purchases.infoI : (Try.prog.info? 3).map (fun i => (i.zero, i.size, i.bytes)) = some (some (.int .i64 0), 1, 8) := by kernel_rfl
def impl_purchases.T4 : Bool × List (List Nat × List Nat) := (true, [([], []), ([], []), ([], []), ([1, 2], [1, 2]), ([], []), ([4], [4]), ([3, 5, 3], [3, 5]), ([], []), ([7], [7]), ([0, 6, 8, 6], [0, 6, 8])])
def impl_purchases.B4 : List Nat := [0, 0, 0, 6, 0, 16, 62, 0, 128, 511]
theorem impl_purchases.tab4 : rtab .any (opsOf Try.f195 4) = impl_purchases.T4 := by kernel_rfl
theorem impl_purchases.bits4 : waitsOk impl_purchases.T4.2 impl_purchases.B4 = true := by kernel_rfl
/-- The three variables that the function literal shares with its maker. -/
structure impl_purchases.Vars (w : World) (bo bn be : Nat) (vo : Value) (n : Nat) : Prop where
 out : w.heap[bo]? = some (.cells #[vo] 89 (0, 0))
 num : w.heap[bn]? = some (.cells #[.int .i64 (n : Int)] 3 (0, 0))
 fn : w.heap[be]? = some (.cells #[.func (.func 195) #[] #[.pointer (some ⟨bo, 0, none⟩), .pointer (some ⟨bn, 0, none⟩), .pointer (some ⟨be, 0, none⟩)]] 180 (0, 0))
def impl_purchases.Mine (bo : Nat) (vo : Value) (k : Nat) : Prop := k = bo ∨ some k = vo.ownBlock
theorem impl_purchases.tails_length : ∀ (m : Nat) (l : List Int) (i : Nat), (impl_purchases.tails m l i).length + 1 = 2 ^ m
 | 0, _, _ => rfl
 | m + 1, l, i => by
  have h1 := impl_purchases.tails_length m (l ++ [(i : Int)]) (i + 1)
  have h2 := impl_purchases.tails_length m l (i + 1)
  rw [impl_purchases.tails, List.length_append, List.length_cons, Nat.pow_succ]
  omega
set_option maxHeartbeats 4000000 in
set_option maxRecDepth 100000 in
theorem impl_purchases.clo (n : Nat) (hn : n ≤ 20) : ∀ (m : Nat) (i0 : Nat) (l : List Int) (vl vo : Value) (outs : List (List Int)) (bo bn be : Nat) (w0 w : World) (okl : Nat → Prop)
  (hm : i0 + m = n) (hB : Below w0.heap.size w0 w) (hV : impl_purchases.Vars w bo bn be vo n) (hbo : w0.heap.size ≤ bo) (hbn : w0.heap.size ≤ bn)
  (hL : Kd.R (Kd.int .i64) 3 w w0.heap.size okl vl l) (hbl : ∀ k, vl.ownBlock = some k → k ≠ bn)
  (hS : Kd.S (Kd.slice 3 (Kd.int .i64)) 23 w w0.heap.size (fun k_ => k_ ≠ bn ∧ ¬ some k_ = vl.ownBlock) vo outs) (hlen : outs.length + 2 ^ m ≤ 4194304) (hll : l.length + m ≤ 1000),
  Calls Try.prog 195 #[vl, .int .i64 (i0 : Int), .pointer (some ⟨bo, 0, none⟩), .pointer (some ⟨bn, 0, none⟩), .pointer (some ⟨be, 0, none⟩)] w fun e w' =>
   ∃ v', e = .returned (.tuple #[]) ∧ impl_purchases.Vars w' bo bn be v' n ∧ Kd.S (Kd.slice 3 (Kd.int .i64)) 23 w' w0.heap.size (fun k_ => k_ ≠ bn) v' (outs ++ l :: impl_purchases.tails m l i0) ∧
    (∀ k, v'.ownBlock = some k → some k = vo.ownBlock ∨ w.heap.size ≤ k) ∧ Below w0.heap.size w0 w' ∧ Kept w w' (impl_purchases.Mine bo vo) := by
 intro m
 induction m using Nat.strongRecOn with
 | _ m ih =>
 intro i0 l vl vo outs bo bn be w0 w okl hm hB hV hbo hbn hL hbl hS hlen hll
 obtain ⟨Av, cv, ev⟩ := Kd.S_slice hS
 subst ev
 obtain ⟨Al, cl, el⟩ := Kd.R_slice hL
 subst el
 have HB := Aside0.mk hB
 have HV := Aside0.mk hV
 have HL := Aside0.mk hL
 have HS := Aside0.mk hS
 have HBL := Aside0.mk hbl
 have HLEN := Aside0.mk hlen
 have HLL := Aside0.mk hll
 have HM := Aside0.mk hm
 have HBO := Aside0.mk hbo
 have HBN := Aside0.mk hbn
 have HN := Aside0.mk hn
 have hx1 : w.cell? ⟨bo, 0, none⟩ = some (.slice Av outs.length cv) := (blk_cell hV.out 0).trans rfl
 have HNO := Aside0.mk (Kd.S_ne hS hV.out (by decide))
 clear hB hV hL hS hbl hlen hll hm hbo hbn hn
 go_enter Try.func195, Try.ntmps195
 go_wp2_with (at_builtin; refine Kd.S_append (Kd.slice 3 (Kd.int .i64)) (w0 := w0) w0.heap.size rfl (.tmp 8) (.tmp 10) 89 23 (.slice none 0 0) 24 rfl Try.underlying89 impl_purchases.info rfl (by decide) (by omega) (.slice Av outs.length cv) outs l [.slice Al l.length cl] (fun k_ => k_ ≠ bn) (fun k_ => some k_ = (Value.slice Al l.length cl).ownBlock) rfl rfl ?aP ?aK ?aF ?aO ?aB ?aS ?aL ?_; (case aP => exact Kd.M_row (Kd.R_tight rfl HL.out)); (case aK => exact fun k hk => ⟨HBL.out k hk.symm, fun he => Kd.typed_ne HL.out (Kd.S_R HS.out) (by decide) hk.symm he.symm⟩); (case aF => exact fun k hk he => by have := blk_lt HV.out.num; omega); (case aO => exact HS.out); (case aB => exact HB.out); (case aS => exact HB.out.size); (case aL => have := HLEN.out; have := Nat.one_le_two_pow (n := m); omega); intro v1 w1 ho hb hg hat; obtain ⟨A1, c1, e1⟩ := Kd.S_slice ho; rw [show (outs ++ [l]).length = outs.length + 1 by simp] at e1; subst e1; have HS1 := Aside0.mk ho; have HB1 := Aside0.mk hb; have HG1 := Aside0.mk hg; have HAT := Aside0.mk hat; have hob := blk_grown HV.out.out hg HNO.out; have HV1 := Aside0.mk hob; have hx2 : w1.cell? ⟨bo, 0, none⟩ = some (.slice Av outs.length cv) := (blk_cell hob 0).trans rfl; have hf2 := blk_frozen hob 0; clear ho hb hg hat hob hx1)
 have hty : bo ≠ bn := blk_ne HV.out.out HV.out.num (by decide)
 have hty2 : bo ≠ be := blk_ne HV.out.out HV.out.fn (by decide)
 have hnn := Kd.S_ne HS.out HV.out.num (by decide)
 have hnf := Kd.S_ne HS.out HV.out.fn (by decide)
 have n1_ := Aside0.mk (show impl_purchases.Vars (w1.setCell ⟨bo, 0, none⟩ (.slice A1 (outs.length + 1) c1)) bo bn be (.slice A1 (outs.length + 1) c1) n from ⟨by simpa using blk_set HV1.out 0 (.slice A1 (outs.length + 1) c1), blk_far (blk_grown HV.out.num HG1.out hnn) (p := ⟨bo, 0, none⟩) (Ne.symm hty) _, blk_far (blk_grown HV.out.fn HG1.out hnf) (p := ⟨bo, 0, none⟩) (Ne.symm hty2) _⟩)
 have n2_ := Aside0.mk (show Kd.S (Kd.slice 3 (Kd.int .i64)) 23 (w1.setCell ⟨bo, 0, none⟩ (.slice A1 (outs.length + 1) c1)) w0.heap.size (fun k_ => k_ ≠ bn) (.slice A1 (outs.length + 1) c1) (outs ++ [l]) from Kd.S_set HS1.out HV1.out (by decide) 0 _)
 have n3_ := Aside0.mk (Kept.setCell (p := ⟨bo, 0, none⟩) (Kept.of_grown (S := impl_purchases.Mine bo (.slice Av outs.length cv)) HG1.out (Kept.refl w _) (fun k hk => .inl (.inr hk.symm))) (.inl (.inl rfl)) (.slice A1 (outs.length + 1) c1))
 have n4_ := Aside0.mk (below_set HB1.out HBO.out : Below w0.heap.size w0 (w1.setCell ⟨bo, 0, none⟩ (.slice A1 (outs.length + 1) c1)))
 have n5_ := Aside0.mk (show ∀ k, (Value.slice A1 (outs.length + 1) c1).ownBlock = some k → some k = (Value.slice Av outs.length cv).ownBlock ∨ w.heap.size ≤ k from fun k hk => HAT.out.elim (fun h => .inl (hk.symm.trans h)) (fun ⟨b, h1, h2⟩ => .inr (by rw [hk] at h1; injection h1 with h1; omega)))
 have HLK := Aside0.mk (Kd.R_mono (ok' := fun k_ => ¬ impl_purchases.Mine bo (.slice Av outs.length cv) k_) (Kd.R_bound (Kd.R_tight rfl HL.out)) (fun k hk hm => by
  obtain ⟨h1, _, _, q, hq, cells, hc⟩ := hk
  rcases hm with rfl | hm
  ·have hq' : q = 3 := by simpa [Kd.int, Kd.scalar] using hq
   subst hq'; rw [HV.out.out] at hc; injection hc with hc; injection hc with _ hc; exact absurd hc (by decide)
  ·exact Kd.typed_ne HL.out (Kd.S_R HS.out) (by decide) h1.symm hm.symm))
 have HBNK := Aside0.mk (show ¬ impl_purchases.Mine bo (.slice Av outs.length cv) bn from fun h => h.elim (fun h => hty h.symm) (fun h => hnn h))
 have HBEK := Aside0.mk (show ¬ impl_purchases.Mine bo (.slice Av outs.length cv) be from fun h => h.elim (fun h => hty2 h.symm) (fun h => hnf h))
 have n6_ := Aside0.mk (show (outs ++ [l]) ++ impl_purchases.tails m l i0 = outs ++ l :: impl_purchases.tails m l i0 by simp)
 clear HB HS HNO HV1 HS1 HB1 HG1 HAT hx2 hf2 hty hty2 hnn hnf
 go_loopg [7] m (fun kq v7 w' => ∃ (i : Nat) (vr : Value) (os : List (List Int)), v7 = .int .i64 (i : Int) ∧ Aside0 (i + kq = n) ∧ Aside0 (i0 ≤ i) ∧ Aside0 (os ++ impl_purchases.tails kq l i = outs ++ l :: impl_purchases.tails m l i0) ∧ Aside0 (impl_purchases.Vars w' bo bn be vr n) ∧ Aside0 (Kd.S (Kd.slice 3 (Kd.int .i64)) 23 w' w0.heap.size (fun k_ => k_ ≠ bn) vr os) ∧ Aside0 (∀ k, vr.ownBlock = some k → some k = (Value.slice Av outs.length cv).ownBlock ∨ w.heap.size ≤ k) ∧ Aside0 (Kept w w' (impl_purchases.Mine bo (.slice Av outs.length cv))) ∧ Aside0 (Below w0.heap.size w0 w'))
 case atStart => exact ⟨i0, _, _, rfl, HM, ⟨Nat.le_refl _⟩, n6_, n1_, n2_, n5_, n3_, n4_⟩
 case round =>
  clear n1_ n2_ n3_ n4_ n5_ n6_
  obtain ⟨i, vr, os, rfl, HIK, HI0, HEQ, HVR, HSR, HAR, HK, HB⟩ := hrel
  have hxn : wr.cell? ⟨bn, 0, none⟩ = some (.int .i64 (n : Int)) := (blk_cell HVR.out.num 0).trans rfl
  cases gk with
  | zero =>
   have hin : ¬ (i : Int) < (n : Int) := by have := HIK.out; omega
   have hin2 : decide ((i : Int) < (n : Int)) = false := decide_eq_false hin
   have hin3 : decide (i < n) = false := decide_eq_false (by have := HIK.out; omega)
   clear hin
   go_wp2
   (first | go_end0 | ((try simp only [Exit.inBlock, Exit.then]); refine bodyPost_ret (results_none rfl _ _ _) rfl ?_))
   have he := HEQ.out
   rw [impl_purchases.tails, List.append_nil] at he
   exact ⟨vr, rfl, HVR.out, by rw [← he]; exact HSR.out, HAR.out, HB.out, HK.out⟩
  | succ k1 =>
   have hin2 : decide ((i : Int) < (n : Int)) = true := decide_eq_true (by have := HIK.out; omega)
   have hin3 : decide (i < n) = true := decide_eq_true (by have := HIK.out; omega)
   have HC := Aside0.mk (Kd.R_reads' (Kd.R_kept HLK.out HK.out (fun _ h => h))).2.2
   have hi20 : (i : Int) ≤ 20 := by have := HIK.out; have := HN.out; omega
   have hi00 : (0 : Int) ≤ (i : Int) := by omega
   go_wp2_with (fail)
   clear hin2 hin3 hxn
   refine start_ (n := 10) (S := fun w' => Below wr.heap.size wr w') (ds := [9]) (Array.replicate 10 false) (by kernel_rfl) rfl rfl (below_drew (Below.refl _ _)) (fun hHeld => ?_)
   refine with_tabW impl_purchases.tab4 impl_purchases.bits4 (fun HT_ HW_ => ?_)
   generalize wr.drew = wc at hHeld ⊢
   refine pure_ (i := 2) (N := some 20) (v := ?_) (a' := ?_) (bq 10 4) rfl rfl (qn HT_) (fun _ _ _ h => h) (Or.inl ⟨by rfl, ?_⟩) ?_ ?_; rotate_left; focus (intro w'; go_simp; with_reducible rfl)
   rotate_left; focus (simp only [Act.put, List.setIfInBounds_toArray, List.set_cons_zero, List.set_cons_succ, i64_w, i32_w]; rfl)
   refine pure_ (i := 4) (N := some 22) (v := ?_) (a' := ?_) (bq 10 20) rfl rfl (qn HT_) (fun _ _ _ h => h) (Or.inl ⟨by rfl, ?_⟩) ?_ ?_; rotate_left; focus (intro w'; go_simp; with_reducible rfl)
   rotate_left; focus (simp only [Act.put, List.setIfInBounds_toArray, List.set_cons_zero, List.set_cons_succ, i64_w, i32_w]; rfl)
   refine pure_ (i := 7) (N := some 25) (v := ?_) (a' := ?_) (bq 10 148) rfl rfl (qn HT_) (fun _ _ _ h => h) (Or.inl ⟨by rfl, ?_⟩) ?_ ?_; rotate_left; focus (intro w'; go_simp; with_reducible rfl)
   rotate_left; focus (simp only [Act.put, List.setIfInBounds_toArray, List.set_cons_zero, List.set_cons_succ, i64_w, i32_w]; rfl)
   refine pure_ (i := 8) (N := some 26) (v := ?_) (a' := ?_) (bq 10 404) rfl rfl (qn HT_) (fun _ _ _ h => h) (Or.inl ⟨by rfl, ?_⟩) ?_ ?_; rotate_left; focus (intro w'; go_simp; with_reducible rfl)
   rotate_left; focus (simp only [Act.put, List.setIfInBounds_toArray, List.set_cons_zero, List.set_cons_succ, i64_w, i32_w]; rfl)
   refine take_ (i := 0) (N := some 18) (v := ?_) (a' := ?_) (bq 10 405) rfl rfl (take_ofW HT_.out HW_.out (by kernel_rfl)) (fun _ _ _ h => h) (Or.inl ⟨by rfl, ?_⟩) hHeld ?_ ?_
   rotate_left
   ·intro w' s0
    have hxf : w'.cell? ⟨be, 0, none⟩ = some (.func (.func 195) #[] #[.pointer (some ⟨bo, 0, none⟩), .pointer (some ⟨bn, 0, none⟩), .pointer (some ⟨be, 0, none⟩)]) := pw_cell_below s0 ((blk_cell HVR.out.fn 0).trans rfl)
    go_simp
    with_reducible rfl
   rotate_left
   ·simp only [Act.put, List.setIfInBounds_toArray, List.set_cons_zero, List.set_cons_succ, i64_w, i32_w]
    rfl
   refine join_ (σ := Value × Value × Value) 2 (bq 10 447) (fun s_ => [(19, s_.1), (21, s_.2.1), (23, s_.2.2)]) (fun s_ w' => Below wr.heap.size wr w' ∧ Kd.R (Kd.int .i64) 3 w' wr.heap.size (fun _ => True) s_.2.1 l ∧ Kd.R (Kd.int .i64) 3 w' wr.heap.size (fun _ => True) s_.2.2 [(i : Int)]) ?_ ?_
   rotate_left
   ·intro hCont
    refine two_ (i := 1) (j := 5) (Ni := some 19) (Nj := some 23) (bq 10 407) (bq 10 437) rfl rfl rfl rfl (two_of HT_.out (by kernel_rfl)) (by decide) (by decide) (fun K hK => ?_) (fun K hK => ?_)
    ·skip
     refine Kd.R_lit_step (Kd.int .i64) wr.heap.size 3 (w0 := wr) ?hg (N := 19) ?hd (xs := ([] : List Int)) (inner := []) (ok := fun _ => True) (okp := fun _ => False) ?hr ?hp (fun _ hk => hk.elim) trivial hHeld hHeld.size (by simp) ?_; (case hd => rfl); (case hg => rfl); (case hr => first | (go_simp; done) | (go_simp; rfl)); (case hp => exact (Reps.none _ _))
     intro v19 w19 ho19 hb hg19 hnew19
     refine hK.out _ _ hb (fun hHeld => ?_)
     clear hK K
     refine norm_ (a' := ?_) ?_ ?_
     rotate_left
     ·show Act.put _ (some 19) _ = _
      simp only [Act.put, List.setIfInBounds_toArray, List.set_cons_zero, List.set_cons_succ, i64_w, i32_w]
      rfl
     refine two_ (i := 3) (j := 5) (Ni := some 21) (Nj := some 23) (bq 10 415) (bq 10 439) rfl rfl rfl rfl (two_of HT_.out (by kernel_rfl)) (by decide) (by decide) (fun K hK => ?_) (fun K hK => ?_)
     ·skip
      refine Kd.R_append_rows_step (Kd.int .i64) (w0 := wr) wr.heap.size (by rfl) (.tmp 19) (.tmp 20) 23 3 (.int .i64 0) 8 rfl Try.underlying23 impl_purchases.infoI rfl (by decide) (by omega) v19 ([] : List Int) l _ _ _ (fun _ => True) (fun _ => False) rfl rfl ?aO ?aR (fun _ _ h => h) (fun _ h => h.elim) ?aF ?aB ?aS ?aL ?_
      (case aR => exact Kd.C_below HC.out hHeld)
      (case aB => exact hHeld)
      (case aF => exact fun _ _ => trivial)
      (case aO => exact ho19)
      (case aS => exact hHeld.size)
      (case aL => have := HLL.out; simp only [List.length_nil]; omega)
      intro v21 w21 ho21 hb hg21 hat21
      rw [List.nil_append] at ho21
      refine hK.out _ _ hb (fun hHeld => ?_)
      clear hK K
      refine norm_ (a' := ?_) ?_ ?_
      rotate_left
      ·show Act.put _ (some 21) _ = _
       simp only [Act.put, List.setIfInBounds_toArray, List.set_cons_zero, List.set_cons_succ, i64_w, i32_w]
       rfl
      refine one_ (i := 5) (N := some 23) (bq 10 447) rfl rfl (qo HT_) (by decide) (fun K hK => ?_)
      refine Kd.R_lit_step (Kd.int .i64) wr.heap.size 3 (w0 := wr) ?hg (N := 23) ?hd (xs := ([(i : Int)] : List Int)) (inner := [.int .i64 (i : Int)]) (ok := fun _ => True) (okp := fun _ => False) ?hr ?hp (fun _ hk => hk.elim) trivial hHeld hHeld.size (by simp) ?_; (case hd => rfl); (case hg => rfl); (case hr => first | (go_simp; done) | (go_simp; rfl)); (case hp => exact ⟨rfl, fun j p_ h_ => by cases j with | zero => (simp at h_; subst h_; rfl) | succ j => simp at h_⟩)
      intro v23 w23 ho23 hb hg23 hnew23
      replace ho21 := Kd.R_grown ho21 hg23 (fun _ _ => by simp)
      refine hK.out _ _ hb (fun hHeld => ?_)
      clear hK K
      refine norm_ (a' := ?_) ?_ ?_
      rotate_left
      ·show Act.put _ (some 23) _ = _
       simp only [Act.put, List.setIfInBounds_toArray, List.set_cons_zero, List.set_cons_succ, i64_w, i32_w]
       rfl
      exact norm_ (by simp only [putAll, Act.put, List.setIfInBounds_toArray, List.set_cons_zero, List.set_cons_succ]) (hCont (v19, v21, v23) _ ⟨hHeld, ho21, ho23⟩)
     ·skip
      refine Kd.R_lit_step (Kd.int .i64) wr.heap.size 3 (w0 := wr) ?hg (N := 23) ?hd (xs := ([(i : Int)] : List Int)) (inner := [.int .i64 (i : Int)]) (ok := fun _ => True) (okp := fun _ => False) ?hr ?hp (fun _ hk => hk.elim) trivial hHeld hHeld.size (by simp) ?_; (case hd => rfl); (case hg => rfl); (case hr => first | (go_simp; done) | (go_simp; rfl)); (case hp => exact ⟨rfl, fun j p_ h_ => by cases j with | zero => (simp at h_; subst h_; rfl) | succ j => simp at h_⟩)
      intro v23 w23 ho23 hb hg23 hnew23
      have hne : ∀ k, v23.ownBlock = some k → some k ≠ v19.ownBlock := fun k hk he => by obtain ⟨b, hb1, hb2⟩ := hnew23; rw [hk] at hb1; injection hb1 with hb1; have := Kd.R_lt ho19 k he.symm; omega
      replace ho19 := Kd.R_grown ho19 hg23 (fun _ _ => by simp)
      refine hK.out _ _ hb (fun hHeld => ?_)
      clear hK K
      refine norm_ (a' := ?_) ?_ ?_
      rotate_left
      ·show Act.put _ (some 23) _ = _
       simp only [Act.put, List.setIfInBounds_toArray, List.set_cons_zero, List.set_cons_succ, i64_w, i32_w]
       rfl
      refine one_ (i := 3) (N := some 21) (bq 10 447) rfl rfl (qo HT_) (by decide) (fun K hK => ?_)
      refine Kd.R_append_rows_step (Kd.int .i64) (w0 := wr) wr.heap.size (by rfl) (.tmp 19) (.tmp 20) 23 3 (.int .i64 0) 8 rfl Try.underlying23 impl_purchases.infoI rfl (by decide) (by omega) v19 ([] : List Int) l _ _ _ (fun _ => True) (fun _ => False) rfl rfl ?aO ?aR (fun _ _ h => h) (fun _ h => h.elim) ?aF ?aB ?aS ?aL ?_
      (case aR => exact Kd.C_below HC.out hHeld)
      (case aB => exact hHeld)
      (case aF => exact fun _ _ => trivial)
      (case aO => exact ho19)
      (case aS => exact hHeld.size)
      (case aL => have := HLL.out; simp only [List.length_nil]; omega)
      intro v21 w21 ho21 hb hg21 hat21
      rw [List.nil_append] at ho21
      replace ho23 := Kd.R_mono (ok' := fun _ => True) (Kd.R_grown (Kd.R_tight rfl ho23) hg21 (fun k hk => hne k hk.symm)) (fun _ _ => trivial)
      refine hK.out _ _ hb (fun hHeld => ?_)
      clear hK K
      refine norm_ (a' := ?_) ?_ ?_
      rotate_left
      ·show Act.put _ (some 21) _ = _
       simp only [Act.put, List.setIfInBounds_toArray, List.set_cons_zero, List.set_cons_succ, i64_w, i32_w]
       rfl
      exact norm_ (by simp only [putAll, Act.put, List.setIfInBounds_toArray, List.set_cons_zero, List.set_cons_succ]) (hCont (v19, v21, v23) _ ⟨hHeld, ho21, ho23⟩)
    ·skip
     refine Kd.R_lit_step (Kd.int .i64) wr.heap.size 3 (w0 := wr) ?hg (N := 23) ?hd (xs := ([(i : Int)] : List Int)) (inner := [.int .i64 (i : Int)]) (ok := fun _ => True) (okp := fun _ => False) ?hr ?hp (fun _ hk => hk.elim) trivial hHeld hHeld.size (by simp) ?_; (case hd => rfl); (case hg => rfl); (case hr => first | (go_simp; done) | (go_simp; rfl)); (case hp => exact ⟨rfl, fun j p_ h_ => by cases j with | zero => (simp at h_; subst h_; rfl) | succ j => simp at h_⟩)
     intro v23 w23 ho23 hb hg23 hnew23
     refine hK.out _ _ hb (fun hHeld => ?_)
     clear hK K
     refine norm_ (a' := ?_) ?_ ?_
     rotate_left
     ·show Act.put _ (some 23) _ = _
      simp only [Act.put, List.setIfInBounds_toArray, List.set_cons_zero, List.set_cons_succ, i64_w, i32_w]
      rfl
     refine one_ (i := 1) (N := some 19) (bq 10 439) rfl rfl (qo HT_) (by decide) (fun K hK => ?_)
     refine Kd.R_lit_step (Kd.int .i64) wr.heap.size 3 (w0 := wr) ?hg (N := 19) ?hd (xs := ([] : List Int)) (inner := []) (ok := fun _ => True) (okp := fun _ => False) ?hr ?hp (fun _ hk => hk.elim) trivial hHeld hHeld.size (by simp) ?_; (case hd => rfl); (case hg => rfl); (case hr => first | (go_simp; done) | (go_simp; rfl)); (case hp => exact (Reps.none _ _))
     intro v19 w19 ho19 hb hg19 hnew19
     have hne : ∀ k, v23.ownBlock = some k → some k ≠ v19.ownBlock := fun k hk he => by obtain ⟨b, hb1, hb2⟩ := hnew19; rw [← he] at hb1; injection hb1 with hb1; have := Kd.R_lt ho23 k hk; omega
     replace ho23 := Kd.R_grown ho23 hg19 (fun _ _ => by simp)
     refine hK.out _ _ hb (fun hHeld => ?_)
     clear hK K
     refine norm_ (a' := ?_) ?_ ?_
     rotate_left
     ·show Act.put _ (some 19) _ = _
      simp only [Act.put, List.setIfInBounds_toArray, List.set_cons_zero, List.set_cons_succ, i64_w, i32_w]
      rfl
     refine one_ (i := 3) (N := some 21) (bq 10 447) rfl rfl (qo HT_) (by decide) (fun K hK => ?_)
     refine Kd.R_append_rows_step (Kd.int .i64) (w0 := wr) wr.heap.size (by rfl) (.tmp 19) (.tmp 20) 23 3 (.int .i64 0) 8 rfl Try.underlying23 impl_purchases.infoI rfl (by decide) (by omega) v19 ([] : List Int) l _ _ _ (fun _ => True) (fun _ => False) rfl rfl ?aO ?aR (fun _ _ h => h) (fun _ h => h.elim) ?aF ?aB ?aS ?aL ?_
     (case aR => exact Kd.C_below HC.out hHeld)
     (case aB => exact hHeld)
     (case aF => exact fun _ _ => trivial)
     (case aO => exact ho19)
     (case aS => exact hHeld.size)
     (case aL => have := HLL.out; simp only [List.length_nil]; omega)
     intro v21 w21 ho21 hb hg21 hat21
     rw [List.nil_append] at ho21
     replace ho23 := Kd.R_mono (ok' := fun _ => True) (Kd.R_grown (Kd.R_tight rfl ho23) hg21 (fun k hk => hne k hk.symm)) (fun _ _ => trivial)
     refine hK.out _ _ hb (fun hHeld => ?_)
     clear hK K
     refine norm_ (a' := ?_) ?_ ?_
     rotate_left
     ·show Act.put _ (some 21) _ = _
      simp only [Act.put, List.setIfInBounds_toArray, List.set_cons_zero, List.set_cons_succ, i64_w, i32_w]
      rfl
     exact norm_ (by simp only [putAll, Act.put, List.setIfInBounds_toArray, List.set_cons_zero, List.set_cons_succ]) (hCont (v19, v21, v23) _ ⟨hHeld, ho21, ho23⟩)
   rintro ⟨v19, v21, v23⟩ w3 ⟨hHeld, ho21, ho23⟩
   simp only [putAll, Act.put, List.setIfInBounds_toArray, List.set_cons_zero, List.set_cons_succ]
   obtain ⟨A23, c23, e23⟩ := Kd.R_slice ho23
   subst e23
   refine one_ (i := 6) (N := some 24) (bq 10 511) rfl rfl (qo HT_) (by decide) (fun K hK => ?_)
   refine Kd.R_append_rows_step (Kd.int .i64) (w0 := wr) wr.heap.size (by rfl) (.tmp 21) (.tmp 23) 23 3 (.int .i64 0) 8 rfl Try.underlying23 impl_purchases.infoI rfl (by decide) (by omega) v21 l [(i : Int)] _ _ _ (fun _ => True) (fun _ => False) rfl rfl ?aO ?aR (fun _ _ h => h) (fun _ h => h.elim) ?aF ?aB ?aS ?aL ?_
   (case aR => exact (Kd.R_reads' ho23).2.2)
   (case aB => exact hHeld)
   (case aF => exact fun _ _ => trivial)
   (case aO => exact ho21)
   (case aS => exact hHeld.size)
   (case aL => have := HLL.out; simp only [List.length_cons, List.length_nil]; omega)
   intro v24 w24 ho24 hb hg24 hat24
   clear hg24 hat24 ho21 ho23
   refine hK.out _ _ hb (fun hHeld => ?_)
   clear hK K
   refine norm_ (a' := ?_) ?_ ?_
   rotate_left
   ·show Act.put _ (some 24) _ = _
    simp only [Act.put, List.setIfInBounds_toArray, List.set_cons_zero, List.set_cons_succ, i64_w, i32_w]
    rfl
   have hw1 : wrap64 ((i : Int) + 1) = ((i + 1 : Nat) : Int) := by unfold wrap64; omega
   rw [hw1]
   refine last_ (i := 9) (N := some 27) (bq 10 1023) rfl rfl (qo HT_) (by decide) (fun K hK => ?_)
   have hpow := Nat.one_le_two_pow (n := k1)
   have ht1 := impl_purchases.tails_length (k1 + 1) l i
   have ht2 := impl_purchases.tails_length m l i0
   have hlq := congrArg List.length HEQ.out
   simp only [List.length_append, List.length_cons] at hlq
   rw [Nat.pow_succ] at ht1
   have hcall := ih k1 (by have := HIK.out; have := HI0.out; have := HM.out; omega) (i + 1) (l ++ [(i : Int)]) v24 vr os bo bn be w0 w24 (fun _ => True) (by have := HIK.out; omega) (below_step HB.out hHeld) ⟨(hHeld.block bo (blk_lt HVR.out.out)).trans HVR.out.out, (hHeld.block bn (blk_lt HVR.out.num)).trans HVR.out.num, (hHeld.block be (blk_lt HVR.out.fn)).trans HVR.out.fn⟩ HBO.out HBN.out (Kd.R_lower ho24 HB.out.size) (fun k hk he => by have := Kd.R_base ho24 k hk; have := blk_lt HVR.out.num; omega) (Kd.S_mono (Kd.S_below (Kd.S_bound HSR.out) hHeld) (fun k hk => ⟨hk.1, fun he => by have := Kd.R_base ho24 k he.symm; have := hk.2.2.1; omega⟩)) (by have := HLEN.out; omega) (by have := HLL.out; have := HIK.out; have := HI0.out; have := HM.out; simp only [List.length_append, List.length_cons, List.length_nil]; omega)
   clear hpow ht1 ht2 hlq
   refine call_ 195 #[v24, .int .i64 ((i + 1 : Nat) : Int), .pointer (some ⟨bo, 0, none⟩), .pointer (some ⟨bn, 0, none⟩), .pointer (some ⟨be, 0, none⟩)] (by rfl) rfl ?_ ?_
   ·have he := enters_ Try.func195 (by kernel_rfl) rfl #[v24, .int .i64 ((i + 1 : Nat) : Int), .pointer (some ⟨bo, 0, none⟩), .pointer (some ⟨bn, 0, none⟩), .pointer (some ⟨be, 0, none⟩)] w24
    unfold execOp
    simp [resolve, Deferred.ofValue, invoke, Act.eval, he]
   refine hcall.mono ?_
   rintro e w5 ⟨v5, rfl, hv5, hs5, ha5, hb5, hk5⟩
   have n1_ := Aside0.mk hv5
   have n2_ := Aside0.mk hs5
   have n3_ := Aside0.mk hb5
   have n4_ := Aside0.mk (show ∀ k, v5.ownBlock = some k → some k = (Value.slice Av outs.length cv).ownBlock ∨ w.heap.size ≤ k from fun k hk => (ha5 k hk).elim (fun h => HAR.out k h.symm) (fun h => .inr (by have := hHeld.size; have := HK.out.1; omega)))
   have n5_ := Aside0.mk (Kept.then_ (Kept.below HK.out hHeld) hk5 (fun k hk => hk.elim (fun h => .inl (.inl h)) (fun h => (HAR.out k h.symm).elim (fun h => .inl (.inr h)) .inr)))
   have n6_ := Aside0.mk (show (os ++ (l ++ [(i : Int)]) :: impl_purchases.tails k1 (l ++ [(i : Int)]) (i + 1)) ++ impl_purchases.tails k1 l (i + 1) = outs ++ l :: impl_purchases.tails m l i0 by rw [← HEQ.out, impl_purchases.tails]; simp)
   clear hv5 hs5 ha5 hb5 hk5 hcall HB HK HAR HSR HVR HC ho24 hHeld
   refine ⟨_, rfl, ?_⟩
   refine hK.out _ _ ?_
   clear hK K
   refine norm_ (a' := ?_) ?_ ?_
   rotate_left
   ·show Act.put _ (some 27) _ = _
    simp only [Act.put, List.setIfInBounds_toArray, List.set_cons_zero, List.set_cons_succ, i64_w, i32_w]
    rfl
   refine done_ (done_of HT_.out (by kernel_rfl)) ?_
   go_wp2
   go_roundg k1
   case measure => omega
   case rel => exact ⟨i + 1, v5, _, by first | rfl | (rw [← hw1]; rfl) | (simp [hw1]), ⟨by have := HIK.out; omega⟩, ⟨by have := HI0.out; omega⟩, n6_, n1_, n2_, n4_, n5_, n3_⟩
def impl_purchases.f (a0 : Int) : Option (List (List Int)) := if 0 ≤ a0 ∧ a0 ≤ 20 then some ([] :: impl_purchases.tails a0.toNat [] 0) else none
set_option maxHeartbeats 4000000 in
set_option maxRecDepth 100000 in
theorem impl_purchases.calls (a0 : Int) (r : List (List Int)) (w : World) (h : impl_purchases.f a0 = some r) :
  Calls Try.prog 166 #[.int .i64 a0] w fun e w' => ∃ v0_ : Value, e = .returned (v0_) ∧ Kd.S (Kd.slice 3 (Kd.int .i64)) 23 w' w.heap.size (fun _ => True) v0_ r ∧ Below w.heap.size w w' := by
 unfold impl_purchases.f at h
 split at h
 ·rename_i ha
  injection h with h
  subst h
  obtain ⟨n, rfl⟩ : ∃ n : Nat, a0 = (n : Int) := ⟨a0.toNat, by omega⟩
  have HN := Aside0.mk (show n ≤ 20 by omega)
  clear ha
  rw [Int.toNat_natCast]
  have hmf : ∀ (fn : Fn) (first cap : Array Value) (w : World), (Instr.makeFunc fn first cap).run Try.prog w = .ok (.func fn first cap) w := fun _ _ _ _ => rfl
  go_enter Try.func166, Try.ntmps166
  go_wp2_with fail
  clear hmf
  obtain ⟨W1, h1⟩ : ∃ W, W = w.alloc (.cells #[.int .i64 (n : Int)] 3) := ⟨_, rfl⟩
  rw [← h1]
  obtain ⟨W2, h2⟩ : ∃ W, W = W1.alloc (.cells #[] 23) := ⟨_, rfl⟩
  rw [← h2]
  obtain ⟨W3, h3⟩ : ∃ W, W = W2.alloc (.cells #[.slice (some ⟨w.heap.size + 1, 0, none⟩) 0 0] 89) := ⟨_, rfl⟩
  rw [← h3]
  obtain ⟨W4, h4⟩ : ∃ W, W = W3.alloc (.cells #[.func (.func 195) #[] #[.pointer (some ⟨w.heap.size + 1 + 1, 0, none⟩), .pointer (some ⟨w.heap.size, 0, none⟩), .pointer (some ⟨w.heap.size + 1 + 1 + 1, 0, none⟩)]] 180) := ⟨_, rfl⟩
  rw [← h4]
  obtain ⟨W5, h5⟩ : ∃ W, W = W4.alloc (.cells #[] 3) := ⟨_, rfl⟩
  rw [← h5]
  have s1 : W1.heap.size = w.heap.size + 1 := by rw [h1]; simp
  have s2 : W2.heap.size = w.heap.size + 1 + 1 := by rw [h2]; simp [s1]
  have s3 : W3.heap.size = w.heap.size + 1 + 1 + 1 := by rw [h3]; simp [s2]
  have s4 : W4.heap.size = w.heap.size + 1 + 1 + 1 + 1 := by rw [h4]; simp [s3]
  have b1 : W1.heap[w.heap.size]? = some (.cells #[.int .i64 (n : Int)] 3 (0, 0)) := by rw [h1]; simpa using heap_alloc_new w _
  have b3 : W3.heap[w.heap.size + 1 + 1]? = some (.cells #[.slice (some ⟨w.heap.size + 1, 0, none⟩) 0 0] 89 (0, 0)) := by rw [h3, ← s2]; simpa using heap_alloc_new W2 _
  have b4 : W4.heap[w.heap.size + 1 + 1 + 1]? = some (.cells #[.func (.func 195) #[] #[.pointer (some ⟨w.heap.size + 1 + 1, 0, none⟩), .pointer (some ⟨w.heap.size, 0, none⟩), .pointer (some ⟨w.heap.size + 1 + 1 + 1, 0, none⟩)]] 180 (0, 0)) := by rw [h4, ← s3]; simpa using heap_alloc_new W3 _
  have hB : Below w.heap.size w W5 := by
   rw [h5, h4, h3, h2, h1]
   exact below_alloc (below_alloc (below_alloc (below_alloc (below_alloc (Below.refl _ _) _) _) _) _) _
  have hV : impl_purchases.Vars W5 (w.heap.size + 1 + 1) w.heap.size (w.heap.size + 1 + 1 + 1) (.slice (some ⟨w.heap.size + 1, 0, none⟩) 0 0) n :=
   ⟨by rw [h5, h4]; exact blk_alloc (blk_alloc b3 _) _, by rw [h5, h4, h3, h2]; exact blk_alloc (blk_alloc (blk_alloc (blk_alloc b1 _) _) _) _, by rw [h5]; exact blk_alloc b4 _⟩
  have hL : Kd.R (Kd.int .i64) 3 W5 w.heap.size (fun _ => True) (.slice (some ⟨w.heap.size + 1 + 1 + 1 + 1, 0, none⟩) 0 0) ([] : List Int) := by
   rw [h5, ← s4]; exact Kd.R_emptyLit _ W4 _ _ _ (by omega) trivial
  have hS : Kd.S (Kd.slice 3 (Kd.int .i64)) 23 W5 w.heap.size (fun k_ => k_ ≠ w.heap.size ∧ ¬ some k_ = (Value.slice (some ⟨w.heap.size + 1 + 1 + 1 + 1, 0, none⟩) 0 0).ownBlock) (.slice (some ⟨w.heap.size + 1, 0, none⟩) 0 0) ([] : List (List Int)) := by
   rw [h5, h4, h3]
   refine Kd.S_alloc (Kd.S_alloc (Kd.S_alloc ?_ _) _) _
   rw [h2, ← s1]
   exact Kd.S_emptyLit _ W1 _ _ _ (by omega) ⟨by omega, by simp [Value.ownBlock]; omega⟩
  have hp : 2 ^ n ≤ 2 ^ 20 := Nat.pow_le_pow_right (by omega) HN.out
  have hc := impl_purchases.clo n HN.out n 0 [] _ _ [] (w.heap.size + 1 + 1) w.heap.size (w.heap.size + 1 + 1 + 1) w W5 (fun _ => True) (by omega) hB hV (by omega) (by omega) hL (fun k hk => by simp [Value.ownBlock] at hk; omega) hS (by simp only [List.length_nil]; omega) (by have := HN.out; simp only [List.length_nil]; omega)
  clear hp h1 h2 h3 h4 h5 s1 s2 s3 s4 b1 b3 b4 hB hV hL hS
  refine hc.mono ?_
  rintro e w' ⟨v', rfl, hv, hs, ha, hb, hk⟩
  clear ha hk hc
  obtain ⟨A1, c1, e1⟩ := Kd.S_slice hs
  subst e1
  have hx : w'.cell? ⟨w.heap.size + 1 + 1, 0, none⟩ = some _ := (blk_cell hv.out 0).trans rfl
  have HS := Aside0.mk hs
  have HB := Aside0.mk hb
  clear hs hb hv
  go_wp2
  go_ret
  exact ⟨_, rfl, by have h := HS.out; rw [List.nil_append] at h; exact Kd.S_mono h (fun _ _ => trivial), HB.out⟩
 ·cases h


end Go.Proofs.Ytgblcbgkkfipoaa.XFnPurchases
