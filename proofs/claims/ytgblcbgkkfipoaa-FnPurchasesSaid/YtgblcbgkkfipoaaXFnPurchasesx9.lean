/- Written by xprint.py, a program of this session, out of the translation: what Go functions compute, as Lean functions, proved over the program. -/
import Derived.Test.YtgblcbgkkfipoaaXFnPurchasesx0
import Derived.Test.YtgblcbgkkfipoaaXFnPurchasesx1
import Derived.Test.YtgblcbgkkfipoaaXFnPurchasesx2
import Derived.Test.YtgblcbgkkfipoaaXFnPurchasesx3
import Derived.Test.YtgblcbgkkfipoaaXFnPurchasesx5
import Derived.Test.YtgblcbgkkfipoaaWQuickB
namespace Go.Proofs.Ytgblcbgkkfipoaa.XFnPurchases
open Go.RowKit Go.Proofs.YtgblcbgkkfipoaaW.PrintWords Go.Proofs.YtgblcbgkkfipoaaW.PrintLast Go.Proofs.YtgblcbgkkfipoaaW.PrintMore
attribute [local go_sem] max2_int min2_int max_two min_two max_three min_three max_four min_four   -- for this text's walks alone
set_option linter.unusedVariables false
set_option linter.unusedSimpArgs false

/-! ### spec_KitPrice: function 81 -/
mutual
def spec_KitPrice.j0 : Nat → List Int → List Int → Bool → Option (Int × Bool)
 | 0, _, _, _ => none
 | k + 1, x0, x1, x21 => if x21 = true then (some (0, false)) else (spec_KitPrice.l0 k x1 0 x0 (x0.length : Int) 0)
def spec_KitPrice.l0 : Nat → List Int → Int → List Int → Int → Int → Option (Int × Bool)
 | 0, _, _, _, _, _ => none
 | k + 1, x1, x6, x22, x23, x24 => if x24 < x23 then (if 0 ≤ x24 then (if x24 < (x22.length : Int) then (if x24 < (x1.length : Int) then (spec_KitPrice.l0 k x1 (wrap64 (x6 + (wrap64 ((rd x22 x24) * (rd x1 x24))))) x22 x23 (wrap64 (x24 + 1))) else (none)) else (none)) else (none)) else (some (x6, true))
end
def spec_KitPrice.f (k : Nat) (l0 : List Int) (l1 : List Int) : Option (Int × Bool) := (spec_kiParts.f k l0).bind fun t392 => (if t392 = true then (if (l1.length : Int) = 7 then ((spec_l1All.f k l1 0 100).bind fun t393 => (spec_KitPrice.j0 k l0 l1 (!t393))) else (spec_KitPrice.j0 k l0 l1 true)) else (spec_KitPrice.j0 k l0 l1 true))
theorem spec_KitPrice.mono_l : ∀ k, (∀ y0 y1 y2, LeO (spec_KitPrice.j0 k y0 y1 y2) (spec_KitPrice.j0 (k + 1) y0 y1 y2)) ∧ (∀ y0 y1 y2 y3 y4, LeO (spec_KitPrice.l0 k y0 y1 y2 y3 y4) (spec_KitPrice.l0 (k + 1) y0 y1 y2 y3 y4))
 | 0 => ⟨fun _ _ _ r h => by simp [spec_KitPrice.j0] at h, fun _ _ _ _ _ r h => by simp [spec_KitPrice.l0] at h⟩
 | k + 1 => by
  obtain ⟨ih0, ih1⟩ := spec_KitPrice.mono_l k
  refine ⟨?_, ?_⟩
  ·intro y0 y1 y2
   unfold spec_KitPrice.j0
   repeat' first | (with_reducible first | exact ih0 _ _ _ | exact ih1 _ _ _ _ _ | exact spec_kiParts.mono _ _ | exact spec_l1All.mono _ _ _ _ | exact LeO.refl _ | exact LeO.none _ | refine LeO.ite ?_ ?_ | refine LeO.bind ?_ (fun _ => ?_)) | exact ih0 _ _ _ | exact ih1 _ _ _ _ _ | exact spec_kiParts.mono _ _ | exact spec_l1All.mono _ _ _ _ | exact LeO.none _ | refine LeO.ite ?_ ?_ | refine LeO.bind ?_ (fun _ => ?_)
  ·intro y0 y1 y2 y3 y4
   unfold spec_KitPrice.l0
   repeat' first | (with_reducible first | exact ih0 _ _ _ | exact ih1 _ _ _ _ _ | exact spec_kiParts.mono _ _ | exact spec_l1All.mono _ _ _ _ | exact LeO.refl _ | exact LeO.none _ | refine LeO.ite ?_ ?_ | refine LeO.bind ?_ (fun _ => ?_)) | exact ih0 _ _ _ | exact ih1 _ _ _ _ _ | exact spec_kiParts.mono _ _ | exact spec_l1All.mono _ _ _ _ | exact LeO.none _ | refine LeO.ite ?_ ?_ | refine LeO.bind ?_ (fun _ => ?_)
theorem spec_KitPrice.mono : ∀ a0 a1 k, LeO (spec_KitPrice.f k a0 a1) (spec_KitPrice.f (k + 1) a0 a1) := by
 intro a0 a1 k
 obtain ⟨ih0, ih1⟩ := spec_KitPrice.mono_l k
 unfold spec_KitPrice.f
 repeat' first | (with_reducible first | exact ih0 _ _ _ | exact ih1 _ _ _ _ _ | exact spec_kiParts.mono _ _ | exact spec_l1All.mono _ _ _ _ | exact LeO.refl _ | exact LeO.none _ | refine LeO.ite ?_ ?_ | refine LeO.bind ?_ (fun _ => ?_)) | exact ih0 _ _ _ | exact ih1 _ _ _ _ _ | exact spec_kiParts.mono _ _ | exact spec_l1All.mono _ _ _ _ | exact LeO.none _ | refine LeO.ite ?_ ?_ | refine LeO.bind ?_ (fun _ => ?_)
set_option maxHeartbeats 8000000 in
set_option maxRecDepth 100000 in
theorem spec_KitPrice.calls (k : Nat) (A0 : Option Addr) (c0 : Nat) (l0 : List Int) (A1 : Option Addr) (c1 : Nat) (l1 : List Int) (r1 : Int) (r2 : Bool) (w : World) (hr0 : Kd.C (Kd.int .i64) w A0 l0.length l0) (hc0 : l0.length ≤ c0) (hr1 : Kd.C (Kd.int .i64) w A1 l1.length l1) (hc1 : l1.length ≤ c1) (h : spec_KitPrice.f k l0 l1 = some (r1, r2)) :
  Calls Try.prog 81 #[.slice A0 l0.length c0, .slice A1 l1.length c1] w fun e w' => e = .returned (.tuple #[.int .i64 r1, .bool r2]) ∧ Drawn0 w w' := by
 have HR0 := Aside0.mk hr0
 have HC0 := Aside0.mk hc0
 clear hr0 hc0
 have HR1 := Aside0.mk hr1
 have HC1 := Aside0.mk hc1
 clear hr1 hc1
 have H : ((spec_kiParts.f k l0).bind fun t392 => (if t392 = true then (if (l1.length : Int) = 7 then ((spec_l1All.f k l1 0 100).bind fun t393 => (spec_KitPrice.j0 k l0 l1 (!t393))) else (spec_KitPrice.j0 k l0 l1 true)) else (spec_KitPrice.j0 k l0 l1 true))) = some (r1, r2) := h
 clear h
 have HC3 := Aside0.mk H
 clear H
 go_enter Try.func81, Try.ntmps81
 go_upto_region 1 with (fail)
 go_cut [21] (fun v21 wc => ∃ (kq : Nat) (x21_2 : Bool), v21 = .bool x21_2 ∧ Aside0 (spec_KitPrice.j0 kq l0 l1 x21_2 = some (r1, r2)) ∧ Aside0 (kq ≤ k) ∧ Drawn0 w wc)
 case first =>
  have H := HC3.out
  clear HC3
  replace H := Option.bind_eq_some_iff.mp H
  obtain ⟨t392, A40, H⟩ := H
  replace H : (if t392 = true then (if (l1.length : Int) = 7 then ((spec_l1All.f k l1 0 100).bind fun t393 => (spec_KitPrice.j0 k l0 l1 (!t393))) else (spec_KitPrice.j0 k l0 l1 true)) else (spec_KitPrice.j0 k l0 l1 true)) = some (r1, r2) := H
  have A4 := Aside0.mk A40
  clear A40
  by_cases c5 : t392 = true
  ·subst c5
   rw [if_pos rfl] at H
   by_cases c6 : (l1.length : Int) = 7
   ·rw [if_pos c6] at H
    have c6b0 : ((l1.length : Int) == 7) = true := beq_iff_eq.mpr c6
    have c6b1 : ((l1.length : Int) != 7) = false := bne_eq_false_iff_eq.mpr c6
    clear c6
    (first | rw [c6b0] | (simp only [i64_w, i32_w]; rw [c6b0]) | skip)
    replace H := Option.bind_eq_some_iff.mp H
    obtain ⟨t393, A70, H⟩ := H
    replace H : (spec_KitPrice.j0 k l0 l1 (!t393)) = some (r1, r2) := H
    have A7 := Aside0.mk A70
    clear A70
    have H' := Aside0.mk H
    clear H
    go_wp2_with (first | ((with_reducible refine gate_callee (f := 153) rfl ?_); refine goesL_ (some 10) rfl rfl Try.func153 (by kernel_rfl) rfl #[.slice A0 l0.length c0] rfl qA ?_; (with_reducible refine (spec_kiParts.calls k _ _ l0 true _ ?side1 ?side2 A4.out).mono ?_); (case side1 => exact uC HR0.out); (case side2 => exact HC0.out); rintro e w' ⟨rfl, ⟨nd, rfl⟩⟩; refine ⟨_, rfl, ?_⟩) | (go_at_call 169; (with_reducible refine (spec_l1All.calls k _ _ l1 0 100 t393 _ ?side1 ?side2 A7.out).mono ?_); (case side1 => exact uC HR1.out); (case side2 => exact HC1.out); rintro e w' ⟨rfl, ⟨nd, rfl⟩⟩))
    go_meet
    case rel => exact ⟨_, (!t393), qs, H', ⟨by first | omega | exact Nat.le_refl _⟩, by repeat (first | exact Drawn0.refl _ | apply Drawn0.step)⟩
   ·rw [if_neg c6] at H
    have c6b0 : ((l1.length : Int) == 7) = false := beq_eq_false_iff_ne.mpr c6
    have c6b1 : ((l1.length : Int) != 7) = true := bne_iff_ne.mpr c6
    (first | rw [c6b0] | (simp only [i64_w, i32_w]; rw [c6b0]) | skip)
    have H' := Aside0.mk H
    clear H
    go_wp2_with (first | ((with_reducible refine gate_callee (f := 153) rfl ?_); refine goesL_ (some 10) rfl rfl Try.func153 (by kernel_rfl) rfl #[.slice A0 l0.length c0] rfl qA ?_; (with_reducible refine (spec_kiParts.calls k _ _ l0 true _ ?side1 ?side2 A4.out).mono ?_); (case side1 => exact uC HR0.out); (case side2 => exact HC0.out); rintro e w' ⟨rfl, ⟨nd, rfl⟩⟩; refine ⟨_, rfl, ?_⟩))
    go_meet
    case rel => exact ⟨_, (true), qs, H', ⟨by first | omega | exact Nat.le_refl _⟩, by repeat (first | exact Drawn0.refl _ | apply Drawn0.step)⟩
  ·replace c5 := Bool.eq_false_iff.mpr c5
   subst c5
   rw [if_neg (show ¬ (false = true) by decide)] at H
   have H' := Aside0.mk H
   clear H
   go_wp2_with (first | ((with_reducible refine gate_callee (f := 153) rfl ?_); refine goesL_ (some 10) rfl rfl Try.func153 (by kernel_rfl) rfl #[.slice A0 l0.length c0] rfl qA ?_; (with_reducible refine (spec_kiParts.calls k _ _ l0 false _ ?side1 ?side2 A4.out).mono ?_); (case side1 => exact uC HR0.out); (case side2 => exact HC0.out); rintro e w' ⟨rfl, ⟨nd, rfl⟩⟩; refine ⟨_, rfl, ?_⟩))
   go_meet
   case rel => exact ⟨_, (true), qs, H', ⟨by first | omega | exact Nat.le_refl _⟩, by repeat (first | exact Drawn0.refl _ | apply Drawn0.step)⟩
 case rest =>
  clear HC3
  try clear c1
  try clear p2
  try clear c5
  try clear c6
  try clear c6b0
  try clear c6b1
  obtain ⟨kq, x21_2, rfl, HA, HJ2, ⟨mc2, rfl⟩⟩ := hcut
  cases kq with
  | zero => exact absurd HA.out (by simp [spec_KitPrice.j0])
  | succ kj2 =>
   have H := HA.out
   clear HA
   simp only [spec_KitPrice.j0] at H
   by_cases c8 : x21_2 = true
   ·subst c8
    rw [if_pos rfl] at H
    simp only [Option.some.injEq, Prod.mk.injEq] at H
    obtain ⟨rfl, rfl⟩ := H
    go_wp2
    go_ret2
    exact ⟨qs, by repeat (first | exact Drawn0.refl _ | apply Drawn0.step)⟩
   ·replace c8 := Bool.eq_false_iff.mpr c8
    subst c8
    rw [if_neg (show ¬ (false = true) by decide)] at H
    have H' := Aside0.mk H
    clear H
    go_wp2
    go_loopg [6, 24] kj2 (fun kq v6 v24 w' => ∃ (x6_2 : Int) (x24_2 : Int), v6 = .int .i64 x6_2 ∧ v24 = .int .i64 x24_2 ∧ Aside0 (spec_KitPrice.l0 kq l1 x6_2 l0 (l0.length : Int) x24_2 = some (r1, r2)) ∧ Aside0 (kq ≤ kj2) ∧ Drawn0 w w')
    case atStart => exact ⟨(0), (0), qs, qs, H', ⟨Nat.le_refl _⟩, by repeat (first | exact Drawn0.refl _ | apply Drawn0.step)⟩
    case round =>
     clear H'
     try clear c1
     try clear c2
     try clear p2
     try clear c5
     try clear c6
     try clear c6b0
     try clear c6b1
     try clear c8
     try clear p2
     obtain ⟨x6_2, x24_2, rfl, rfl, HA, HK2, ⟨m2, rfl⟩⟩ := hrel
     cases gk with
     | zero => exact absurd HA.out (by simp [spec_KitPrice.l0])
     | succ k2 =>
      have H := HA.out
      clear HA
      simp only [spec_KitPrice.l0] at H
      by_cases c9 : x24_2 < (l0.length : Int)
      ·rw [if_pos c9] at H
       have c9b0 : decide (x24_2 < (l0.length : Int)) = true := decide_eq_true c9
       clear c9
       by_cases c10 : 0 ≤ x24_2
       ·rw [if_pos c10] at H
        have c10b0 : decide (0 ≤ x24_2) = true := decide_eq_true c10
        clear c10
        by_cases c11 : x24_2 < (l0.length : Int)
        ·rw [if_pos c11] at H
         have c11b0 : decide (x24_2 < (l0.length : Int)) = true := decide_eq_true c11
         clear c11
         by_cases c12 : x24_2 < (l1.length : Int)
         ·rw [if_pos c12] at H
          have c12b0 : decide (x24_2 < (l1.length : Int)) = true := decide_eq_true c12
          clear c12
          have H' := Aside0.mk H
          clear H
          have p394 : 0 ≤ (x24_2 : Int) := of_decide_eq_true qa
          have q394 : x24_2 < (l0.length : Int) := of_decide_eq_true qa
          obtain ⟨ad394, e394, hx394_0⟩ := Kd.at_int HR0.out x24_2 p394 q394
          cases e394
          replace p394 := eq_true p394
          replace q394 := eq_true q394
          have p395 : 0 ≤ (x24_2 : Int) := of_decide_eq_true qa
          have q395 : x24_2 < (l1.length : Int) := of_decide_eq_true qa
          obtain ⟨ad395, e395, hx395_0⟩ := Kd.at_int HR1.out x24_2 p395 q395
          cases e395
          replace p395 := eq_true p395
          replace q395 := eq_true q395
          go_wp2
          go_roundg k2
          case measure => have := HJ2.out; have := HK2.out; omega
          case rel => exact ⟨(wrap64 (x6_2 + (wrap64 ((rd l0 x24_2) * (rd l1 x24_2))))), (wrap64 (x24_2 + 1)), qs, qs, H', ⟨by have := HJ2.out; have := HK2.out; omega⟩, by repeat (first | exact Drawn0.refl _ | apply Drawn0.step)⟩
         ·rw [if_neg c12] at H
          exact absurd H (by simp)
        ·rw [if_neg c11] at H
         exact absurd H (by simp)
       ·rw [if_neg c10] at H
        exact absurd H (by simp)
      ·rw [if_neg c9] at H
       have c9b0 : decide (x24_2 < (l0.length : Int)) = false := decide_eq_false c9
       clear c9
       simp only [Option.some.injEq, Prod.mk.injEq] at H
       obtain ⟨rfl, rfl⟩ := H
       go_wp2
       go_ret2
       exact ⟨qs, by repeat (first | exact Drawn0.refl _ | apply Drawn0.step)⟩

/-! ### spec_DrawFewestKits: function 82 -/
def spec_DrawFewestKits.f (k : Nat) (l0 : List Int) : Option ((List (List Int)) × List Int) := (spec_DrawCheapestKits.f k l0).bind fun bt396 => (some (bt396.1, bt396.2.2))
theorem spec_DrawFewestKits.mono : ∀ a0 k, LeO (spec_DrawFewestKits.f k a0) (spec_DrawFewestKits.f (k + 1) a0) := by
 intro a0 k
 unfold spec_DrawFewestKits.f
 repeat' first | (with_reducible first | exact spec_DrawCheapestKits.mono _ _ | exact LeO.refl _ | exact LeO.none _ | refine LeO.ite ?_ ?_ | refine LeO.bind ?_ (fun _ => ?_)) | exact spec_DrawCheapestKits.mono _ _ | exact LeO.none _ | refine LeO.ite ?_ ?_ | refine LeO.bind ?_ (fun _ => ?_)
set_option maxHeartbeats 8000000 in
set_option maxRecDepth 100000 in
theorem spec_DrawFewestKits.calls (k : Nat) (A0 : Option Addr) (c0 : Nat) (l0 : List Int) (r1 : List (List Int)) (r2 : List Int) (w : World) (hr0 : Kd.C (Kd.int .u8) w A0 l0.length l0) (hc0 : l0.length ≤ c0) (h : spec_DrawFewestKits.f k l0 = some (r1, r2)) :
  Calls Try.prog 82 #[.slice A0 l0.length c0] w fun e w' => ∃ v0_ v1_ : Value, e = .returned (.tuple #[v0_, v1_]) ∧ Kd.S (Kd.slice 3 (Kd.int .i64)) 23 w' w.heap.size (fun k_ => some k_ ≠ (v1_ : Value).ownBlock) v0_ r1 ∧ Kd.R (Kd.int .i64) 3 w' w.heap.size (fun _ => True) v1_ r2 ∧ Below w.heap.size w w' := by
 have HR0 := Aside0.mk hr0
 have HC0 := Aside0.mk hc0
 clear hr0 hc0
 have HB := Aside0.mk (Below.refl w.heap.size w)
 have H : ((spec_DrawCheapestKits.f k l0).bind fun bt396 => (some (bt396.1, bt396.2.2))) = some (r1, r2) := h
 clear h
 replace H := Option.bind_eq_some_iff.mp H
 obtain ⟨⟨t396, t397, t398⟩, A20, H⟩ := H
 replace H : (some (t396, t398)) = some (r1, r2) := H
 have A2 := Aside0.mk A20
 clear A20
 simp only [Option.some.injEq, Prod.mk.injEq] at H
 obtain ⟨rfl, rfl⟩ := H
 go_enter Try.func82, Try.ntmps82
 go_wp2_with (first | ((with_reducible refine gate_callee (f := 74) rfl ?_); refine goesL_ (some 9) rfl rfl Try.func74 (by kernel_rfl) rfl #[.slice A0 l0.length c0] rfl qA ?_; (with_reducible refine (spec_DrawCheapestKits.calls k _ _ l0 t396 t397 t398 _ ?side1 ?side2 A2.out).mono ?_); (case side1 => exact uC HR0.out); (case side2 => exact HC0.out); rintro e w3 ⟨v399, v401, v403, rfl, ho0, ho1, ho2, hb⟩; refine ⟨_, rfl, ?_⟩; have n0_ := Aside0.mk (Kd.S_lower ho0 (below_size (qB HB))); have n1_ := Aside0.mk (Kd.Q_lower ho1 (below_size (qB HB))); have n2_ := Aside0.mk (Kd.R_lower ho2 (below_size (qB HB))); have n3_ := Aside0.mk (below_step (qB HB) hb); clear HB; have HO400 := n0_; have HO402 := n1_; have HO404 := n2_; have HB := n3_; clear n0_ n1_ n2_ n3_; (try clear hb); (try clear hb2); (try clear hk); (try clear hi); (try clear ho0); (try clear ho1); (try clear ho2)))
 go_ret2
 exact ⟨_, _, qe, by exact uS (Kd.S_mono HO400.out (fun _ hk => hk.2)), by exact uR (Kd.R_mono HO404.out (fun _ hk => trivial)), qB HB⟩

/-! ### spec_paAll: function 214 -/
def spec_paAll.l0 : Nat → List (S109) → Int → Option ((List (S109)))
 | 0, _, _ => none
 | k + 1, x1, x2 => if x2 ≤ 7 then (if x1.length < 8796093022208 then ((some (x1 ++ [(⟨x2, 0⟩ : S109)] : List (S109))).bind fun y405 => ((spec_paTurning.f x2 1).bind fun t409 => (if t409 = true then (if y405.length < 8796093022208 then (spec_paAll.l0 k (y405 ++ [(⟨x2, 1⟩ : S109)]) (wrap64 (x2 + 1))) else (none)) else (spec_paAll.l0 k y405 (wrap64 (x2 + 1)))))) else (none)) else (some x1)
def spec_paAll.f (k : Nat)  : Option ((List (S109))) := spec_paAll.l0 k ([] : List (S109)) 0
theorem spec_paAll.mono_l : ∀ k, (∀ y0 y1, LeO (spec_paAll.l0 k y0 y1) (spec_paAll.l0 (k + 1) y0 y1))
 | 0 => fun _ _ r h => by simp [spec_paAll.l0] at h
 | k + 1 => by
  have ih0 := spec_paAll.mono_l k
  ·intro y0 y1
   unfold spec_paAll.l0
   repeat' first | (with_reducible first | exact ih0 _ _ | exact LeO.refl _ | exact LeO.none _ | refine LeO.ite ?_ ?_ | refine LeO.bind ?_ (fun _ => ?_)) | exact ih0 _ _ | exact LeO.none _ | refine LeO.ite ?_ ?_ | refine LeO.bind ?_ (fun _ => ?_)
theorem spec_paAll.mono : ∀ k, LeO (spec_paAll.f k ) (spec_paAll.f (k + 1) ) := by
 intro  k
 have ih0 := spec_paAll.mono_l k
 unfold spec_paAll.f
 repeat' first | (with_reducible first | exact ih0 _ _ | exact LeO.refl _ | exact LeO.none _ | refine LeO.ite ?_ ?_ | refine LeO.bind ?_ (fun _ => ?_)) | exact ih0 _ _ | exact LeO.none _ | refine LeO.ite ?_ ?_ | refine LeO.bind ?_ (fun _ => ?_)
set_option maxHeartbeats 8000000 in
set_option maxRecDepth 100000 in
theorem spec_paAll.calls (k : Nat)  (r : List (S109)) (w : World) (h : spec_paAll.f k  = some r) :
  Calls Try.prog 214 #[] w fun e w' => ∃ v0_ : Value, e = .returned (v0_) ∧ Kd.R k109 109 w' w.heap.size (fun _ => True) v0_ r ∧ Below w.heap.size w w' := by
 have hu109 := Try.underlying109
 have HB := Aside0.mk (Below.refl w.heap.size w)
 have H : (spec_paAll.l0 k ([] : List (S109)) 0) = some r := h
 clear h
 have H' := Aside0.mk H
 clear H
 go_enter Try.func214, Try.ntmps214
 go_wp2
 go_loopg [1, 2] k (fun kq v1 v2 w' => ∃ (x1_1 : List (S109)) (x2_1 : Int), v2 = .int .i64 x2_1 ∧ Aside0 (spec_paAll.l0 kq x1_1 x2_1 = some r) ∧ Aside0 (kq ≤ k) ∧ Aside0 (Kd.R k109 109 w' w.heap.size (fun _ => True) v1 x1_1) ∧ Aside0 (Below w.heap.size w w'))
 case atStart => exact ⟨(([] : List (S109))), (0), qs, H', ⟨Nat.le_refl _⟩, ⟨by first | exact Kd.R_nil _ _ _ _ _ | exact Kd.N_nil _ _ _ _ _ | exact Kd.V_nil _ _ _ _ _ | exact Kd.Q_nil _ _ _ _ _ | exact Kd.S_nil _ _ _ _ _⟩, ⟨qB HB⟩⟩
 case round =>
  clear H'
  obtain ⟨x1_1, x2_1, rfl, HA, HK1, HO_1, HB⟩ := hrel
  cases gk with
  | zero => exact absurd HA.out (by simp [spec_paAll.l0])
  | succ k1 =>
   have H := HA.out
   clear HA
   simp only [spec_paAll.l0] at H
   by_cases c1 : x2_1 ≤ 7
   ·rw [if_pos c1] at H
    have c1b0 : decide (x2_1 ≤ 7) = true := decide_eq_true c1
    clear c1
    by_cases c2 : x1_1.length < 8796093022208
    ·rw [if_pos c2] at H
     have LMc2 := Aside0.mk c2
     clear c2
     obtain ⟨y405, hy405⟩ : ∃ y_ : List (S109), y_ = (x1_1 ++ [(⟨x2_1, 0⟩ : S109)]) := ⟨_, rfl⟩
     replace H : ((spec_paTurning.f x2_1 1).bind fun t409 => (if t409 = true then (if y405.length < 8796093022208 then (spec_paAll.l0 k1 (y405 ++ [(⟨x2_1, 1⟩ : S109)]) (wrap64 (x2_1 + 1))) else (none)) else (spec_paAll.l0 k1 y405 (wrap64 (x2_1 + 1))))) = some r := by first | (rw [hy405]; with_reducible exact H) | (have H2_ := (Option.bind_some _ _).symm.trans H; rw [hy405]; with_reducible exact H2_) | (have H2_ := (Option.bind_some _ _).symm.trans H; with_reducible exact H2_) | with_reducible exact H | (rw [hy405]; exact H) | exact H
     have Ny405 := Aside0.mk hy405
     clear hy405
     replace H := Option.bind_eq_some_iff.mp H
     obtain ⟨t409, A30, H⟩ := H
     replace H : (if t409 = true then (if y405.length < 8796093022208 then (spec_paAll.l0 k1 (y405 ++ [(⟨x2_1, 1⟩ : S109)]) (wrap64 (x2_1 + 1))) else (none)) else (spec_paAll.l0 k1 y405 (wrap64 (x2_1 + 1)))) = some r := H
     have A3 := Aside0.mk A30
     clear A30
     by_cases c4 : t409 = true
     ·subst c4
      rw [if_pos rfl] at H
      by_cases c5 : y405.length < 8796093022208
      ·rw [if_pos c5] at H
       have LMc5 := Aside0.mk c5
       clear c5
       obtain ⟨y410, hy410⟩ : ∃ y_ : List (S109), y_ = (y405 ++ [(⟨x2_1, 1⟩ : S109)]) := ⟨_, rfl⟩
       replace H : (spec_paAll.l0 k1 y410 (wrap64 (x2_1 + 1))) = some r := by first | (rw [hy410]; with_reducible exact H) | (have H2_ := (Option.bind_some _ _).symm.trans H; rw [hy410]; with_reducible exact H2_) | (have H2_ := (Option.bind_some _ _).symm.trans H; with_reducible exact H2_) | with_reducible exact H | (rw [hy410]; exact H) | exact H
       have Ny410 := Aside0.mk hy410
       clear hy410
       have H' := Aside0.mk H
       clear H
       go_wp2_with (first | ((with_reducible refine gate_builtin (b := .append) (xs := #[.tmp 8, .tmp 11]) rfl ?_); at_builtin; refine Kd.R_append k109 (w0 := w) w.heap.size rfl (.tmp 8) (.tmp 11) 68 109 (.agg #[(.int .i64 0), (.int .i64 0)]) 16 rfl Try.underlying68 info109 rfl (by decide) (by omega) u1 x1_1 (⟨x2_1, 0⟩ : S109) [.int .i64 x2_1, .int .i64 0] (fun _ => True) (fun _ => False) rfl rfl ?aP (fun _ hk => hk.elim) ?aF ?aO ?aB ?aS ?aL ?_; (case aP => exact k109_mkM _ _ _ (⟨x2_1, 0⟩ : S109)); (case aB => exact (qB HB)); (case aF => exact (fun _ _ => trivial)); (case aO => exact (qR HO_1)); (case aS => exact (below_size (qB HB))); (case aL => have := LMc2.out; omega); intro v406 w6 ho hb hg hat; rw [← Ny405.out] at ho; have n0_ := Aside0.mk (hb); have n1_ := Aside0.mk (ho); clear HB; clear HO_1; have HB := n0_; have HO407 := n1_; clear n0_ n1_; clear ho hb hg hat) | ((with_reducible refine gate_dst (N := 3) rfl ?_); refine box_event ?hg (N := 3) ?hd (cs := #[.int .i64 0, .int .i64 0]) (t := 109) ?hr ?_; (case hd => rfl); (case hg => rfl); (case hr => first | (go_simp; done) | (go_simp; rfl)); intro gb408 hg w7 hbox hb; have n0_ := Aside0.mk (Kd.R_below (Kd.R_elderB (qR HO407) gb408 (Nat.le_of_eq hg.symm)) hb); have n1_ := Aside0.mk (below_step (qB HB) hb); have n2_ := Aside0.mk (hbox); have n3_ := Aside0.mk ((by rw [hg]; exact (below_size (qB HB)) : w.heap.size ≤ gb408)); have n4_ := Aside0.mk ((by rw [hg]; exact (below_size (qB HB)) : w.heap.size ≤ gb408)); clear HO407; clear HB; have HO407 := n0_; have HB := n1_; have BK408 := n2_; have GW408 := n3_; have GE408 := n4_; clear n0_ n1_ n2_ n3_ n4_; clear hb hbox hg; have hcz8_0 : w7.cell? ⟨gb408, 0, none⟩ = some (.int .i64 0) := (blk_cell BK408.out 0).trans rfl; have hcz8_1 : w7.cell? ⟨gb408, 1, none⟩ = some (.int .i64 0) := (blk_cell BK408.out 1).trans rfl; have hfz8_0 := blk_frozen BK408.out 0; have hfz8_1 := blk_frozen BK408.out 1) | ((with_reducible refine gate_callee (f := 213) rfl ?_); refine goesL_ (some 16) rfl rfl Try.func213 (by kernel_rfl) rfl #[.agg #[.int .i64 x2_1, .int .i64 1]] rfl qA ?_; (with_reducible refine (spec_paTurning.calls x2_1 1 true _ A3.out).mono ?_); rintro e w9 ⟨rfl, hb⟩; refine ⟨_, rfl, ?_⟩; have n0_ := Aside0.mk (Kd.R_below (by exact uR ((Kd.R_mono (Kd.R_far (p := ⟨gb408, 1, none⟩) (Kd.R_far (p := ⟨gb408, 0, none⟩) (Kd.R_mono HO407.out (fun k_ hk => (⟨hk, hk.2⟩ : _ ∧ k_ ≠ gb408))) (fun _ hk => hk.2) (.int .i64 x2_1)) (fun _ hk => hk.2) (.int .i64 1)) (fun _ h_ => h_.1)))) hb); have n1_ := Aside0.mk (blk_below (g := gb408) (o := .cells #[.int .i64 x2_1, .int .i64 1] 109 (0, 0)) (by (with_reducible repeat (first | refine blk_drewN ?_ _ | refine blk_drew ?_ | refine blk_alloc ?_ _)); refine blk_put (cs := #[.int .i64 x2_1, .int .i64 0]) ?_ 1 _ rfl; (with_reducible repeat (first | refine blk_drewN ?_ _ | refine blk_drew ?_ | refine blk_alloc ?_ _)); refine blk_put (cs := #[.int .i64 0, .int .i64 0]) ?_ 0 _ rfl; (with_reducible repeat (first | refine blk_drewN ?_ _ | refine blk_drew ?_ | refine blk_alloc ?_ _)); exact BK408.out) hb); have n2_ := Aside0.mk (below_step (qT HB GE408) hb); clear HO407; clear BK408; clear HB; have HO407 := n0_; have BK408 := n1_; have HB := n2_; clear n0_ n1_ n2_; (try clear hb); (try clear hb2); (try clear hk); (try clear hi); have hcz10_0 : w9.cell? ⟨gb408, 0, none⟩ = some (.int .i64 x2_1) := (blk_cell BK408.out 0).trans rfl; have hcz10_1 : w9.cell? ⟨gb408, 1, none⟩ = some (.int .i64 1) := (blk_cell BK408.out 1).trans rfl; have hfz10_0 := blk_frozen BK408.out 0; have hfz10_1 := blk_frozen BK408.out 1) | ((with_reducible refine gate_builtin (b := .append) (xs := #[.tmp 17, .tmp 19]) rfl ?_); at_builtin; refine Kd.R_append k109 (w0 := w) w.heap.size rfl (.tmp 17) (.tmp 19) 68 109 (.agg #[(.int .i64 0), (.int .i64 0)]) 16 rfl Try.underlying68 info109 rfl (by decide) (by omega) v406 y405 (⟨x2_1, 1⟩ : S109) [.int .i64 x2_1, .int .i64 1] (fun k_ => k_ ≠ gb408) (fun _ => False) rfl rfl ?aP (fun _ hk => hk.elim) ?aF ?aO ?aB ?aS ?aL ?_; (case aP => exact k109_mkM _ _ _ (⟨x2_1, 1⟩ : S109)); (case aB => exact (qT HB GE408)); (case aF => exact (fun k_ hk => Kd.freshB (g := gb408) (o := .cells #[.int .i64 x2_1, .int .i64 1] 109 (0, 0)) (qK BK408) k_ hk)); (case aO => exact (by exact uR (Kd.R_mono HO407.out (fun _ hk => hk.2)))); (case aS => exact (below_size (qT HB GE408))); (case aL => have := LMc5.out; omega); intro v411 w11 ho hb hg hat; rw [← Ny410.out] at ho; have n0_ := Aside0.mk (blk_grown (g := gb408) (o := .cells #[.int .i64 x2_1, .int .i64 1] 109 (0, 0)) (qK BK408) hg (Kd.R_away HO407.out (fun _ hk => hk.2))); have n1_ := Aside0.mk (hb); have n2_ := Aside0.mk (ho); clear BK408; clear HB; clear HO407; have BK408 := n0_; have HB := n1_; have HO412 := n2_; clear n0_ n1_ n2_; clear ho hb hg hat))
       go_roundg k1
       case measure => have := HK1.out; omega
       case rel => exact ⟨(y410), (wrap64 (x2_1 + 1)), qs, H', ⟨by have := HK1.out; omega⟩, ⟨by exact uR (Kd.R_mono HO412.out (fun _ hk => trivial))⟩, ⟨qT HB GE408⟩⟩
      ·rw [if_neg c5] at H
       exact absurd H (by simp)
     ·replace c4 := Bool.eq_false_iff.mpr c4
      subst c4
      rw [if_neg (show ¬ (false = true) by decide)] at H
      have H' := Aside0.mk H
      clear H
      go_wp2_with (first | ((with_reducible refine gate_builtin (b := .append) (xs := #[.tmp 8, .tmp 11]) rfl ?_); at_builtin; refine Kd.R_append k109 (w0 := w) w.heap.size rfl (.tmp 8) (.tmp 11) 68 109 (.agg #[(.int .i64 0), (.int .i64 0)]) 16 rfl Try.underlying68 info109 rfl (by decide) (by omega) u1 x1_1 (⟨x2_1, 0⟩ : S109) [.int .i64 x2_1, .int .i64 0] (fun _ => True) (fun _ => False) rfl rfl ?aP (fun _ hk => hk.elim) ?aF ?aO ?aB ?aS ?aL ?_; (case aP => exact k109_mkM _ _ _ (⟨x2_1, 0⟩ : S109)); (case aB => exact (qB HB)); (case aF => exact (fun _ _ => trivial)); (case aO => exact (qR HO_1)); (case aS => exact (below_size (qB HB))); (case aL => have := LMc2.out; omega); intro v406 w12 ho hb hg hat; rw [← Ny405.out] at ho; have n0_ := Aside0.mk (hb); have n1_ := Aside0.mk (ho); clear HB; clear HO_1; have HB := n0_; have HO407 := n1_; clear n0_ n1_; clear ho hb hg hat) | ((with_reducible refine gate_dst (N := 3) rfl ?_); refine box_event ?hg (N := 3) ?hd (cs := #[.int .i64 0, .int .i64 0]) (t := 109) ?hr ?_; (case hd => rfl); (case hg => rfl); (case hr => first | (go_simp; done) | (go_simp; rfl)); intro gb408 hg w13 hbox hb; have n0_ := Aside0.mk (Kd.R_below (Kd.R_elderB (qR HO407) gb408 (Nat.le_of_eq hg.symm)) hb); have n1_ := Aside0.mk (below_step (qB HB) hb); have n2_ := Aside0.mk (hbox); have n3_ := Aside0.mk ((by rw [hg]; exact (below_size (qB HB)) : w.heap.size ≤ gb408)); have n4_ := Aside0.mk ((by rw [hg]; exact (below_size (qB HB)) : w.heap.size ≤ gb408)); clear HO407; clear HB; have HO407 := n0_; have HB := n1_; have BK408 := n2_; have GW408 := n3_; have GE408 := n4_; clear n0_ n1_ n2_ n3_ n4_; clear hb hbox hg; have hcz14_0 : w13.cell? ⟨gb408, 0, none⟩ = some (.int .i64 0) := (blk_cell BK408.out 0).trans rfl; have hcz14_1 : w13.cell? ⟨gb408, 1, none⟩ = some (.int .i64 0) := (blk_cell BK408.out 1).trans rfl; have hfz14_0 := blk_frozen BK408.out 0; have hfz14_1 := blk_frozen BK408.out 1) | ((with_reducible refine gate_callee (f := 213) rfl ?_); refine goesL_ (some 16) rfl rfl Try.func213 (by kernel_rfl) rfl #[.agg #[.int .i64 x2_1, .int .i64 1]] rfl qA ?_; (with_reducible refine (spec_paTurning.calls x2_1 1 false _ A3.out).mono ?_); rintro e w15 ⟨rfl, hb⟩; refine ⟨_, rfl, ?_⟩; have n0_ := Aside0.mk (Kd.R_below (by exact uR ((Kd.R_mono (Kd.R_far (p := ⟨gb408, 1, none⟩) (Kd.R_far (p := ⟨gb408, 0, none⟩) (Kd.R_mono HO407.out (fun k_ hk => (⟨hk, hk.2⟩ : _ ∧ k_ ≠ gb408))) (fun _ hk => hk.2) (.int .i64 x2_1)) (fun _ hk => hk.2) (.int .i64 1)) (fun _ h_ => h_.1)))) hb); have n1_ := Aside0.mk (blk_below (g := gb408) (o := .cells #[.int .i64 x2_1, .int .i64 1] 109 (0, 0)) (by (with_reducible repeat (first | refine blk_drewN ?_ _ | refine blk_drew ?_ | refine blk_alloc ?_ _)); refine blk_put (cs := #[.int .i64 x2_1, .int .i64 0]) ?_ 1 _ rfl; (with_reducible repeat (first | refine blk_drewN ?_ _ | refine blk_drew ?_ | refine blk_alloc ?_ _)); refine blk_put (cs := #[.int .i64 0, .int .i64 0]) ?_ 0 _ rfl; (with_reducible repeat (first | refine blk_drewN ?_ _ | refine blk_drew ?_ | refine blk_alloc ?_ _)); exact BK408.out) hb); have n2_ := Aside0.mk (below_step (qT HB GE408) hb); clear HO407; clear BK408; clear HB; have HO407 := n0_; have BK408 := n1_; have HB := n2_; clear n0_ n1_ n2_; (try clear hb); (try clear hb2); (try clear hk); (try clear hi)))
      go_roundg k1
      case measure => have := HK1.out; omega
      case rel => exact ⟨(y405), (wrap64 (x2_1 + 1)), qs, H', ⟨by have := HK1.out; omega⟩, ⟨by exact uR (Kd.R_mono HO407.out (fun _ hk => trivial))⟩, ⟨qT HB GE408⟩⟩
    ·rw [if_neg c2] at H
     exact absurd H (by simp)
   ·rw [if_neg c1] at H
    have c1b0 : decide (x2_1 ≤ 7) = false := decide_eq_false c1
    clear c1
    obtain rfl := Option.some.inj H
    go_wp2
    go_ret
    exact ⟨_, qe, qR HO_1, qB HB⟩

/-! ### spec_l1Cur_cell: function 203 -/
def spec_l1Cur_cell.f (k : Nat) (s0_0 : List Int) (s0_1 : Int) (s0_2 : Int) : Option (Int × Int × Int × Int) := (spec_paAll.f k).bind fun t414 => ((spec_l1Cur_pick.f s0_0 s0_1 s0_2 (t414.length : Int)).bind fun bt417 => (if 0 ≤ bt417.1 then (if bt417.1 < (t414.length : Int) then (some ((rd_T109 t414 bt417.1).f0, (rd_T109 t414 bt417.1).f1, bt417.2.1, bt417.2.2)) else (none)) else (none)))
theorem spec_l1Cur_cell.mono : ∀ a0 a1 a2 k, LeO (spec_l1Cur_cell.f k a0 a1 a2) (spec_l1Cur_cell.f (k + 1) a0 a1 a2) := by
 intro a0 a1 a2 k
 unfold spec_l1Cur_cell.f
 repeat' first | (with_reducible first | exact spec_paAll.mono _ | exact LeO.refl _ | exact LeO.none _ | refine LeO.ite ?_ ?_ | refine LeO.bind ?_ (fun _ => ?_)) | exact spec_paAll.mono _ | exact LeO.none _ | refine LeO.ite ?_ ?_ | refine LeO.bind ?_ (fun _ => ?_)
set_option maxHeartbeats 8000000 in
set_option maxRecDepth 100000 in
theorem spec_l1Cur_cell.calls (k : Nat) (g : Nat) (s0_0 : List Int) (s0_1 : Int) (s0_2 : Int) (r1 : Int) (r2 : Int) (r3 : Int) (r4 : Int) (w0 w : World) (hI : IsS126 w0 w g s0_0 s0_1 s0_2) (hB : Below w0.heap.size w0 w) (h : spec_l1Cur_cell.f k s0_0 s0_1 s0_2 = some (r1, r2, r3, r4)) :
  Calls Try.prog 203 #[.pointer (some ⟨g, 0, none⟩)] w fun e w' => e = .returned (.agg #[.int .i64 r1, .int .i64 r2]) ∧ IsS126 w0 w' g s0_0 r3 r4 ∧ Below w0.heap.size w0 w' ∧ KeepBut w w' g none := by
 have hu109 := Try.underlying109
 have HI0 := Aside0.mk hI
 have HK := Aside0.mk (KeepBut.refl w g none)
 have HL := Aside0.mk hB.size
 clear hI
 have HW0 := Aside0.mk hB.size
 have HB := Aside0.mk hB
 clear hB
 have H : ((spec_paAll.f k).bind fun t414 => ((spec_l1Cur_pick.f s0_0 s0_1 s0_2 (t414.length : Int)).bind fun bt417 => (if 0 ≤ bt417.1 then (if bt417.1 < (t414.length : Int) then (some ((rd_T109 t414 bt417.1).f0, (rd_T109 t414 bt417.1).f1, bt417.2.1, bt417.2.2)) else (none)) else (none)))) = some (r1, r2, r3, r4) := h
 clear h
 replace H := Option.bind_eq_some_iff.mp H
 obtain ⟨t414, A20, H⟩ := H
 replace H : ((spec_l1Cur_pick.f s0_0 s0_1 s0_2 (t414.length : Int)).bind fun bt417 => (if 0 ≤ bt417.1 then (if bt417.1 < (t414.length : Int) then (some ((rd_T109 t414 bt417.1).f0, (rd_T109 t414 bt417.1).f1, bt417.2.1, bt417.2.2)) else (none)) else (none))) = some (r1, r2, r3, r4) := H
 have A2 := Aside0.mk A20
 clear A20
 replace H := Option.bind_eq_some_iff.mp H
 obtain ⟨⟨t417, t418, t419⟩, A30, H⟩ := H
 replace H : (if 0 ≤ t417 then (if t417 < (t414.length : Int) then (some ((rd_T109 t414 t417).f0, (rd_T109 t414 t417).f1, t418, t419)) else (none)) else (none)) = some (r1, r2, r3, r4) := H
 have A3 := Aside0.mk A30
 clear A30
 by_cases c4 : 0 ≤ t417
 ·rw [if_pos c4] at H
  have c4b0 : decide (0 ≤ t417) = true := decide_eq_true c4
  clear c4
  by_cases c5 : t417 < (t414.length : Int)
  ·rw [if_pos c5] at H
   have c5b0 : decide (t417 < (t414.length : Int)) = true := decide_eq_true c5
   clear c5
   simp only [Option.some.injEq, Prod.mk.injEq] at H
   obtain ⟨rfl, rfl, rfl, rfl⟩ := H
   go_enter Try.func203, Try.ntmps203
   go_wp2_with (first | ((with_reducible refine gate_dst (N := 2) rfl ?_); refine box_event ?hg (N := 2) ?hd (cs := #[.int .i64 0, .int .i64 0]) (t := 109) ?hr ?_; (case hd => rfl); (case hg => rfl); (case hr => first | (go_simp; done) | (go_simp; rfl)); intro gb413 hg w6 hbox hb; have n0_ := Aside0.mk (IsS126.below (qI126 HI0) hb); have n1_ := Aside0.mk (KeepBut.trans (qP HK) (KeepBut.of_below hb g none) (.inl rfl)); have n2_ := Aside0.mk (below_step (qV126 HB) hb); have n3_ := Aside0.mk (hbox); have n4_ := Aside0.mk ((by rw [hg]; exact (keep_size (w := w) (g := g) (row := none) (qP HK)) : w.heap.size ≤ gb413)); have n5_ := Aside0.mk ((Nat.le_trans HW0.out (by rw [hg]; exact (keep_size (w := w) (g := g) (row := none) (qP HK)) : w.heap.size ≤ gb413) : w0.heap.size ≤ gb413)); have n6_ := Aside0.mk ((by rw [hg]; exact Nat.ne_of_lt (IsS126.lt (show IsS126 w0 _ g s0_0 s0_1 s0_2 from qI126 HI0)) : g ≠ gb413)); have n7_ := Aside0.mk ((by rw [hg]; exact Nat.ne_of_gt (IsS126.lt (show IsS126 w0 _ g s0_0 s0_1 s0_2 from qI126 HI0)) : gb413 ≠ g)); clear HI0; clear HK; clear HB; have HI0 := n0_; have HK := n1_; have HB := n2_; have BK413 := n3_; have GW413 := n4_; have GE413 := n5_; have NB0_413 := n6_; have NB413_0 := n7_; clear n0_ n1_ n2_ n3_ n4_ n5_ n6_ n7_; clear hb hbox hg) | ((with_reducible refine gate_callee (f := 214) rfl ?_); refine goesL_ (some 4) rfl rfl Try.func214 (by kernel_rfl) rfl #[] rfl qA ?_; (with_reducible refine (spec_paAll.calls k  t414 _ A2.out).mono ?_); rintro e w7 ⟨v415, rfl, ho0, hb⟩; refine ⟨_, rfl, ?_⟩; have n0_ := Aside0.mk (Kd.R_lower (Kd.R_newB ho0 (g := gb413) (o := .cells #[.int .i64 0, .int .i64 0] 109 (0, 0)) (qK BK413)) (keep_size (w := w) (g := g) (row := none) (qP HK))); have n1_ := Aside0.mk (IsS126.below (qI126 HI0) hb); have n2_ := Aside0.mk (blk_below (g := gb413) (o := .cells #[.int .i64 0, .int .i64 0] 109 (0, 0)) (qK BK413) hb); have n3_ := Aside0.mk (KeepBut.trans (qP HK) (KeepBut.of_below hb g none) (.inl rfl)); have n4_ := Aside0.mk (below_step (qV126 HB) hb); clear HI0; clear BK413; clear HK; clear HB; have HO416 := n0_; have HI0 := n1_; have BK413 := n2_; have HK := n3_; have HB := n4_; clear n0_ n1_ n2_ n3_ n4_; (try clear hb); (try clear hb2); (try clear hk); (try clear hi); (try clear ho0); obtain ⟨Ao8, co8, eo8⟩ := Kd.R_slice HO416.out; subst eo8) | ((with_reducible refine gate_callee (f := 102) rfl ?_); refine goesL_ (some 9) rfl rfl Try.func102 (by kernel_rfl) rfl #[.pointer (some ⟨g, 0, none⟩), .int .i64 (t414.length : Int)] rfl qA ?_; (with_reducible refine (spec_l1Cur_pick.calls g s0_0 s0_1 s0_2 (t414.length : Int) t417 t418 t419 w0 _ ?side1 ?side2 A3.out).mono ?_); (case side1 => exact qI126 HI0); (case side2 => exact qV126 HB); rintro e w9 ⟨rfl, hi, hb, hk⟩; refine ⟨_, rfl, ?_⟩; have n0_ := Aside0.mk (KeepBut.blk hk (g' := gb413) (o := .cells #[.int .i64 0, .int .i64 0] 109 (0, 0)) (qK BK413) NB413_0.out (by simp)); have n1_ := Aside0.mk (Kd.R_mono (Kd.R_keep (IsS126.apart (show IsS126 w0 _ g s0_0 s0_1 s0_2 from qI126 HI0) (qR HO416) (by decide)) hk (fun _ h => h.2)) (fun _ h => h.1)); have n2_ := Aside0.mk (KeepBut.trans (qP HK) hk (.inl rfl)); have n3_ := Aside0.mk (hb); have n4_ := Aside0.mk (hi); clear BK413; clear HO416; clear HK; clear HB; clear HI0; have BK413 := n0_; have HO416 := n1_; have HK := n2_; have HB := n3_; have HI0 := n4_; clear n0_ n1_ n2_ n3_ n4_; (try clear hb); (try clear hb2); (try clear hk); (try clear hi); have p420 : 0 ≤ (t417 : Int) := of_decide_eq_true qa; have q420 : t417 < (t414.length : Int) := of_decide_eq_true qa; obtain ⟨ad420, e420, hx420_0, hx420_1⟩ := at_T109 (Kd.R_reads' HO416.out).2.2 t417 p420 q420; cases e420; replace p420 := eq_true p420; replace q420 := eq_true q420; have hnb10 := NB413_0.out; have hnc10 := NB0_413.out; have hcz11_0 : w9.cell? ⟨gb413, 0, none⟩ = some (.int .i64 0) := (blk_cell BK413.out 0).trans rfl; have hcz11_1 : w9.cell? ⟨gb413, 1, none⟩ = some (.int .i64 0) := (blk_cell BK413.out 1).trans rfl; have hfz11_0 := blk_frozen BK413.out 0; have hfz11_1 := blk_frozen BK413.out 1))
   refine bodyPost_ret (results_cell_row rfl _ _ gb413 109 #[.int .i64 ((rd_T109 t414 t417).f0), .int .i64 ((rd_T109 t414 t417).f1)] (0, 0) _ rfl (by (with_reducible repeat (first | refine blk_drewN ?_ _ | refine blk_drew ?_ | refine blk_alloc ?_ _)); refine blk_put (cs := #[.int .i64 ((rd_T109 t414 t417).f0), .int .i64 0]) ?_ 1 _ rfl; (with_reducible repeat (first | refine blk_drewN ?_ _ | refine blk_drew ?_ | refine blk_alloc ?_ _)); refine blk_put (cs := #[.int .i64 0, .int .i64 0]) ?_ 0 _ rfl; (with_reducible repeat (first | refine blk_drewN ?_ _ | refine blk_drew ?_ | refine blk_alloc ?_ _)); exact BK413.out) Try.underlying109 rfl (by kernel_rfl)) rfl ?_
   exact ⟨qe, qI126 HI0, qV126 HB, qP HK⟩
  ·rw [if_neg c5] at H
   exact absurd H (by simp)
 ·rw [if_neg c4] at H
  exact absurd H (by simp)

end Go.Proofs.Ytgblcbgkkfipoaa.XFnPurchases
