/- Written by xprint.py, a program of this session, out of the translation: what Go functions compute, as Lean functions, proved over the program. -/
import Derived.Test.YtbojcipcdefipaaXKitsx0
import Derived.Test.YtbojcipcdefipaaXKitsx1
import Derived.Test.YtbojcipcdefipaaXKitsx2
import Derived.Test.YtbojcipcdefipaaXKitsx3
import Derived.Test.YtbojcipcdefipaaXKitsx4
import Derived.Test.YtbojcipcdefipaaXKitsx5
namespace Go.Proofs.Ytbojcipcdefipaa.XKits
open Go.RowKit Go.Proofs.YtbojcipcdefipaaW.PrintWords Go.Proofs.YtbojcipcdefipaaW.PrintLast Go.Proofs.YtbojcipcdefipaaW.PrintMore
attribute [local go_sem] max2_int min2_int max_two min_two max_three min_three max_four min_four   -- for this text's walks alone
set_option linter.unusedVariables false
set_option linter.unusedSimpArgs false

/-! ### spec_CheapestKits: function 18 -/
def spec_CheapestKits.j0 : Nat → List (List Int) → List Int → List Int → Bool → Option (List Int × Int × Bool)
  | 0, _, _, _, _ => none
  | k + 1, x0, x1, x2, x30 => if x30 = true then (some (([] : List Int), 0, false)) else ((spec_kiBest.f k x0 x1 x2).bind fun bt231 => (if bt231.2 < 0 then (some (([] : List Int), 0, false)) else (some (bt231.1, bt231.2, true))))
def spec_CheapestKits.f (k : Nat) (l0 : List (List Int)) (l1 : List Int) (l2 : List Int) : Option (List Int × Int × Bool) := (spec_kiKits.f k l0).bind fun t228 => (if t228 = true then (if (l1.length : Int) = (l0.length : Int) then ((spec_l1All.f k l1 0 10000).bind fun t229 => (if t229 = true then ((spec_kiParts.f k l2).bind fun t230 => (spec_CheapestKits.j0 k l0 l1 l2 (!t230))) else (spec_CheapestKits.j0 k l0 l1 l2 true))) else (spec_CheapestKits.j0 k l0 l1 l2 true)) else (spec_CheapestKits.j0 k l0 l1 l2 true))
theorem spec_CheapestKits.mono_l : ∀ k, (∀ y0 y1 y2 y3, LeO (spec_CheapestKits.j0 k y0 y1 y2 y3) (spec_CheapestKits.j0 (k + 1) y0 y1 y2 y3))
  | 0 => fun _ _ _ _ r h => by simp [spec_CheapestKits.j0] at h
  | k + 1 => by
    have ih0 := spec_CheapestKits.mono_l k
    · intro y0 y1 y2 y3
      unfold spec_CheapestKits.j0
      repeat' first
      | (with_reducible exact ih0 _ _ _ _)
      | (with_reducible exact spec_kiBest.mono _ _ _ _)
      | (with_reducible exact spec_kiKits.mono _ _)
      | (with_reducible exact spec_kiParts.mono _ _)
      | (with_reducible exact spec_l1All.mono _ _ _ _)
      | (with_reducible exact LeO.refl _)
      | (with_reducible exact LeO.none _)
      | (with_reducible refine LeO.ite ?_ ?_)
      | (with_reducible refine LeO.bind ?_ (fun _ => ?_))
      | exact ih0 _ _ _ _
      | exact spec_kiBest.mono _ _ _ _
      | exact spec_kiKits.mono _ _
      | exact spec_kiParts.mono _ _
      | exact spec_l1All.mono _ _ _ _
      | exact LeO.none _
      | refine LeO.ite ?_ ?_
      | refine LeO.bind ?_ (fun _ => ?_)
theorem spec_CheapestKits.mono : ∀ a0 a1 a2 k, LeO (spec_CheapestKits.f k a0 a1 a2) (spec_CheapestKits.f (k + 1) a0 a1 a2) := by
  intro a0 a1 a2 k
  have ih0 := spec_CheapestKits.mono_l k
  unfold spec_CheapestKits.f
  repeat' first
      | (with_reducible exact ih0 _ _ _ _)
      | (with_reducible exact spec_kiBest.mono _ _ _ _)
      | (with_reducible exact spec_kiKits.mono _ _)
      | (with_reducible exact spec_kiParts.mono _ _)
      | (with_reducible exact spec_l1All.mono _ _ _ _)
      | (with_reducible exact LeO.refl _)
      | (with_reducible exact LeO.none _)
      | (with_reducible refine LeO.ite ?_ ?_)
      | (with_reducible refine LeO.bind ?_ (fun _ => ?_))
      | exact ih0 _ _ _ _
      | exact spec_kiBest.mono _ _ _ _
      | exact spec_kiKits.mono _ _
      | exact spec_kiParts.mono _ _
      | exact spec_l1All.mono _ _ _ _
      | exact LeO.none _
      | refine LeO.ite ?_ ?_
      | refine LeO.bind ?_ (fun _ => ?_)
set_option maxHeartbeats 8000000 in
set_option maxRecDepth 100000 in
theorem spec_CheapestKits.calls (k : Nat) (A0 : Option Addr) (c0 : Nat) (l0 : List (List Int)) (A1 : Option Addr) (c1 : Nat) (l1 : List Int) (A2 : Option Addr) (c2 : Nat) (l2 : List Int) (r1 : List Int) (r2 : Int) (r3 : Bool) (w : World) (hr0 : Kd.C (Kd.slice 3 (Kd.int .i64)) w A0 l0.length l0) (hc0 : l0.length ≤ c0) (hr1 : Kd.C (Kd.int .i64) w A1 l1.length l1) (hc1 : l1.length ≤ c1) (hr2 : Kd.C (Kd.int .i64) w A2 l2.length l2) (hc2 : l2.length ≤ c2) (h : spec_CheapestKits.f k l0 l1 l2 = some (r1, r2, r3)) :
    Calls Try.prog 18 #[.slice A0 l0.length c0, .slice A1 l1.length c1, .slice A2 l2.length c2] w fun e w' => ∃ v0_ : Value, e = .returned (.tuple #[v0_, .int .i64 r2, .bool r3]) ∧ Kd.R (Kd.int .i64) 3 w' w.heap.size (fun _ => True) v0_ r1 ∧ Below w.heap.size w w' := by
  have HR0 := Aside0.mk hr0
  have HC0 := Aside0.mk hc0
  clear hr0 hc0
  have HR1 := Aside0.mk hr1
  have HC1 := Aside0.mk hc1
  clear hr1 hc1
  have HR2 := Aside0.mk hr2
  have HC2 := Aside0.mk hc2
  clear hr2 hc2
  have HB := Aside0.mk (Below.refl w.heap.size w)
  have H : ((spec_kiKits.f k l0).bind fun t228 => (if t228 = true then (if (l1.length : Int) = (l0.length : Int) then ((spec_l1All.f k l1 0 10000).bind fun t229 => (if t229 = true then ((spec_kiParts.f k l2).bind fun t230 => (spec_CheapestKits.j0 k l0 l1 l2 (!t230))) else (spec_CheapestKits.j0 k l0 l1 l2 true))) else (spec_CheapestKits.j0 k l0 l1 l2 true)) else (spec_CheapestKits.j0 k l0 l1 l2 true))) = some (r1, r2, r3) := h
  clear h
  have HC4 := Aside0.mk H
  clear H
  go_enter Try.func18, Try.ntmps18
  go_upto_region 1 with (fail)
  go_cut [30] (fun v30 wc => ∃ (kq : Nat) (x30_3 : Bool), v30 = .bool x30_3 ∧ Aside0 (spec_CheapestKits.j0 kq l0 l1 l2 x30_3 = some (r1, r2, r3)) ∧ Aside0 (kq ≤ k) ∧ Aside0 (Below w.heap.size w wc))
  case first =>
    have H := HC4.out
    clear HC4
    replace H := Option.bind_eq_some_iff.mp H
    obtain ⟨t228, A50, H⟩ := H
    replace H : (if t228 = true then (if (l1.length : Int) = (l0.length : Int) then ((spec_l1All.f k l1 0 10000).bind fun t229 => (if t229 = true then ((spec_kiParts.f k l2).bind fun t230 => (spec_CheapestKits.j0 k l0 l1 l2 (!t230))) else (spec_CheapestKits.j0 k l0 l1 l2 true))) else (spec_CheapestKits.j0 k l0 l1 l2 true)) else (spec_CheapestKits.j0 k l0 l1 l2 true)) = some (r1, r2, r3) := H
    have A5 := Aside0.mk A50
    clear A50
    by_cases c6 : t228 = true
    · subst c6
      have H1 : (if (l1.length : Int) = (l0.length : Int) then ((spec_l1All.f k l1 0 10000).bind fun t229 => (if t229 = true then ((spec_kiParts.f k l2).bind fun t230 => (spec_CheapestKits.j0 k l0 l1 l2 (!t230))) else (spec_CheapestKits.j0 k l0 l1 l2 true))) else (spec_CheapestKits.j0 k l0 l1 l2 true)) = some (r1, r2, r3) := by rw [if_pos rfl] at H; exact H
      clear H
      have H := H1
      clear H1
      by_cases c7 : (l1.length : Int) = (l0.length : Int)
      · rw [if_pos c7] at H
        have c7b0 : ((l1.length : Int) == (l0.length : Int)) = true := beq_iff_eq.mpr c7
        have c7b1 : ((l1.length : Int) != (l0.length : Int)) = false := bne_eq_false_iff_eq.mpr c7
        have c7b2 : (l1.length == l0.length) = true := by first | simpa using c7 | (simp at c7 ⊢; omega)
        clear c7
        (first | rw [c7b0] | (simp only [i64_w, i32_w]; rw [c7b0]) | skip)
        replace H := Option.bind_eq_some_iff.mp H
        obtain ⟨t229, A80, H⟩ := H
        replace H : (if t229 = true then ((spec_kiParts.f k l2).bind fun t230 => (spec_CheapestKits.j0 k l0 l1 l2 (!t230))) else (spec_CheapestKits.j0 k l0 l1 l2 true)) = some (r1, r2, r3) := H
        have A8 := Aside0.mk A80
        clear A80
        by_cases c9 : t229 = true
        · subst c9
          have H1 : ((spec_kiParts.f k l2).bind fun t230 => (spec_CheapestKits.j0 k l0 l1 l2 (!t230))) = some (r1, r2, r3) := by rw [if_pos rfl] at H; exact H
          clear H
          have H := H1
          clear H1
          replace H := Option.bind_eq_some_iff.mp H
          obtain ⟨t230, A100, H⟩ := H
          replace H : (spec_CheapestKits.j0 k l0 l1 l2 (!t230)) = some (r1, r2, r3) := H
          have A10 := Aside0.mk A100
          clear A100
          have H' := Aside0.mk H
          clear H
          go_wp2_with (first | ((with_reducible refine gate_callee (f := 36) rfl ?_); refine goesL_ (some 12) rfl rfl Try.func36 (by kernel_rfl) rfl #[.slice A0 l0.length c0] rfl (by (try simp only [List.map_toArray, List.map_cons, List.map_nil]); first | done | rfl | (simp only [List.length_drop, List.length_take]; rfl)) ?_; (with_reducible refine (spec_kiKits.calls k _ _ l0 true _ ?side1 ?side2 A5.out).mono ?_); (case side1 => repeat (first | exact (Kd.C_below HR0.out HB.out) | (with_reducible refine Kd.C_alloc ?_ _) | (with_reducible refine Kd.C_drewN ?_ _) | (with_reducible refine Kd.C_drew ?_))); (case side2 => exact HC0.out); rintro e w' ⟨rfl, ⟨nd, rfl⟩⟩; refine ⟨_, rfl, ?_⟩) | (go_at_call 44; (with_reducible refine (spec_l1All.calls k _ _ l1 0 10000 true _ ?side1 ?side2 A8.out).mono ?_); (case side1 => repeat (first | exact (Kd.C_below HR1.out (by repeat (first | (with_reducible first | exact HB.out | apply below_alloc | apply pw_below_drewN | apply below_drew1) | exact HB.out))) | (with_reducible refine Kd.C_alloc ?_ _) | (with_reducible refine Kd.C_drewN ?_ _) | (with_reducible refine Kd.C_drew ?_))); (case side2 => exact HC1.out); rintro e w' ⟨rfl, ⟨nd, rfl⟩⟩) | (go_at_call 37; (with_reducible refine (spec_kiParts.calls k _ _ l2 t230 _ ?side1 ?side2 A10.out).mono ?_); (case side1 => repeat (first | exact (Kd.C_below HR2.out (by repeat (first | (with_reducible first | exact HB.out | apply below_alloc | apply pw_below_drewN | apply below_drew1) | exact HB.out))) | (with_reducible refine Kd.C_alloc ?_ _) | (with_reducible refine Kd.C_drewN ?_ _) | (with_reducible refine Kd.C_drew ?_))); (case side2 => exact HC2.out); rintro e w' ⟨rfl, ⟨nd, rfl⟩⟩))
          go_meet
          case rel => exact ⟨_, (!t230), (by first | rfl | (simp; done) | (simp [*]; done)), H', ⟨by first | omega | exact Nat.le_refl _⟩, ⟨by repeat (first | (with_reducible first | exact HB.out | apply below_alloc | apply pw_below_drewN | apply below_drew1) | exact HB.out)⟩⟩
        · replace c9 := Bool.eq_false_iff.mpr c9
          subst c9
          have H1 : (spec_CheapestKits.j0 k l0 l1 l2 true) = some (r1, r2, r3) := by rw [if_neg (show ¬ (false = true) by decide)] at H; exact H
          clear H
          have H := H1
          clear H1
          have H' := Aside0.mk H
          clear H
          go_wp2_with (first | ((with_reducible refine gate_callee (f := 36) rfl ?_); refine goesL_ (some 12) rfl rfl Try.func36 (by kernel_rfl) rfl #[.slice A0 l0.length c0] rfl (by (try simp only [List.map_toArray, List.map_cons, List.map_nil]); first | done | rfl | (simp only [List.length_drop, List.length_take]; rfl)) ?_; (with_reducible refine (spec_kiKits.calls k _ _ l0 true _ ?side1 ?side2 A5.out).mono ?_); (case side1 => repeat (first | exact (Kd.C_below HR0.out HB.out) | (with_reducible refine Kd.C_alloc ?_ _) | (with_reducible refine Kd.C_drewN ?_ _) | (with_reducible refine Kd.C_drew ?_))); (case side2 => exact HC0.out); rintro e w' ⟨rfl, ⟨nd, rfl⟩⟩; refine ⟨_, rfl, ?_⟩) | (go_at_call 44; (with_reducible refine (spec_l1All.calls k _ _ l1 0 10000 false _ ?side1 ?side2 A8.out).mono ?_); (case side1 => repeat (first | exact (Kd.C_below HR1.out (by repeat (first | (with_reducible first | exact HB.out | apply below_alloc | apply pw_below_drewN | apply below_drew1) | exact HB.out))) | (with_reducible refine Kd.C_alloc ?_ _) | (with_reducible refine Kd.C_drewN ?_ _) | (with_reducible refine Kd.C_drew ?_))); (case side2 => exact HC1.out); rintro e w' ⟨rfl, ⟨nd, rfl⟩⟩))
          go_meet
          case rel => exact ⟨_, (true), (by first | rfl | (simp; done) | (simp [*]; done)), H', ⟨by first | omega | exact Nat.le_refl _⟩, ⟨by repeat (first | (with_reducible first | exact HB.out | apply below_alloc | apply pw_below_drewN | apply below_drew1) | exact HB.out)⟩⟩
      · rw [if_neg c7] at H
        have c7b0 : ((l1.length : Int) == (l0.length : Int)) = false := beq_eq_false_iff_ne.mpr c7
        have c7b1 : ((l1.length : Int) != (l0.length : Int)) = true := bne_iff_ne.mpr c7
        have c7b2 : (l1.length == l0.length) = false := by first | simpa using c7 | (simp at c7 ⊢; omega)
        (first | rw [c7b0] | (simp only [i64_w, i32_w]; rw [c7b0]) | skip)
        have H' := Aside0.mk H
        clear H
        go_wp2_with (first | ((with_reducible refine gate_callee (f := 36) rfl ?_); refine goesL_ (some 12) rfl rfl Try.func36 (by kernel_rfl) rfl #[.slice A0 l0.length c0] rfl (by (try simp only [List.map_toArray, List.map_cons, List.map_nil]); first | done | rfl | (simp only [List.length_drop, List.length_take]; rfl)) ?_; (with_reducible refine (spec_kiKits.calls k _ _ l0 true _ ?side1 ?side2 A5.out).mono ?_); (case side1 => repeat (first | exact (Kd.C_below HR0.out HB.out) | (with_reducible refine Kd.C_alloc ?_ _) | (with_reducible refine Kd.C_drewN ?_ _) | (with_reducible refine Kd.C_drew ?_))); (case side2 => exact HC0.out); rintro e w' ⟨rfl, ⟨nd, rfl⟩⟩; refine ⟨_, rfl, ?_⟩))
        go_meet
        case rel => exact ⟨_, (true), (by first | rfl | (simp; done) | (simp [*]; done)), H', ⟨by first | omega | exact Nat.le_refl _⟩, ⟨by repeat (first | (with_reducible first | exact HB.out | apply below_alloc | apply pw_below_drewN | apply below_drew1) | exact HB.out)⟩⟩
    · replace c6 := Bool.eq_false_iff.mpr c6
      subst c6
      have H1 : (spec_CheapestKits.j0 k l0 l1 l2 true) = some (r1, r2, r3) := by rw [if_neg (show ¬ (false = true) by decide)] at H; exact H
      clear H
      have H := H1
      clear H1
      have H' := Aside0.mk H
      clear H
      go_wp2_with (first | ((with_reducible refine gate_callee (f := 36) rfl ?_); refine goesL_ (some 12) rfl rfl Try.func36 (by kernel_rfl) rfl #[.slice A0 l0.length c0] rfl (by (try simp only [List.map_toArray, List.map_cons, List.map_nil]); first | done | rfl | (simp only [List.length_drop, List.length_take]; rfl)) ?_; (with_reducible refine (spec_kiKits.calls k _ _ l0 false _ ?side1 ?side2 A5.out).mono ?_); (case side1 => repeat (first | exact (Kd.C_below HR0.out HB.out) | (with_reducible refine Kd.C_alloc ?_ _) | (with_reducible refine Kd.C_drewN ?_ _) | (with_reducible refine Kd.C_drew ?_))); (case side2 => exact HC0.out); rintro e w' ⟨rfl, ⟨nd, rfl⟩⟩; refine ⟨_, rfl, ?_⟩))
      go_meet
      case rel => exact ⟨_, (true), (by first | rfl | (simp; done) | (simp [*]; done)), H', ⟨by first | omega | exact Nat.le_refl _⟩, ⟨by repeat (first | (with_reducible first | exact HB.out | apply below_alloc | apply pw_below_drewN | apply below_drew1) | exact HB.out)⟩⟩
  case rest =>
    clear HC4
    try clear c1
    try clear c2
    try clear p2
    try clear c3
    try clear c6
    try clear c7
    try clear c7b0
    try clear c7b1
    try clear c7b2
    try clear c9
    obtain ⟨kq, x30_3, rfl, HA, HJ3, HB⟩ := hcut
    cases kq with
    | zero => exact absurd HA.out (by simp [spec_CheapestKits.j0])
    | succ kj3 =>
      have H := HA.out
      clear HA
      simp only [spec_CheapestKits.j0] at H
      by_cases c11 : x30_3 = true
      · subst c11
        have H1 : (some (([] : List Int), 0, false)) = some (r1, r2, r3) := by rw [if_pos rfl] at H; exact H
        clear H
        have H := H1
        clear H1
        simp only [Option.some.injEq, Prod.mk.injEq] at H
        obtain ⟨rfl, rfl, rfl⟩ := H
        go_wp2
        go_ret3
        exact ⟨_, by first | rfl | (simp [errW_none, errW_some] <;> rfl) | (simp [*, errW_none, errW_some] <;> rfl), by first | exact Kd.R_nil _ _ _ _ _ | exact Kd.N_nil _ _ _ _ _ | exact Kd.V_nil _ _ _ _ _ | exact Kd.Q_nil _ _ _ _ _ | exact Kd.S_nil _ _ _ _ _, by repeat (first | (with_reducible first | exact HB.out | apply below_alloc | apply pw_below_drewN | apply below_drew1) | exact HB.out)⟩
      · replace c11 := Bool.eq_false_iff.mpr c11
        subst c11
        have H1 : ((spec_kiBest.f kj3 l0 l1 l2).bind fun bt231 => (if bt231.2 < 0 then (some (([] : List Int), 0, false)) else (some (bt231.1, bt231.2, true)))) = some (r1, r2, r3) := by rw [if_neg (show ¬ (false = true) by decide)] at H; exact H
        clear H
        have H := H1
        clear H1
        replace H := Option.bind_eq_some_iff.mp H
        obtain ⟨⟨t231, t232⟩, A120, H⟩ := H
        replace H : (if t232 < 0 then (some (([] : List Int), 0, false)) else (some (t231, t232, true))) = some (r1, r2, r3) := H
        have A12 := Aside0.mk A120
        clear A120
        by_cases c13 : t232 < 0
        · rw [if_pos c13] at H
          have c13b0 : decide (t232 < 0) = true := decide_eq_true c13
          clear c13
          simp only [Option.some.injEq, Prod.mk.injEq] at H
          obtain ⟨rfl, rfl, rfl⟩ := H
          go_wp2_with (first | ((with_reducible refine gate_callee (f := 38) rfl ?_); refine goesL_ (some 35) rfl rfl Try.func38 (by kernel_rfl) rfl #[.slice A0 l0.length c0, .slice A1 l1.length c1, .slice A2 l2.length c2] rfl (by (try simp only [List.map_toArray, List.map_cons, List.map_nil]); first | done | rfl | (simp only [List.length_drop, List.length_take]; rfl)) ?_; (with_reducible refine (spec_kiBest.calls kj3 _ _ l0 _ _ l1 _ _ l2 t231 t232 _ ?side1 ?side2 ?side3 ?side4 ?side5 ?side6 A12.out).mono ?_); (case side1 => repeat (first | exact (Kd.C_below HR0.out HB.out) | (with_reducible refine Kd.C_alloc ?_ _) | (with_reducible refine Kd.C_drewN ?_ _) | (with_reducible refine Kd.C_drew ?_))); (case side2 => exact HC0.out); (case side3 => repeat (first | exact (Kd.C_below HR1.out HB.out) | (with_reducible refine Kd.C_alloc ?_ _) | (with_reducible refine Kd.C_drewN ?_ _) | (with_reducible refine Kd.C_drew ?_))); (case side4 => exact HC1.out); (case side5 => repeat (first | exact (Kd.C_below HR2.out HB.out) | (with_reducible refine Kd.C_alloc ?_ _) | (with_reducible refine Kd.C_drewN ?_ _) | (with_reducible refine Kd.C_drew ?_))); (case side6 => exact HC2.out); rintro e w14 ⟨v233, rfl, ho0, hb⟩; refine ⟨_, rfl, ?_⟩; have n0_ := Aside0.mk (Kd.R_lower ho0 (below_size (by repeat (first | (with_reducible first | exact HB.out | apply below_alloc | apply pw_below_drewN | apply below_drew1) | exact HB.out)))); have n1_ := Aside0.mk (below_step (by repeat (first | (with_reducible first | exact HB.out | apply below_alloc | apply pw_below_drewN | apply below_drew1) | exact HB.out)) hb); clear HB; have HO234 := n0_; have HB := n1_; clear n0_ n1_; (try clear hb); (try clear hb2); (try clear hk); (try clear hi); (try clear ho0)))
          go_ret3
          exact ⟨_, by first | rfl | (simp [errW_none, errW_some] <;> rfl) | (simp [*, errW_none, errW_some] <;> rfl), by first | exact Kd.R_nil _ _ _ _ _ | exact Kd.N_nil _ _ _ _ _ | exact Kd.V_nil _ _ _ _ _ | exact Kd.Q_nil _ _ _ _ _ | exact Kd.S_nil _ _ _ _ _, by repeat (first | (with_reducible first | exact HB.out | apply below_alloc | apply pw_below_drewN | apply below_drew1) | exact HB.out)⟩
        · rw [if_neg c13] at H
          have c13b0 : decide (t232 < 0) = false := decide_eq_false c13
          clear c13
          simp only [Option.some.injEq, Prod.mk.injEq] at H
          obtain ⟨rfl, rfl, rfl⟩ := H
          go_wp2_with (first | ((with_reducible refine gate_callee (f := 38) rfl ?_); refine goesL_ (some 35) rfl rfl Try.func38 (by kernel_rfl) rfl #[.slice A0 l0.length c0, .slice A1 l1.length c1, .slice A2 l2.length c2] rfl (by (try simp only [List.map_toArray, List.map_cons, List.map_nil]); first | done | rfl | (simp only [List.length_drop, List.length_take]; rfl)) ?_; (with_reducible refine (spec_kiBest.calls kj3 _ _ l0 _ _ l1 _ _ l2 t231 t232 _ ?side1 ?side2 ?side3 ?side4 ?side5 ?side6 A12.out).mono ?_); (case side1 => repeat (first | exact (Kd.C_below HR0.out HB.out) | (with_reducible refine Kd.C_alloc ?_ _) | (with_reducible refine Kd.C_drewN ?_ _) | (with_reducible refine Kd.C_drew ?_))); (case side2 => exact HC0.out); (case side3 => repeat (first | exact (Kd.C_below HR1.out HB.out) | (with_reducible refine Kd.C_alloc ?_ _) | (with_reducible refine Kd.C_drewN ?_ _) | (with_reducible refine Kd.C_drew ?_))); (case side4 => exact HC1.out); (case side5 => repeat (first | exact (Kd.C_below HR2.out HB.out) | (with_reducible refine Kd.C_alloc ?_ _) | (with_reducible refine Kd.C_drewN ?_ _) | (with_reducible refine Kd.C_drew ?_))); (case side6 => exact HC2.out); rintro e w15 ⟨v233, rfl, ho0, hb⟩; refine ⟨_, rfl, ?_⟩; have n0_ := Aside0.mk (Kd.R_lower ho0 (below_size (by repeat (first | (with_reducible first | exact HB.out | apply below_alloc | apply pw_below_drewN | apply below_drew1) | exact HB.out)))); have n1_ := Aside0.mk (below_step (by repeat (first | (with_reducible first | exact HB.out | apply below_alloc | apply pw_below_drewN | apply below_drew1) | exact HB.out)) hb); clear HB; have HO234 := n0_; have HB := n1_; clear n0_ n1_; (try clear hb); (try clear hb2); (try clear hk); (try clear hi); (try clear ho0)))
          go_ret3
          exact ⟨_, by first | rfl | (simp [errW_none, errW_some] <;> rfl) | (simp [*, errW_none, errW_some] <;> rfl), by (with_reducible repeat (first | apply Kd.R_alloc | apply Kd.R_drewN | apply Kd.R_drew)); exact HO234.out, by repeat (first | (with_reducible first | exact HB.out | apply below_alloc | apply pw_below_drewN | apply below_drew1) | exact HB.out)⟩

/-! ### impl_CheapestKits: function 19 -/
def impl_CheapestKits.p0 : Nat → List Int → Int → Option Bool
  | 0, _, _ => none
  | k + 1, x1, i => if i < (x1.length : Int) then (if 0 ≤ i then (if (rd x1 i) < 0 then (some false) else (if (rd x1 i) > 10000 then (some false) else (impl_CheapestKits.p0 k x1 (wrap64 (i + 1))))) else (none)) else (some true)
def impl_CheapestKits.s0 : Nat → List Int → List Int → Int → Int → Option Int
  | 0, _, _, _, _ => none
  | k + 1, x1, row, s, j => if j < (row.length : Int) then (if 0 ≤ j then (if 0 ≤ (rd row j) then (if (rd row j) < (x1.length : Int) then (impl_CheapestKits.s0 k x1 row (wrap64 (s + (rd x1 (rd row j)))) (wrap64 (j + 1))) else (none)) else (none)) else (none)) else (some s)
def impl_CheapestKits.l0 : Nat → List (List Int) → List Int → List Int → List (List Int) → List Int → Int → Int → Option (List Int × Int × Bool)
  | 0, _, _, _, _, _, _, _ => none
  | k + 1, x0, x1, x2, ps, b, m, i => if i < (ps.length : Int) then (if 0 ≤ i then ((impl_CheapestKits.s0 k x1 (rdRow ps i) 0 0).bind fun s => ((impl_sumOfKits.f k x0 (rdRow ps i)).bind fun t => ((impl_isEnough.f k t x2).bind fun e => (if e = true then (if m < 0 then (impl_CheapestKits.l0 k x0 x1 x2 ps (rdRow ps i) s (wrap64 (i + 1))) else (if s < m then (impl_CheapestKits.l0 k x0 x1 x2 ps (rdRow ps i) s (wrap64 (i + 1))) else (impl_CheapestKits.l0 k x0 x1 x2 ps b m (wrap64 (i + 1))))) else (impl_CheapestKits.l0 k x0 x1 x2 ps b m (wrap64 (i + 1))))))) else (none)) else (if m < 0 then (some ([], 0, false)) else (some (b, m, true)))
def impl_CheapestKits.f (k : Nat) (l0 : List (List Int)) (l1 : List Int) (l2 : List Int) : Option (List Int × Int × Bool) := (impl_areKits.f k l0).bind fun a => (if a = true then ((impl_isKit.f k l2).bind fun b => (if b = true then (if (l1.length : Int) = (l0.length : Int) then ((impl_CheapestKits.p0 k l1 0).bind fun g => (if g = true then ((impl_purchases.f (l0.length : Int)).bind fun ps => (impl_CheapestKits.l0 k l0 l1 l2 ps [] (-1) 0)) else (some ([], 0, false)))) else (some ([], 0, false))) else (some ([], 0, false)))) else (some ([], 0, false)))
theorem impl_CheapestKits.mono_p : ∀ k, (∀ y0 y1, LeO (impl_CheapestKits.p0 k y0 y1) (impl_CheapestKits.p0 (k + 1) y0 y1))
  | 0 => fun _ _ r h => by simp [impl_CheapestKits.p0] at h
  | k + 1 => by
    have ih0 := impl_CheapestKits.mono_p k
    intro y0 y1
    unfold impl_CheapestKits.p0
    repeat' first
      | (with_reducible exact ih0 _ _)
      | (with_reducible exact LeO.refl _)
      | (with_reducible exact LeO.none _)
      | (with_reducible refine LeO.ite ?_ ?_)
      | (with_reducible refine LeO.bind ?_ (fun _ => ?_))
theorem impl_CheapestKits.mono_s : ∀ k, (∀ y0 y1 y2 y3, LeO (impl_CheapestKits.s0 k y0 y1 y2 y3) (impl_CheapestKits.s0 (k + 1) y0 y1 y2 y3))
  | 0 => fun _ _ _ _ r h => by simp [impl_CheapestKits.s0] at h
  | k + 1 => by
    have ih0 := impl_CheapestKits.mono_s k
    intro y0 y1 y2 y3
    unfold impl_CheapestKits.s0
    repeat' first
      | (with_reducible exact ih0 _ _ _ _)
      | (with_reducible exact LeO.refl _)
      | (with_reducible exact LeO.none _)
      | (with_reducible refine LeO.ite ?_ ?_)
      | (with_reducible refine LeO.bind ?_ (fun _ => ?_))
theorem impl_CheapestKits.mono_l : ∀ k, (∀ y0 y1 y2 y3 y4 y5 y6, LeO (impl_CheapestKits.l0 k y0 y1 y2 y3 y4 y5 y6) (impl_CheapestKits.l0 (k + 1) y0 y1 y2 y3 y4 y5 y6))
  | 0 => fun _ _ _ _ _ _ _ r h => by simp [impl_CheapestKits.l0] at h
  | k + 1 => by
    have ih0 := impl_CheapestKits.mono_l k
    intro y0 y1 y2 y3 y4 y5 y6
    unfold impl_CheapestKits.l0
    repeat' first
      | (with_reducible exact ih0 _ _ _ _ _ _ _)
      | (with_reducible exact impl_CheapestKits.mono_s _ _ _ _ _)
      | (with_reducible exact impl_sumOfKits.mono _ _ _)
      | (with_reducible exact impl_isEnough.mono _ _ _)
      | (with_reducible exact LeO.refl _)
      | (with_reducible exact LeO.none _)
      | (with_reducible refine LeO.ite ?_ ?_)
      | (with_reducible refine LeO.bind ?_ (fun _ => ?_))
theorem impl_CheapestKits.mono : ∀ a0 a1 a2 k, LeO (impl_CheapestKits.f k a0 a1 a2) (impl_CheapestKits.f (k + 1) a0 a1 a2) := by
  intro a0 a1 a2 k
  have ih0 := impl_CheapestKits.mono_l k
  have ih1 := impl_CheapestKits.mono_p k
  unfold impl_CheapestKits.f
  repeat' first
    | (with_reducible exact ih0 _ _ _ _ _ _ _)
    | (with_reducible exact ih1 _ _)
    | (with_reducible exact impl_areKits.mono _ _)
    | (with_reducible exact impl_isKit.mono _ _)
    | (with_reducible exact LeO.refl _)
    | (with_reducible refine LeO.ite ?_ ?_)
    | (with_reducible refine LeO.bind ?_ (fun _ => ?_))
set_option maxHeartbeats 8000000 in
set_option maxRecDepth 100000 in
theorem impl_CheapestKits.calls (k : Nat) (A0 : Option Addr) (c0 : Nat) (l0 : List (List Int)) (A1 : Option Addr) (c1 : Nat) (l1 : List Int) (A2 : Option Addr) (c2 : Nat) (l2 : List Int) (r1 : List Int) (r2 : Int) (r3 : Bool) (w : World) (hr0 : Kd.C (Kd.slice 3 (Kd.int .i64)) w A0 l0.length l0) (hc0 : l0.length ≤ c0) (hr1 : Kd.C (Kd.int .i64) w A1 l1.length l1) (hc1 : l1.length ≤ c1) (hr2 : Kd.C (Kd.int .i64) w A2 l2.length l2) (hc2 : l2.length ≤ c2) (h : impl_CheapestKits.f k l0 l1 l2 = some (r1, r2, r3)) :
    Calls Try.prog 19 #[.slice A0 l0.length c0, .slice A1 l1.length c1, .slice A2 l2.length c2] w fun e w' => ∃ v0_ : Value, e = .returned (.tuple #[v0_, .int .i64 r2, .bool r3]) ∧ Kd.R (Kd.int .i64) 3 w' w.heap.size (fun _ => True) v0_ r1 ∧ Below w.heap.size w w' := by
  have HR0 := Aside0.mk hr0
  have HC0 := Aside0.mk hc0
  have HR1 := Aside0.mk hr1
  have HC1 := Aside0.mk hc1
  have HR2 := Aside0.mk hr2
  have HC2 := Aside0.mk hc2
  clear hr0 hc0 hr1 hc1 hr2 hc2
  unfold impl_CheapestKits.f at h
  obtain ⟨a, ha, h⟩ := Option.bind_eq_some_iff.mp h
  have HA := Aside0.mk ha
  clear ha
  cases a with
  | false =>
    simp only [Bool.false_eq_true, if_false, Option.some.injEq, Prod.mk.injEq] at h
    obtain ⟨rfl, rfl, rfl⟩ := h
    go_enter Try.func19, Try.ntmps19
    go_wp2_with ((go_at_call 39; (with_reducible refine (impl_areKits.calls k _ _ l0 false _ ?s1 HC0.out HA.out).mono ?_); (case s1 => exact HR0.out); rintro e w' ⟨rfl, ⟨nd, rfl⟩⟩))
    go_ret3
    exact ⟨_, rfl, Kd.R_nil _ _ _ _ _, by repeat (first | exact Below.refl _ _ | apply pw_below_drewN | apply below_drew1)⟩
  | true =>
    simp only [if_true] at h
    obtain ⟨b, hb, h⟩ := Option.bind_eq_some_iff.mp h
    have HB0 := Aside0.mk hb
    clear hb
    cases b with
    | false =>
      simp only [Bool.false_eq_true, if_false, Option.some.injEq, Prod.mk.injEq] at h
      obtain ⟨rfl, rfl, rfl⟩ := h
      go_enter Try.func19, Try.ntmps19
      go_wp2_with (first | (go_at_call 39; (with_reducible refine (impl_areKits.calls k _ _ l0 true _ ?s1 HC0.out HA.out).mono ?_); (case s1 => exact HR0.out); rintro e w' ⟨rfl, ⟨nd, rfl⟩⟩) | (go_at_call 40; (with_reducible refine (impl_isKit.calls k _ _ l2 false _ ?s1 HC2.out HB0.out).mono ?_); (case s1 => exact Kd.C_drewN HR2.out _); rintro e w' ⟨rfl, ⟨nd2, rfl⟩⟩))
      go_ret3
      exact ⟨_, rfl, Kd.R_nil _ _ _ _ _, by repeat (first | exact Below.refl _ _ | apply pw_below_drewN | apply below_drew1)⟩
    | true =>
      simp only [if_true] at h
      by_cases c0_ : (l1.length : Int) = (l0.length : Int)
      · rw [if_pos c0_] at h
        have c0b : ((l1.length : Int) != (l0.length : Int)) = false := by rw [c0_]; simp
        obtain ⟨g, hg, h⟩ := Option.bind_eq_some_iff.mp h
        have HG := Aside0.mk hg
        have Hrest := Aside0.mk h
        clear hg h
        go_enter Try.func19, Try.ntmps19
        go_wp2_with (first | (go_at_call 39; (with_reducible refine (impl_areKits.calls k _ _ l0 true _ ?s1 HC0.out HA.out).mono ?_); (case s1 => exact HR0.out); rintro e w' ⟨rfl, ⟨nd, rfl⟩⟩) | (go_at_call 40; (with_reducible refine (impl_isKit.calls k _ _ l2 true _ ?s1 HC2.out HB0.out).mono ?_); (case s1 => exact Kd.C_drewN HR2.out _); rintro e w' ⟨rfl, ⟨nd2, rfl⟩⟩))
        have HB := Aside0.mk (show Below w.heap.size w (w.drewN (nd + nd2)) from pw_below_drewN (Below.refl _ _) _)
        go_loopg [35] k (fun kq v35 w' => ∃ (i : Int), v35 = .int .i64 i ∧ Aside0 (impl_CheapestKits.p0 kq l1 i = some g) ∧ Aside0 (kq ≤ k) ∧ ∃ nd, w' = w.drewN nd)
        case atStart => exact ⟨0, rfl, HG, ⟨Nat.le_refl _⟩, ⟨_, rfl⟩⟩
        case round =>
          clear HB
          obtain ⟨i, rfl, HH, HK1, ⟨nq, rfl⟩⟩ := hrel
          cases gk with
          | zero => exact absurd HH.out (by simp [impl_CheapestKits.p0])
          | succ k1 =>
            have H := HH.out
            clear HH
            simp only [impl_CheapestKits.p0] at H
            by_cases d1 : i < (l1.length : Int)
            · rw [if_pos d1] at H
              have d1b : decide (i < (l1.length : Int)) = true := decide_eq_true d1
              by_cases d2 : 0 ≤ i
              · rw [if_pos d2] at H
                obtain ⟨ad1, cc1, eA1, hcl1, hM1, hcc1⟩ := Kd.C_get (Kd.C_drewN HR1.out nq) (0 : Int) i d2 d1
                subst eA1
                obtain rfl := hM1
                have hx := hcc1 0 _ rfl
                simp only [show (Kd.int .i64).sz = 1 from rfl, Nat.mul_one, Nat.add_zero] at hx
                change _ = some (Value.int .i64 (rd l1 i)) at hx
                have p1 := eq_true d2
                have q1 := eq_true d1
                by_cases d3 : rd l1 i < 0
                · rw [if_pos d3] at H
                  obtain rfl := Option.some.inj H
                  have d3b : decide (rd l1 i < 0) = true := decide_eq_true d3
                  have R := Hrest.out
                  simp only [Bool.false_eq_true, if_false, Option.some.injEq, Prod.mk.injEq] at R
                  obtain ⟨rfl, rfl, rfl⟩ := R
                  go_wp2
                  go_ret3
                  exact ⟨_, rfl, Kd.R_nil _ _ _ _ _, by repeat (first | exact Below.refl _ _ | apply pw_below_drewN | apply below_drew1)⟩
                · rw [if_neg d3] at H
                  have d3b : decide (rd l1 i < 0) = false := decide_eq_false d3
                  by_cases d4 : rd l1 i > 10000
                  · rw [if_pos d4] at H
                    obtain rfl := Option.some.inj H
                    have d4b : decide (rd l1 i > 10000) = true := decide_eq_true d4
                    have R := Hrest.out
                    simp only [Bool.false_eq_true, if_false, Option.some.injEq, Prod.mk.injEq] at R
                    obtain ⟨rfl, rfl, rfl⟩ := R
                    go_wp2
                    go_ret3
                    exact ⟨_, rfl, Kd.R_nil _ _ _ _ _, by repeat (first | exact Below.refl _ _ | apply pw_below_drewN | apply below_drew1)⟩
                  · rw [if_neg d4] at H
                    have d4b : decide (rd l1 i > 10000) = false := decide_eq_false d4
                    have H' := Aside0.mk H
                    clear H
                    go_wp2
                    go_roundg k1
                    case measure => omega
                    case rel => exact ⟨_, rfl, H', ⟨by have := HK1.out; omega⟩, ⟨_, rfl⟩⟩
              · rw [if_neg d2] at H
                exact absurd H (by simp)
            · rw [if_neg d1] at H
              have d1b : decide (i < (l1.length : Int)) = false := decide_eq_false d1
              obtain rfl := Option.some.inj H
              have R := Hrest.out
              simp only [if_true] at R
              obtain ⟨ps, hp, R⟩ := Option.bind_eq_some_iff.mp R
              have HP := Aside0.mk hp
              have H' := Aside0.mk R
              clear hp R
              go_wp2_with (first | (go_at_call 41; (with_reducible refine (impl_purchases.calls _ ps _ HP.out).mono ?_); rintro e w9 ⟨v9, rfl, ho9, hb9⟩; obtain ⟨A9, c9, e9⟩ := Kd.S_slice ho9; subst e9; have n1_ := Aside0.mk (Kd.R_mono (ok' := fun _ => True) (Kd.R_elder' (v := .slice none 0 0) (Kd.R_emptyLit (Kd.int .i64) (w.drewN nq) w.heap.size 3 (fun _ => True) (Nat.le_refl _) trivial) (fun _ he => by simp [Value.ownBlock] at he) hb9) (fun _ _ => trivial)); have n2_ := Aside0.mk (show Below w.heap.size w w9 from below_step (w := w) (by repeat (first | exact Below.refl _ _ | apply below_alloc | apply pw_below_drewN)) hb9); have n3_ := Aside0.mk (Kd.S_mono (ok' := fun _ => True) (Kd.S_lower (base' := w.heap.size) ho9 (by simp [World.alloc])) (fun _ _ => trivial)); clear ho9 hb9))
              go_loopg [11, 12, 51] k (fun kq v11 v12 v51 w' => ∃ (b : List Int) (m i : Int), v12 = .int .i64 m ∧ v51 = .int .i64 i ∧ Aside0 (impl_CheapestKits.l0 kq l0 l1 l2 ps b m i = some (r1, r2, r3)) ∧ Aside0 (kq ≤ k) ∧ Aside0 (Kd.R (Kd.int .i64) 3 w' w.heap.size (fun _ => True) v11 b) ∧ Aside0 (Kd.S (Kd.slice 3 (Kd.int .i64)) 23 w' w.heap.size (fun _ => True) (.slice A9 ps.length c9) ps) ∧ Aside0 (Below w.heap.size w w'))
              case atStart => exact ⟨[], -1, 0, rfl, rfl, H', ⟨Nat.le_refl _⟩, n1_, n3_, n2_⟩
              case round =>
                clear n1_ n2_ n3_ H' d1 d1b
                obtain ⟨b, m, i, rfl, rfl, HH, HK2, HRb, HS, HB⟩ := hrel
                obtain ⟨A6, c6, e6⟩ := Kd.R_slice HRb.out
                subst e6
                cases gk with
                | zero => exact absurd HH.out (by simp [impl_CheapestKits.l0])
                | succ k2 =>
                  have H := HH.out
                  clear HH
                  simp only [impl_CheapestKits.l0] at H
                  by_cases c1 : i < (ps.length : Int)
                  · rw [if_pos c1] at H
                    have c1b : decide (i < (ps.length : Int)) = true := decide_eq_true c1
                    by_cases c2 : 0 ≤ i
                    · rw [if_pos c2] at H
                      obtain ⟨sv, hs, H⟩ := Option.bind_eq_some_iff.mp H
                      obtain ⟨t, ht, H⟩ := Option.bind_eq_some_iff.mp H
                      obtain ⟨e, he, H⟩ := Option.bind_eq_some_iff.mp H
                      have HT0 := Aside0.mk hs
                      have HT1 := Aside0.mk ht
                      have HT2 := Aside0.mk he
                      have HX := Aside0.mk H
                      clear hs ht he H
                      obtain ⟨g9, cc9, e9, _, _, _⟩ := Kd.S_form HS.out (by omega)
                      injection e9 with e9a e9b e9c
                      subst e9a e9c
                      obtain ⟨oki, c, hcl, hM, hcc, hfr, hok, hH⟩ := Kd.S_elem HS.out ([] : List Int) i c2 (by omega)
                      obtain ⟨ve, rfl, ge⟩ := hM
                      have hx := hcc 0 _ rfl
                      simp only [show (Kd.slice 3 (Kd.int .i64)).sz = 1 from rfl, Nat.mul_one, Nat.add_zero] at hx
                      have HRe := Aside0.mk (Kd.R_mono (ok' := fun _ => True) (show Kd.R (Kd.int .i64) 3 wr w.heap.size oki ve (rdRow ps i) from ge) (fun _ _ => trivial))
                      clear hcl hcc hfr hok hH ge e9b
                      obtain ⟨Ae, ce, ee⟩ := Kd.R_slice HRe.out
                      subst ee
                      have p1 := eq_true c2
                      have q1 := eq_true c1
                      clear c1 c2
                      go_wp2
                      go_loopg [15, 57] k2 (fun kq v15 v57 w' => ∃ (s j : Int), v15 = .int .i64 s ∧ v57 = .int .i64 j ∧ Aside0 (impl_CheapestKits.s0 kq l1 (rdRow ps i) s j = some sv) ∧ Aside0 (kq ≤ k2) ∧ ∃ nd, w' = wr.drewN nd)
                      case atStart => exact ⟨0, 0, rfl, rfl, HT0, ⟨Nat.le_refl _⟩, ⟨0, rfl⟩⟩
                      case round =>
                        clear HT0
                        obtain ⟨s, j, rfl, rfl, HH, HK3, ⟨nw, rfl⟩⟩ := hrel
                        have HRe3 := Aside0.mk (Kd.R_drewN HRe.out nw)
                        have HS3 := Aside0.mk (Kd.S_drewN HS.out nw)
                        have HRb3 := Aside0.mk (Kd.R_drewN HRb.out nw)
                        have HB3 := Aside0.mk (pw_below_drewN HB.out nw)
                        cases gk with
                        | zero => exact absurd HH.out (by simp [impl_CheapestKits.s0])
                        | succ k3 =>
                          have H := HH.out
                          clear HH
                          simp only [impl_CheapestKits.s0] at H
                          by_cases f1 : j < ((rdRow ps i).length : Int)
                          · rw [if_pos f1] at H
                            have f1b : decide (j < ((rdRow ps i).length : Int)) = true := decide_eq_true f1
                            by_cases f2 : 0 ≤ j
                            · rw [if_pos f2] at H
                              by_cases f3 : 0 ≤ rd (rdRow ps i) j
                              · rw [if_pos f3] at H
                                by_cases f4 : rd (rdRow ps i) j < (l1.length : Int)
                                · rw [if_pos f4] at H
                                  have H' := Aside0.mk H
                                  clear H
                                  obtain ⟨ade, cce, eAe, hcle, hMe, hcce⟩ := Kd.C_get (Kd.R_reads' HRe3.out).2.2 (0 : Int) j f2 f1
                                  subst eAe
                                  obtain rfl := hMe
                                  have hxe := hcce 0 _ rfl
                                  simp only [show (Kd.int .i64).sz = 1 from rfl, Nat.mul_one, Nat.add_zero] at hxe
                                  change _ = some (Value.int .i64 (rd (rdRow ps i) j)) at hxe
                                  obtain ⟨adp, ccp, eAp, hclp, hMp, hccp⟩ := Kd.C_get (Kd.C_below HR1.out HB3.out) (0 : Int) (rd (rdRow ps i) j) f3 f4
                                  subst eAp
                                  obtain rfl := hMp
                                  have hxp := hccp 0 _ rfl
                                  simp only [show (Kd.int .i64).sz = 1 from rfl, Nat.mul_one, Nat.add_zero] at hxp
                                  change _ = some (Value.int .i64 (rd l1 (rd (rdRow ps i) j))) at hxp
                                  have p2 := eq_true f2
                                  have q2 := eq_true f1
                                  have p3 := eq_true f3
                                  have q3 := eq_true f4
                                  clear hcle hcce hclp hccp
                                  go_wp2
                                  go_roundg k3
                                  case measure => omega
                                  case rel => exact ⟨_, _, rfl, rfl, H', ⟨by have := HK3.out; omega⟩, ⟨_, rfl⟩⟩
                                · rw [if_neg f4] at H
                                  exact absurd H (by simp)
                              · rw [if_neg f3] at H
                                exact absurd H (by simp)
                            · rw [if_neg f2] at H
                              exact absurd H (by simp)
                          · rw [if_neg f1] at H
                            have f1b : decide (j < ((rdRow ps i).length : Int)) = false := decide_eq_false f1
                            obtain rfl := Option.some.inj H
                            have H := HX.out
                            clear HX
                            cases e with
                            | false =>
                              simp only [Bool.false_eq_true, if_false] at H
                              have H' := Aside0.mk H
                              clear H
                              go_wp2_with (first | (go_at_call 43; (with_reducible refine (impl_sumOfKits.calls k2 _ _ l0 _ _ (rdRow ps i) t _ ?s1 HC0.out ?s2 ?s3 HT1.out).mono ?_); (case s1 => exact Kd.C_below HR0.out HB3.out); (case s2 => exact (Kd.R_reads' HRe3.out).2.2); (case s3 => exact (Kd.R_reads' HRe3.out).2.1); rintro e w2 ⟨v2, rfl, ho2, hb2⟩; obtain ⟨A2_, c2_, e2⟩ := Kd.R_slice ho2; subst e2; have n1_ := Aside0.mk (Kd.R_mono (ok' := fun _ => True) (Kd.R_elder' (v := .slice none 0 0) HRb3.out (fun _ he => by simp [Value.ownBlock] at he) hb2) (fun _ _ => trivial)); have n2_ := Aside0.mk (Kd.S_mono (ok' := fun _ => True) (Kd.S_elder' (v := .slice none 0 0) HS3.out (fun _ he => by simp [Value.ownBlock] at he) hb2) (fun _ _ => trivial)); have n3_ := Aside0.mk (Kd.R_mono (ok' := fun _ => True) (Kd.R_elder' (v := .slice none 0 0) HRe3.out (fun _ he => by simp [Value.ownBlock] at he) hb2) (fun _ _ => trivial)); have n4_ := Aside0.mk (show Below w.heap.size w w2 from below_step HB3.out hb2); have HRt := Aside0.mk ho2; clear HRb3 HS3 HRe3 HB3 ho2 hb2) | (go_at_call 42; (with_reducible refine (impl_isEnough.calls k2 _ _ t _ _ l2 false _ ?s1 ?s2 ?s3 HC2.out HT2.out).mono ?_); (case s1 => exact (Kd.R_reads' HRt.out).2.2); (case s2 => exact (Kd.R_reads' HRt.out).2.1); (case s3 => exact Kd.C_below HR2.out n4_.out); rintro e w3 ⟨rfl, ⟨nd3, rfl⟩⟩))
                              go_roundg k2
                              case measure => omega
                              case rel => exact ⟨_, _, _, rfl, rfl, H', ⟨by have := HK2.out; omega⟩, ⟨Kd.R_drewN n1_.out _⟩, ⟨Kd.S_drewN n2_.out _⟩, ⟨pw_below_drewN n4_.out _⟩⟩
                            | true =>
                              simp only [if_true] at H
                              by_cases c3 : m < 0
                              · rw [if_pos c3] at H
                                have c3b : decide (m < 0) = true := decide_eq_true c3
                                have H' := Aside0.mk H
                                clear H
                                go_wp2_with (first | (go_at_call 43; (with_reducible refine (impl_sumOfKits.calls k2 _ _ l0 _ _ (rdRow ps i) t _ ?s1 HC0.out ?s2 ?s3 HT1.out).mono ?_); (case s1 => exact Kd.C_below HR0.out HB3.out); (case s2 => exact (Kd.R_reads' HRe3.out).2.2); (case s3 => exact (Kd.R_reads' HRe3.out).2.1); rintro e w2 ⟨v2, rfl, ho2, hb2⟩; obtain ⟨A2_, c2_, e2⟩ := Kd.R_slice ho2; subst e2; have n1_ := Aside0.mk (Kd.R_mono (ok' := fun _ => True) (Kd.R_elder' (v := .slice none 0 0) HRb3.out (fun _ he => by simp [Value.ownBlock] at he) hb2) (fun _ _ => trivial)); have n2_ := Aside0.mk (Kd.S_mono (ok' := fun _ => True) (Kd.S_elder' (v := .slice none 0 0) HS3.out (fun _ he => by simp [Value.ownBlock] at he) hb2) (fun _ _ => trivial)); have n3_ := Aside0.mk (Kd.R_mono (ok' := fun _ => True) (Kd.R_elder' (v := .slice none 0 0) HRe3.out (fun _ he => by simp [Value.ownBlock] at he) hb2) (fun _ _ => trivial)); have n4_ := Aside0.mk (show Below w.heap.size w w2 from below_step HB3.out hb2); have HRt := Aside0.mk ho2; clear HRb3 HS3 HRe3 HB3 ho2 hb2) | (go_at_call 42; (with_reducible refine (impl_isEnough.calls k2 _ _ t _ _ l2 true _ ?s1 ?s2 ?s3 HC2.out HT2.out).mono ?_); (case s1 => exact (Kd.R_reads' HRt.out).2.2); (case s2 => exact (Kd.R_reads' HRt.out).2.1); (case s3 => exact Kd.C_below HR2.out n4_.out); rintro e w3 ⟨rfl, ⟨nd3, rfl⟩⟩))
                                go_roundg k2
                                case measure => omega
                                case rel => exact ⟨_, _, _, rfl, rfl, H', ⟨by have := HK2.out; omega⟩, ⟨Kd.R_drewN n3_.out _⟩, ⟨Kd.S_drewN n2_.out _⟩, ⟨pw_below_drewN n4_.out _⟩⟩
                              · rw [if_neg c3] at H
                                have c3b : decide (m < 0) = false := decide_eq_false c3
                                by_cases c4 : s < m
                                · rw [if_pos c4] at H
                                  have c4b : decide (s < m) = true := decide_eq_true c4
                                  have H' := Aside0.mk H
                                  clear H
                                  go_wp2_with (first | (go_at_call 43; (with_reducible refine (impl_sumOfKits.calls k2 _ _ l0 _ _ (rdRow ps i) t _ ?s1 HC0.out ?s2 ?s3 HT1.out).mono ?_); (case s1 => exact Kd.C_below HR0.out HB3.out); (case s2 => exact (Kd.R_reads' HRe3.out).2.2); (case s3 => exact (Kd.R_reads' HRe3.out).2.1); rintro e w2 ⟨v2, rfl, ho2, hb2⟩; obtain ⟨A2_, c2_, e2⟩ := Kd.R_slice ho2; subst e2; have n1_ := Aside0.mk (Kd.R_mono (ok' := fun _ => True) (Kd.R_elder' (v := .slice none 0 0) HRb3.out (fun _ he => by simp [Value.ownBlock] at he) hb2) (fun _ _ => trivial)); have n2_ := Aside0.mk (Kd.S_mono (ok' := fun _ => True) (Kd.S_elder' (v := .slice none 0 0) HS3.out (fun _ he => by simp [Value.ownBlock] at he) hb2) (fun _ _ => trivial)); have n3_ := Aside0.mk (Kd.R_mono (ok' := fun _ => True) (Kd.R_elder' (v := .slice none 0 0) HRe3.out (fun _ he => by simp [Value.ownBlock] at he) hb2) (fun _ _ => trivial)); have n4_ := Aside0.mk (show Below w.heap.size w w2 from below_step HB3.out hb2); have HRt := Aside0.mk ho2; clear HRb3 HS3 HRe3 HB3 ho2 hb2) | (go_at_call 42; (with_reducible refine (impl_isEnough.calls k2 _ _ t _ _ l2 true _ ?s1 ?s2 ?s3 HC2.out HT2.out).mono ?_); (case s1 => exact (Kd.R_reads' HRt.out).2.2); (case s2 => exact (Kd.R_reads' HRt.out).2.1); (case s3 => exact Kd.C_below HR2.out n4_.out); rintro e w3 ⟨rfl, ⟨nd3, rfl⟩⟩))
                                  go_roundg k2
                                  case measure => omega
                                  case rel => exact ⟨_, _, _, rfl, rfl, H', ⟨by have := HK2.out; omega⟩, ⟨Kd.R_drewN n3_.out _⟩, ⟨Kd.S_drewN n2_.out _⟩, ⟨pw_below_drewN n4_.out _⟩⟩
                                · rw [if_neg c4] at H
                                  have c4b : decide (s < m) = false := decide_eq_false c4
                                  have H' := Aside0.mk H
                                  clear H
                                  go_wp2_with (first | (go_at_call 43; (with_reducible refine (impl_sumOfKits.calls k2 _ _ l0 _ _ (rdRow ps i) t _ ?s1 HC0.out ?s2 ?s3 HT1.out).mono ?_); (case s1 => exact Kd.C_below HR0.out HB3.out); (case s2 => exact (Kd.R_reads' HRe3.out).2.2); (case s3 => exact (Kd.R_reads' HRe3.out).2.1); rintro e w2 ⟨v2, rfl, ho2, hb2⟩; obtain ⟨A2_, c2_, e2⟩ := Kd.R_slice ho2; subst e2; have n1_ := Aside0.mk (Kd.R_mono (ok' := fun _ => True) (Kd.R_elder' (v := .slice none 0 0) HRb3.out (fun _ he => by simp [Value.ownBlock] at he) hb2) (fun _ _ => trivial)); have n2_ := Aside0.mk (Kd.S_mono (ok' := fun _ => True) (Kd.S_elder' (v := .slice none 0 0) HS3.out (fun _ he => by simp [Value.ownBlock] at he) hb2) (fun _ _ => trivial)); have n3_ := Aside0.mk (Kd.R_mono (ok' := fun _ => True) (Kd.R_elder' (v := .slice none 0 0) HRe3.out (fun _ he => by simp [Value.ownBlock] at he) hb2) (fun _ _ => trivial)); have n4_ := Aside0.mk (show Below w.heap.size w w2 from below_step HB3.out hb2); have HRt := Aside0.mk ho2; clear HRb3 HS3 HRe3 HB3 ho2 hb2) | (go_at_call 42; (with_reducible refine (impl_isEnough.calls k2 _ _ t _ _ l2 true _ ?s1 ?s2 ?s3 HC2.out HT2.out).mono ?_); (case s1 => exact (Kd.R_reads' HRt.out).2.2); (case s2 => exact (Kd.R_reads' HRt.out).2.1); (case s3 => exact Kd.C_below HR2.out n4_.out); rintro e w3 ⟨rfl, ⟨nd3, rfl⟩⟩))
                                  go_roundg k2
                                  case measure => omega
                                  case rel => exact ⟨_, _, _, rfl, rfl, H', ⟨by have := HK2.out; omega⟩, ⟨Kd.R_drewN n1_.out _⟩, ⟨Kd.S_drewN n2_.out _⟩, ⟨pw_below_drewN n4_.out _⟩⟩
                    · rw [if_neg c2] at H
                      exact absurd H (by simp)
                  · rw [if_neg c1] at H
                    have c1b : decide (i < (ps.length : Int)) = false := decide_eq_false c1
                    by_cases c5 : m < 0
                    · rw [if_pos c5] at H
                      have c5b : decide (m < 0) = true := decide_eq_true c5
                      simp only [Option.some.injEq, Prod.mk.injEq] at H
                      obtain ⟨rfl, rfl, rfl⟩ := H
                      go_wp2
                      go_ret3
                      exact ⟨_, rfl, Kd.R_nil _ _ _ _ _, HB.out⟩
                    · rw [if_neg c5] at H
                      have c5b : decide (m < 0) = false := decide_eq_false c5
                      simp only [Option.some.injEq, Prod.mk.injEq] at H
                      obtain ⟨rfl, rfl, rfl⟩ := H
                      go_wp2
                      go_ret3
                      exact ⟨_, rfl, HRb.out, HB.out⟩
      · rw [if_neg c0_] at h
        simp only [Option.some.injEq, Prod.mk.injEq] at h
        obtain ⟨rfl, rfl, rfl⟩ := h
        have c0b : ((l1.length : Int) != (l0.length : Int)) = true := bne_iff_ne.mpr c0_
        clear c0_
        go_enter Try.func19, Try.ntmps19
        go_wp2_with (first | (go_at_call 39; (with_reducible refine (impl_areKits.calls k _ _ l0 true _ ?s1 HC0.out HA.out).mono ?_); (case s1 => exact HR0.out); rintro e w' ⟨rfl, ⟨nd, rfl⟩⟩) | (go_at_call 40; (with_reducible refine (impl_isKit.calls k _ _ l2 true _ ?s1 HC2.out HB0.out).mono ?_); (case s1 => exact Kd.C_drewN HR2.out _); rintro e w' ⟨rfl, ⟨nd2, rfl⟩⟩))
        go_ret3
        exact ⟨_, rfl, Kd.R_nil _ _ _ _ _, by repeat (first | exact Below.refl _ _ | apply pw_below_drewN | apply below_drew1)⟩


end Go.Proofs.Ytbojcipcdefipaa.XKits
