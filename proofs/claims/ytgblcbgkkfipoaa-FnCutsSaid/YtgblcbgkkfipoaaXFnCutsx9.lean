/- Written by xprint.py, a program of this session, out of the translation: what Go functions compute, as Lean functions, proved over the program. -/
import Derived.Test.YtgblcbgkkfipoaaXFnCutsx0
import Derived.Test.YtgblcbgkkfipoaaXFnCutsx2
import Derived.Test.YtgblcbgkkfipoaaXFnCutsx3
import Derived.Test.YtgblcbgkkfipoaaXFnCutsx8
import Derived.Test.YtgblcbgkkfipoaaWQuick
namespace Go.Proofs.Ytgblcbgkkfipoaa.XFnCuts
open Go.RowKit Go.Proofs.YtgblcbgkkfipoaaW.PrintWords Go.Proofs.YtgblcbgkkfipoaaW.PrintLast Go.Proofs.YtgblcbgkkfipoaaW.PrintMore
attribute [local go_sem] max2_int min2_int max_two min_two max_three min_three max_four min_four   -- for this text's walks alone
set_option linter.unusedVariables false
set_option linter.unusedSimpArgs false

/-! ### spec_jrRecover: function 134 -/
mutual
def spec_jrRecover.l0 : Nat → List Int → List (S61) → Int → Option ((List (S61)))
 | 0, _, _, _ => none
 | k + 1, x0, x3, x4 => if (wrap64 (x4 + 5)) ≤ (x0.length : Int) then (spec_jrRecover.j1 k x0 x3 x4 (decide ((x3.length : Int) < 40))) else (spec_jrRecover.j1 k x0 x3 x4 false)
def spec_jrRecover.j1 : Nat → List Int → List (S61) → Int → Bool → Option ((List (S61)))
 | 0, _, _, _, _ => none
 | k + 1, x0, x3, x4, x15 => if x15 = true then (if 0 ≤ x4 then (if x4 < (x0.length : Int) then (if 0 ≤ (wrap64 (x4 + 1)) then (if (wrap64 (x4 + 1)) < (x0.length : Int) then (if 0 ≤ (wrap64 (x4 + 2)) then (if (wrap64 (x4 + 2)) < (x0.length : Int) then ((spec_jrRecord.f (rd x0 x4) (rd x0 (wrap64 (x4 + 1))) (rd x0 (wrap64 (x4 + 2)))).bind fun t340 => (if t340 = true then ((spec_jrOf.f (rd x0 x4) (rd x0 (wrap64 (x4 + 1))) (rd x0 (wrap64 (x4 + 2))) (x3.length : Int)).bind fun t341 => (if x4 ≤ (wrap64 (x4 + 5)) then (if (wrap64 (x4 + 5)) ≤ (x0.length : Int) then ((spec_l1Same.f k t341 ((x0.take ((wrap64 (x4 + 5)) : Int).toNat).drop (x4 : Int).toNat)).bind fun t345 => (if t345 = true then (if x3.length < 5864062014805 then (spec_jrRecover.l0 k x0 (x3 ++ [(⟨rd x0 x4, rd x0 (wrap64 (x4 + 1)), rd x0 (wrap64 (x4 + 2))⟩ : S61)]) (wrap64 (x4 + 5))) else (none)) else (some x3))) else (none)) else (none))) else (some x3))) else (none)) else (none)) else (none)) else (none)) else (none)) else (none)) else (some x3)
end
def spec_jrRecover.f (k : Nat) (l0 : List Int) : Option ((List (S61))) := spec_jrRecover.l0 k l0 ([] : List (S61)) 0
theorem spec_jrRecover.mono_l : ∀ k, (∀ y0 y1 y2, LeO (spec_jrRecover.l0 k y0 y1 y2) (spec_jrRecover.l0 (k + 1) y0 y1 y2)) ∧ (∀ y0 y1 y2 y3, LeO (spec_jrRecover.j1 k y0 y1 y2 y3) (spec_jrRecover.j1 (k + 1) y0 y1 y2 y3))
 | 0 => ⟨fun _ _ _ r h => by simp [spec_jrRecover.l0] at h, fun _ _ _ _ r h => by simp [spec_jrRecover.j1] at h⟩
 | k + 1 => by
  obtain ⟨ih0, ih1⟩ := spec_jrRecover.mono_l k
  refine ⟨?_, ?_⟩
  ·intro y0 y1 y2
   unfold spec_jrRecover.l0
   repeat' first | (with_reducible first | exact ih0 _ _ _ | exact ih1 _ _ _ _ | exact spec_l1Same.mono _ _ _ | exact LeO.refl _ | exact LeO.none _ | refine LeO.ite ?_ ?_ | refine LeO.bind ?_ (fun _ => ?_)) | exact ih0 _ _ _ | exact ih1 _ _ _ _ | exact spec_l1Same.mono _ _ _ | exact LeO.none _ | refine LeO.ite ?_ ?_ | refine LeO.bind ?_ (fun _ => ?_)
  ·intro y0 y1 y2 y3
   unfold spec_jrRecover.j1
   repeat' first | (with_reducible first | exact ih0 _ _ _ | exact ih1 _ _ _ _ | exact spec_l1Same.mono _ _ _ | exact LeO.refl _ | exact LeO.none _ | refine LeO.ite ?_ ?_ | refine LeO.bind ?_ (fun _ => ?_)) | exact ih0 _ _ _ | exact ih1 _ _ _ _ | exact spec_l1Same.mono _ _ _ | exact LeO.none _ | refine LeO.ite ?_ ?_ | refine LeO.bind ?_ (fun _ => ?_)
theorem spec_jrRecover.mono : ∀ a0 k, LeO (spec_jrRecover.f k a0) (spec_jrRecover.f (k + 1) a0) := by
 intro a0 k
 obtain ⟨ih0, ih1⟩ := spec_jrRecover.mono_l k
 unfold spec_jrRecover.f
 repeat' first | (with_reducible first | exact ih0 _ _ _ | exact ih1 _ _ _ _ | exact spec_l1Same.mono _ _ _ | exact LeO.refl _ | exact LeO.none _ | refine LeO.ite ?_ ?_ | refine LeO.bind ?_ (fun _ => ?_)) | exact ih0 _ _ _ | exact ih1 _ _ _ _ | exact spec_l1Same.mono _ _ _ | exact LeO.none _ | refine LeO.ite ?_ ?_ | refine LeO.bind ?_ (fun _ => ?_)
def spec_jrRecover.T5 : Bool × List (List Nat × List Nat) := (true, [([], []), ([], []), ([0, 1], [0, 1]), ([2], [2]), ([], []), ([], []), ([5], [5]), ([4, 6], [4, 6]), ([7], [7]), ([], []), ([], []), ([10], [10]), ([9, 11], [9, 11]), ([12], [12]), ([3, 8, 13], [3, 8, 13]), ([], []), ([15, 14, 0, 1, 2, 3, 4, 5, 6, 7, 8, 9, 10, 11, 12, 13, 14, 15], [14, 15])])
def spec_jrRecover.B5 : List Nat := [0, 0, 3, 7, 0, 0, 32, 112, 240, 0, 0, 1024, 3584, 7680, 16383, 0, 65535]
theorem spec_jrRecover.tab5 : rtab .any (opsOf Try.f134 5) = spec_jrRecover.T5 := by kernel_rfl
theorem spec_jrRecover.bits5 : waitsOk spec_jrRecover.T5.2 spec_jrRecover.B5 = true := by kernel_rfl
def spec_jrRecover.T6 : Bool × List (List Nat × List Nat) := (true, [([], []), ([0], [0]), ([1], [1]), ([2, 1], [2]), ([3], [3]), ([3], [3]), ([5, 3], [3, 5]), ([4, 6, 3, 3], [3, 4, 6]), ([3], [3]), ([3], [3]), ([3], [3]), ([10, 3], [3, 10]), ([8, 9, 11, 3], [3, 8, 9, 11]), ([7, 12, 7, 3], [3, 7, 12]), ([13, 3], [3, 13]), ([3, 14], [3, 14])])
def spec_jrRecover.B6 : List Nat := [0, 1, 3, 7, 15, 15, 47, 127, 15, 15, 15, 1039, 3855, 8191, 16383, 32767]
theorem spec_jrRecover.tab6 : rtab .any (opsOf Try.f134 6) = spec_jrRecover.T6 := by kernel_rfl
theorem spec_jrRecover.bits6 : waitsOk spec_jrRecover.T6.2 spec_jrRecover.B6 = true := by kernel_rfl
set_option maxHeartbeats 8000000 in
set_option maxRecDepth 100000 in
theorem spec_jrRecover.calls (k : Nat) (A0 : Option Addr) (c0 : Nat) (l0 : List Int) (r : List (S61)) (w : World) (hr0 : Kd.C (Kd.int .i64) w A0 l0.length l0) (hc0 : l0.length ≤ c0) (h : spec_jrRecover.f k l0 = some r) :
  Calls Try.prog 134 #[.slice A0 l0.length c0] w fun e w' => ∃ v0_ : Value, e = .returned (v0_) ∧ Kd.R k61 61 w' w.heap.size (fun _ => True) v0_ r ∧ Below w.heap.size w w' := by
 have hu61 := Try.underlying61
 have HR0 := Aside0.mk hr0
 have HC0 := Aside0.mk hc0
 clear hr0 hc0
 have HB := Aside0.mk (Below.refl w.heap.size w)
 have H : (spec_jrRecover.l0 k l0 ([] : List (S61)) 0) = some r := h
 clear h
 have H' := Aside0.mk H
 clear H
 go_enter Try.func134, Try.ntmps134
 go_wp2
 go_loopg [3, 4] k (fun kq v3 v4 w' => ∃ (x3_1 : List (S61)) (x4_1 : Int), v4 = .int .i64 x4_1 ∧ Aside0 (spec_jrRecover.l0 kq l0 x3_1 x4_1 = some r) ∧ Aside0 (kq ≤ k) ∧ Aside0 (Kd.R k61 61 w' w.heap.size (fun _ => True) v3 x3_1) ∧ Aside0 (Below w.heap.size w w'))
 case atStart => exact ⟨(([] : List (S61))), (0), qs, H', ⟨Nat.le_refl _⟩, ⟨by first | exact Kd.R_nil _ _ _ _ _ | exact Kd.N_nil _ _ _ _ _ | exact Kd.V_nil _ _ _ _ _ | exact Kd.Q_nil _ _ _ _ _ | exact Kd.S_nil _ _ _ _ _⟩, ⟨qB HB⟩⟩
 case round =>
  clear H'
  try clear c1
  obtain ⟨x3_1, x4_1, rfl, HA, HK1, HO_3, HB⟩ := hrel
  cases gk with
  | zero => exact absurd HA.out (by simp [spec_jrRecover.l0])
  | succ k1 =>
   have H := HA.out
   clear HA
   simp only [spec_jrRecover.l0] at H
   have HC2 := Aside0.mk H
   clear H
   go_upto_region 3 with (fail)
   go_cut [15] (fun v15 wc => ∃ (kq : Nat) (x15_1 : Bool), v15 = .bool x15_1 ∧ Aside0 (spec_jrRecover.j1 kq l0 x3_1 x4_1 x15_1 = some r) ∧ Aside0 (kq ≤ k1) ∧ Aside0 (Kd.R k61 61 wc w.heap.size (fun _ => True) u3 x3_1) ∧ Aside0 (Below w.heap.size w wc))
   case first =>
    have H := HC2.out
    clear HC2
    by_cases c3 : (wrap64 (x4_1 + 5)) ≤ (l0.length : Int)
    ·rw [if_pos c3] at H
     have c3b0 : decide ((wrap64 (x4_1 + 5)) ≤ (l0.length : Int)) = true := decide_eq_true c3
     clear c3
     (first | rw [c3b0] | (simp only [i64_w, i32_w]; rw [c3b0]) | skip)
     have H' := Aside0.mk H
     clear H
     obtain ⟨Ao4, co4, eo4⟩ := Kd.R_slice HO_3.out
     subst eo4
     go_wp2
     go_meet
     case rel => exact ⟨_, (decide ((x3_1.length : Int) < 40)), qs, H', ⟨by have := HK1.out; first | omega | exact Nat.le_refl _⟩, ⟨qR HO_3⟩, ⟨qB HB⟩⟩
    ·rw [if_neg c3] at H
     have c3b0 : decide ((wrap64 (x4_1 + 5)) ≤ (l0.length : Int)) = false := decide_eq_false c3
     clear c3
     (first | rw [c3b0] | (simp only [i64_w, i32_w]; rw [c3b0]) | skip)
     have H' := Aside0.mk H
     clear H
     go_wp2
     go_meet
     case rel => exact ⟨_, (false), qs, H', ⟨by have := HK1.out; first | omega | exact Nat.le_refl _⟩, ⟨qR HO_3⟩, ⟨qB HB⟩⟩
   case rest =>
    clear HC2
    try clear c1
    try clear p2
    try clear c3
    try clear c3b0
    obtain ⟨kq, x15_1, rfl, HA, HJ1, HO_3, HB⟩ := hcut
    cases kq with
    | zero => exact absurd HA.out (by simp [spec_jrRecover.j1])
    | succ kj1 =>
     have H := HA.out
     clear HA
     simp only [spec_jrRecover.j1] at H
     by_cases c5 : x15_1 = true
     ·subst c5
      rw [if_pos rfl] at H
      by_cases c6 : 0 ≤ x4_1
      ·rw [if_pos c6] at H
       have c6b0 : decide (0 ≤ x4_1) = true := decide_eq_true c6
       clear c6
       by_cases c7 : x4_1 < (l0.length : Int)
       ·rw [if_pos c7] at H
        have c7b0 : decide (x4_1 < (l0.length : Int)) = true := decide_eq_true c7
        clear c7
        obtain ⟨ji8, hji8⟩ : ∃ j_ : Int, (wrap64 (x4_1 + 1)) = j_ := ⟨_, rfl⟩
        replace H : (if 0 ≤ (ji8) then (if (ji8) < (l0.length : Int) then (if 0 ≤ (wrap64 (x4_1 + 2)) then (if (wrap64 (x4_1 + 2)) < (l0.length : Int) then ((spec_jrRecord.f (rd l0 x4_1) (rd l0 (ji8)) (rd l0 (wrap64 (x4_1 + 2)))).bind fun t340 => (if t340 = true then ((spec_jrOf.f (rd l0 x4_1) (rd l0 (ji8)) (rd l0 (wrap64 (x4_1 + 2))) (x3_1.length : Int)).bind fun t341 => (if x4_1 ≤ (wrap64 (x4_1 + 5)) then (if (wrap64 (x4_1 + 5)) ≤ (l0.length : Int) then ((spec_l1Same.f kj1 t341 ((l0.take ((wrap64 (x4_1 + 5)) : Int).toNat).drop (x4_1 : Int).toNat)).bind fun t345 => (if t345 = true then (if x3_1.length < 5864062014805 then (spec_jrRecover.l0 kj1 l0 (x3_1 ++ [(⟨rd l0 x4_1, rd l0 (ji8), rd l0 (wrap64 (x4_1 + 2))⟩ : S61)]) (wrap64 (x4_1 + 5))) else (none)) else (some x3_1))) else (none)) else (none))) else (some x3_1))) else (none)) else (none)) else (none)) else (none)) = some r := by first | (rw [hji8] at H; exact H) | (simp only [hji8] at H ⊢; exact H)
        have hji8w : (IntKind.i64.wrap (x4_1 + 1)) = ji8 := (i64_w _).trans hji8
        by_cases c9 : 0 ≤ (ji8)
        ·rw [if_pos c9] at H
         have c9b0 : decide (0 ≤ (ji8)) = true := decide_eq_true c9
         clear c9
         by_cases c10 : (ji8) < (l0.length : Int)
         ·rw [if_pos c10] at H
          have c10b0 : decide ((ji8) < (l0.length : Int)) = true := decide_eq_true c10
          clear c10
          obtain ⟨ji11, hji11⟩ : ∃ j_ : Int, (wrap64 (x4_1 + 2)) = j_ := ⟨_, rfl⟩
          replace H : (if 0 ≤ (ji11) then (if (ji11) < (l0.length : Int) then ((spec_jrRecord.f (rd l0 x4_1) (rd l0 (ji8)) (rd l0 (ji11))).bind fun t340 => (if t340 = true then ((spec_jrOf.f (rd l0 x4_1) (rd l0 (ji8)) (rd l0 (ji11)) (x3_1.length : Int)).bind fun t341 => (if x4_1 ≤ (wrap64 (x4_1 + 5)) then (if (wrap64 (x4_1 + 5)) ≤ (l0.length : Int) then ((spec_l1Same.f kj1 t341 ((l0.take ((wrap64 (x4_1 + 5)) : Int).toNat).drop (x4_1 : Int).toNat)).bind fun t345 => (if t345 = true then (if x3_1.length < 5864062014805 then (spec_jrRecover.l0 kj1 l0 (x3_1 ++ [(⟨rd l0 x4_1, rd l0 (ji8), rd l0 (ji11)⟩ : S61)]) (wrap64 (x4_1 + 5))) else (none)) else (some x3_1))) else (none)) else (none))) else (some x3_1))) else (none)) else (none)) = some r := by first | (rw [hji11] at H; exact H) | (simp only [hji11] at H ⊢; exact H)
          have hji11w : (IntKind.i64.wrap (x4_1 + 2)) = ji11 := (i64_w _).trans hji11
          by_cases c12 : 0 ≤ (ji11)
          ·rw [if_pos c12] at H
           have c12b0 : decide (0 ≤ (ji11)) = true := decide_eq_true c12
           clear c12
           by_cases c13 : (ji11) < (l0.length : Int)
           ·rw [if_pos c13] at H
            have c13b0 : decide ((ji11) < (l0.length : Int)) = true := decide_eq_true c13
            clear c13
            replace H := Option.bind_eq_some_iff.mp H
            obtain ⟨t340, A140, H⟩ := H
            replace H : (if t340 = true then ((spec_jrOf.f (rd l0 x4_1) (rd l0 (ji8)) (rd l0 (ji11)) (x3_1.length : Int)).bind fun t341 => (if x4_1 ≤ (wrap64 (x4_1 + 5)) then (if (wrap64 (x4_1 + 5)) ≤ (l0.length : Int) then ((spec_l1Same.f kj1 t341 ((l0.take ((wrap64 (x4_1 + 5)) : Int).toNat).drop (x4_1 : Int).toNat)).bind fun t345 => (if t345 = true then (if x3_1.length < 5864062014805 then (spec_jrRecover.l0 kj1 l0 (x3_1 ++ [(⟨rd l0 x4_1, rd l0 (ji8), rd l0 (ji11)⟩ : S61)]) (wrap64 (x4_1 + 5))) else (none)) else (some x3_1))) else (none)) else (none))) else (some x3_1)) = some r := H
            have A14 := Aside0.mk A140
            clear A140
            by_cases c15 : t340 = true
            ·subst c15
             rw [if_pos rfl] at H
             replace H := Option.bind_eq_some_iff.mp H
             obtain ⟨t341, A160, H⟩ := H
             replace H : (if x4_1 ≤ (wrap64 (x4_1 + 5)) then (if (wrap64 (x4_1 + 5)) ≤ (l0.length : Int) then ((spec_l1Same.f kj1 t341 ((l0.take ((wrap64 (x4_1 + 5)) : Int).toNat).drop (x4_1 : Int).toNat)).bind fun t345 => (if t345 = true then (if x3_1.length < 5864062014805 then (spec_jrRecover.l0 kj1 l0 (x3_1 ++ [(⟨rd l0 x4_1, rd l0 (ji8), rd l0 (ji11)⟩ : S61)]) (wrap64 (x4_1 + 5))) else (none)) else (some x3_1))) else (none)) else (none)) = some r := H
             have A16 := Aside0.mk A160
             clear A160
             have c17b0 := eq_true (of_decide_eq_true qa : 0 ≤ x4_1)
             by_cases c18 : x4_1 ≤ (wrap64 (x4_1 + 5))
             ·rw [if_pos c18] at H
              have c18b0 := eq_true c18
              have c18b1 : decide (x4_1 ≤ (wrap64 (x4_1 + 5))) = true := decide_eq_true c18
              by_cases c19 : (wrap64 (x4_1 + 5)) ≤ (l0.length : Int)
              ·rw [if_pos c19] at H
               have c19b0 := eq_true c19
               have c19b1 : decide ((wrap64 (x4_1 + 5)) ≤ (l0.length : Int)) = true := decide_eq_true c19
               replace H := Option.bind_eq_some_iff.mp H
               obtain ⟨t345, A200, H⟩ := H
               replace H : (if t345 = true then (if x3_1.length < 5864062014805 then (spec_jrRecover.l0 kj1 l0 (x3_1 ++ [(⟨rd l0 x4_1, rd l0 (ji8), rd l0 (ji11)⟩ : S61)]) (wrap64 (x4_1 + 5))) else (none)) else (some x3_1)) = some r := H
               have A20 := Aside0.mk A200
               clear A200
               by_cases c21 : t345 = true
               ·subst c21
                rw [if_pos rfl] at H
                by_cases c22 : x3_1.length < 5864062014805
                ·rw [if_pos c22] at H
                 have LMc22 := Aside0.mk c22
                 clear c22
                 obtain ⟨y346, hy346⟩ : ∃ y_ : List (S61), y_ = (x3_1 ++ [(⟨rd l0 x4_1, rd l0 (ji8), rd l0 (ji11)⟩ : S61)]) := ⟨_, rfl⟩
                 replace H : (spec_jrRecover.l0 kj1 l0 y346 (wrap64 (x4_1 + 5))) = some r := by first | (rw [hy346]; with_reducible exact H) | (have H2_ := (Option.bind_some _ _).symm.trans H; rw [hy346]; with_reducible exact H2_) | (have H2_ := (Option.bind_some _ _).symm.trans H; with_reducible exact H2_) | with_reducible exact H | (rw [hy346]; exact H) | exact H
                 have Ny346 := Aside0.mk hy346
                 clear hy346
                 have H' := Aside0.mk H
                 clear H
                 try go_wp2
                 have n0_ := Aside0.mk (Kd.R_drew HO_3.out)
                 have n1_ := Aside0.mk (below_drew1 HB.out)
                 clear HO_3
                 clear HB
                 have HO_3 := n0_
                 have HB := n1_
                 clear n0_ n1_
                 have p336 : 0 ≤ (x4_1 : Int) := of_decide_eq_true qa
                 have q336 : x4_1 < (l0.length : Int) := of_decide_eq_true qa
                 obtain ⟨ad336, e336, hx336_0⟩ := Kd.at_int HR0.out x4_1 p336 q336
                 have hw336_0 := hx336_0
                 cases e336
                 replace hx336_0 := (HB.out.cell (World.block_lt_of_cell? w _ hx336_0)).trans hx336_0
                 replace p336 := eq_true p336
                 replace q336 := eq_true q336
                 have p337 : 0 ≤ ((ji8) : Int) := of_decide_eq_true qa
                 have q337 : (ji8) < (l0.length : Int) := of_decide_eq_true qa
                 obtain ⟨ad337, e337, hx337_0⟩ := Kd.at_int HR0.out (ji8) p337 q337
                 have hw337_0 := hx337_0
                 obtain rfl : ad336 = ad337 := (by injection e337)
                 replace hx337_0 := (HB.out.cell (World.block_lt_of_cell? w _ hx337_0)).trans hx337_0
                 replace p337 := eq_true p337
                 replace q337 := eq_true q337
                 have p338 : 0 ≤ ((ji11) : Int) := of_decide_eq_true qa
                 have q338 : (ji11) < (l0.length : Int) := of_decide_eq_true qa
                 obtain ⟨ad338, e338, hx338_0⟩ := Kd.at_int HR0.out (ji11) p338 q338
                 have hw338_0 := hx338_0
                 obtain rfl : ad336 = ad338 := (by injection e338)
                 replace hx338_0 := (HB.out.cell (World.block_lt_of_cell? w _ hx338_0)).trans hx338_0
                 replace p338 := eq_true p338
                 replace q338 := eq_true q338
                 refine start_ (n := 17) (S := fun w' => w'.cell? (ad336.add (x4_1).toNat) = some (.int .i64 (rd l0 x4_1)) ∧ w'.cell? (ad336.add ((ji8)).toNat) = some (.int .i64 (rd l0 (ji8))) ∧ w'.cell? (ad336.add ((ji11)).toNat) = some (.int .i64 (rd l0 (ji11)))) (ds := []) (Array.replicate 17 false) (by kernel_rfl) rfl rfl ⟨((HB.out.cell (World.block_lt_of_cell? w _ hw336_0)).trans hw336_0), ((HB.out.cell (World.block_lt_of_cell? w _ hw337_0)).trans hw337_0), ((HB.out.cell (World.block_lt_of_cell? w _ hw338_0)).trans hw338_0)⟩ (fun hHeld => ?_); refine with_tabW spec_jrRecover.tab5 spec_jrRecover.bits5 (fun HT_ HW_ => ?_)
                 generalize wc.drew = w23 at HO_3 HB hx336_0 hx337_0 hx338_0 hHeld ⊢
                 refine pure_ (i := 0) (N := some 18) (v := ?_) (a' := ?_) (bq 17 1) rfl rfl (qn HT_) (fun _ _ _ h => h) (Or.inl ⟨by rfl, ?_⟩) ?_ ?_; rotate_left; focus (intro w'; go_simp; with_reducible rfl)
                 rotate_left; focus (simp only [Act.put, List.setIfInBounds_toArray, List.set_cons_zero, List.set_cons_succ, i64_w, i32_w]; rfl)
                 refine pure_ (i := 1) (N := some 19) (v := ?_) (a' := ?_) (bq 17 3) rfl rfl (qn HT_) (fun _ _ _ h => h) (Or.inl ⟨by rfl, ?_⟩) ?_ ?_; rotate_left; focus (intro w'; go_simp; with_reducible rfl)
                 rotate_left; focus (simp only [Act.put, List.setIfInBounds_toArray, List.set_cons_zero, List.set_cons_succ, i64_w, i32_w]; rfl)
                 refine pure_ (i := 2) (N := some 20) (v := ?_) (a' := ?_) (bq 17 7) rfl rfl (qn HT_) (fun _ _ _ h => h) (Or.inl ⟨by rfl, ?_⟩) ?_ ?_; rotate_left; focus (intro w'; go_simp; with_reducible rfl)
                 rotate_left; focus (simp only [Act.put, List.setIfInBounds_toArray, List.set_cons_zero, List.set_cons_succ, i64_w, i32_w]; rfl)
                 refine pure_ (i := 4) (N := some 22) (v := ?_) (a' := ?_) (bq 17 23) rfl rfl (qn HT_) (fun _ _ _ h => h) (Or.inl ⟨by rfl, ?_⟩) ?_ ?_; rotate_left; focus (intro w'; go_simp; with_reducible rfl)
                 rotate_left; focus (simp only [Act.put, List.setIfInBounds_toArray, List.set_cons_zero, List.set_cons_succ, i64_w, i32_w]; rfl)
                 refine pure_ (i := 5) (N := some 23) (v := ?_) (a' := ?_) (bq 17 55) rfl rfl (qn HT_) (fun _ _ _ h => h) (Or.inl ⟨by rfl, ?_⟩) ?_ ?_; rotate_left; focus (intro w'; go_simp; with_reducible rfl)
                 rotate_left; focus (simp only [Act.put, List.setIfInBounds_toArray, List.set_cons_zero, List.set_cons_succ, i64_w, i32_w]; rfl)
                 refine pure_ (i := 6) (N := some 24) (v := ?_) (a' := ?_) (bq 17 119) rfl rfl (qn HT_) (fun _ _ _ h => h) (Or.inl ⟨by rfl, ?_⟩) ?_ ?_; rotate_left; focus (intro w'; go_simp; with_reducible rfl)
                 rotate_left; focus (simp only [Act.put, List.setIfInBounds_toArray, List.set_cons_zero, List.set_cons_succ, i64_w, i32_w]; rfl)
                 refine pure_ (i := 7) (N := some 25) (v := ?_) (a' := ?_) (bq 17 247) rfl rfl (qn HT_) (fun _ _ _ h => h) (Or.inl ⟨by rfl, ?_⟩) ?_ ?_; rotate_left; focus (intro w'; go_simp; with_reducible rfl)
                 rotate_left; focus (simp only [Act.put, List.setIfInBounds_toArray, List.set_cons_zero, List.set_cons_succ, i64_w, i32_w]; rfl)
                 refine pure_ (i := 9) (N := some 27) (v := ?_) (a' := ?_) (bq 17 759) rfl rfl (qn HT_) (fun _ _ _ h => h) (Or.inl ⟨by rfl, ?_⟩) ?_ ?_; rotate_left; focus (intro w'; go_simp; with_reducible rfl)
                 rotate_left; focus (simp only [Act.put, List.setIfInBounds_toArray, List.set_cons_zero, List.set_cons_succ, i64_w, i32_w]; rfl)
                 refine pure_ (i := 10) (N := some 28) (v := ?_) (a' := ?_) (bq 17 1783) rfl rfl (qn HT_) (fun _ _ _ h => h) (Or.inl ⟨by rfl, ?_⟩) ?_ ?_; rotate_left; focus (intro w'; go_simp; with_reducible rfl)
                 rotate_left; focus (simp only [Act.put, List.setIfInBounds_toArray, List.set_cons_zero, List.set_cons_succ, i64_w, i32_w]; rfl)
                 refine pure_ (i := 11) (N := some 29) (v := ?_) (a' := ?_) (bq 17 3831) rfl rfl (qn HT_) (fun _ _ _ h => h) (Or.inl ⟨by rfl, ?_⟩) ?_ ?_; rotate_left; focus (intro w'; go_simp; with_reducible rfl)
                 rotate_left; focus (simp only [Act.put, List.setIfInBounds_toArray, List.set_cons_zero, List.set_cons_succ, i64_w, i32_w]; rfl)
                 refine pure_ (i := 12) (N := some 30) (v := ?_) (a' := ?_) (bq 17 7927) rfl rfl (qn HT_) (fun _ _ _ h => h) (Or.inl ⟨by rfl, ?_⟩) ?_ ?_; rotate_left; focus (intro w'; go_simp; with_reducible rfl)
                 rotate_left; focus (simp only [Act.put, List.setIfInBounds_toArray, List.set_cons_zero, List.set_cons_succ, i64_w, i32_w]; rfl)
                 refine take_ (i := 3) (N := some 21) (v := ?_) (a' := ?_) (bq 17 7935) rfl rfl (take_ofW HT_.out HW_.out (by kernel_rfl)) (fun _ _ _ h => h) (Or.inl ⟨by rfl, ?_⟩) hHeld ?_ ?_
                 rotate_left
                 ·rintro w' ⟨s0, s1, s2⟩
                  go_simp
                  with_reducible rfl
                 rotate_left
                 ·simp only [Act.put, List.setIfInBounds_toArray, List.set_cons_zero, List.set_cons_succ, i64_w, i32_w]
                  rfl
                 refine take_ (i := 8) (N := some 26) (v := ?_) (a' := ?_) (bq 17 8191) rfl rfl (take_ofW HT_.out HW_.out (by kernel_rfl)) (fun _ _ _ h => h) (Or.inl ⟨by rfl, ?_⟩) hHeld ?_ ?_
                 rotate_left
                 ·rintro w' ⟨s0, s1, s2⟩
                  go_simp
                  with_reducible rfl
                 rotate_left
                 ·simp only [Act.put, List.setIfInBounds_toArray, List.set_cons_zero, List.set_cons_succ, i64_w, i32_w]
                  rfl
                 refine take_ (i := 13) (N := some 31) (v := ?_) (a' := ?_) (bq 17 16383) rfl rfl (take_ofW HT_.out HW_.out (by kernel_rfl)) (fun _ _ _ h => h) (Or.inl ⟨by rfl, ?_⟩) hHeld ?_ ?_
                 rotate_left
                 ·rintro w' ⟨s0, s1, s2⟩
                  go_simp
                  with_reducible rfl
                 rotate_left
                 ·simp only [Act.put, List.setIfInBounds_toArray, List.set_cons_zero, List.set_cons_succ, i64_w, i32_w]
                  rfl
                 refine pure_ (i := 14) (N := some 32) (v := ?_) (a' := ?_) (bq 17 32767) rfl rfl (qn HT_) (fun _ _ _ h => h) (Or.inl ⟨by rfl, ?_⟩) ?_ ?_; rotate_left; focus (intro w'; go_simp; with_reducible rfl)
                 rotate_left; focus (simp only [Act.put, List.setIfInBounds_toArray, List.set_cons_zero, List.set_cons_succ, i64_w, i32_w]; rfl)
                 refine one_ (i := 15) (N := some 5) (bq 17 65535) rfl rfl (qo HT_) (by decide) (fun K hK => ?_)
                 refine box_step ?hg (N := 5) ?hd (cs := #[.int .i64 0, .int .i64 0, .int .i64 0]) (t := 61) ?hr ?_; (case hd => rfl); (case hg => rfl); (case hr => first | (go_simp; done) | (go_simp; rfl))
                 intro gb339 hg w24 hbox hb
                 have n0_ := Aside0.mk (Kd.R_below (Kd.R_elderB (qR HO_3) gb339 (Nat.le_of_eq hg.symm)) hb)
                 have n1_ := Aside0.mk (below_step (qB HB) hb)
                 have n2_ := Aside0.mk (hbox)
                 have n3_ := Aside0.mk ((by rw [hg]; exact (below_size (qB HB)) : w.heap.size ≤ gb339))
                 have n4_ := Aside0.mk ((by rw [hg]; exact (below_size (qB HB)) : w.heap.size ≤ gb339))
                 clear HO_3
                 clear HB
                 have HO_3 := n0_
                 have HB := n1_
                 have BK339 := n2_
                 have GW339 := n3_
                 have GE339 := n4_
                 clear n0_ n1_ n2_ n3_ n4_
                 clear hb hbox hg
                 refine hK.out _ _ ⟨((HB.out.cell (World.block_lt_of_cell? w _ hw336_0)).trans hw336_0), ((HB.out.cell (World.block_lt_of_cell? w _ hw337_0)).trans hw337_0), ((HB.out.cell (World.block_lt_of_cell? w _ hw338_0)).trans hw338_0)⟩ (fun hHeld => ?_)
                 clear hK K
                 refine norm_ (a' := ?_) ?_ ?_
                 rotate_left
                 ·show Act.put _ (some 5) _ = _
                  simp only [Act.put, List.setIfInBounds_toArray, List.set_cons_zero, List.set_cons_succ, i64_w, i32_w]
                  rfl
                 refine one_ (i := 16) (N := none) (bq 17 131071) rfl rfl (qo HT_) (by decide) (fun K hK => ?_)
                 have hs25 : w24.cell? ⟨gb339, 0, none⟩ = some (.int .i64 0) := (blk_cell BK339.out 0).trans rfl
                 have hfs25 := blk_frozen BK339.out 0
                 have hs26 : w24.cell? ⟨gb339, 1, none⟩ = some (.int .i64 0) := (blk_cell BK339.out 1).trans rfl
                 have hfs26 := blk_frozen BK339.out 1
                 have hs27 : w24.cell? ⟨gb339, 2, none⟩ = some (.int .i64 0) := (blk_cell BK339.out 2).trans rfl
                 have hfs27 := blk_frozen BK339.out 2
                 refine skip_ (w1 := ?_) (by rfl) rfl ?_ ?_
                 rotate_left
                 ·go_simp
                  rfl
                 refine hK.out _ _ ⟨((cell_far (p := ⟨gb339, _, none⟩) (by first | exact Nat.ne_of_lt (Nat.lt_of_lt_of_le (qW hw336_0) GW339.out) | (rw [add_block]; exact Nat.ne_of_lt (Nat.lt_of_lt_of_le (qW hw336_0) GW339.out)) | (show (Addr.add _ _).block ≠ _; rw [add_block]; exact Nat.ne_of_lt (Nat.lt_of_lt_of_le (qW hw336_0) GW339.out)) | (dsimp only; exact Nat.ne_of_lt (Nat.lt_of_lt_of_le (qW hw336_0) GW339.out))) _).trans (((cell_far (p := ⟨gb339, _, none⟩) (by first | exact Nat.ne_of_lt (Nat.lt_of_lt_of_le (qW hw336_0) GW339.out) | (rw [add_block]; exact Nat.ne_of_lt (Nat.lt_of_lt_of_le (qW hw336_0) GW339.out)) | (show (Addr.add _ _).block ≠ _; rw [add_block]; exact Nat.ne_of_lt (Nat.lt_of_lt_of_le (qW hw336_0) GW339.out)) | (dsimp only; exact Nat.ne_of_lt (Nat.lt_of_lt_of_le (qW hw336_0) GW339.out))) _).trans (((cell_far (p := ⟨gb339, _, none⟩) (by first | exact Nat.ne_of_lt (Nat.lt_of_lt_of_le (qW hw336_0) GW339.out) | (rw [add_block]; exact Nat.ne_of_lt (Nat.lt_of_lt_of_le (qW hw336_0) GW339.out)) | (show (Addr.add _ _).block ≠ _; rw [add_block]; exact Nat.ne_of_lt (Nat.lt_of_lt_of_le (qW hw336_0) GW339.out)) | (dsimp only; exact Nat.ne_of_lt (Nat.lt_of_lt_of_le (qW hw336_0) GW339.out))) _).trans (hHeld.1)))))), ((cell_far (p := ⟨gb339, _, none⟩) (by first | exact Nat.ne_of_lt (Nat.lt_of_lt_of_le (qW hw337_0) GW339.out) | (rw [add_block]; exact Nat.ne_of_lt (Nat.lt_of_lt_of_le (qW hw337_0) GW339.out)) | (show (Addr.add _ _).block ≠ _; rw [add_block]; exact Nat.ne_of_lt (Nat.lt_of_lt_of_le (qW hw337_0) GW339.out)) | (dsimp only; exact Nat.ne_of_lt (Nat.lt_of_lt_of_le (qW hw337_0) GW339.out))) _).trans (((cell_far (p := ⟨gb339, _, none⟩) (by first | exact Nat.ne_of_lt (Nat.lt_of_lt_of_le (qW hw337_0) GW339.out) | (rw [add_block]; exact Nat.ne_of_lt (Nat.lt_of_lt_of_le (qW hw337_0) GW339.out)) | (show (Addr.add _ _).block ≠ _; rw [add_block]; exact Nat.ne_of_lt (Nat.lt_of_lt_of_le (qW hw337_0) GW339.out)) | (dsimp only; exact Nat.ne_of_lt (Nat.lt_of_lt_of_le (qW hw337_0) GW339.out))) _).trans (((cell_far (p := ⟨gb339, _, none⟩) (by first | exact Nat.ne_of_lt (Nat.lt_of_lt_of_le (qW hw337_0) GW339.out) | (rw [add_block]; exact Nat.ne_of_lt (Nat.lt_of_lt_of_le (qW hw337_0) GW339.out)) | (show (Addr.add _ _).block ≠ _; rw [add_block]; exact Nat.ne_of_lt (Nat.lt_of_lt_of_le (qW hw337_0) GW339.out)) | (dsimp only; exact Nat.ne_of_lt (Nat.lt_of_lt_of_le (qW hw337_0) GW339.out))) _).trans (hHeld.2.1)))))), ((cell_far (p := ⟨gb339, _, none⟩) (by first | exact Nat.ne_of_lt (Nat.lt_of_lt_of_le (qW hw338_0) GW339.out) | (rw [add_block]; exact Nat.ne_of_lt (Nat.lt_of_lt_of_le (qW hw338_0) GW339.out)) | (show (Addr.add _ _).block ≠ _; rw [add_block]; exact Nat.ne_of_lt (Nat.lt_of_lt_of_le (qW hw338_0) GW339.out)) | (dsimp only; exact Nat.ne_of_lt (Nat.lt_of_lt_of_le (qW hw338_0) GW339.out))) _).trans (((cell_far (p := ⟨gb339, _, none⟩) (by first | exact Nat.ne_of_lt (Nat.lt_of_lt_of_le (qW hw338_0) GW339.out) | (rw [add_block]; exact Nat.ne_of_lt (Nat.lt_of_lt_of_le (qW hw338_0) GW339.out)) | (show (Addr.add _ _).block ≠ _; rw [add_block]; exact Nat.ne_of_lt (Nat.lt_of_lt_of_le (qW hw338_0) GW339.out)) | (dsimp only; exact Nat.ne_of_lt (Nat.lt_of_lt_of_le (qW hw338_0) GW339.out))) _).trans (((cell_far (p := ⟨gb339, _, none⟩) (by first | exact Nat.ne_of_lt (Nat.lt_of_lt_of_le (qW hw338_0) GW339.out) | (rw [add_block]; exact Nat.ne_of_lt (Nat.lt_of_lt_of_le (qW hw338_0) GW339.out)) | (show (Addr.add _ _).block ≠ _; rw [add_block]; exact Nat.ne_of_lt (Nat.lt_of_lt_of_le (qW hw338_0) GW339.out)) | (dsimp only; exact Nat.ne_of_lt (Nat.lt_of_lt_of_le (qW hw338_0) GW339.out))) _).trans (hHeld.2.2))))))⟩ (fun hHeld => ?_)
                 clear hK K
                 refine done_ (done_of HT_.out (by kernel_rfl)) ?_
                 try go_wp2
                 have n0_ : Aside0 (Kd.R k61 61 (((w24.setCell ⟨gb339, 0, none⟩ (.int .i64 (rd l0 x4_1))).setCell ⟨gb339, 1, none⟩ (.int .i64 (rd l0 (ji8)))).setCell ⟨gb339, 2, none⟩ (.int .i64 (rd l0 (ji11)))) w.heap.size (fun k_ => k_ ≠ gb339) u3 x3_1) := ⟨by exact uR (Kd.R_mono (Kd.R_far (p := ⟨gb339, 2, none⟩) (Kd.R_far (p := ⟨gb339, 1, none⟩) (Kd.R_far (p := ⟨gb339, 0, none⟩) (Kd.R_mono HO_3.out (fun k_ hk => (⟨hk, hk.2⟩ : _ ∧ k_ ≠ gb339))) (fun _ hk => hk.2) (.int .i64 (rd l0 x4_1))) (fun _ hk => hk.2) (.int .i64 (rd l0 (ji8)))) (fun _ hk => hk.2) (.int .i64 (rd l0 (ji11)))) (fun _ hk => hk.1.2))⟩
                 have n1_ : Aside0 ((((w24.setCell ⟨gb339, 0, none⟩ (.int .i64 (rd l0 x4_1))).setCell ⟨gb339, 1, none⟩ (.int .i64 (rd l0 (ji8)))).setCell ⟨gb339, 2, none⟩ (.int .i64 (rd l0 (ji11)))).heap[gb339]? = some (.cells #[.int .i64 (rd l0 x4_1), .int .i64 (rd l0 (ji8)), .int .i64 (rd l0 (ji11))] 61 (0, 0))) := ⟨by (with_reducible repeat (first | refine blk_drewN ?_ _ | refine blk_drew ?_ | refine blk_alloc ?_ _)); refine blk_put (cs := #[.int .i64 (rd l0 x4_1), .int .i64 (rd l0 (ji8)), .int .i64 0]) ?_ 2 _ rfl; (with_reducible repeat (first | refine blk_drewN ?_ _ | refine blk_drew ?_ | refine blk_alloc ?_ _)); refine blk_put (cs := #[.int .i64 (rd l0 x4_1), .int .i64 0, .int .i64 0]) ?_ 1 _ rfl; (with_reducible repeat (first | refine blk_drewN ?_ _ | refine blk_drew ?_ | refine blk_alloc ?_ _)); refine blk_put (cs := #[.int .i64 0, .int .i64 0, .int .i64 0]) ?_ 0 _ rfl; (with_reducible repeat (first | refine blk_drewN ?_ _ | refine blk_drew ?_ | refine blk_alloc ?_ _)); exact BK339.out⟩
                 have n2_ : Aside0 (Below w.heap.size w (((w24.setCell ⟨gb339, 0, none⟩ (.int .i64 (rd l0 x4_1))).setCell ⟨gb339, 1, none⟩ (.int .i64 (rd l0 (ji8)))).setCell ⟨gb339, 2, none⟩ (.int .i64 (rd l0 (ji11))))) := ⟨qT HB GE339⟩
                 (try clear HO_3)
                 (try clear BK339)
                 (try clear HB)
                 generalize (((w24.setCell ⟨gb339, 0, none⟩ (.int .i64 (rd l0 x4_1))).setCell ⟨gb339, 1, none⟩ (.int .i64 (rd l0 (ji8)))).setCell ⟨gb339, 2, none⟩ (.int .i64 (rd l0 (ji11)))) = w28 at n0_ n1_ n2_ ⊢
                 have HO_3 := n0_
                 have BK339 := n1_
                 have HB := n2_
                 clear n0_ n1_ n2_
                 have n0_ := Aside0.mk (Kd.R_drew HO_3.out)
                 have n1_ := Aside0.mk (blk_drew BK339.out)
                 have n2_ := Aside0.mk (below_drew1 HB.out)
                 clear HO_3
                 clear BK339
                 clear HB
                 have HO_3 := n0_
                 have BK339 := n1_
                 have HB := n2_
                 clear n0_ n1_ n2_
                 obtain ⟨i033, hi033, _, hsz33, _⟩ := info_parts info3
                 obtain ⟨A33, hcut33, hA33, hC33⟩ := print_mid_of (P := Try.prog) (Value.int .i64) 0 23 3 .i64 .i64 Try.underlying23 hi033 hsz33 (some ad336) c0 l0 x4_1 (wrap64 (x4_1 + 5)) (of_decide_eq_true qa) (by first | omega | exact of_decide_eq_true qa) (of_decide_eq_true qa) HC0.out
                 have hz33 : Aside0 (((wrap64 (x4_1 + 5)) : Int).toNat - (x4_1 : Int).toNat = ((l0.take ((wrap64 (x4_1 + 5)) : Int).toNat).drop (x4_1 : Int).toNat).length) := ⟨by have h_ : (wrap64 (x4_1 + 5)) ≤ (l0.length : Int) := of_decide_eq_true qa; simp only [List.length_drop, List.length_take]; omega⟩
                 have HR344 := Aside0.mk (Kd.C_of_reads (h1 := fun _ => rfl) (hA33 _ (Kd.reads_of_C HR0.out)))
                 have HC344 := Aside0.mk hC33
                 clear hA33 hC33 hi033 hsz33
                 refine start_ (n := 16) (S := fun w' => w'.cell? ⟨gb339, 0, none⟩ = some (.int .i64 (rd l0 x4_1)) ∧ w'.cell? ⟨gb339, 1, none⟩ = some (.int .i64 (rd l0 (ji8))) ∧ w'.cell? ⟨gb339, 2, none⟩ = some (.int .i64 (rd l0 (ji11)))) (ds := []) (Array.replicate 16 false) (by kernel_rfl) rfl rfl ⟨(blk_cell BK339.out 0).trans rfl, (blk_cell BK339.out 1).trans rfl, (blk_cell BK339.out 2).trans rfl⟩ (fun hHeld => ?_); refine with_tabW spec_jrRecover.tab6 spec_jrRecover.bits6 (fun HT_ HW_ => ?_)
                 generalize w28.drew = w29 at HO_3 BK339 HB hHeld ⊢
                 refine take_ (i := 0) (N := some 33) (v := ?_) (a' := ?_) (bq 16 1) rfl rfl (take_ofW HT_.out HW_.out (by kernel_rfl)) (fun _ _ _ h => h) (Or.inl ⟨by rfl, ?_⟩) hHeld ?_ ?_
                 rotate_left
                 ·rintro w' ⟨s0, s1, s2⟩
                  go_simp
                  with_reducible rfl
                 rotate_left
                 ·simp only [Act.put, List.setIfInBounds_toArray, List.set_cons_zero, List.set_cons_succ, i64_w, i32_w]
                  rfl
                 refine one_ (i := 1) (N := some 34) (bq 16 3) rfl rfl (qo HT_) (by decide) (fun K hK => ?_)
                 refine goes_ Try.func145 (by kernel_rfl) rfl #[.agg #[.int .i64 (rd l0 x4_1), .int .i64 (rd l0 (ji8)), .int .i64 (rd l0 (ji11))]] (by rfl) rfl rfl (by (try simp only [List.map_toArray, List.map_cons, List.map_nil]); first | done | (simp only [hji11, hji8]; rfl) | rfl | (simp only [List.length_drop, List.length_take]; rfl)) ?_
                 with_reducible refine (spec_jrRecord.calls (rd l0 x4_1) (rd l0 (ji8)) (rd l0 (ji11)) true _ A14.out).mono ?_
                 rintro e w30 ⟨rfl, hb⟩
                 refine ⟨_, rfl, ?_⟩
                 have n0_ := Aside0.mk (Kd.R_below (qR HO_3) hb)
                 have n1_ := Aside0.mk (blk_below (g := gb339) (o := .cells #[.int .i64 (rd l0 x4_1), .int .i64 (rd l0 (ji8)), .int .i64 (rd l0 (ji11))] 61 (0, 0)) (qK BK339) hb)
                 have n2_ := Aside0.mk (below_step (qT HB GE339) hb)
                 clear HO_3
                 clear BK339
                 clear HB
                 have HO_3 := n0_
                 have BK339 := n1_
                 have HB := n2_
                 clear n0_ n1_ n2_
                 (try clear hb)
                 (try clear hb2)
                 (try clear hk)
                 (try clear hi)
                 obtain ⟨Ao31, co31, eo31⟩ := Kd.R_slice HO_3.out
                 (first | subst eo31 | (injection eo31 with f1_ f2_ f3_; have f4_ := f1_.symm; have f5_ := f3_.symm; clear f1_ f2_ f3_; subst f4_; subst f5_))
                 refine hK.out _ _ ⟨(blk_cell BK339.out 0).trans rfl, (blk_cell BK339.out 1).trans rfl, (blk_cell BK339.out 2).trans rfl⟩ (fun hHeld => ?_)
                 clear hK K
                 refine norm_ (a' := ?_) ?_ ?_
                 rotate_left
                 ·show Act.put _ (some 34) _ = _
                  simp only [Act.put, List.setIfInBounds_toArray, List.set_cons_zero, List.set_cons_succ, i64_w, i32_w]
                  rfl
                 refine pure_ (i := 2) (N := some 35) (v := ?_) (a' := ?_) (bq 16 7) rfl rfl (qn HT_) (fun _ _ _ h => h) (Or.inl ⟨by rfl, ?_⟩) ?_ ?_; rotate_left; focus (intro w'; go_simp; with_reducible rfl)
                 rotate_left; focus (simp only [Act.put, List.setIfInBounds_toArray, List.set_cons_zero, List.set_cons_succ, i64_w, i32_w]; rfl)
                 refine pure_ (i := 3) (N := some 36) (v := ?_) (a' := ?_) (bq 16 15) rfl rfl (qn HT_) (fun _ _ _ h => h) (Or.inl ⟨by rfl, ?_⟩) ?_ ?_; rotate_left; focus (intro w'; go_simp; with_reducible rfl)
                 rotate_left; focus (simp only [Act.put, List.setIfInBounds_toArray, List.set_cons_zero, List.set_cons_succ, i64_w, i32_w]; rfl)
                 refine pure_ (i := 5) (N := some 38) (v := ?_) (a' := ?_) (bq 16 47) rfl rfl (qn HT_) (fun _ _ _ h => h) (Or.inl ⟨by rfl, ?_⟩) ?_ ?_; rotate_left; focus (intro w'; go_simp; with_reducible rfl)
                 rotate_left; focus (simp only [Act.put, List.setIfInBounds_toArray, List.set_cons_zero, List.set_cons_succ, i64_w, i32_w]; rfl)
                 refine pure_ (i := 6) (N := some 39) (v := ?_) (a' := ?_) (bq 16 111) rfl rfl (qn HT_) (fun _ _ _ h => h) (Or.inl ⟨by rfl, ?_⟩) ?_ ?_; rotate_left; focus (intro w'; go_simp; with_reducible rfl)
                 rotate_left; focus (simp only [Act.put, List.setIfInBounds_toArray, List.set_cons_zero, List.set_cons_succ, i64_w, i32_w]; rfl)
                 refine pure_ (i := 8) (N := some 41) (v := ?_) (a' := ?_) (bq 16 367) rfl rfl (qn HT_) (fun _ _ _ h => h) (Or.inl ⟨by rfl, ?_⟩) ?_ ?_; rotate_left; focus (intro w'; go_simp; with_reducible rfl)
                 rotate_left; focus (simp only [Act.put, List.setIfInBounds_toArray, List.set_cons_zero, List.set_cons_succ, i64_w, i32_w]; rfl)
                 refine pure_ (i := 9) (N := some 42) (v := ?_) (a' := ?_) (bq 16 879) rfl rfl (qn HT_) (fun _ _ _ h => h) (Or.inl ⟨by rfl, ?_⟩) ?_ ?_; rotate_left; focus (intro w'; go_simp; with_reducible rfl)
                 rotate_left; focus (simp only [Act.put, List.setIfInBounds_toArray, List.set_cons_zero, List.set_cons_succ, i64_w, i32_w]; rfl)
                 refine pure_ (i := 10) (N := some 43) (v := ?_) (a' := ?_) (bq 16 1903) rfl rfl (qn HT_) (fun _ _ _ h => h) (Or.inl ⟨by rfl, ?_⟩) ?_ ?_; rotate_left; focus (intro w'; go_simp; with_reducible rfl)
                 rotate_left; focus (simp only [Act.put, List.setIfInBounds_toArray, List.set_cons_zero, List.set_cons_succ, i64_w, i32_w]; rfl)
                 refine pure_ (i := 11) (N := some 44) (v := ?_) (a' := ?_) (bq 16 3951) rfl rfl (qn HT_) (fun _ _ _ h => h) (Or.inl ⟨by rfl, ?_⟩) ?_ ?_; rotate_left; focus (intro w'; go_simp; with_reducible rfl)
                 rotate_left; focus (simp only [Act.put, List.setIfInBounds_toArray, List.set_cons_zero, List.set_cons_succ, i64_w, i32_w]; rfl)
                 refine pure_ (i := 12) (N := some 45) (v := ?_) (a' := ?_) (bq 16 8047) rfl rfl (qn HT_) (fun _ _ _ h => h) (Or.inl ⟨by rfl, ?_⟩) ?_ ?_; rotate_left; focus (intro w'; go_simp; with_reducible rfl)
                 rotate_left; focus (simp only [Act.put, List.setIfInBounds_toArray, List.set_cons_zero, List.set_cons_succ, i64_w, i32_w]; rfl)
                 refine take_ (i := 4) (N := some 37) (v := ?_) (a' := ?_) (bq 16 8063) rfl rfl (take_ofW HT_.out HW_.out (by kernel_rfl)) (fun _ _ _ h => h) (Or.inl ⟨by rfl, ?_⟩) hHeld ?_ ?_
                 rotate_left
                 ·rintro w' ⟨s0, s1, s2⟩
                  go_simp
                  with_reducible rfl
                 rotate_left
                 ·simp only [Act.put, List.setIfInBounds_toArray, List.set_cons_zero, List.set_cons_succ, i64_w, i32_w]
                  rfl
                 refine one_ (i := 7) (N := some 40) (bq 16 8191) rfl rfl (qo HT_) (by decide) (fun K hK => ?_)
                 refine goes_ Try.func146 (by kernel_rfl) rfl #[.agg #[.int .i64 (rd l0 x4_1), .int .i64 (rd l0 (ji8)), .int .i64 (rd l0 (ji11))], .int .i64 (x3_1.length : Int)] (by rfl) rfl rfl (by (try simp only [List.map_toArray, List.map_cons, List.map_nil]); first | done | (simp only [hji11, hji8]; rfl) | rfl | (simp only [List.length_drop, List.length_take]; rfl)) ?_
                 with_reducible refine (spec_jrOf.calls (rd l0 x4_1) (rd l0 (ji8)) (rd l0 (ji11)) (x3_1.length : Int) t341 _ A16.out).mono ?_
                 rintro e w32 ⟨v342, rfl, ho0, hb⟩
                 refine ⟨_, rfl, ?_⟩
                 have n0_ := Aside0.mk (Kd.R_below (qR HO_3) hb)
                 have n1_ := Aside0.mk (Kd.R_lower ho0 (below_size (qT HB GE339)))
                 have n2_ := Aside0.mk (blk_below (g := gb339) (o := .cells #[.int .i64 (rd l0 x4_1), .int .i64 (rd l0 (ji8)), .int .i64 (rd l0 (ji11))] 61 (0, 0)) (qK BK339) hb)
                 have n3_ := Aside0.mk (below_step (qT HB GE339) hb)
                 clear HO_3
                 clear BK339
                 clear HB
                 have HO_3 := n0_
                 have HO343 := n1_
                 have BK339 := n2_
                 have HB := n3_
                 clear n0_ n1_ n2_ n3_
                 (try clear hb)
                 (try clear hb2)
                 (try clear hk)
                 (try clear hi)
                 (try clear ho0)
                 obtain ⟨Ao34, co34, eo34⟩ := Kd.R_slice HO343.out
                 (first | subst eo34 | (injection eo34 with f1_ f2_ f3_; have f4_ := f1_.symm; have f5_ := f3_.symm; clear f1_ f2_ f3_; subst f4_; subst f5_))
                 refine hK.out _ _ ⟨(blk_cell BK339.out 0).trans rfl, (blk_cell BK339.out 1).trans rfl, (blk_cell BK339.out 2).trans rfl⟩ (fun hHeld => ?_)
                 clear hK K
                 refine norm_ (a' := ?_) ?_ ?_
                 rotate_left
                 ·show Act.put _ (some 40) _ = _
                  simp only [Act.put, List.setIfInBounds_toArray, List.set_cons_zero, List.set_cons_succ, i64_w, i32_w]
                  rfl
                 refine one_ (i := 13) (N := some 46) (bq 16 16383) rfl rfl (qo HT_) (by decide) (fun K hK => ?_)
                 refine goes_ Try.func188 (by kernel_rfl) rfl #[.slice Ao34 t341.length co34, .slice A33 ((l0.take ((wrap64 (x4_1 + 5)) : Int).toNat).drop (x4_1 : Int).toNat).length (c0 - x4_1.toNat)] (by rfl) rfl rfl (by (try simp only [List.map_toArray, List.map_cons, List.map_nil]); first | done | (rw [show ((l0.take ((wrap64 (x4_1 + 5)) : Int).toNat).drop (x4_1 : Int).toNat).length = ((wrap64 (x4_1 + 5)).toNat - x4_1.toNat) from (by rw [List.length_drop, List.length_take]; have h_ : ((wrap64 (x4_1 + 5)) : Int) ≤ (l0.length : Int) := of_decide_eq_true qa; omega)] <;> rfl) | rfl | (simp only [List.length_drop, List.length_take]; rfl)) ?_
                 with_reducible refine (spec_l1Same.calls kj1 _ _ t341 _ _ ((l0.take ((wrap64 (x4_1 + 5)) : Int).toNat).drop (x4_1 : Int).toNat) true _ ?side1 ?side2 ?side3 ?side4 A20.out).mono ?_
                 (case side1 => exact uC (Kd.R_reads' HO343.out).2.2)
                 (case side2 => exact (Kd.R_reads' HO343.out).2.1)
                 (case side3 => exact uC (Kd.C_below HR344.out HB.out))
                 (case side4 => exact HC344.out)
                 rintro e w' ⟨rfl, ⟨nd, rfl⟩⟩
                 refine ⟨_, rfl, ?_⟩
                 refine hK.out _ _ ⟨(blk_cell BK339.out 0).trans rfl, (blk_cell BK339.out 1).trans rfl, (blk_cell BK339.out 2).trans rfl⟩ (fun hHeld => ?_)
                 clear hK K
                 refine norm_ (a' := ?_) ?_ ?_
                 rotate_left
                 ·show Act.put _ (some 46) _ = _
                  simp only [Act.put, List.setIfInBounds_toArray, List.set_cons_zero, List.set_cons_succ, i64_w, i32_w]
                  rfl
                 refine pure_ (i := 14) (N := some 47) (v := ?_) (a' := ?_) (bq 16 32767) rfl rfl (qn HT_) (fun _ _ _ h => h) (Or.inl ⟨by rfl, ?_⟩) ?_ ?_; rotate_left; focus (intro w'; go_simp; with_reducible rfl)
                 rotate_left; focus (simp only [Act.put, List.setIfInBounds_toArray, List.set_cons_zero, List.set_cons_succ, i64_w, i32_w]; rfl)
                 refine pure_ (i := 15) (N := some 48) (v := ?_) (a' := ?_) (bq 16 65535) rfl rfl (qn HT_) (fun _ _ _ h => h) (Or.inl ⟨by rfl, ?_⟩) ?_ ?_; rotate_left; focus (intro w'; go_simp; with_reducible rfl)
                 rotate_left; focus (simp only [Act.put, List.setIfInBounds_toArray, List.set_cons_zero, List.set_cons_succ, i64_w, i32_w]; rfl)
                 refine done_ (done_of HT_.out (by kernel_rfl)) ?_
                 have hcz35_0 : w32.cell? ⟨gb339, 0, none⟩ = some (.int .i64 (rd l0 x4_1)) := (blk_cell BK339.out 0).trans rfl
                 have hcz35_1 : w32.cell? ⟨gb339, 1, none⟩ = some (.int .i64 (rd l0 (ji8))) := (blk_cell BK339.out 1).trans rfl
                 have hcz35_2 : w32.cell? ⟨gb339, 2, none⟩ = some (.int .i64 (rd l0 (ji11))) := (blk_cell BK339.out 2).trans rfl
                 have hfz35_0 := blk_frozen BK339.out 0
                 have hfz35_1 := blk_frozen BK339.out 1
                 have hfz35_2 := blk_frozen BK339.out 2
                 try go_wp2_with (first | ((with_reducible refine gate_builtin (b := .append) (xs := #[.tmp 50, .tmp 52]) rfl ?_); (try (refine gate_guard (by rfl) ?_; dsimp only)); at_builtin; refine Kd.R_append k61 (w0 := w) w.heap.size rfl (.tmp 50) (.tmp 52) 49 61 (.agg #[(.int .i64 0), (.int .i64 0), (.int .i64 0)]) 24 rfl Try.underlying49 info61 rfl (by decide) (by omega) (.slice Ao31 x3_1.length co31) x3_1 (⟨rd l0 x4_1, rd l0 (ji8), rd l0 (ji11)⟩ : S61) [.int .i64 (rd l0 x4_1), .int .i64 (rd l0 (ji8)), .int .i64 (rd l0 (ji11))] (fun k_ => k_ ≠ gb339) (fun _ => False) rfl rfl ?aP (fun _ hk => hk.elim) ?aF ?aO ?aB ?aS ?aL ?_; (case aP => exact k61_mkM _ _ _ (⟨rd l0 x4_1, rd l0 (ji8), rd l0 (ji11)⟩ : S61)); (case aB => exact (qT HB GE339)); (case aF => exact (fun k_ hk => Kd.freshB (g := gb339) (o := .cells #[.int .i64 (rd l0 x4_1), .int .i64 (rd l0 (ji8)), .int .i64 (rd l0 (ji11))] 61 (0, 0)) (qK BK339) k_ hk)); (case aO => exact (qR HO_3)); (case aS => exact (below_size (qT HB GE339))); (case aL => have := LMc22.out; omega); intro v347 w36 ho hb hg hat; rw [← Ny346.out] at ho; have n0_ := Aside0.mk (blk_grown (g := gb339) (o := .cells #[.int .i64 (rd l0 x4_1), .int .i64 (rd l0 (ji8)), .int .i64 (rd l0 (ji11))] 61 (0, 0)) (qK BK339) hg (Kd.R_away HO_3.out (fun _ hk => hk))); have n1_ := Aside0.mk (Kd.R_over' (qR HO343) (Kd.R_typed (qR HO_3)) (by decide) hg); have n2_ := Aside0.mk (hb); have n3_ := Aside0.mk (ho); clear BK339; clear HO343; clear HB; clear HO_3; have BK339 := n0_; have HO343 := n1_; have HB := n2_; have HO348 := n3_; clear n0_ n1_ n2_ n3_; clear ho hb hg hat))
                 go_roundg kj1
                 case measure => have := HK1.out; have := HJ1.out; omega
                 case rel => exact ⟨(y346), (wrap64 (x4_1 + 5)), qs, H', ⟨by have := HK1.out; have := HJ1.out; omega⟩, ⟨by exact uR (Kd.R_mono HO348.out (fun _ hk => trivial))⟩, ⟨qT HB GE339⟩⟩
                ·rw [if_neg c22] at H
                 exact absurd H (by simp)
               ·replace c21 := Bool.eq_false_iff.mpr c21
                subst c21
                rw [if_neg (show ¬ (false = true) by decide)] at H
                obtain rfl := Option.some.inj H
                try go_wp2
                have n0_ := Aside0.mk (Kd.R_drew HO_3.out)
                have n1_ := Aside0.mk (below_drew1 HB.out)
                clear HO_3
                clear HB
                have HO_3 := n0_
                have HB := n1_
                clear n0_ n1_
                have p336 : 0 ≤ (x4_1 : Int) := of_decide_eq_true qa
                have q336 : x4_1 < (l0.length : Int) := of_decide_eq_true qa
                obtain ⟨ad336, e336, hx336_0⟩ := Kd.at_int HR0.out x4_1 p336 q336
                have hw336_0 := hx336_0
                cases e336
                replace hx336_0 := (HB.out.cell (World.block_lt_of_cell? w _ hx336_0)).trans hx336_0
                replace p336 := eq_true p336
                replace q336 := eq_true q336
                have p337 : 0 ≤ ((ji8) : Int) := of_decide_eq_true qa
                have q337 : (ji8) < (l0.length : Int) := of_decide_eq_true qa
                obtain ⟨ad337, e337, hx337_0⟩ := Kd.at_int HR0.out (ji8) p337 q337
                have hw337_0 := hx337_0
                obtain rfl : ad336 = ad337 := (by injection e337)
                replace hx337_0 := (HB.out.cell (World.block_lt_of_cell? w _ hx337_0)).trans hx337_0
                replace p337 := eq_true p337
                replace q337 := eq_true q337
                have p338 : 0 ≤ ((ji11) : Int) := of_decide_eq_true qa
                have q338 : (ji11) < (l0.length : Int) := of_decide_eq_true qa
                obtain ⟨ad338, e338, hx338_0⟩ := Kd.at_int HR0.out (ji11) p338 q338
                have hw338_0 := hx338_0
                obtain rfl : ad336 = ad338 := (by injection e338)
                replace hx338_0 := (HB.out.cell (World.block_lt_of_cell? w _ hx338_0)).trans hx338_0
                replace p338 := eq_true p338
                replace q338 := eq_true q338
                refine start_ (n := 17) (S := fun w' => w'.cell? (ad336.add (x4_1).toNat) = some (.int .i64 (rd l0 x4_1)) ∧ w'.cell? (ad336.add ((ji8)).toNat) = some (.int .i64 (rd l0 (ji8))) ∧ w'.cell? (ad336.add ((ji11)).toNat) = some (.int .i64 (rd l0 (ji11)))) (ds := []) (Array.replicate 17 false) (by kernel_rfl) rfl rfl ⟨((HB.out.cell (World.block_lt_of_cell? w _ hw336_0)).trans hw336_0), ((HB.out.cell (World.block_lt_of_cell? w _ hw337_0)).trans hw337_0), ((HB.out.cell (World.block_lt_of_cell? w _ hw338_0)).trans hw338_0)⟩ (fun hHeld => ?_); refine with_tabW spec_jrRecover.tab5 spec_jrRecover.bits5 (fun HT_ HW_ => ?_)
                generalize wc.drew = w37 at HO_3 HB hx336_0 hx337_0 hx338_0 hHeld ⊢
                refine pure_ (i := 0) (N := some 18) (v := ?_) (a' := ?_) (bq 17 1) rfl rfl (qn HT_) (fun _ _ _ h => h) (Or.inl ⟨by rfl, ?_⟩) ?_ ?_; rotate_left; focus (intro w'; go_simp; with_reducible rfl)
                rotate_left; focus (simp only [Act.put, List.setIfInBounds_toArray, List.set_cons_zero, List.set_cons_succ, i64_w, i32_w]; rfl)
                refine pure_ (i := 1) (N := some 19) (v := ?_) (a' := ?_) (bq 17 3) rfl rfl (qn HT_) (fun _ _ _ h => h) (Or.inl ⟨by rfl, ?_⟩) ?_ ?_; rotate_left; focus (intro w'; go_simp; with_reducible rfl)
                rotate_left; focus (simp only [Act.put, List.setIfInBounds_toArray, List.set_cons_zero, List.set_cons_succ, i64_w, i32_w]; rfl)
                refine pure_ (i := 2) (N := some 20) (v := ?_) (a' := ?_) (bq 17 7) rfl rfl (qn HT_) (fun _ _ _ h => h) (Or.inl ⟨by rfl, ?_⟩) ?_ ?_; rotate_left; focus (intro w'; go_simp; with_reducible rfl)
                rotate_left; focus (simp only [Act.put, List.setIfInBounds_toArray, List.set_cons_zero, List.set_cons_succ, i64_w, i32_w]; rfl)
                refine pure_ (i := 4) (N := some 22) (v := ?_) (a' := ?_) (bq 17 23) rfl rfl (qn HT_) (fun _ _ _ h => h) (Or.inl ⟨by rfl, ?_⟩) ?_ ?_; rotate_left; focus (intro w'; go_simp; with_reducible rfl)
                rotate_left; focus (simp only [Act.put, List.setIfInBounds_toArray, List.set_cons_zero, List.set_cons_succ, i64_w, i32_w]; rfl)
                refine pure_ (i := 5) (N := some 23) (v := ?_) (a' := ?_) (bq 17 55) rfl rfl (qn HT_) (fun _ _ _ h => h) (Or.inl ⟨by rfl, ?_⟩) ?_ ?_; rotate_left; focus (intro w'; go_simp; with_reducible rfl)
                rotate_left; focus (simp only [Act.put, List.setIfInBounds_toArray, List.set_cons_zero, List.set_cons_succ, i64_w, i32_w]; rfl)
                refine pure_ (i := 6) (N := some 24) (v := ?_) (a' := ?_) (bq 17 119) rfl rfl (qn HT_) (fun _ _ _ h => h) (Or.inl ⟨by rfl, ?_⟩) ?_ ?_; rotate_left; focus (intro w'; go_simp; with_reducible rfl)
                rotate_left; focus (simp only [Act.put, List.setIfInBounds_toArray, List.set_cons_zero, List.set_cons_succ, i64_w, i32_w]; rfl)
                refine pure_ (i := 7) (N := some 25) (v := ?_) (a' := ?_) (bq 17 247) rfl rfl (qn HT_) (fun _ _ _ h => h) (Or.inl ⟨by rfl, ?_⟩) ?_ ?_; rotate_left; focus (intro w'; go_simp; with_reducible rfl)
                rotate_left; focus (simp only [Act.put, List.setIfInBounds_toArray, List.set_cons_zero, List.set_cons_succ, i64_w, i32_w]; rfl)
                refine pure_ (i := 9) (N := some 27) (v := ?_) (a' := ?_) (bq 17 759) rfl rfl (qn HT_) (fun _ _ _ h => h) (Or.inl ⟨by rfl, ?_⟩) ?_ ?_; rotate_left; focus (intro w'; go_simp; with_reducible rfl)
                rotate_left; focus (simp only [Act.put, List.setIfInBounds_toArray, List.set_cons_zero, List.set_cons_succ, i64_w, i32_w]; rfl)
                refine pure_ (i := 10) (N := some 28) (v := ?_) (a' := ?_) (bq 17 1783) rfl rfl (qn HT_) (fun _ _ _ h => h) (Or.inl ⟨by rfl, ?_⟩) ?_ ?_; rotate_left; focus (intro w'; go_simp; with_reducible rfl)
                rotate_left; focus (simp only [Act.put, List.setIfInBounds_toArray, List.set_cons_zero, List.set_cons_succ, i64_w, i32_w]; rfl)
                refine pure_ (i := 11) (N := some 29) (v := ?_) (a' := ?_) (bq 17 3831) rfl rfl (qn HT_) (fun _ _ _ h => h) (Or.inl ⟨by rfl, ?_⟩) ?_ ?_; rotate_left; focus (intro w'; go_simp; with_reducible rfl)
                rotate_left; focus (simp only [Act.put, List.setIfInBounds_toArray, List.set_cons_zero, List.set_cons_succ, i64_w, i32_w]; rfl)
                refine pure_ (i := 12) (N := some 30) (v := ?_) (a' := ?_) (bq 17 7927) rfl rfl (qn HT_) (fun _ _ _ h => h) (Or.inl ⟨by rfl, ?_⟩) ?_ ?_; rotate_left; focus (intro w'; go_simp; with_reducible rfl)
                rotate_left; focus (simp only [Act.put, List.setIfInBounds_toArray, List.set_cons_zero, List.set_cons_succ, i64_w, i32_w]; rfl)
                refine take_ (i := 3) (N := some 21) (v := ?_) (a' := ?_) (bq 17 7935) rfl rfl (take_ofW HT_.out HW_.out (by kernel_rfl)) (fun _ _ _ h => h) (Or.inl ⟨by rfl, ?_⟩) hHeld ?_ ?_
                rotate_left
                ·rintro w' ⟨s0, s1, s2⟩
                 go_simp
                 with_reducible rfl
                rotate_left
                ·simp only [Act.put, List.setIfInBounds_toArray, List.set_cons_zero, List.set_cons_succ, i64_w, i32_w]
                 rfl
                refine take_ (i := 8) (N := some 26) (v := ?_) (a' := ?_) (bq 17 8191) rfl rfl (take_ofW HT_.out HW_.out (by kernel_rfl)) (fun _ _ _ h => h) (Or.inl ⟨by rfl, ?_⟩) hHeld ?_ ?_
                rotate_left
                ·rintro w' ⟨s0, s1, s2⟩
                 go_simp
                 with_reducible rfl
                rotate_left
                ·simp only [Act.put, List.setIfInBounds_toArray, List.set_cons_zero, List.set_cons_succ, i64_w, i32_w]
                 rfl
                refine take_ (i := 13) (N := some 31) (v := ?_) (a' := ?_) (bq 17 16383) rfl rfl (take_ofW HT_.out HW_.out (by kernel_rfl)) (fun _ _ _ h => h) (Or.inl ⟨by rfl, ?_⟩) hHeld ?_ ?_
                rotate_left
                ·rintro w' ⟨s0, s1, s2⟩
                 go_simp
                 with_reducible rfl
                rotate_left
                ·simp only [Act.put, List.setIfInBounds_toArray, List.set_cons_zero, List.set_cons_succ, i64_w, i32_w]
                 rfl
                refine pure_ (i := 14) (N := some 32) (v := ?_) (a' := ?_) (bq 17 32767) rfl rfl (qn HT_) (fun _ _ _ h => h) (Or.inl ⟨by rfl, ?_⟩) ?_ ?_; rotate_left; focus (intro w'; go_simp; with_reducible rfl)
                rotate_left; focus (simp only [Act.put, List.setIfInBounds_toArray, List.set_cons_zero, List.set_cons_succ, i64_w, i32_w]; rfl)
                refine one_ (i := 15) (N := some 5) (bq 17 65535) rfl rfl (qo HT_) (by decide) (fun K hK => ?_)
                refine box_step ?hg (N := 5) ?hd (cs := #[.int .i64 0, .int .i64 0, .int .i64 0]) (t := 61) ?hr ?_; (case hd => rfl); (case hg => rfl); (case hr => first | (go_simp; done) | (go_simp; rfl))
                intro gb339 hg w38 hbox hb
                have n0_ := Aside0.mk (Kd.R_below (Kd.R_elderB (qR HO_3) gb339 (Nat.le_of_eq hg.symm)) hb)
                have n1_ := Aside0.mk (below_step (qB HB) hb)
                have n2_ := Aside0.mk (hbox)
                have n3_ := Aside0.mk ((by rw [hg]; exact (below_size (qB HB)) : w.heap.size ≤ gb339))
                have n4_ := Aside0.mk ((by rw [hg]; exact (below_size (qB HB)) : w.heap.size ≤ gb339))
                clear HO_3
                clear HB
                have HO_3 := n0_
                have HB := n1_
                have BK339 := n2_
                have GW339 := n3_
                have GE339 := n4_
                clear n0_ n1_ n2_ n3_ n4_
                clear hb hbox hg
                refine hK.out _ _ ⟨((HB.out.cell (World.block_lt_of_cell? w _ hw336_0)).trans hw336_0), ((HB.out.cell (World.block_lt_of_cell? w _ hw337_0)).trans hw337_0), ((HB.out.cell (World.block_lt_of_cell? w _ hw338_0)).trans hw338_0)⟩ (fun hHeld => ?_)
                clear hK K
                refine norm_ (a' := ?_) ?_ ?_
                rotate_left
                ·show Act.put _ (some 5) _ = _
                 simp only [Act.put, List.setIfInBounds_toArray, List.set_cons_zero, List.set_cons_succ, i64_w, i32_w]
                 rfl
                refine one_ (i := 16) (N := none) (bq 17 131071) rfl rfl (qo HT_) (by decide) (fun K hK => ?_)
                have hs39 : w38.cell? ⟨gb339, 0, none⟩ = some (.int .i64 0) := (blk_cell BK339.out 0).trans rfl
                have hfs39 := blk_frozen BK339.out 0
                have hs40 : w38.cell? ⟨gb339, 1, none⟩ = some (.int .i64 0) := (blk_cell BK339.out 1).trans rfl
                have hfs40 := blk_frozen BK339.out 1
                have hs41 : w38.cell? ⟨gb339, 2, none⟩ = some (.int .i64 0) := (blk_cell BK339.out 2).trans rfl
                have hfs41 := blk_frozen BK339.out 2
                refine skip_ (w1 := ?_) (by rfl) rfl ?_ ?_
                rotate_left
                ·go_simp
                 rfl
                refine hK.out _ _ ⟨((cell_far (p := ⟨gb339, _, none⟩) (by first | exact Nat.ne_of_lt (Nat.lt_of_lt_of_le (qW hw336_0) GW339.out) | (rw [add_block]; exact Nat.ne_of_lt (Nat.lt_of_lt_of_le (qW hw336_0) GW339.out)) | (show (Addr.add _ _).block ≠ _; rw [add_block]; exact Nat.ne_of_lt (Nat.lt_of_lt_of_le (qW hw336_0) GW339.out)) | (dsimp only; exact Nat.ne_of_lt (Nat.lt_of_lt_of_le (qW hw336_0) GW339.out))) _).trans (((cell_far (p := ⟨gb339, _, none⟩) (by first | exact Nat.ne_of_lt (Nat.lt_of_lt_of_le (qW hw336_0) GW339.out) | (rw [add_block]; exact Nat.ne_of_lt (Nat.lt_of_lt_of_le (qW hw336_0) GW339.out)) | (show (Addr.add _ _).block ≠ _; rw [add_block]; exact Nat.ne_of_lt (Nat.lt_of_lt_of_le (qW hw336_0) GW339.out)) | (dsimp only; exact Nat.ne_of_lt (Nat.lt_of_lt_of_le (qW hw336_0) GW339.out))) _).trans (((cell_far (p := ⟨gb339, _, none⟩) (by first | exact Nat.ne_of_lt (Nat.lt_of_lt_of_le (qW hw336_0) GW339.out) | (rw [add_block]; exact Nat.ne_of_lt (Nat.lt_of_lt_of_le (qW hw336_0) GW339.out)) | (show (Addr.add _ _).block ≠ _; rw [add_block]; exact Nat.ne_of_lt (Nat.lt_of_lt_of_le (qW hw336_0) GW339.out)) | (dsimp only; exact Nat.ne_of_lt (Nat.lt_of_lt_of_le (qW hw336_0) GW339.out))) _).trans (hHeld.1)))))), ((cell_far (p := ⟨gb339, _, none⟩) (by first | exact Nat.ne_of_lt (Nat.lt_of_lt_of_le (qW hw337_0) GW339.out) | (rw [add_block]; exact Nat.ne_of_lt (Nat.lt_of_lt_of_le (qW hw337_0) GW339.out)) | (show (Addr.add _ _).block ≠ _; rw [add_block]; exact Nat.ne_of_lt (Nat.lt_of_lt_of_le (qW hw337_0) GW339.out)) | (dsimp only; exact Nat.ne_of_lt (Nat.lt_of_lt_of_le (qW hw337_0) GW339.out))) _).trans (((cell_far (p := ⟨gb339, _, none⟩) (by first | exact Nat.ne_of_lt (Nat.lt_of_lt_of_le (qW hw337_0) GW339.out) | (rw [add_block]; exact Nat.ne_of_lt (Nat.lt_of_lt_of_le (qW hw337_0) GW339.out)) | (show (Addr.add _ _).block ≠ _; rw [add_block]; exact Nat.ne_of_lt (Nat.lt_of_lt_of_le (qW hw337_0) GW339.out)) | (dsimp only; exact Nat.ne_of_lt (Nat.lt_of_lt_of_le (qW hw337_0) GW339.out))) _).trans (((cell_far (p := ⟨gb339, _, none⟩) (by first | exact Nat.ne_of_lt (Nat.lt_of_lt_of_le (qW hw337_0) GW339.out) | (rw [add_block]; exact Nat.ne_of_lt (Nat.lt_of_lt_of_le (qW hw337_0) GW339.out)) | (show (Addr.add _ _).block ≠ _; rw [add_block]; exact Nat.ne_of_lt (Nat.lt_of_lt_of_le (qW hw337_0) GW339.out)) | (dsimp only; exact Nat.ne_of_lt (Nat.lt_of_lt_of_le (qW hw337_0) GW339.out))) _).trans (hHeld.2.1)))))), ((cell_far (p := ⟨gb339, _, none⟩) (by first | exact Nat.ne_of_lt (Nat.lt_of_lt_of_le (qW hw338_0) GW339.out) | (rw [add_block]; exact Nat.ne_of_lt (Nat.lt_of_lt_of_le (qW hw338_0) GW339.out)) | (show (Addr.add _ _).block ≠ _; rw [add_block]; exact Nat.ne_of_lt (Nat.lt_of_lt_of_le (qW hw338_0) GW339.out)) | (dsimp only; exact Nat.ne_of_lt (Nat.lt_of_lt_of_le (qW hw338_0) GW339.out))) _).trans (((cell_far (p := ⟨gb339, _, none⟩) (by first | exact Nat.ne_of_lt (Nat.lt_of_lt_of_le (qW hw338_0) GW339.out) | (rw [add_block]; exact Nat.ne_of_lt (Nat.lt_of_lt_of_le (qW hw338_0) GW339.out)) | (show (Addr.add _ _).block ≠ _; rw [add_block]; exact Nat.ne_of_lt (Nat.lt_of_lt_of_le (qW hw338_0) GW339.out)) | (dsimp only; exact Nat.ne_of_lt (Nat.lt_of_lt_of_le (qW hw338_0) GW339.out))) _).trans (((cell_far (p := ⟨gb339, _, none⟩) (by first | exact Nat.ne_of_lt (Nat.lt_of_lt_of_le (qW hw338_0) GW339.out) | (rw [add_block]; exact Nat.ne_of_lt (Nat.lt_of_lt_of_le (qW hw338_0) GW339.out)) | (show (Addr.add _ _).block ≠ _; rw [add_block]; exact Nat.ne_of_lt (Nat.lt_of_lt_of_le (qW hw338_0) GW339.out)) | (dsimp only; exact Nat.ne_of_lt (Nat.lt_of_lt_of_le (qW hw338_0) GW339.out))) _).trans (hHeld.2.2))))))⟩ (fun hHeld => ?_)
                clear hK K
                refine done_ (done_of HT_.out (by kernel_rfl)) ?_
                try go_wp2
                have n0_ : Aside0 (Kd.R k61 61 (((w38.setCell ⟨gb339, 0, none⟩ (.int .i64 (rd l0 x4_1))).setCell ⟨gb339, 1, none⟩ (.int .i64 (rd l0 (ji8)))).setCell ⟨gb339, 2, none⟩ (.int .i64 (rd l0 (ji11)))) w.heap.size (fun k_ => k_ ≠ gb339) u3 x3_1) := ⟨by exact uR (Kd.R_mono (Kd.R_far (p := ⟨gb339, 2, none⟩) (Kd.R_far (p := ⟨gb339, 1, none⟩) (Kd.R_far (p := ⟨gb339, 0, none⟩) (Kd.R_mono HO_3.out (fun k_ hk => (⟨hk, hk.2⟩ : _ ∧ k_ ≠ gb339))) (fun _ hk => hk.2) (.int .i64 (rd l0 x4_1))) (fun _ hk => hk.2) (.int .i64 (rd l0 (ji8)))) (fun _ hk => hk.2) (.int .i64 (rd l0 (ji11)))) (fun _ hk => hk.1.2))⟩
                have n1_ : Aside0 ((((w38.setCell ⟨gb339, 0, none⟩ (.int .i64 (rd l0 x4_1))).setCell ⟨gb339, 1, none⟩ (.int .i64 (rd l0 (ji8)))).setCell ⟨gb339, 2, none⟩ (.int .i64 (rd l0 (ji11)))).heap[gb339]? = some (.cells #[.int .i64 (rd l0 x4_1), .int .i64 (rd l0 (ji8)), .int .i64 (rd l0 (ji11))] 61 (0, 0))) := ⟨by (with_reducible repeat (first | refine blk_drewN ?_ _ | refine blk_drew ?_ | refine blk_alloc ?_ _)); refine blk_put (cs := #[.int .i64 (rd l0 x4_1), .int .i64 (rd l0 (ji8)), .int .i64 0]) ?_ 2 _ rfl; (with_reducible repeat (first | refine blk_drewN ?_ _ | refine blk_drew ?_ | refine blk_alloc ?_ _)); refine blk_put (cs := #[.int .i64 (rd l0 x4_1), .int .i64 0, .int .i64 0]) ?_ 1 _ rfl; (with_reducible repeat (first | refine blk_drewN ?_ _ | refine blk_drew ?_ | refine blk_alloc ?_ _)); refine blk_put (cs := #[.int .i64 0, .int .i64 0, .int .i64 0]) ?_ 0 _ rfl; (with_reducible repeat (first | refine blk_drewN ?_ _ | refine blk_drew ?_ | refine blk_alloc ?_ _)); exact BK339.out⟩
                have n2_ : Aside0 (Below w.heap.size w (((w38.setCell ⟨gb339, 0, none⟩ (.int .i64 (rd l0 x4_1))).setCell ⟨gb339, 1, none⟩ (.int .i64 (rd l0 (ji8)))).setCell ⟨gb339, 2, none⟩ (.int .i64 (rd l0 (ji11))))) := ⟨qT HB GE339⟩
                (try clear HO_3)
                (try clear BK339)
                (try clear HB)
                generalize (((w38.setCell ⟨gb339, 0, none⟩ (.int .i64 (rd l0 x4_1))).setCell ⟨gb339, 1, none⟩ (.int .i64 (rd l0 (ji8)))).setCell ⟨gb339, 2, none⟩ (.int .i64 (rd l0 (ji11)))) = w42 at n0_ n1_ n2_ ⊢
                have HO_3 := n0_
                have BK339 := n1_
                have HB := n2_
                clear n0_ n1_ n2_
                have n0_ := Aside0.mk (Kd.R_drew HO_3.out)
                have n1_ := Aside0.mk (blk_drew BK339.out)
                have n2_ := Aside0.mk (below_drew1 HB.out)
                clear HO_3
                clear BK339
                clear HB
                have HO_3 := n0_
                have BK339 := n1_
                have HB := n2_
                clear n0_ n1_ n2_
                obtain ⟨i047, hi047, _, hsz47, _⟩ := info_parts info3
                obtain ⟨A47, hcut47, hA47, hC47⟩ := print_mid_of (P := Try.prog) (Value.int .i64) 0 23 3 .i64 .i64 Try.underlying23 hi047 hsz47 (some ad336) c0 l0 x4_1 (wrap64 (x4_1 + 5)) (of_decide_eq_true qa) (by first | omega | exact of_decide_eq_true qa) (of_decide_eq_true qa) HC0.out
                have hz47 : Aside0 (((wrap64 (x4_1 + 5)) : Int).toNat - (x4_1 : Int).toNat = ((l0.take ((wrap64 (x4_1 + 5)) : Int).toNat).drop (x4_1 : Int).toNat).length) := ⟨by have h_ : (wrap64 (x4_1 + 5)) ≤ (l0.length : Int) := of_decide_eq_true qa; simp only [List.length_drop, List.length_take]; omega⟩
                have HR344 := Aside0.mk (Kd.C_of_reads (h1 := fun _ => rfl) (hA47 _ (Kd.reads_of_C HR0.out)))
                have HC344 := Aside0.mk hC47
                clear hA47 hC47 hi047 hsz47
                refine start_ (n := 16) (S := fun w' => w'.cell? ⟨gb339, 0, none⟩ = some (.int .i64 (rd l0 x4_1)) ∧ w'.cell? ⟨gb339, 1, none⟩ = some (.int .i64 (rd l0 (ji8))) ∧ w'.cell? ⟨gb339, 2, none⟩ = some (.int .i64 (rd l0 (ji11)))) (ds := []) (Array.replicate 16 false) (by kernel_rfl) rfl rfl ⟨(blk_cell BK339.out 0).trans rfl, (blk_cell BK339.out 1).trans rfl, (blk_cell BK339.out 2).trans rfl⟩ (fun hHeld => ?_); refine with_tabW spec_jrRecover.tab6 spec_jrRecover.bits6 (fun HT_ HW_ => ?_)
                generalize w42.drew = w43 at HO_3 BK339 HB hHeld ⊢
                refine take_ (i := 0) (N := some 33) (v := ?_) (a' := ?_) (bq 16 1) rfl rfl (take_ofW HT_.out HW_.out (by kernel_rfl)) (fun _ _ _ h => h) (Or.inl ⟨by rfl, ?_⟩) hHeld ?_ ?_
                rotate_left
                ·rintro w' ⟨s0, s1, s2⟩
                 go_simp
                 with_reducible rfl
                rotate_left
                ·simp only [Act.put, List.setIfInBounds_toArray, List.set_cons_zero, List.set_cons_succ, i64_w, i32_w]
                 rfl
                refine one_ (i := 1) (N := some 34) (bq 16 3) rfl rfl (qo HT_) (by decide) (fun K hK => ?_)
                refine goes_ Try.func145 (by kernel_rfl) rfl #[.agg #[.int .i64 (rd l0 x4_1), .int .i64 (rd l0 (ji8)), .int .i64 (rd l0 (ji11))]] (by rfl) rfl rfl (by (try simp only [List.map_toArray, List.map_cons, List.map_nil]); first | done | (simp only [hji11, hji8]; rfl) | rfl | (simp only [List.length_drop, List.length_take]; rfl)) ?_
                with_reducible refine (spec_jrRecord.calls (rd l0 x4_1) (rd l0 (ji8)) (rd l0 (ji11)) true _ A14.out).mono ?_
                rintro e w44 ⟨rfl, hb⟩
                refine ⟨_, rfl, ?_⟩
                have n0_ := Aside0.mk (Kd.R_below (qR HO_3) hb)
                have n1_ := Aside0.mk (blk_below (g := gb339) (o := .cells #[.int .i64 (rd l0 x4_1), .int .i64 (rd l0 (ji8)), .int .i64 (rd l0 (ji11))] 61 (0, 0)) (qK BK339) hb)
                have n2_ := Aside0.mk (below_step (qT HB GE339) hb)
                clear HO_3
                clear BK339
                clear HB
                have HO_3 := n0_
                have BK339 := n1_
                have HB := n2_
                clear n0_ n1_ n2_
                (try clear hb)
                (try clear hb2)
                (try clear hk)
                (try clear hi)
                obtain ⟨Ao45, co45, eo45⟩ := Kd.R_slice HO_3.out
                (first | subst eo45 | (injection eo45 with f1_ f2_ f3_; have f4_ := f1_.symm; have f5_ := f3_.symm; clear f1_ f2_ f3_; subst f4_; subst f5_))
                refine hK.out _ _ ⟨(blk_cell BK339.out 0).trans rfl, (blk_cell BK339.out 1).trans rfl, (blk_cell BK339.out 2).trans rfl⟩ (fun hHeld => ?_)
                clear hK K
                refine norm_ (a' := ?_) ?_ ?_
                rotate_left
                ·show Act.put _ (some 34) _ = _
                 simp only [Act.put, List.setIfInBounds_toArray, List.set_cons_zero, List.set_cons_succ, i64_w, i32_w]
                 rfl
                refine pure_ (i := 2) (N := some 35) (v := ?_) (a' := ?_) (bq 16 7) rfl rfl (qn HT_) (fun _ _ _ h => h) (Or.inl ⟨by rfl, ?_⟩) ?_ ?_; rotate_left; focus (intro w'; go_simp; with_reducible rfl)
                rotate_left; focus (simp only [Act.put, List.setIfInBounds_toArray, List.set_cons_zero, List.set_cons_succ, i64_w, i32_w]; rfl)
                refine pure_ (i := 3) (N := some 36) (v := ?_) (a' := ?_) (bq 16 15) rfl rfl (qn HT_) (fun _ _ _ h => h) (Or.inl ⟨by rfl, ?_⟩) ?_ ?_; rotate_left; focus (intro w'; go_simp; with_reducible rfl)
                rotate_left; focus (simp only [Act.put, List.setIfInBounds_toArray, List.set_cons_zero, List.set_cons_succ, i64_w, i32_w]; rfl)
                refine pure_ (i := 5) (N := some 38) (v := ?_) (a' := ?_) (bq 16 47) rfl rfl (qn HT_) (fun _ _ _ h => h) (Or.inl ⟨by rfl, ?_⟩) ?_ ?_; rotate_left; focus (intro w'; go_simp; with_reducible rfl)
                rotate_left; focus (simp only [Act.put, List.setIfInBounds_toArray, List.set_cons_zero, List.set_cons_succ, i64_w, i32_w]; rfl)
                refine pure_ (i := 6) (N := some 39) (v := ?_) (a' := ?_) (bq 16 111) rfl rfl (qn HT_) (fun _ _ _ h => h) (Or.inl ⟨by rfl, ?_⟩) ?_ ?_; rotate_left; focus (intro w'; go_simp; with_reducible rfl)
                rotate_left; focus (simp only [Act.put, List.setIfInBounds_toArray, List.set_cons_zero, List.set_cons_succ, i64_w, i32_w]; rfl)
                refine pure_ (i := 8) (N := some 41) (v := ?_) (a' := ?_) (bq 16 367) rfl rfl (qn HT_) (fun _ _ _ h => h) (Or.inl ⟨by rfl, ?_⟩) ?_ ?_; rotate_left; focus (intro w'; go_simp; with_reducible rfl)
                rotate_left; focus (simp only [Act.put, List.setIfInBounds_toArray, List.set_cons_zero, List.set_cons_succ, i64_w, i32_w]; rfl)
                refine pure_ (i := 9) (N := some 42) (v := ?_) (a' := ?_) (bq 16 879) rfl rfl (qn HT_) (fun _ _ _ h => h) (Or.inl ⟨by rfl, ?_⟩) ?_ ?_; rotate_left; focus (intro w'; go_simp; with_reducible rfl)
                rotate_left; focus (simp only [Act.put, List.setIfInBounds_toArray, List.set_cons_zero, List.set_cons_succ, i64_w, i32_w]; rfl)
                refine pure_ (i := 10) (N := some 43) (v := ?_) (a' := ?_) (bq 16 1903) rfl rfl (qn HT_) (fun _ _ _ h => h) (Or.inl ⟨by rfl, ?_⟩) ?_ ?_; rotate_left; focus (intro w'; go_simp; with_reducible rfl)
                rotate_left; focus (simp only [Act.put, List.setIfInBounds_toArray, List.set_cons_zero, List.set_cons_succ, i64_w, i32_w]; rfl)
                refine pure_ (i := 11) (N := some 44) (v := ?_) (a' := ?_) (bq 16 3951) rfl rfl (qn HT_) (fun _ _ _ h => h) (Or.inl ⟨by rfl, ?_⟩) ?_ ?_; rotate_left; focus (intro w'; go_simp; with_reducible rfl)
                rotate_left; focus (simp only [Act.put, List.setIfInBounds_toArray, List.set_cons_zero, List.set_cons_succ, i64_w, i32_w]; rfl)
                refine pure_ (i := 12) (N := some 45) (v := ?_) (a' := ?_) (bq 16 8047) rfl rfl (qn HT_) (fun _ _ _ h => h) (Or.inl ⟨by rfl, ?_⟩) ?_ ?_; rotate_left; focus (intro w'; go_simp; with_reducible rfl)
                rotate_left; focus (simp only [Act.put, List.setIfInBounds_toArray, List.set_cons_zero, List.set_cons_succ, i64_w, i32_w]; rfl)
                refine take_ (i := 4) (N := some 37) (v := ?_) (a' := ?_) (bq 16 8063) rfl rfl (take_ofW HT_.out HW_.out (by kernel_rfl)) (fun _ _ _ h => h) (Or.inl ⟨by rfl, ?_⟩) hHeld ?_ ?_
                rotate_left
                ·rintro w' ⟨s0, s1, s2⟩
                 go_simp
                 with_reducible rfl
                rotate_left
                ·simp only [Act.put, List.setIfInBounds_toArray, List.set_cons_zero, List.set_cons_succ, i64_w, i32_w]
                 rfl
                refine one_ (i := 7) (N := some 40) (bq 16 8191) rfl rfl (qo HT_) (by decide) (fun K hK => ?_)
                refine goes_ Try.func146 (by kernel_rfl) rfl #[.agg #[.int .i64 (rd l0 x4_1), .int .i64 (rd l0 (ji8)), .int .i64 (rd l0 (ji11))], .int .i64 (x3_1.length : Int)] (by rfl) rfl rfl (by (try simp only [List.map_toArray, List.map_cons, List.map_nil]); first | done | (simp only [hji11, hji8]; rfl) | rfl | (simp only [List.length_drop, List.length_take]; rfl)) ?_
                with_reducible refine (spec_jrOf.calls (rd l0 x4_1) (rd l0 (ji8)) (rd l0 (ji11)) (x3_1.length : Int) t341 _ A16.out).mono ?_
                rintro e w46 ⟨v342, rfl, ho0, hb⟩
                refine ⟨_, rfl, ?_⟩
                have n0_ := Aside0.mk (Kd.R_below (qR HO_3) hb)
                have n1_ := Aside0.mk (Kd.R_lower ho0 (below_size (qT HB GE339)))
                have n2_ := Aside0.mk (blk_below (g := gb339) (o := .cells #[.int .i64 (rd l0 x4_1), .int .i64 (rd l0 (ji8)), .int .i64 (rd l0 (ji11))] 61 (0, 0)) (qK BK339) hb)
                have n3_ := Aside0.mk (below_step (qT HB GE339) hb)
                clear HO_3
                clear BK339
                clear HB
                have HO_3 := n0_
                have HO343 := n1_
                have BK339 := n2_
                have HB := n3_
                clear n0_ n1_ n2_ n3_
                (try clear hb)
                (try clear hb2)
                (try clear hk)
                (try clear hi)
                (try clear ho0)
                obtain ⟨Ao48, co48, eo48⟩ := Kd.R_slice HO343.out
                (first | subst eo48 | (injection eo48 with f1_ f2_ f3_; have f4_ := f1_.symm; have f5_ := f3_.symm; clear f1_ f2_ f3_; subst f4_; subst f5_))
                refine hK.out _ _ ⟨(blk_cell BK339.out 0).trans rfl, (blk_cell BK339.out 1).trans rfl, (blk_cell BK339.out 2).trans rfl⟩ (fun hHeld => ?_)
                clear hK K
                refine norm_ (a' := ?_) ?_ ?_
                rotate_left
                ·show Act.put _ (some 40) _ = _
                 simp only [Act.put, List.setIfInBounds_toArray, List.set_cons_zero, List.set_cons_succ, i64_w, i32_w]
                 rfl
                refine one_ (i := 13) (N := some 46) (bq 16 16383) rfl rfl (qo HT_) (by decide) (fun K hK => ?_)
                refine goes_ Try.func188 (by kernel_rfl) rfl #[.slice Ao48 t341.length co48, .slice A47 ((l0.take ((wrap64 (x4_1 + 5)) : Int).toNat).drop (x4_1 : Int).toNat).length (c0 - x4_1.toNat)] (by rfl) rfl rfl (by (try simp only [List.map_toArray, List.map_cons, List.map_nil]); first | done | (rw [show ((l0.take ((wrap64 (x4_1 + 5)) : Int).toNat).drop (x4_1 : Int).toNat).length = ((wrap64 (x4_1 + 5)).toNat - x4_1.toNat) from (by rw [List.length_drop, List.length_take]; have h_ : ((wrap64 (x4_1 + 5)) : Int) ≤ (l0.length : Int) := of_decide_eq_true qa; omega)] <;> rfl) | rfl | (simp only [List.length_drop, List.length_take]; rfl)) ?_
                with_reducible refine (spec_l1Same.calls kj1 _ _ t341 _ _ ((l0.take ((wrap64 (x4_1 + 5)) : Int).toNat).drop (x4_1 : Int).toNat) false _ ?side1 ?side2 ?side3 ?side4 A20.out).mono ?_
                (case side1 => exact uC (Kd.R_reads' HO343.out).2.2)
                (case side2 => exact (Kd.R_reads' HO343.out).2.1)
                (case side3 => exact uC (Kd.C_below HR344.out HB.out))
                (case side4 => exact HC344.out)
                rintro e w' ⟨rfl, ⟨nd, rfl⟩⟩
                refine ⟨_, rfl, ?_⟩
                refine hK.out _ _ ⟨(blk_cell BK339.out 0).trans rfl, (blk_cell BK339.out 1).trans rfl, (blk_cell BK339.out 2).trans rfl⟩ (fun hHeld => ?_)
                clear hK K
                refine norm_ (a' := ?_) ?_ ?_
                rotate_left
                ·show Act.put _ (some 46) _ = _
                 simp only [Act.put, List.setIfInBounds_toArray, List.set_cons_zero, List.set_cons_succ, i64_w, i32_w]
                 rfl
                refine pure_ (i := 14) (N := some 47) (v := ?_) (a' := ?_) (bq 16 32767) rfl rfl (qn HT_) (fun _ _ _ h => h) (Or.inl ⟨by rfl, ?_⟩) ?_ ?_; rotate_left; focus (intro w'; go_simp; with_reducible rfl)
                rotate_left; focus (simp only [Act.put, List.setIfInBounds_toArray, List.set_cons_zero, List.set_cons_succ, i64_w, i32_w]; rfl)
                refine pure_ (i := 15) (N := some 48) (v := ?_) (a' := ?_) (bq 16 65535) rfl rfl (qn HT_) (fun _ _ _ h => h) (Or.inl ⟨by rfl, ?_⟩) ?_ ?_; rotate_left; focus (intro w'; go_simp; with_reducible rfl)
                rotate_left; focus (simp only [Act.put, List.setIfInBounds_toArray, List.set_cons_zero, List.set_cons_succ, i64_w, i32_w]; rfl)
                refine done_ (done_of HT_.out (by kernel_rfl)) ?_
                try go_wp2
                go_ret
                exact ⟨_, by first | rfl | (simp [errW_none, errW_some] <;> rfl) | (simp only [← hji8, ← hji11]; first | rfl | (simp [errW_none, errW_some] <;> rfl)) | (simp [*, errW_none, errW_some] <;> rfl), by exact uR (Kd.R_mono HO_3.out (fun _ hk => trivial)), qT HB GE339⟩
              ·rw [if_neg c19] at H
               exact absurd H (by simp)
             ·rw [if_neg c18] at H
              exact absurd H (by simp)
            ·replace c15 := Bool.eq_false_iff.mpr c15
             subst c15
             rw [if_neg (show ¬ (false = true) by decide)] at H
             obtain rfl := Option.some.inj H
             try go_wp2
             have n0_ := Aside0.mk (Kd.R_drew HO_3.out)
             have n1_ := Aside0.mk (below_drew1 HB.out)
             clear HO_3
             clear HB
             have HO_3 := n0_
             have HB := n1_
             clear n0_ n1_
             have p336 : 0 ≤ (x4_1 : Int) := of_decide_eq_true qa
             have q336 : x4_1 < (l0.length : Int) := of_decide_eq_true qa
             obtain ⟨ad336, e336, hx336_0⟩ := Kd.at_int HR0.out x4_1 p336 q336
             have hw336_0 := hx336_0
             cases e336
             replace hx336_0 := (HB.out.cell (World.block_lt_of_cell? w _ hx336_0)).trans hx336_0
             replace p336 := eq_true p336
             replace q336 := eq_true q336
             have p337 : 0 ≤ ((ji8) : Int) := of_decide_eq_true qa
             have q337 : (ji8) < (l0.length : Int) := of_decide_eq_true qa
             obtain ⟨ad337, e337, hx337_0⟩ := Kd.at_int HR0.out (ji8) p337 q337
             have hw337_0 := hx337_0
             obtain rfl : ad336 = ad337 := (by injection e337)
             replace hx337_0 := (HB.out.cell (World.block_lt_of_cell? w _ hx337_0)).trans hx337_0
             replace p337 := eq_true p337
             replace q337 := eq_true q337
             have p338 : 0 ≤ ((ji11) : Int) := of_decide_eq_true qa
             have q338 : (ji11) < (l0.length : Int) := of_decide_eq_true qa
             obtain ⟨ad338, e338, hx338_0⟩ := Kd.at_int HR0.out (ji11) p338 q338
             have hw338_0 := hx338_0
             obtain rfl : ad336 = ad338 := (by injection e338)
             replace hx338_0 := (HB.out.cell (World.block_lt_of_cell? w _ hx338_0)).trans hx338_0
             replace p338 := eq_true p338
             replace q338 := eq_true q338
             refine start_ (n := 17) (S := fun w' => w'.cell? (ad336.add (x4_1).toNat) = some (.int .i64 (rd l0 x4_1)) ∧ w'.cell? (ad336.add ((ji8)).toNat) = some (.int .i64 (rd l0 (ji8))) ∧ w'.cell? (ad336.add ((ji11)).toNat) = some (.int .i64 (rd l0 (ji11)))) (ds := []) (Array.replicate 17 false) (by kernel_rfl) rfl rfl ⟨((HB.out.cell (World.block_lt_of_cell? w _ hw336_0)).trans hw336_0), ((HB.out.cell (World.block_lt_of_cell? w _ hw337_0)).trans hw337_0), ((HB.out.cell (World.block_lt_of_cell? w _ hw338_0)).trans hw338_0)⟩ (fun hHeld => ?_); refine with_tabW spec_jrRecover.tab5 spec_jrRecover.bits5 (fun HT_ HW_ => ?_)
             generalize wc.drew = w49 at HO_3 HB hx336_0 hx337_0 hx338_0 hHeld ⊢
             refine pure_ (i := 0) (N := some 18) (v := ?_) (a' := ?_) (bq 17 1) rfl rfl (qn HT_) (fun _ _ _ h => h) (Or.inl ⟨by rfl, ?_⟩) ?_ ?_; rotate_left; focus (intro w'; go_simp; with_reducible rfl)
             rotate_left; focus (simp only [Act.put, List.setIfInBounds_toArray, List.set_cons_zero, List.set_cons_succ, i64_w, i32_w]; rfl)
             refine pure_ (i := 1) (N := some 19) (v := ?_) (a' := ?_) (bq 17 3) rfl rfl (qn HT_) (fun _ _ _ h => h) (Or.inl ⟨by rfl, ?_⟩) ?_ ?_; rotate_left; focus (intro w'; go_simp; with_reducible rfl)
             rotate_left; focus (simp only [Act.put, List.setIfInBounds_toArray, List.set_cons_zero, List.set_cons_succ, i64_w, i32_w]; rfl)
             refine pure_ (i := 2) (N := some 20) (v := ?_) (a' := ?_) (bq 17 7) rfl rfl (qn HT_) (fun _ _ _ h => h) (Or.inl ⟨by rfl, ?_⟩) ?_ ?_; rotate_left; focus (intro w'; go_simp; with_reducible rfl)
             rotate_left; focus (simp only [Act.put, List.setIfInBounds_toArray, List.set_cons_zero, List.set_cons_succ, i64_w, i32_w]; rfl)
             refine pure_ (i := 4) (N := some 22) (v := ?_) (a' := ?_) (bq 17 23) rfl rfl (qn HT_) (fun _ _ _ h => h) (Or.inl ⟨by rfl, ?_⟩) ?_ ?_; rotate_left; focus (intro w'; go_simp; with_reducible rfl)
             rotate_left; focus (simp only [Act.put, List.setIfInBounds_toArray, List.set_cons_zero, List.set_cons_succ, i64_w, i32_w]; rfl)
             refine pure_ (i := 5) (N := some 23) (v := ?_) (a' := ?_) (bq 17 55) rfl rfl (qn HT_) (fun _ _ _ h => h) (Or.inl ⟨by rfl, ?_⟩) ?_ ?_; rotate_left; focus (intro w'; go_simp; with_reducible rfl)
             rotate_left; focus (simp only [Act.put, List.setIfInBounds_toArray, List.set_cons_zero, List.set_cons_succ, i64_w, i32_w]; rfl)
             refine pure_ (i := 6) (N := some 24) (v := ?_) (a' := ?_) (bq 17 119) rfl rfl (qn HT_) (fun _ _ _ h => h) (Or.inl ⟨by rfl, ?_⟩) ?_ ?_; rotate_left; focus (intro w'; go_simp; with_reducible rfl)
             rotate_left; focus (simp only [Act.put, List.setIfInBounds_toArray, List.set_cons_zero, List.set_cons_succ, i64_w, i32_w]; rfl)
             refine pure_ (i := 7) (N := some 25) (v := ?_) (a' := ?_) (bq 17 247) rfl rfl (qn HT_) (fun _ _ _ h => h) (Or.inl ⟨by rfl, ?_⟩) ?_ ?_; rotate_left; focus (intro w'; go_simp; with_reducible rfl)
             rotate_left; focus (simp only [Act.put, List.setIfInBounds_toArray, List.set_cons_zero, List.set_cons_succ, i64_w, i32_w]; rfl)
             refine pure_ (i := 9) (N := some 27) (v := ?_) (a' := ?_) (bq 17 759) rfl rfl (qn HT_) (fun _ _ _ h => h) (Or.inl ⟨by rfl, ?_⟩) ?_ ?_; rotate_left; focus (intro w'; go_simp; with_reducible rfl)
             rotate_left; focus (simp only [Act.put, List.setIfInBounds_toArray, List.set_cons_zero, List.set_cons_succ, i64_w, i32_w]; rfl)
             refine pure_ (i := 10) (N := some 28) (v := ?_) (a' := ?_) (bq 17 1783) rfl rfl (qn HT_) (fun _ _ _ h => h) (Or.inl ⟨by rfl, ?_⟩) ?_ ?_; rotate_left; focus (intro w'; go_simp; with_reducible rfl)
             rotate_left; focus (simp only [Act.put, List.setIfInBounds_toArray, List.set_cons_zero, List.set_cons_succ, i64_w, i32_w]; rfl)
             refine pure_ (i := 11) (N := some 29) (v := ?_) (a' := ?_) (bq 17 3831) rfl rfl (qn HT_) (fun _ _ _ h => h) (Or.inl ⟨by rfl, ?_⟩) ?_ ?_; rotate_left; focus (intro w'; go_simp; with_reducible rfl)
             rotate_left; focus (simp only [Act.put, List.setIfInBounds_toArray, List.set_cons_zero, List.set_cons_succ, i64_w, i32_w]; rfl)
             refine pure_ (i := 12) (N := some 30) (v := ?_) (a' := ?_) (bq 17 7927) rfl rfl (qn HT_) (fun _ _ _ h => h) (Or.inl ⟨by rfl, ?_⟩) ?_ ?_; rotate_left; focus (intro w'; go_simp; with_reducible rfl)
             rotate_left; focus (simp only [Act.put, List.setIfInBounds_toArray, List.set_cons_zero, List.set_cons_succ, i64_w, i32_w]; rfl)
             refine take_ (i := 3) (N := some 21) (v := ?_) (a' := ?_) (bq 17 7935) rfl rfl (take_ofW HT_.out HW_.out (by kernel_rfl)) (fun _ _ _ h => h) (Or.inl ⟨by rfl, ?_⟩) hHeld ?_ ?_
             rotate_left
             ·rintro w' ⟨s0, s1, s2⟩
              go_simp
              with_reducible rfl
             rotate_left
             ·simp only [Act.put, List.setIfInBounds_toArray, List.set_cons_zero, List.set_cons_succ, i64_w, i32_w]
              rfl
             refine take_ (i := 8) (N := some 26) (v := ?_) (a' := ?_) (bq 17 8191) rfl rfl (take_ofW HT_.out HW_.out (by kernel_rfl)) (fun _ _ _ h => h) (Or.inl ⟨by rfl, ?_⟩) hHeld ?_ ?_
             rotate_left
             ·rintro w' ⟨s0, s1, s2⟩
              go_simp
              with_reducible rfl
             rotate_left
             ·simp only [Act.put, List.setIfInBounds_toArray, List.set_cons_zero, List.set_cons_succ, i64_w, i32_w]
              rfl
             refine take_ (i := 13) (N := some 31) (v := ?_) (a' := ?_) (bq 17 16383) rfl rfl (take_ofW HT_.out HW_.out (by kernel_rfl)) (fun _ _ _ h => h) (Or.inl ⟨by rfl, ?_⟩) hHeld ?_ ?_
             rotate_left
             ·rintro w' ⟨s0, s1, s2⟩
              go_simp
              with_reducible rfl
             rotate_left
             ·simp only [Act.put, List.setIfInBounds_toArray, List.set_cons_zero, List.set_cons_succ, i64_w, i32_w]
              rfl
             refine pure_ (i := 14) (N := some 32) (v := ?_) (a' := ?_) (bq 17 32767) rfl rfl (qn HT_) (fun _ _ _ h => h) (Or.inl ⟨by rfl, ?_⟩) ?_ ?_; rotate_left; focus (intro w'; go_simp; with_reducible rfl)
             rotate_left; focus (simp only [Act.put, List.setIfInBounds_toArray, List.set_cons_zero, List.set_cons_succ, i64_w, i32_w]; rfl)
             refine one_ (i := 15) (N := some 5) (bq 17 65535) rfl rfl (qo HT_) (by decide) (fun K hK => ?_)
             refine box_step ?hg (N := 5) ?hd (cs := #[.int .i64 0, .int .i64 0, .int .i64 0]) (t := 61) ?hr ?_; (case hd => rfl); (case hg => rfl); (case hr => first | (go_simp; done) | (go_simp; rfl))
             intro gb339 hg w50 hbox hb
             have n0_ := Aside0.mk (Kd.R_below (Kd.R_elderB (qR HO_3) gb339 (Nat.le_of_eq hg.symm)) hb)
             have n1_ := Aside0.mk (below_step (qB HB) hb)
             have n2_ := Aside0.mk (hbox)
             have n3_ := Aside0.mk ((by rw [hg]; exact (below_size (qB HB)) : w.heap.size ≤ gb339))
             have n4_ := Aside0.mk ((by rw [hg]; exact (below_size (qB HB)) : w.heap.size ≤ gb339))
             clear HO_3
             clear HB
             have HO_3 := n0_
             have HB := n1_
             have BK339 := n2_
             have GW339 := n3_
             have GE339 := n4_
             clear n0_ n1_ n2_ n3_ n4_
             clear hb hbox hg
             refine hK.out _ _ ⟨((HB.out.cell (World.block_lt_of_cell? w _ hw336_0)).trans hw336_0), ((HB.out.cell (World.block_lt_of_cell? w _ hw337_0)).trans hw337_0), ((HB.out.cell (World.block_lt_of_cell? w _ hw338_0)).trans hw338_0)⟩ (fun hHeld => ?_)
             clear hK K
             refine norm_ (a' := ?_) ?_ ?_
             rotate_left
             ·show Act.put _ (some 5) _ = _
              simp only [Act.put, List.setIfInBounds_toArray, List.set_cons_zero, List.set_cons_succ, i64_w, i32_w]
              rfl
             refine one_ (i := 16) (N := none) (bq 17 131071) rfl rfl (qo HT_) (by decide) (fun K hK => ?_)
             have hs51 : w50.cell? ⟨gb339, 0, none⟩ = some (.int .i64 0) := (blk_cell BK339.out 0).trans rfl
             have hfs51 := blk_frozen BK339.out 0
             have hs52 : w50.cell? ⟨gb339, 1, none⟩ = some (.int .i64 0) := (blk_cell BK339.out 1).trans rfl
             have hfs52 := blk_frozen BK339.out 1
             have hs53 : w50.cell? ⟨gb339, 2, none⟩ = some (.int .i64 0) := (blk_cell BK339.out 2).trans rfl
             have hfs53 := blk_frozen BK339.out 2
             refine skip_ (w1 := ?_) (by rfl) rfl ?_ ?_
             rotate_left
             ·go_simp
              rfl
             refine hK.out _ _ ⟨((cell_far (p := ⟨gb339, _, none⟩) (by first | exact Nat.ne_of_lt (Nat.lt_of_lt_of_le (qW hw336_0) GW339.out) | (rw [add_block]; exact Nat.ne_of_lt (Nat.lt_of_lt_of_le (qW hw336_0) GW339.out)) | (show (Addr.add _ _).block ≠ _; rw [add_block]; exact Nat.ne_of_lt (Nat.lt_of_lt_of_le (qW hw336_0) GW339.out)) | (dsimp only; exact Nat.ne_of_lt (Nat.lt_of_lt_of_le (qW hw336_0) GW339.out))) _).trans (((cell_far (p := ⟨gb339, _, none⟩) (by first | exact Nat.ne_of_lt (Nat.lt_of_lt_of_le (qW hw336_0) GW339.out) | (rw [add_block]; exact Nat.ne_of_lt (Nat.lt_of_lt_of_le (qW hw336_0) GW339.out)) | (show (Addr.add _ _).block ≠ _; rw [add_block]; exact Nat.ne_of_lt (Nat.lt_of_lt_of_le (qW hw336_0) GW339.out)) | (dsimp only; exact Nat.ne_of_lt (Nat.lt_of_lt_of_le (qW hw336_0) GW339.out))) _).trans (((cell_far (p := ⟨gb339, _, none⟩) (by first | exact Nat.ne_of_lt (Nat.lt_of_lt_of_le (qW hw336_0) GW339.out) | (rw [add_block]; exact Nat.ne_of_lt (Nat.lt_of_lt_of_le (qW hw336_0) GW339.out)) | (show (Addr.add _ _).block ≠ _; rw [add_block]; exact Nat.ne_of_lt (Nat.lt_of_lt_of_le (qW hw336_0) GW339.out)) | (dsimp only; exact Nat.ne_of_lt (Nat.lt_of_lt_of_le (qW hw336_0) GW339.out))) _).trans (hHeld.1)))))), ((cell_far (p := ⟨gb339, _, none⟩) (by first | exact Nat.ne_of_lt (Nat.lt_of_lt_of_le (qW hw337_0) GW339.out) | (rw [add_block]; exact Nat.ne_of_lt (Nat.lt_of_lt_of_le (qW hw337_0) GW339.out)) | (show (Addr.add _ _).block ≠ _; rw [add_block]; exact Nat.ne_of_lt (Nat.lt_of_lt_of_le (qW hw337_0) GW339.out)) | (dsimp only; exact Nat.ne_of_lt (Nat.lt_of_lt_of_le (qW hw337_0) GW339.out))) _).trans (((cell_far (p := ⟨gb339, _, none⟩) (by first | exact Nat.ne_of_lt (Nat.lt_of_lt_of_le (qW hw337_0) GW339.out) | (rw [add_block]; exact Nat.ne_of_lt (Nat.lt_of_lt_of_le (qW hw337_0) GW339.out)) | (show (Addr.add _ _).block ≠ _; rw [add_block]; exact Nat.ne_of_lt (Nat.lt_of_lt_of_le (qW hw337_0) GW339.out)) | (dsimp only; exact Nat.ne_of_lt (Nat.lt_of_lt_of_le (qW hw337_0) GW339.out))) _).trans (((cell_far (p := ⟨gb339, _, none⟩) (by first | exact Nat.ne_of_lt (Nat.lt_of_lt_of_le (qW hw337_0) GW339.out) | (rw [add_block]; exact Nat.ne_of_lt (Nat.lt_of_lt_of_le (qW hw337_0) GW339.out)) | (show (Addr.add _ _).block ≠ _; rw [add_block]; exact Nat.ne_of_lt (Nat.lt_of_lt_of_le (qW hw337_0) GW339.out)) | (dsimp only; exact Nat.ne_of_lt (Nat.lt_of_lt_of_le (qW hw337_0) GW339.out))) _).trans (hHeld.2.1)))))), ((cell_far (p := ⟨gb339, _, none⟩) (by first | exact Nat.ne_of_lt (Nat.lt_of_lt_of_le (qW hw338_0) GW339.out) | (rw [add_block]; exact Nat.ne_of_lt (Nat.lt_of_lt_of_le (qW hw338_0) GW339.out)) | (show (Addr.add _ _).block ≠ _; rw [add_block]; exact Nat.ne_of_lt (Nat.lt_of_lt_of_le (qW hw338_0) GW339.out)) | (dsimp only; exact Nat.ne_of_lt (Nat.lt_of_lt_of_le (qW hw338_0) GW339.out))) _).trans (((cell_far (p := ⟨gb339, _, none⟩) (by first | exact Nat.ne_of_lt (Nat.lt_of_lt_of_le (qW hw338_0) GW339.out) | (rw [add_block]; exact Nat.ne_of_lt (Nat.lt_of_lt_of_le (qW hw338_0) GW339.out)) | (show (Addr.add _ _).block ≠ _; rw [add_block]; exact Nat.ne_of_lt (Nat.lt_of_lt_of_le (qW hw338_0) GW339.out)) | (dsimp only; exact Nat.ne_of_lt (Nat.lt_of_lt_of_le (qW hw338_0) GW339.out))) _).trans (((cell_far (p := ⟨gb339, _, none⟩) (by first | exact Nat.ne_of_lt (Nat.lt_of_lt_of_le (qW hw338_0) GW339.out) | (rw [add_block]; exact Nat.ne_of_lt (Nat.lt_of_lt_of_le (qW hw338_0) GW339.out)) | (show (Addr.add _ _).block ≠ _; rw [add_block]; exact Nat.ne_of_lt (Nat.lt_of_lt_of_le (qW hw338_0) GW339.out)) | (dsimp only; exact Nat.ne_of_lt (Nat.lt_of_lt_of_le (qW hw338_0) GW339.out))) _).trans (hHeld.2.2))))))⟩ (fun hHeld => ?_)
             clear hK K
             refine done_ (done_of HT_.out (by kernel_rfl)) ?_
             try go_wp2
             have n0_ : Aside0 (Kd.R k61 61 (((w50.setCell ⟨gb339, 0, none⟩ (.int .i64 (rd l0 x4_1))).setCell ⟨gb339, 1, none⟩ (.int .i64 (rd l0 (ji8)))).setCell ⟨gb339, 2, none⟩ (.int .i64 (rd l0 (ji11)))) w.heap.size (fun k_ => k_ ≠ gb339) u3 x3_1) := ⟨by exact uR (Kd.R_mono (Kd.R_far (p := ⟨gb339, 2, none⟩) (Kd.R_far (p := ⟨gb339, 1, none⟩) (Kd.R_far (p := ⟨gb339, 0, none⟩) (Kd.R_mono HO_3.out (fun k_ hk => (⟨hk, hk.2⟩ : _ ∧ k_ ≠ gb339))) (fun _ hk => hk.2) (.int .i64 (rd l0 x4_1))) (fun _ hk => hk.2) (.int .i64 (rd l0 (ji8)))) (fun _ hk => hk.2) (.int .i64 (rd l0 (ji11)))) (fun _ hk => hk.1.2))⟩
             have n1_ : Aside0 ((((w50.setCell ⟨gb339, 0, none⟩ (.int .i64 (rd l0 x4_1))).setCell ⟨gb339, 1, none⟩ (.int .i64 (rd l0 (ji8)))).setCell ⟨gb339, 2, none⟩ (.int .i64 (rd l0 (ji11)))).heap[gb339]? = some (.cells #[.int .i64 (rd l0 x4_1), .int .i64 (rd l0 (ji8)), .int .i64 (rd l0 (ji11))] 61 (0, 0))) := ⟨by (with_reducible repeat (first | refine blk_drewN ?_ _ | refine blk_drew ?_ | refine blk_alloc ?_ _)); refine blk_put (cs := #[.int .i64 (rd l0 x4_1), .int .i64 (rd l0 (ji8)), .int .i64 0]) ?_ 2 _ rfl; (with_reducible repeat (first | refine blk_drewN ?_ _ | refine blk_drew ?_ | refine blk_alloc ?_ _)); refine blk_put (cs := #[.int .i64 (rd l0 x4_1), .int .i64 0, .int .i64 0]) ?_ 1 _ rfl; (with_reducible repeat (first | refine blk_drewN ?_ _ | refine blk_drew ?_ | refine blk_alloc ?_ _)); refine blk_put (cs := #[.int .i64 0, .int .i64 0, .int .i64 0]) ?_ 0 _ rfl; (with_reducible repeat (first | refine blk_drewN ?_ _ | refine blk_drew ?_ | refine blk_alloc ?_ _)); exact BK339.out⟩
             have n2_ : Aside0 (Below w.heap.size w (((w50.setCell ⟨gb339, 0, none⟩ (.int .i64 (rd l0 x4_1))).setCell ⟨gb339, 1, none⟩ (.int .i64 (rd l0 (ji8)))).setCell ⟨gb339, 2, none⟩ (.int .i64 (rd l0 (ji11))))) := ⟨qT HB GE339⟩
             (try clear HO_3)
             (try clear BK339)
             (try clear HB)
             generalize (((w50.setCell ⟨gb339, 0, none⟩ (.int .i64 (rd l0 x4_1))).setCell ⟨gb339, 1, none⟩ (.int .i64 (rd l0 (ji8)))).setCell ⟨gb339, 2, none⟩ (.int .i64 (rd l0 (ji11)))) = w54 at n0_ n1_ n2_ ⊢
             have HO_3 := n0_
             have BK339 := n1_
             have HB := n2_
             clear n0_ n1_ n2_
             have n0_ := Aside0.mk (Kd.R_drew HO_3.out)
             have n1_ := Aside0.mk (blk_drew BK339.out)
             have n2_ := Aside0.mk (below_drew1 HB.out)
             clear HO_3
             clear BK339
             clear HB
             have HO_3 := n0_
             have BK339 := n1_
             have HB := n2_
             clear n0_ n1_ n2_
             refine start_ (n := 16) (S := fun w' => w'.cell? ⟨gb339, 0, none⟩ = some (.int .i64 (rd l0 x4_1)) ∧ w'.cell? ⟨gb339, 1, none⟩ = some (.int .i64 (rd l0 (ji8))) ∧ w'.cell? ⟨gb339, 2, none⟩ = some (.int .i64 (rd l0 (ji11)))) (ds := []) (Array.replicate 16 false) (by kernel_rfl) rfl rfl ⟨(blk_cell BK339.out 0).trans rfl, (blk_cell BK339.out 1).trans rfl, (blk_cell BK339.out 2).trans rfl⟩ (fun hHeld => ?_); refine with_tabW spec_jrRecover.tab6 spec_jrRecover.bits6 (fun HT_ HW_ => ?_)
             generalize w54.drew = w55 at HO_3 BK339 HB hHeld ⊢
             refine take_ (i := 0) (N := some 33) (v := ?_) (a' := ?_) (bq 16 1) rfl rfl (take_ofW HT_.out HW_.out (by kernel_rfl)) (fun _ _ _ h => h) (Or.inl ⟨by rfl, ?_⟩) hHeld ?_ ?_
             rotate_left
             ·rintro w' ⟨s0, s1, s2⟩
              go_simp
              with_reducible rfl
             rotate_left
             ·simp only [Act.put, List.setIfInBounds_toArray, List.set_cons_zero, List.set_cons_succ, i64_w, i32_w]
              rfl
             refine one_ (i := 1) (N := some 34) (bq 16 3) rfl rfl (qo HT_) (by decide) (fun K hK => ?_)
             refine goes_ Try.func145 (by kernel_rfl) rfl #[.agg #[.int .i64 (rd l0 x4_1), .int .i64 (rd l0 (ji8)), .int .i64 (rd l0 (ji11))]] (by rfl) rfl rfl (by (try simp only [List.map_toArray, List.map_cons, List.map_nil]); first | done | (simp only [hji11, hji8]; rfl) | rfl | (simp only [List.length_drop, List.length_take]; rfl)) ?_
             with_reducible refine (spec_jrRecord.calls (rd l0 x4_1) (rd l0 (ji8)) (rd l0 (ji11)) false _ A14.out).mono ?_
             rintro e w56 ⟨rfl, hb⟩
             refine ⟨_, rfl, ?_⟩
             have n0_ := Aside0.mk (Kd.R_below (qR HO_3) hb)
             have n1_ := Aside0.mk (blk_below (g := gb339) (o := .cells #[.int .i64 (rd l0 x4_1), .int .i64 (rd l0 (ji8)), .int .i64 (rd l0 (ji11))] 61 (0, 0)) (qK BK339) hb)
             have n2_ := Aside0.mk (below_step (qT HB GE339) hb)
             clear HO_3
             clear BK339
             clear HB
             have HO_3 := n0_
             have BK339 := n1_
             have HB := n2_
             clear n0_ n1_ n2_
             (try clear hb)
             (try clear hb2)
             (try clear hk)
             (try clear hi)
             refine hK.out _ _ ⟨(blk_cell BK339.out 0).trans rfl, (blk_cell BK339.out 1).trans rfl, (blk_cell BK339.out 2).trans rfl⟩ (fun hHeld => ?_)
             clear hK K
             refine norm_ (a' := ?_) ?_ ?_
             rotate_left
             ·show Act.put _ (some 34) _ = _
              simp only [Act.put, List.setIfInBounds_toArray, List.set_cons_zero, List.set_cons_succ, i64_w, i32_w]
              rfl
             refine pure_ (i := 2) (N := some 35) (v := ?_) (a' := ?_) (bq 16 7) rfl rfl (qn HT_) (fun _ _ _ h => h) (Or.inl ⟨by rfl, ?_⟩) ?_ ?_; rotate_left; focus (intro w'; go_simp; with_reducible rfl)
             rotate_left; focus (simp only [Act.put, List.setIfInBounds_toArray, List.set_cons_zero, List.set_cons_succ, i64_w, i32_w]; rfl)
             refine pure_ (i := 3) (N := some 36) (v := ?_) (a' := ?_) (bq 16 15) rfl rfl (qn HT_) (fun _ _ _ h => h) (Or.inl ⟨by rfl, ?_⟩) ?_ ?_; rotate_left; focus (intro w'; go_simp; with_reducible rfl)
             rotate_left; focus (simp only [Act.put, List.setIfInBounds_toArray, List.set_cons_zero, List.set_cons_succ, i64_w, i32_w]; rfl)
             refine pure_ (i := 4) (N := some 37) (v := undef) (a' := ?_) (bq 16 31) rfl rfl (qn HT_) (fun _ _ _ h => h) (Or.inr ⟨by rfl, rfl⟩) ?_ ?_
             rotate_left
             ·simp only [Act.put, List.setIfInBounds_toArray, List.set_cons_zero, List.set_cons_succ, i64_w, i32_w]
              rfl
             refine pure_ (i := 5) (N := some 38) (v := undef) (a' := ?_) (bq 16 63) rfl rfl (qn HT_) (fun _ _ _ h => h) (Or.inr ⟨by rfl, rfl⟩) ?_ ?_
             rotate_left
             ·simp only [Act.put, List.setIfInBounds_toArray, List.set_cons_zero, List.set_cons_succ, i64_w, i32_w]
              rfl
             refine pure_ (i := 6) (N := some 39) (v := undef) (a' := ?_) (bq 16 127) rfl rfl (qn HT_) (fun _ _ _ h => h) (Or.inr ⟨by rfl, rfl⟩) ?_ ?_
             rotate_left
             ·simp only [Act.put, List.setIfInBounds_toArray, List.set_cons_zero, List.set_cons_succ, i64_w, i32_w]
              rfl
             refine pure_ (i := 7) (N := some 40) (v := undef) (a' := ?_) (bq 16 255) rfl rfl (qn HT_) (fun _ _ _ h => h) (Or.inr ⟨by rfl, rfl⟩) ?_ ?_
             rotate_left
             ·simp only [Act.put, List.setIfInBounds_toArray, List.set_cons_zero, List.set_cons_succ, i64_w, i32_w]
              rfl
             refine pure_ (i := 8) (N := some 41) (v := undef) (a' := ?_) (bq 16 511) rfl rfl (qn HT_) (fun _ _ _ h => h) (Or.inr ⟨by rfl, rfl⟩) ?_ ?_
             rotate_left
             ·simp only [Act.put, List.setIfInBounds_toArray, List.set_cons_zero, List.set_cons_succ, i64_w, i32_w]
              rfl
             refine pure_ (i := 9) (N := some 42) (v := undef) (a' := ?_) (bq 16 1023) rfl rfl (qn HT_) (fun _ _ _ h => h) (Or.inr ⟨by rfl, rfl⟩) ?_ ?_
             rotate_left
             ·simp only [Act.put, List.setIfInBounds_toArray, List.set_cons_zero, List.set_cons_succ, i64_w, i32_w]
              rfl
             refine pure_ (i := 10) (N := some 43) (v := undef) (a' := ?_) (bq 16 2047) rfl rfl (qn HT_) (fun _ _ _ h => h) (Or.inr ⟨by rfl, rfl⟩) ?_ ?_
             rotate_left
             ·simp only [Act.put, List.setIfInBounds_toArray, List.set_cons_zero, List.set_cons_succ, i64_w, i32_w]
              rfl
             refine pure_ (i := 11) (N := some 44) (v := undef) (a' := ?_) (bq 16 4095) rfl rfl (qn HT_) (fun _ _ _ h => h) (Or.inr ⟨by rfl, rfl⟩) ?_ ?_
             rotate_left
             ·simp only [Act.put, List.setIfInBounds_toArray, List.set_cons_zero, List.set_cons_succ, i64_w, i32_w]
              rfl
             refine pure_ (i := 12) (N := some 45) (v := undef) (a' := ?_) (bq 16 8191) rfl rfl (qn HT_) (fun _ _ _ h => h) (Or.inr ⟨by rfl, rfl⟩) ?_ ?_
             rotate_left
             ·simp only [Act.put, List.setIfInBounds_toArray, List.set_cons_zero, List.set_cons_succ, i64_w, i32_w]
              rfl
             refine pure_ (i := 13) (N := some 46) (v := undef) (a' := ?_) (bq 16 16383) rfl rfl (qn HT_) (fun _ _ _ h => h) (Or.inr ⟨by rfl, rfl⟩) ?_ ?_
             rotate_left
             ·simp only [Act.put, List.setIfInBounds_toArray, List.set_cons_zero, List.set_cons_succ, i64_w, i32_w]
              rfl
             refine pure_ (i := 14) (N := some 47) (v := undef) (a' := ?_) (bq 16 32767) rfl rfl (qn HT_) (fun _ _ _ h => h) (Or.inr ⟨by rfl, rfl⟩) ?_ ?_
             rotate_left
             ·simp only [Act.put, List.setIfInBounds_toArray, List.set_cons_zero, List.set_cons_succ, i64_w, i32_w]
              rfl
             refine pure_ (i := 15) (N := some 48) (v := ?_) (a' := ?_) (bq 16 65535) rfl rfl (qn HT_) (fun _ _ _ h => h) (Or.inl ⟨by rfl, ?_⟩) ?_ ?_; rotate_left; focus (intro w'; go_simp; with_reducible rfl)
             rotate_left; focus (simp only [Act.put, List.setIfInBounds_toArray, List.set_cons_zero, List.set_cons_succ, i64_w, i32_w]; rfl)
             refine done_ (done_of HT_.out (by kernel_rfl)) ?_
             try go_wp2
             go_ret
             exact ⟨_, by first | rfl | (simp [errW_none, errW_some] <;> rfl) | (simp only [← hji8, ← hji11]; first | rfl | (simp [errW_none, errW_some] <;> rfl)) | (simp [*, errW_none, errW_some] <;> rfl), by exact uR (Kd.R_mono HO_3.out (fun _ hk => trivial)), qT HB GE339⟩
           ·rw [if_neg c13] at H
            exact absurd H (by simp)
          ·rw [if_neg c12] at H
           exact absurd H (by simp)
         ·rw [if_neg c10] at H
          exact absurd H (by simp)
        ·rw [if_neg c9] at H
         exact absurd H (by simp)
       ·rw [if_neg c7] at H
        exact absurd H (by simp)
      ·rw [if_neg c6] at H
       exact absurd H (by simp)
     ·replace c5 := Bool.eq_false_iff.mpr c5
      subst c5
      rw [if_neg (show ¬ (false = true) by decide)] at H
      obtain rfl := Option.some.inj H
      go_wp2
      go_ret
      exact ⟨_, qe, qR HO_3, qB HB⟩

end Go.Proofs.Ytgblcbgkkfipoaa.XFnCuts
