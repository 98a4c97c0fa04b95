/- Written by xprint.py, a program of this session, out of the translation: what Go functions compute, as Lean functions, proved over the program. -/
import Derived.Test.YtgblcbgkkfipoaaXFnCutsx0
import Derived.Test.YtgblcbgkkfipoaaXFnCutsx4
import Derived.Test.YtgblcbgkkfipoaaXFnCutsx5
import Derived.Test.YtgblcbgkkfipoaaXFnCutsx6
import Derived.Test.YtgblcbgkkfipoaaWQuick
namespace Go.Proofs.Ytgblcbgkkfipoaa.XFnCuts
open Go.RowKit Go.Proofs.YtgblcbgkkfipoaaW.PrintWords Go.Proofs.YtgblcbgkkfipoaaW.PrintLast Go.Proofs.YtgblcbgkkfipoaaW.PrintMore
attribute [local go_sem] max2_int min2_int max_two min_two max_three min_three max_four min_four   -- for this text's walks alone
set_option linter.unusedVariables false
set_option linter.unusedSimpArgs false

/-! ### impl_recovered: function 133 -/
mutual
def impl_recovered.l0 : Nat → List Int → List (S61) → Int → Option ((List (S61)))
 | 0, _, _, _ => none
 | k + 1, x0, x3, x4 => if x4 < 40 then (impl_recovered.j1 k x0 x3 x4 (decide ((wrap64 ((wrap64 (5 * x4)) + 5)) ≤ (x0.length : Int)))) else (impl_recovered.j1 k x0 x3 x4 false)
def impl_recovered.j1 : Nat → List Int → List (S61) → Int → Bool → Option ((List (S61)))
 | 0, _, _, _, _ => none
 | k + 1, x0, x3, x4, x17 => if x17 = true then (if 0 ≤ (wrap64 (5 * x4)) then (if (wrap64 (5 * x4)) ≤ (wrap64 ((wrap64 (5 * x4)) + 5)) then (if (wrap64 ((wrap64 (5 * x4)) + 5)) ≤ (x0.length : Int) then (if 0 < (((x0.take ((wrap64 ((wrap64 (5 * x4)) + 5)) : Int).toNat).drop ((wrap64 (5 * x4)) : Int).toNat).length : Int) then (if 1 < (((x0.take ((wrap64 ((wrap64 (5 * x4)) + 5)) : Int).toNat).drop ((wrap64 (5 * x4)) : Int).toNat).length : Int) then (if 2 < (((x0.take ((wrap64 ((wrap64 (5 * x4)) + 5)) : Int).toNat).drop ((wrap64 (5 * x4)) : Int).toNat).length : Int) then ((impl_IsJournalRecord.f (rd ((x0.take ((wrap64 ((wrap64 (5 * x4)) + 5)) : Int).toNat).drop ((wrap64 (5 * x4)) : Int).toNat) 0) (rd ((x0.take ((wrap64 ((wrap64 (5 * x4)) + 5)) : Int).toNat).drop ((wrap64 (5 * x4)) : Int).toNat) 1) (rd ((x0.take ((wrap64 ((wrap64 (5 * x4)) + 5)) : Int).toNat).drop ((wrap64 (5 * x4)) : Int).toNat) 2)).bind fun t322 => (if t322 = true then ((impl_recordNumbers.f (rd ((x0.take ((wrap64 ((wrap64 (5 * x4)) + 5)) : Int).toNat).drop ((wrap64 (5 * x4)) : Int).toNat) 0) (rd ((x0.take ((wrap64 ((wrap64 (5 * x4)) + 5)) : Int).toNat).drop ((wrap64 (5 * x4)) : Int).toNat) 1) (rd ((x0.take ((wrap64 ((wrap64 (5 * x4)) + 5)) : Int).toNat).drop ((wrap64 (5 * x4)) : Int).toNat) 2) x4).bind fun t323 => ((slices_Equal_int_int.f k t323 ((x0.take ((wrap64 ((wrap64 (5 * x4)) + 5)) : Int).toNat).drop ((wrap64 (5 * x4)) : Int).toNat)).bind fun t326 => (if t326 = true then (if x3.length < 5864062014805 then (impl_recovered.l0 k x0 (x3 ++ [(⟨rd ((x0.take ((wrap64 ((wrap64 (5 * x4)) + 5)) : Int).toNat).drop ((wrap64 (5 * x4)) : Int).toNat) 0, rd ((x0.take ((wrap64 ((wrap64 (5 * x4)) + 5)) : Int).toNat).drop ((wrap64 (5 * x4)) : Int).toNat) 1, rd ((x0.take ((wrap64 ((wrap64 (5 * x4)) + 5)) : Int).toNat).drop ((wrap64 (5 * x4)) : Int).toNat) 2⟩ : S61)]) (wrap64 (x4 + 1))) else (none)) else (some x3)))) else (some x3))) else (none)) else (none)) else (none)) else (none)) else (none)) else (none)) else (some x3)
end
def impl_recovered.f (k : Nat) (l0 : List Int) : Option ((List (S61))) := impl_recovered.l0 k l0 (([] : List (S61))) 0
theorem impl_recovered.mono_l : ∀ k, (∀ y0 y1 y2, LeO (impl_recovered.l0 k y0 y1 y2) (impl_recovered.l0 (k + 1) y0 y1 y2)) ∧ (∀ y0 y1 y2 y3, LeO (impl_recovered.j1 k y0 y1 y2 y3) (impl_recovered.j1 (k + 1) y0 y1 y2 y3))
 | 0 => ⟨fun _ _ _ r h => by simp [impl_recovered.l0] at h, fun _ _ _ _ r h => by simp [impl_recovered.j1] at h⟩
 | k + 1 => by
  obtain ⟨ih0, ih1⟩ := impl_recovered.mono_l k
  refine ⟨?_, ?_⟩
  ·intro y0 y1 y2
   unfold impl_recovered.l0
   repeat' first | (with_reducible first | exact ih0 _ _ _ | exact ih1 _ _ _ _ | exact slices_Equal_int_int.mono _ _ _ | exact LeO.refl _ | exact LeO.none _ | refine LeO.ite ?_ ?_ | refine LeO.bind ?_ (fun _ => ?_)) | exact ih0 _ _ _ | exact ih1 _ _ _ _ | exact slices_Equal_int_int.mono _ _ _ | exact LeO.none _ | refine LeO.ite ?_ ?_ | refine LeO.bind ?_ (fun _ => ?_)
  ·intro y0 y1 y2 y3
   unfold impl_recovered.j1
   repeat' first | (with_reducible first | exact ih0 _ _ _ | exact ih1 _ _ _ _ | exact slices_Equal_int_int.mono _ _ _ | exact LeO.refl _ | exact LeO.none _ | refine LeO.ite ?_ ?_ | refine LeO.bind ?_ (fun _ => ?_)) | exact ih0 _ _ _ | exact ih1 _ _ _ _ | exact slices_Equal_int_int.mono _ _ _ | exact LeO.none _ | refine LeO.ite ?_ ?_ | refine LeO.bind ?_ (fun _ => ?_)
theorem impl_recovered.mono : ∀ a0 k, LeO (impl_recovered.f k a0) (impl_recovered.f (k + 1) a0) := by
 intro a0 k
 obtain ⟨ih0, ih1⟩ := impl_recovered.mono_l k
 unfold impl_recovered.f
 repeat' first | (with_reducible first | exact ih0 _ _ _ | exact ih1 _ _ _ _ | exact slices_Equal_int_int.mono _ _ _ | exact LeO.refl _ | exact LeO.none _ | refine LeO.ite ?_ ?_ | refine LeO.bind ?_ (fun _ => ?_)) | exact ih0 _ _ _ | exact ih1 _ _ _ _ | exact slices_Equal_int_int.mono _ _ _ | exact LeO.none _ | refine LeO.ite ?_ ?_ | refine LeO.bind ?_ (fun _ => ?_)
def impl_recovered.T6 : Bool × List (List Nat × List Nat) := (true, [([], []), ([0], [0]), ([1], [1]), ([], []), ([3], [3]), ([4], [4]), ([], []), ([6], [6]), ([7], [7]), ([2, 5, 8], [2, 5, 8]), ([], []), ([10, 9, 0, 1, 2, 3, 4, 5, 6, 7, 8, 9, 10], [9, 10])])
def impl_recovered.B6 : List Nat := [0, 1, 3, 0, 8, 24, 0, 64, 192, 511, 0, 2047]
theorem impl_recovered.tab6 : rtab .any (opsOf Try.f133 6) = impl_recovered.T6 := by kernel_rfl
theorem impl_recovered.bits6 : waitsOk impl_recovered.T6.2 impl_recovered.B6 = true := by kernel_rfl
set_option maxHeartbeats 8000000 in
set_option maxRecDepth 100000 in
theorem impl_recovered.calls (k : Nat) (A0 : Option Addr) (c0 : Nat) (l0 : List Int) (r : List (S61)) (w : World) (hr0 : Kd.C (Kd.int .i64) w A0 l0.length l0) (hc0 : l0.length ≤ c0) (h : impl_recovered.f k l0 = some r) :
  Calls Try.prog 133 #[.slice A0 l0.length c0] w fun e w' => ∃ v0_ : Value, e = .returned (v0_) ∧ Kd.R k61 61 w' w.heap.size (fun _ => True) v0_ r ∧ Below w.heap.size w w' := by
 have hu61 := Try.underlying61
 have HR0 := Aside0.mk hr0
 have HC0 := Aside0.mk hc0
 clear hr0 hc0
 have HB := Aside0.mk (Below.refl w.heap.size w)
 have H : (impl_recovered.l0 k l0 (([] : List (S61))) 0) = some r := h
 clear h
 obtain ⟨y314, hy314⟩ : ∃ y_ : List (S61), y_ = (([] : List (S61))) := ⟨_, rfl⟩
 replace H : (impl_recovered.l0 k l0 y314 0) = some r := by first | (rw [hy314]; with_reducible exact H) | (have H2_ := (Option.bind_some _ _).symm.trans H; rw [hy314]; with_reducible exact H2_) | (have H2_ := (Option.bind_some _ _).symm.trans H; with_reducible exact H2_) | with_reducible exact H | (rw [hy314]; exact H) | exact H
 have Ny314 := Aside0.mk hy314
 clear hy314
 have H' := Aside0.mk H
 clear H
 go_enter Try.func133, Try.ntmps133
 go_wp2_with (first | ((with_reducible refine gate_dst (N := 7) rfl ?_); (try (refine gate_guard (by rfl) ?_; dsimp only)); refine Kd.R_lit k61 _ 61 ?hg (N := 7) ?hd (xs := ([] : List (S61))) (inner := []) (ok := fun _ => True) (okp := fun _ => True) ?hr ?hp (fun _ hk => hk) trivial (Below.refl _ _) (Nat.le_refl _) (by simp) ?_; (case hd => rfl); (case hg => rfl); (case hr => first | (go_simp; done) | (go_simp; rfl)); (case hp => exact (Reps.none _ _)); intro v315 w2 ho3 hb hg_ hnew_; clear hg_ hnew_; (first | rw [← Ny314.out] at ho3 | (simp only [Int.reduceToNat] at ho3; rw [← Ny314.out] at ho3)); have n0_ := Aside0.mk (Kd.R_lower ho3 (below_size (qB HB))); have n1_ := Aside0.mk (below_step (qB HB) hb); clear HB; have HO316 := n0_; have HB := n1_; clear n0_ n1_; clear hb ho3))
 go_loopg [3, 4] k (fun kq v3 v4 w' => ∃ (x3_1 : List (S61)) (x4_1 : Int), v4 = .int .i64 x4_1 ∧ Aside0 (impl_recovered.l0 kq l0 x3_1 x4_1 = some r) ∧ Aside0 (kq ≤ k) ∧ Aside0 (Kd.R k61 61 w' w.heap.size (fun _ => True) v3 x3_1) ∧ Aside0 (Below w.heap.size w w'))
 case atStart => exact ⟨(y314), (0), qs, H', ⟨Nat.le_refl _⟩, ⟨qR HO316⟩, ⟨qB HB⟩⟩
 case round =>
  clear H'
  try clear c1
  try clear p2
  obtain ⟨x3_1, x4_1, rfl, HA, HK1, HO_3, HB⟩ := hrel
  cases gk with
  | zero => exact absurd HA.out (by simp [impl_recovered.l0])
  | succ k1 =>
   have H := HA.out
   clear HA
   simp only [impl_recovered.l0] at H
   have HC4 := Aside0.mk H
   clear H
   go_upto_region 3 with (fail)
   go_cut [17] (fun v17 wc => ∃ (kq : Nat) (x17_3 : Bool), v17 = .bool x17_3 ∧ Aside0 (impl_recovered.j1 kq l0 x3_1 x4_1 x17_3 = some r) ∧ Aside0 (kq ≤ k1) ∧ Aside0 (Kd.R k61 61 wc w.heap.size (fun _ => True) u3 x3_1) ∧ Aside0 (Below w.heap.size w wc))
   case first =>
    have H := HC4.out
    clear HC4
    by_cases c5 : x4_1 < 40
    ·rw [if_pos c5] at H
     have c5b0 : decide (x4_1 < 40) = true := decide_eq_true c5
     clear c5
     (first | rw [c5b0] | (simp only [i64_w, i32_w]; rw [c5b0]) | skip)
     have H' := Aside0.mk H
     clear H
     go_wp2
     go_meet
     case rel => exact ⟨_, (decide ((wrap64 ((wrap64 (5 * x4_1)) + 5)) ≤ (l0.length : Int))), qs, H', ⟨by have := HK1.out; first | omega | exact Nat.le_refl _⟩, ⟨qR HO_3⟩, ⟨qB HB⟩⟩
    ·rw [if_neg c5] at H
     have c5b0 : decide (x4_1 < 40) = false := decide_eq_false c5
     clear c5
     (first | rw [c5b0] | (simp only [i64_w, i32_w]; rw [c5b0]) | skip)
     have H' := Aside0.mk H
     clear H
     go_wp2
     go_meet
     case rel => exact ⟨_, (false), qs, H', ⟨by have := HK1.out; first | omega | exact Nat.le_refl _⟩, ⟨qR HO_3⟩, ⟨qB HB⟩⟩
   case rest =>
    clear HC4
    try clear c1
    try clear p2
    try clear c5
    try clear c5b0
    try clear p2
    obtain ⟨kq, x17_3, rfl, HA, HJ3, HO_3, HB⟩ := hcut
    cases kq with
    | zero => exact absurd HA.out (by simp [impl_recovered.j1])
    | succ kj3 =>
     have H := HA.out
     clear HA
     simp only [impl_recovered.j1] at H
     by_cases c6 : x17_3 = true
     ·subst c6
      rw [if_pos rfl] at H
      obtain ⟨ji7, hji7⟩ : ∃ j_ : Int, (wrap64 (5 * x4_1)) = j_ := ⟨_, rfl⟩
      replace H : (if 0 ≤ (ji7) then (if (ji7) ≤ (wrap64 ((ji7) + 5)) then (if (wrap64 ((ji7) + 5)) ≤ (l0.length : Int) then (if 0 < (((l0.take ((wrap64 ((ji7) + 5)) : Int).toNat).drop ((ji7) : Int).toNat).length : Int) then (if 1 < (((l0.take ((wrap64 ((ji7) + 5)) : Int).toNat).drop ((ji7) : Int).toNat).length : Int) then (if 2 < (((l0.take ((wrap64 ((ji7) + 5)) : Int).toNat).drop ((ji7) : Int).toNat).length : Int) then ((impl_IsJournalRecord.f (rd ((l0.take ((wrap64 ((ji7) + 5)) : Int).toNat).drop ((ji7) : Int).toNat) 0) (rd ((l0.take ((wrap64 ((ji7) + 5)) : Int).toNat).drop ((ji7) : Int).toNat) 1) (rd ((l0.take ((wrap64 ((ji7) + 5)) : Int).toNat).drop ((ji7) : Int).toNat) 2)).bind fun t322 => (if t322 = true then ((impl_recordNumbers.f (rd ((l0.take ((wrap64 ((ji7) + 5)) : Int).toNat).drop ((ji7) : Int).toNat) 0) (rd ((l0.take ((wrap64 ((ji7) + 5)) : Int).toNat).drop ((ji7) : Int).toNat) 1) (rd ((l0.take ((wrap64 ((ji7) + 5)) : Int).toNat).drop ((ji7) : Int).toNat) 2) x4_1).bind fun t323 => ((slices_Equal_int_int.f kj3 t323 ((l0.take ((wrap64 ((ji7) + 5)) : Int).toNat).drop ((ji7) : Int).toNat)).bind fun t326 => (if t326 = true then (if x3_1.length < 5864062014805 then (impl_recovered.l0 kj3 l0 (x3_1 ++ [(⟨rd ((l0.take ((wrap64 ((ji7) + 5)) : Int).toNat).drop ((ji7) : Int).toNat) 0, rd ((l0.take ((wrap64 ((ji7) + 5)) : Int).toNat).drop ((ji7) : Int).toNat) 1, rd ((l0.take ((wrap64 ((ji7) + 5)) : Int).toNat).drop ((ji7) : Int).toNat) 2⟩ : S61)]) (wrap64 (x4_1 + 1))) else (none)) else (some x3_1)))) else (some x3_1))) else (none)) else (none)) else (none)) else (none)) else (none)) else (none)) = some r := by first | (rw [hji7] at H; exact H) | (simp only [hji7] at H ⊢; exact H)
      have hji7w : (IntKind.i64.wrap (5 * x4_1)) = ji7 := (i64_w _).trans hji7
      by_cases c8 : 0 ≤ (ji7)
      ·rw [if_pos c8] at H
       have c8b0 := eq_true c8
       have c8b1 : decide (0 ≤ (ji7)) = true := decide_eq_true c8
       clear c8
       by_cases c9 : (ji7) ≤ (wrap64 ((ji7) + 5))
       ·rw [if_pos c9] at H
        have c9b0 := eq_true c9
        have c9b1 : decide ((ji7) ≤ (wrap64 ((ji7) + 5))) = true := decide_eq_true c9
        by_cases c10 : (wrap64 ((ji7) + 5)) ≤ (l0.length : Int)
        ·rw [if_pos c10] at H
         have c10b0 := eq_true c10
         have c10b1 : decide ((wrap64 ((ji7) + 5)) ≤ (l0.length : Int)) = true := decide_eq_true c10
         by_cases c11 : 0 < (((l0.take ((wrap64 ((ji7) + 5)) : Int).toNat).drop ((ji7) : Int).toNat).length : Int)
         ·rw [if_pos c11] at H
          have c11b0 : decide (0 < (((l0.take ((wrap64 ((ji7) + 5)) : Int).toNat).drop ((ji7) : Int).toNat).length : Int)) = true := decide_eq_true c11
          have c11b1 : decide (0 < ((l0.take ((wrap64 ((ji7) + 5)) : Int).toNat).drop ((ji7) : Int).toNat).length) = true := decide_eq_true (by omega)
          clear c11
          by_cases c12 : 1 < (((l0.take ((wrap64 ((ji7) + 5)) : Int).toNat).drop ((ji7) : Int).toNat).length : Int)
          ·rw [if_pos c12] at H
           have c12b0 : decide (1 < (((l0.take ((wrap64 ((ji7) + 5)) : Int).toNat).drop ((ji7) : Int).toNat).length : Int)) = true := decide_eq_true c12
           have c12b1 : decide (1 < ((l0.take ((wrap64 ((ji7) + 5)) : Int).toNat).drop ((ji7) : Int).toNat).length) = true := decide_eq_true (by omega)
           clear c12
           by_cases c13 : 2 < (((l0.take ((wrap64 ((ji7) + 5)) : Int).toNat).drop ((ji7) : Int).toNat).length : Int)
           ·rw [if_pos c13] at H
            have c13b0 : decide (2 < (((l0.take ((wrap64 ((ji7) + 5)) : Int).toNat).drop ((ji7) : Int).toNat).length : Int)) = true := decide_eq_true c13
            have c13b1 : decide (2 < ((l0.take ((wrap64 ((ji7) + 5)) : Int).toNat).drop ((ji7) : Int).toNat).length) = true := decide_eq_true (by omega)
            clear c13
            replace H := Option.bind_eq_some_iff.mp H
            obtain ⟨t322, A140, H⟩ := H
            replace H : (if t322 = true then ((impl_recordNumbers.f (rd ((l0.take ((wrap64 ((ji7) + 5)) : Int).toNat).drop ((ji7) : Int).toNat) 0) (rd ((l0.take ((wrap64 ((ji7) + 5)) : Int).toNat).drop ((ji7) : Int).toNat) 1) (rd ((l0.take ((wrap64 ((ji7) + 5)) : Int).toNat).drop ((ji7) : Int).toNat) 2) x4_1).bind fun t323 => ((slices_Equal_int_int.f kj3 t323 ((l0.take ((wrap64 ((ji7) + 5)) : Int).toNat).drop ((ji7) : Int).toNat)).bind fun t326 => (if t326 = true then (if x3_1.length < 5864062014805 then (impl_recovered.l0 kj3 l0 (x3_1 ++ [(⟨rd ((l0.take ((wrap64 ((ji7) + 5)) : Int).toNat).drop ((ji7) : Int).toNat) 0, rd ((l0.take ((wrap64 ((ji7) + 5)) : Int).toNat).drop ((ji7) : Int).toNat) 1, rd ((l0.take ((wrap64 ((ji7) + 5)) : Int).toNat).drop ((ji7) : Int).toNat) 2⟩ : S61)]) (wrap64 (x4_1 + 1))) else (none)) else (some x3_1)))) else (some x3_1)) = some r := H
            have A14 := Aside0.mk A140
            clear A140
            by_cases c15 : t322 = true
            ·subst c15
             rw [if_pos rfl] at H
             replace H := Option.bind_eq_some_iff.mp H
             obtain ⟨t323, A160, H⟩ := H
             replace H : ((slices_Equal_int_int.f kj3 t323 ((l0.take ((wrap64 ((ji7) + 5)) : Int).toNat).drop ((ji7) : Int).toNat)).bind fun t326 => (if t326 = true then (if x3_1.length < 5864062014805 then (impl_recovered.l0 kj3 l0 (x3_1 ++ [(⟨rd ((l0.take ((wrap64 ((ji7) + 5)) : Int).toNat).drop ((ji7) : Int).toNat) 0, rd ((l0.take ((wrap64 ((ji7) + 5)) : Int).toNat).drop ((ji7) : Int).toNat) 1, rd ((l0.take ((wrap64 ((ji7) + 5)) : Int).toNat).drop ((ji7) : Int).toNat) 2⟩ : S61)]) (wrap64 (x4_1 + 1))) else (none)) else (some x3_1))) = some r := H
             have A16 := Aside0.mk A160
             clear A160
             replace H := Option.bind_eq_some_iff.mp H
             obtain ⟨t326, A170, H⟩ := H
             replace H : (if t326 = true then (if x3_1.length < 5864062014805 then (impl_recovered.l0 kj3 l0 (x3_1 ++ [(⟨rd ((l0.take ((wrap64 ((ji7) + 5)) : Int).toNat).drop ((ji7) : Int).toNat) 0, rd ((l0.take ((wrap64 ((ji7) + 5)) : Int).toNat).drop ((ji7) : Int).toNat) 1, rd ((l0.take ((wrap64 ((ji7) + 5)) : Int).toNat).drop ((ji7) : Int).toNat) 2⟩ : S61)]) (wrap64 (x4_1 + 1))) else (none)) else (some x3_1)) = some r := H
             have A17 := Aside0.mk A170
             clear A170
             by_cases c18 : t326 = true
             ·subst c18
              rw [if_pos rfl] at H
              by_cases c19 : x3_1.length < 5864062014805
              ·rw [if_pos c19] at H
               have LMc19 := Aside0.mk c19
               clear c19
               obtain ⟨y327, hy327⟩ : ∃ y_ : List (S61), y_ = (x3_1 ++ [(⟨rd ((l0.take ((wrap64 ((ji7) + 5)) : Int).toNat).drop ((ji7) : Int).toNat) 0, rd ((l0.take ((wrap64 ((ji7) + 5)) : Int).toNat).drop ((ji7) : Int).toNat) 1, rd ((l0.take ((wrap64 ((ji7) + 5)) : Int).toNat).drop ((ji7) : Int).toNat) 2⟩ : S61)]) := ⟨_, rfl⟩
               replace H : (impl_recovered.l0 kj3 l0 y327 (wrap64 (x4_1 + 1))) = some r := by first | (rw [hy327]; with_reducible exact H) | (have H2_ := (Option.bind_some _ _).symm.trans H; rw [hy327]; with_reducible exact H2_) | (have H2_ := (Option.bind_some _ _).symm.trans H; with_reducible exact H2_) | with_reducible exact H | (rw [hy327]; exact H) | exact H
               have Ny327 := Aside0.mk hy327
               clear hy327
               have H' := Aside0.mk H
               clear H
               obtain ⟨i020, hi020, _, hsz20, _⟩ := info_parts info3
               obtain ⟨A20, hcut20, hA20, hC20⟩ := print_mid_of (P := Try.prog) (Value.int .i64) 0 23 3 .i64 .i64 Try.underlying23 hi020 hsz20 A0 c0 l0 (ji7) (wrap64 ((ji7) + 5)) (of_decide_eq_true qa) (by first | omega | exact of_decide_eq_true qa) (of_decide_eq_true qa) HC0.out
               have hz20 : Aside0 (((wrap64 ((ji7) + 5)) : Int).toNat - ((ji7) : Int).toNat = ((l0.take ((wrap64 ((ji7) + 5)) : Int).toNat).drop ((ji7) : Int).toNat).length) := ⟨by have h_ : (wrap64 ((ji7) + 5)) ≤ (l0.length : Int) := of_decide_eq_true qa; simp only [List.length_drop, List.length_take]; omega⟩
               have HR317 := Aside0.mk (Kd.C_of_reads (h1 := fun _ => rfl) (hA20 _ (Kd.reads_of_C HR0.out)))
               have HC317 := Aside0.mk hC20
               clear hA20 hC20 hi020 hsz20
               try go_wp2
               have n0_ := Aside0.mk (Kd.R_drew HO_3.out)
               have n1_ := Aside0.mk (below_drew1 HB.out)
               clear HO_3
               clear HB
               have HO_3 := n0_
               have HB := n1_
               clear n0_ n1_
               have p318 : 0 ≤ (0 : Int) := (by omega)
               have q318 : 0 < (((l0.take ((wrap64 ((ji7) + 5)) : Int).toNat).drop ((ji7) : Int).toNat).length : Int) := of_decide_eq_true qa
               obtain ⟨ad318, e318, hx318_0⟩ := Kd.at_int HR317.out 0 p318 q318
               have hw318_0 := hx318_0
               (try rw [show ((0 : Int)).toNat = 0 from rfl] at hw318_0)
               (try rw [show 0 * 1 = 0 from rfl] at hw318_0)
               (try rw [Addr.add_zero'] at hw318_0)
               cases e318
               have qi318 : (0 < ((l0.take ((wrap64 ((ji7) + 5)) : Int).toNat).drop ((ji7) : Int).toNat).length) = True := eq_true (by omega)
               have qj318 : (0 < ((wrap64 ((ji7) + 5)) : Int).toNat - ((ji7) : Int).toNat) = True := eq_true (by have h_ := q318; simp only [List.length_drop, List.length_take] at h_; omega)
               have qk318 : ((0 : Int) < ((((wrap64 ((ji7) + 5)) : Int).toNat - ((ji7) : Int).toNat : Nat) : Int)) = True := eq_true (by have h_ := of_eq_true qj318; omega)
               (try rw [show ((0 : Int)).toNat = 0 from rfl] at hx318_0)
               (try rw [Addr.add_zero'] at hx318_0)
               replace hx318_0 := (HB.out.cell (World.block_lt_of_cell? w _ hx318_0)).trans hx318_0
               replace p318 := eq_true p318
               replace q318 := eq_true q318
               have p319 : 0 ≤ (1 : Int) := (by omega)
               have q319 : 1 < (((l0.take ((wrap64 ((ji7) + 5)) : Int).toNat).drop ((ji7) : Int).toNat).length : Int) := of_decide_eq_true qa
               obtain ⟨ad319, e319, hx319_0⟩ := Kd.at_int HR317.out 1 p319 q319
               have hw319_0 := hx319_0
               (try rw [show ((1 : Int)).toNat = 1 from rfl] at hw319_0)
               (try rw [show 1 * 1 = 1 from rfl] at hw319_0)
               (try simp only [Nat.reduceMul, Nat.reduceEqDiff, Go.Addr.add, ↓reduceIte] at hw319_0)
               obtain rfl : ad318 = ad319 := (by injection e319)
               (try simp only [show (1 : Int).toNat = 1 from rfl, Nat.reduceMul, Nat.reduceEqDiff, Go.Addr.add, ↓reduceIte] at hx319_0)
               have qi319 : (1 < ((l0.take ((wrap64 ((ji7) + 5)) : Int).toNat).drop ((ji7) : Int).toNat).length) = True := eq_true (by omega)
               have qj319 : (1 < ((wrap64 ((ji7) + 5)) : Int).toNat - ((ji7) : Int).toNat) = True := eq_true (by have h_ := q319; simp only [List.length_drop, List.length_take] at h_; omega)
               have qk319 : ((1 : Int) < ((((wrap64 ((ji7) + 5)) : Int).toNat - ((ji7) : Int).toNat : Nat) : Int)) = True := eq_true (by have h_ := of_eq_true qj319; omega)
               (try rw [show ((1 : Int)).toNat = 1 from rfl] at hx319_0)
               replace hx319_0 := (HB.out.cell (World.block_lt_of_cell? w _ hx319_0)).trans hx319_0
               replace p319 := eq_true p319
               replace q319 := eq_true q319
               have p320 : 0 ≤ (2 : Int) := (by omega)
               have q320 : 2 < (((l0.take ((wrap64 ((ji7) + 5)) : Int).toNat).drop ((ji7) : Int).toNat).length : Int) := of_decide_eq_true qa
               obtain ⟨ad320, e320, hx320_0⟩ := Kd.at_int HR317.out 2 p320 q320
               have hw320_0 := hx320_0
               (try rw [show ((2 : Int)).toNat = 2 from rfl] at hw320_0)
               (try rw [show 2 * 1 = 2 from rfl] at hw320_0)
               (try simp only [Nat.reduceMul, Nat.reduceEqDiff, Go.Addr.add, ↓reduceIte] at hw320_0)
               obtain rfl : ad318 = ad320 := (by injection e320)
               (try simp only [show (2 : Int).toNat = 2 from rfl, Nat.reduceMul, Nat.reduceEqDiff, Go.Addr.add, ↓reduceIte] at hx320_0)
               have qi320 : (2 < ((l0.take ((wrap64 ((ji7) + 5)) : Int).toNat).drop ((ji7) : Int).toNat).length) = True := eq_true (by omega)
               have qj320 : (2 < ((wrap64 ((ji7) + 5)) : Int).toNat - ((ji7) : Int).toNat) = True := eq_true (by have h_ := q320; simp only [List.length_drop, List.length_take] at h_; omega)
               have qk320 : ((2 : Int) < ((((wrap64 ((ji7) + 5)) : Int).toNat - ((ji7) : Int).toNat : Nat) : Int)) = True := eq_true (by have h_ := of_eq_true qj320; omega)
               (try rw [show ((2 : Int)).toNat = 2 from rfl] at hx320_0)
               replace hx320_0 := (HB.out.cell (World.block_lt_of_cell? w _ hx320_0)).trans hx320_0
               replace p320 := eq_true p320
               replace q320 := eq_true q320
               refine start_ (n := 12) (S := fun w' => w'.cell? ad318 = some (.int .i64 (rd ((l0.take ((wrap64 ((ji7) + 5)) : Int).toNat).drop ((ji7) : Int).toNat) 0)) ∧ w'.cell? ⟨ad318.block, ad318.off + 1, none⟩ = some (.int .i64 (rd ((l0.take ((wrap64 ((ji7) + 5)) : Int).toNat).drop ((ji7) : Int).toNat) 1)) ∧ w'.cell? ⟨ad318.block, ad318.off + 2, none⟩ = some (.int .i64 (rd ((l0.take ((wrap64 ((ji7) + 5)) : Int).toNat).drop ((ji7) : Int).toNat) 2))) (ds := []) (Array.replicate 12 false) (by kernel_rfl) rfl rfl ⟨((HB.out.cell (World.block_lt_of_cell? w _ hw318_0)).trans hw318_0), ((HB.out.cell (World.block_lt_of_cell? w _ hw319_0)).trans hw319_0), ((HB.out.cell (World.block_lt_of_cell? w _ hw320_0)).trans hw320_0)⟩ (fun hHeld => ?_); refine with_tabW impl_recovered.tab6 impl_recovered.bits6 (fun HT_ HW_ => ?_)
               generalize wc.drew = w21 at HO_3 HB hx318_0 hx319_0 hx320_0 hHeld ⊢
               refine pure_ (i := 0) (N := some 27) (v := ?_) (a' := ?_) (bq 12 1) rfl rfl (qn HT_) (fun _ _ _ h => h) (Or.inl ⟨by rfl, ?_⟩) ?_ ?_; rotate_left; focus (intro w'; go_simp; with_reducible rfl)
               rotate_left; focus (simp only [Act.put, List.setIfInBounds_toArray, List.set_cons_zero, List.set_cons_succ, i64_w, i32_w]; rfl)
               refine pure_ (i := 1) (N := some 28) (v := ?_) (a' := ?_) (bq 12 3) rfl rfl (qn HT_) (fun _ _ _ h => h) (Or.inl ⟨by rfl, ?_⟩) ?_ ?_; rotate_left; focus (intro w'; go_simp; with_reducible rfl)
               rotate_left; focus (simp only [Act.put, List.setIfInBounds_toArray, List.set_cons_zero, List.set_cons_succ, i64_w, i32_w]; rfl)
               refine pure_ (i := 3) (N := some 30) (v := ?_) (a' := ?_) (bq 12 11) rfl rfl (qn HT_) (fun _ _ _ h => h) (Or.inl ⟨by rfl, ?_⟩) ?_ ?_; rotate_left; focus (intro w'; go_simp; with_reducible rfl)
               rotate_left; focus (simp only [Act.put, List.setIfInBounds_toArray, List.set_cons_zero, List.set_cons_succ, i64_w, i32_w]; rfl)
               refine pure_ (i := 4) (N := some 31) (v := ?_) (a' := ?_) (bq 12 27) rfl rfl (qn HT_) (fun _ _ _ h => h) (Or.inl ⟨by rfl, ?_⟩) ?_ ?_; rotate_left; focus (intro w'; go_simp; with_reducible rfl)
               rotate_left; focus (simp only [Act.put, List.setIfInBounds_toArray, List.set_cons_zero, List.set_cons_succ, i64_w, i32_w]; rfl)
               refine pure_ (i := 6) (N := some 33) (v := ?_) (a' := ?_) (bq 12 91) rfl rfl (qn HT_) (fun _ _ _ h => h) (Or.inl ⟨by rfl, ?_⟩) ?_ ?_; rotate_left; focus (intro w'; go_simp; with_reducible rfl)
               rotate_left; focus (simp only [Act.put, List.setIfInBounds_toArray, List.set_cons_zero, List.set_cons_succ, i64_w, i32_w]; rfl)
               refine pure_ (i := 7) (N := some 34) (v := ?_) (a' := ?_) (bq 12 219) rfl rfl (qn HT_) (fun _ _ _ h => h) (Or.inl ⟨by rfl, ?_⟩) ?_ ?_; rotate_left; focus (intro w'; go_simp; with_reducible rfl)
               rotate_left; focus (simp only [Act.put, List.setIfInBounds_toArray, List.set_cons_zero, List.set_cons_succ, i64_w, i32_w]; rfl)
               refine take_ (i := 2) (N := some 29) (v := ?_) (a' := ?_) (bq 12 223) rfl rfl (take_ofW HT_.out HW_.out (by kernel_rfl)) (fun _ _ _ h => h) (Or.inl ⟨by rfl, ?_⟩) hHeld ?_ ?_
               rotate_left
               ·rintro w' ⟨s0, s1, s2⟩
                go_simp
                with_reducible rfl
               rotate_left
               ·simp only [Act.put, List.setIfInBounds_toArray, List.set_cons_zero, List.set_cons_succ, i64_w, i32_w]
                rfl
               refine take_ (i := 5) (N := some 32) (v := ?_) (a' := ?_) (bq 12 255) rfl rfl (take_ofW HT_.out HW_.out (by kernel_rfl)) (fun _ _ _ h => h) (Or.inl ⟨by rfl, ?_⟩) hHeld ?_ ?_
               rotate_left
               ·rintro w' ⟨s0, s1, s2⟩
                go_simp
                with_reducible rfl
               rotate_left
               ·simp only [Act.put, List.setIfInBounds_toArray, List.set_cons_zero, List.set_cons_succ, i64_w, i32_w]
                rfl
               refine take_ (i := 8) (N := some 35) (v := ?_) (a' := ?_) (bq 12 511) rfl rfl (take_ofW HT_.out HW_.out (by kernel_rfl)) (fun _ _ _ h => h) (Or.inl ⟨by rfl, ?_⟩) hHeld ?_ ?_
               rotate_left
               ·rintro w' ⟨s0, s1, s2⟩
                go_simp
                with_reducible rfl
               rotate_left
               ·simp only [Act.put, List.setIfInBounds_toArray, List.set_cons_zero, List.set_cons_succ, i64_w, i32_w]
                rfl
               refine pure_ (i := 9) (N := some 36) (v := ?_) (a' := ?_) (bq 12 1023) rfl rfl (qn HT_) (fun _ _ _ h => h) (Or.inl ⟨by rfl, ?_⟩) ?_ ?_; rotate_left; focus (intro w'; go_simp; with_reducible rfl)
               rotate_left; focus (simp only [Act.put, List.setIfInBounds_toArray, List.set_cons_zero, List.set_cons_succ, i64_w, i32_w]; rfl)
               refine one_ (i := 10) (N := some 6) (bq 12 2047) rfl rfl (qo HT_) (by decide) (fun K hK => ?_)
               refine box_step ?hg (N := 6) ?hd (cs := #[.int .i64 0, .int .i64 0, .int .i64 0]) (t := 61) ?hr ?_; (case hd => rfl); (case hg => rfl); (case hr => first | (go_simp; done) | (go_simp; rfl))
               intro gb321 hg w22 hbox hb
               have n0_ := Aside0.mk (Kd.R_below (Kd.R_elderB (qR HO_3) gb321 (Nat.le_of_eq hg.symm)) hb)
               have n1_ := Aside0.mk (below_step (qB HB) hb)
               have n2_ := Aside0.mk (hbox)
               have n3_ := Aside0.mk ((by rw [hg]; exact (below_size (qB HB)) : w.heap.size ≤ gb321))
               have n4_ := Aside0.mk ((by rw [hg]; exact (below_size (qB HB)) : w.heap.size ≤ gb321))
               clear HO_3
               clear HB
               have HO_3 := n0_
               have HB := n1_
               have BK321 := n2_
               have GW321 := n3_
               have GE321 := n4_
               clear n0_ n1_ n2_ n3_ n4_
               clear hb hbox hg
               refine hK.out _ _ ⟨((HB.out.cell (World.block_lt_of_cell? w _ hw318_0)).trans hw318_0), ((HB.out.cell (World.block_lt_of_cell? w _ hw319_0)).trans hw319_0), ((HB.out.cell (World.block_lt_of_cell? w _ hw320_0)).trans hw320_0)⟩ (fun hHeld => ?_)
               clear hK K
               refine norm_ (a' := ?_) ?_ ?_
               rotate_left
               ·show Act.put _ (some 6) _ = _
                simp only [Act.put, List.setIfInBounds_toArray, List.set_cons_zero, List.set_cons_succ, i64_w, i32_w]
                rfl
               refine one_ (i := 11) (N := none) (bq 12 4095) rfl rfl (qo HT_) (by decide) (fun K hK => ?_)
               have hs23 : w22.cell? ⟨gb321, 0, none⟩ = some (.int .i64 0) := (blk_cell BK321.out 0).trans rfl
               have hfs23 := blk_frozen BK321.out 0
               have hs24 : w22.cell? ⟨gb321, 1, none⟩ = some (.int .i64 0) := (blk_cell BK321.out 1).trans rfl
               have hfs24 := blk_frozen BK321.out 1
               have hs25 : w22.cell? ⟨gb321, 2, none⟩ = some (.int .i64 0) := (blk_cell BK321.out 2).trans rfl
               have hfs25 := blk_frozen BK321.out 2
               refine skip_ (w1 := ?_) (by rfl) rfl ?_ ?_
               rotate_left
               ·go_simp
                rfl
               refine hK.out _ _ ⟨((cell_far (p := ⟨gb321, _, none⟩) (by first | exact Nat.ne_of_lt (Nat.lt_of_lt_of_le (qW hw318_0) GW321.out) | (rw [add_block]; exact Nat.ne_of_lt (Nat.lt_of_lt_of_le (qW hw318_0) GW321.out)) | (show (Addr.add _ _).block ≠ _; rw [add_block]; exact Nat.ne_of_lt (Nat.lt_of_lt_of_le (qW hw318_0) GW321.out)) | (dsimp only; exact Nat.ne_of_lt (Nat.lt_of_lt_of_le (qW hw318_0) GW321.out))) _).trans (((cell_far (p := ⟨gb321, _, none⟩) (by first | exact Nat.ne_of_lt (Nat.lt_of_lt_of_le (qW hw318_0) GW321.out) | (rw [add_block]; exact Nat.ne_of_lt (Nat.lt_of_lt_of_le (qW hw318_0) GW321.out)) | (show (Addr.add _ _).block ≠ _; rw [add_block]; exact Nat.ne_of_lt (Nat.lt_of_lt_of_le (qW hw318_0) GW321.out)) | (dsimp only; exact Nat.ne_of_lt (Nat.lt_of_lt_of_le (qW hw318_0) GW321.out))) _).trans (((cell_far (p := ⟨gb321, _, none⟩) (by first | exact Nat.ne_of_lt (Nat.lt_of_lt_of_le (qW hw318_0) GW321.out) | (rw [add_block]; exact Nat.ne_of_lt (Nat.lt_of_lt_of_le (qW hw318_0) GW321.out)) | (show (Addr.add _ _).block ≠ _; rw [add_block]; exact Nat.ne_of_lt (Nat.lt_of_lt_of_le (qW hw318_0) GW321.out)) | (dsimp only; exact Nat.ne_of_lt (Nat.lt_of_lt_of_le (qW hw318_0) GW321.out))) _).trans (hHeld.1)))))), ((cell_far (p := ⟨gb321, _, none⟩) (by first | exact Nat.ne_of_lt (Nat.lt_of_lt_of_le (qW hw319_0) GW321.out) | (rw [add_block]; exact Nat.ne_of_lt (Nat.lt_of_lt_of_le (qW hw319_0) GW321.out)) | (show (Addr.add _ _).block ≠ _; rw [add_block]; exact Nat.ne_of_lt (Nat.lt_of_lt_of_le (qW hw319_0) GW321.out)) | (dsimp only; exact Nat.ne_of_lt (Nat.lt_of_lt_of_le (qW hw319_0) GW321.out))) _).trans (((cell_far (p := ⟨gb321, _, none⟩) (by first | exact Nat.ne_of_lt (Nat.lt_of_lt_of_le (qW hw319_0) GW321.out) | (rw [add_block]; exact Nat.ne_of_lt (Nat.lt_of_lt_of_le (qW hw319_0) GW321.out)) | (show (Addr.add _ _).block ≠ _; rw [add_block]; exact Nat.ne_of_lt (Nat.lt_of_lt_of_le (qW hw319_0) GW321.out)) | (dsimp only; exact Nat.ne_of_lt (Nat.lt_of_lt_of_le (qW hw319_0) GW321.out))) _).trans (((cell_far (p := ⟨gb321, _, none⟩) (by first | exact Nat.ne_of_lt (Nat.lt_of_lt_of_le (qW hw319_0) GW321.out) | (rw [add_block]; exact Nat.ne_of_lt (Nat.lt_of_lt_of_le (qW hw319_0) GW321.out)) | (show (Addr.add _ _).block ≠ _; rw [add_block]; exact Nat.ne_of_lt (Nat.lt_of_lt_of_le (qW hw319_0) GW321.out)) | (dsimp only; exact Nat.ne_of_lt (Nat.lt_of_lt_of_le (qW hw319_0) GW321.out))) _).trans (hHeld.2.1)))))), ((cell_far (p := ⟨gb321, _, none⟩) (by first | exact Nat.ne_of_lt (Nat.lt_of_lt_of_le (qW hw320_0) GW321.out) | (rw [add_block]; exact Nat.ne_of_lt (Nat.lt_of_lt_of_le (qW hw320_0) GW321.out)) | (show (Addr.add _ _).block ≠ _; rw [add_block]; exact Nat.ne_of_lt (Nat.lt_of_lt_of_le (qW hw320_0) GW321.out)) | (dsimp only; exact Nat.ne_of_lt (Nat.lt_of_lt_of_le (qW hw320_0) GW321.out))) _).trans (((cell_far (p := ⟨gb321, _, none⟩) (by first | exact Nat.ne_of_lt (Nat.lt_of_lt_of_le (qW hw320_0) GW321.out) | (rw [add_block]; exact Nat.ne_of_lt (Nat.lt_of_lt_of_le (qW hw320_0) GW321.out)) | (show (Addr.add _ _).block ≠ _; rw [add_block]; exact Nat.ne_of_lt (Nat.lt_of_lt_of_le (qW hw320_0) GW321.out)) | (dsimp only; exact Nat.ne_of_lt (Nat.lt_of_lt_of_le (qW hw320_0) GW321.out))) _).trans (((cell_far (p := ⟨gb321, _, none⟩) (by first | exact Nat.ne_of_lt (Nat.lt_of_lt_of_le (qW hw320_0) GW321.out) | (rw [add_block]; exact Nat.ne_of_lt (Nat.lt_of_lt_of_le (qW hw320_0) GW321.out)) | (show (Addr.add _ _).block ≠ _; rw [add_block]; exact Nat.ne_of_lt (Nat.lt_of_lt_of_le (qW hw320_0) GW321.out)) | (dsimp only; exact Nat.ne_of_lt (Nat.lt_of_lt_of_le (qW hw320_0) GW321.out))) _).trans (hHeld.2.2))))))⟩ (fun hHeld => ?_)
               clear hK K
               refine done_ (done_of HT_.out (by kernel_rfl)) ?_
               have hcz26_0 : w22.cell? ⟨gb321, 0, none⟩ = some (.int .i64 0) := (blk_cell BK321.out 0).trans rfl
               have hcz26_1 : w22.cell? ⟨gb321, 1, none⟩ = some (.int .i64 0) := (blk_cell BK321.out 1).trans rfl
               have hcz26_2 : w22.cell? ⟨gb321, 2, none⟩ = some (.int .i64 0) := (blk_cell BK321.out 2).trans rfl
               have hfz26_0 := blk_frozen BK321.out 0
               have hfz26_1 := blk_frozen BK321.out 1
               have hfz26_2 := blk_frozen BK321.out 2
               try go_wp2_with (first | ((with_reducible refine gate_callee (f := 43) rfl ?_); refine goesL_ (some 38) rfl rfl Try.func43 (by kernel_rfl) rfl #[.agg #[.int .i64 (rd ((l0.take ((wrap64 ((ji7) + 5)) : Int).toNat).drop ((ji7) : Int).toNat) 0), .int .i64 (rd ((l0.take ((wrap64 ((ji7) + 5)) : Int).toNat).drop ((ji7) : Int).toNat) 1), .int .i64 (rd ((l0.take ((wrap64 ((ji7) + 5)) : Int).toNat).drop ((ji7) : Int).toNat) 2)]] rfl (by (try simp only [List.map_toArray, List.map_cons, List.map_nil]); first | done | (simp only [hji7]; rfl) | rfl | (simp only [List.length_drop, List.length_take]; rfl)) ?_; (with_reducible refine (impl_IsJournalRecord.calls (rd ((l0.take ((wrap64 ((ji7) + 5)) : Int).toNat).drop ((ji7) : Int).toNat) 0) (rd ((l0.take ((wrap64 ((ji7) + 5)) : Int).toNat).drop ((ji7) : Int).toNat) 1) (rd ((l0.take ((wrap64 ((ji7) + 5)) : Int).toNat).drop ((ji7) : Int).toNat) 2) true _ A14.out).mono ?_); rintro e w27 ⟨rfl, hb⟩; refine ⟨_, rfl, ?_⟩; have n0_ := Aside0.mk (Kd.R_below (by exact uR ((Kd.R_mono (Kd.R_far (p := ⟨gb321, 2, none⟩) (Kd.R_far (p := ⟨gb321, 1, none⟩) (Kd.R_far (p := ⟨gb321, 0, none⟩) (Kd.R_mono HO_3.out (fun k_ hk => (⟨hk, hk.2⟩ : _ ∧ k_ ≠ gb321))) (fun _ hk => hk.2) (.int .i64 (rd ((l0.take ((wrap64 ((ji7) + 5)) : Int).toNat).drop ((ji7) : Int).toNat) 0))) (fun _ hk => hk.2) (.int .i64 (rd ((l0.take ((wrap64 ((ji7) + 5)) : Int).toNat).drop ((ji7) : Int).toNat) 1))) (fun _ hk => hk.2) (.int .i64 (rd ((l0.take ((wrap64 ((ji7) + 5)) : Int).toNat).drop ((ji7) : Int).toNat) 2))) (fun _ h_ => h_.1)))) hb); have n1_ := Aside0.mk (blk_below (g := gb321) (o := .cells #[.int .i64 (rd ((l0.take ((wrap64 ((ji7) + 5)) : Int).toNat).drop ((ji7) : Int).toNat) 0), .int .i64 (rd ((l0.take ((wrap64 ((ji7) + 5)) : Int).toNat).drop ((ji7) : Int).toNat) 1), .int .i64 (rd ((l0.take ((wrap64 ((ji7) + 5)) : Int).toNat).drop ((ji7) : Int).toNat) 2)] 61 (0, 0)) (by (with_reducible repeat (first | refine blk_drewN ?_ _ | refine blk_drew ?_ | refine blk_alloc ?_ _)); refine blk_put (cs := #[.int .i64 (rd ((l0.take ((wrap64 ((ji7) + 5)) : Int).toNat).drop ((ji7) : Int).toNat) 0), .int .i64 (rd ((l0.take ((wrap64 ((ji7) + 5)) : Int).toNat).drop ((ji7) : Int).toNat) 1), .int .i64 0]) ?_ 2 _ rfl; (with_reducible repeat (first | refine blk_drewN ?_ _ | refine blk_drew ?_ | refine blk_alloc ?_ _)); refine blk_put (cs := #[.int .i64 (rd ((l0.take ((wrap64 ((ji7) + 5)) : Int).toNat).drop ((ji7) : Int).toNat) 0), .int .i64 0, .int .i64 0]) ?_ 1 _ rfl; (with_reducible repeat (first | refine blk_drewN ?_ _ | refine blk_drew ?_ | refine blk_alloc ?_ _)); refine blk_put (cs := #[.int .i64 0, .int .i64 0, .int .i64 0]) ?_ 0 _ rfl; (with_reducible repeat (first | refine blk_drewN ?_ _ | refine blk_drew ?_ | refine blk_alloc ?_ _)); exact BK321.out) hb); have n2_ := Aside0.mk (below_step (qT HB GE321) hb); clear HO_3; clear BK321; clear HB; have HO_3 := n0_; have BK321 := n1_; have HB := n2_; clear n0_ n1_ n2_; (try clear hb); (try clear hb2); (try clear hk); (try clear hi); have hcz28_0 : w27.cell? ⟨gb321, 0, none⟩ = some (.int .i64 (rd ((l0.take ((wrap64 ((ji7) + 5)) : Int).toNat).drop ((ji7) : Int).toNat) 0)) := (blk_cell BK321.out 0).trans rfl; have hcz28_1 : w27.cell? ⟨gb321, 1, none⟩ = some (.int .i64 (rd ((l0.take ((wrap64 ((ji7) + 5)) : Int).toNat).drop ((ji7) : Int).toNat) 1)) := (blk_cell BK321.out 1).trans rfl; have hcz28_2 : w27.cell? ⟨gb321, 2, none⟩ = some (.int .i64 (rd ((l0.take ((wrap64 ((ji7) + 5)) : Int).toNat).drop ((ji7) : Int).toNat) 2)) := (blk_cell BK321.out 2).trans rfl; have hfz28_0 := blk_frozen BK321.out 0; have hfz28_1 := blk_frozen BK321.out 1; have hfz28_2 := blk_frozen BK321.out 2) | (go_at_call 144; (try simp only [hz20.out]); (with_reducible refine (impl_recordNumbers.calls (rd ((l0.take ((wrap64 ((ji7) + 5)) : Int).toNat).drop ((ji7) : Int).toNat) 0) (rd ((l0.take ((wrap64 ((ji7) + 5)) : Int).toNat).drop ((ji7) : Int).toNat) 1) (rd ((l0.take ((wrap64 ((ji7) + 5)) : Int).toNat).drop ((ji7) : Int).toNat) 2) x4_1 t323 _ A16.out).mono ?_); rintro e w29 ⟨v324, rfl, ho0, hb⟩; have n0_ := Aside0.mk (Kd.R_below (qR HO_3) hb); have n1_ := Aside0.mk (Kd.R_lower ho0 (below_size (qT HB GE321))); have n2_ := Aside0.mk (blk_below (g := gb321) (o := .cells #[.int .i64 (rd ((l0.take ((wrap64 ((ji7) + 5)) : Int).toNat).drop ((ji7) : Int).toNat) 0), .int .i64 (rd ((l0.take ((wrap64 ((ji7) + 5)) : Int).toNat).drop ((ji7) : Int).toNat) 1), .int .i64 (rd ((l0.take ((wrap64 ((ji7) + 5)) : Int).toNat).drop ((ji7) : Int).toNat) 2)] 61 (0, 0)) (qK BK321) hb); have n3_ := Aside0.mk (below_step (qT HB GE321) hb); clear HO_3; clear BK321; clear HB; have HO_3 := n0_; have HO325 := n1_; have BK321 := n2_; have HB := n3_; clear n0_ n1_ n2_ n3_; (try clear hb); (try clear hb2); (try clear hk); (try clear hi); (try clear ho0); obtain ⟨Ao30, co30, eo30⟩ := Kd.R_slice HO325.out; subst eo30) | (go_at_call 187; (try simp only [hz20.out]); (with_reducible refine (slices_Equal_int_int.calls kj3 _ _ t323 _ _ ((l0.take ((wrap64 ((ji7) + 5)) : Int).toNat).drop ((ji7) : Int).toNat) true _ ?side1 ?side2 ?side3 ?side4 A17.out).mono ?_); (case side1 => exact uC (Kd.R_reads' HO325.out).2.2); (case side2 => exact (Kd.R_reads' HO325.out).2.1); (case side3 => exact uC (Kd.C_below HR317.out HB.out)); (case side4 => exact HC317.out); rintro e w' ⟨rfl, ⟨nd, rfl⟩⟩; have hcz31_0 : w29.cell? ⟨gb321, 0, none⟩ = some (.int .i64 (rd ((l0.take ((wrap64 ((ji7) + 5)) : Int).toNat).drop ((ji7) : Int).toNat) 0)) := (blk_cell BK321.out 0).trans rfl; have hcz31_1 : w29.cell? ⟨gb321, 1, none⟩ = some (.int .i64 (rd ((l0.take ((wrap64 ((ji7) + 5)) : Int).toNat).drop ((ji7) : Int).toNat) 1)) := (blk_cell BK321.out 1).trans rfl; have hcz31_2 : w29.cell? ⟨gb321, 2, none⟩ = some (.int .i64 (rd ((l0.take ((wrap64 ((ji7) + 5)) : Int).toNat).drop ((ji7) : Int).toNat) 2)) := (blk_cell BK321.out 2).trans rfl; have hfz31_0 := blk_frozen BK321.out 0; have hfz31_1 := blk_frozen BK321.out 1; have hfz31_2 := blk_frozen BK321.out 2) | ((with_reducible refine gate_builtin (b := .append) (xs := #[.tmp 48, .tmp 50]) rfl ?_); (try (refine gate_guard (by rfl) ?_; dsimp only)); at_builtin; refine Kd.R_append k61 (w0 := w) w.heap.size rfl (.tmp 48) (.tmp 50) 49 61 (.agg #[(.int .i64 0), (.int .i64 0), (.int .i64 0)]) 24 rfl Try.underlying49 info61 rfl (by decide) (by omega) u3 x3_1 (⟨rd ((l0.take ((wrap64 ((ji7) + 5)) : Int).toNat).drop ((ji7) : Int).toNat) 0, rd ((l0.take ((wrap64 ((ji7) + 5)) : Int).toNat).drop ((ji7) : Int).toNat) 1, rd ((l0.take ((wrap64 ((ji7) + 5)) : Int).toNat).drop ((ji7) : Int).toNat) 2⟩ : S61) [.int .i64 (rd ((l0.take ((wrap64 ((ji7) + 5)) : Int).toNat).drop ((ji7) : Int).toNat) 0), .int .i64 (rd ((l0.take ((wrap64 ((ji7) + 5)) : Int).toNat).drop ((ji7) : Int).toNat) 1), .int .i64 (rd ((l0.take ((wrap64 ((ji7) + 5)) : Int).toNat).drop ((ji7) : Int).toNat) 2)] (fun k_ => k_ ≠ gb321) (fun _ => False) rfl rfl ?aP (fun _ hk => hk.elim) ?aF ?aO ?aB ?aS ?aL ?_; (case aP => exact k61_mkM _ _ _ (⟨rd ((l0.take ((wrap64 ((ji7) + 5)) : Int).toNat).drop ((ji7) : Int).toNat) 0, rd ((l0.take ((wrap64 ((ji7) + 5)) : Int).toNat).drop ((ji7) : Int).toNat) 1, rd ((l0.take ((wrap64 ((ji7) + 5)) : Int).toNat).drop ((ji7) : Int).toNat) 2⟩ : S61)); (case aB => exact (qT HB GE321)); (case aF => exact (fun k_ hk => Kd.freshB (g := gb321) (o := .cells #[.int .i64 (rd ((l0.take ((wrap64 ((ji7) + 5)) : Int).toNat).drop ((ji7) : Int).toNat) 0), .int .i64 (rd ((l0.take ((wrap64 ((ji7) + 5)) : Int).toNat).drop ((ji7) : Int).toNat) 1), .int .i64 (rd ((l0.take ((wrap64 ((ji7) + 5)) : Int).toNat).drop ((ji7) : Int).toNat) 2)] 61 (0, 0)) (qK BK321) k_ hk)); (case aO => exact (by exact uR (Kd.R_mono HO_3.out (fun _ hk => hk.2)))); (case aS => exact (below_size (qT HB GE321))); (case aL => have := LMc19.out; omega); intro v328 w32 ho hb hg hat; rw [← Ny327.out] at ho; have n0_ := Aside0.mk (blk_grown (g := gb321) (o := .cells #[.int .i64 (rd ((l0.take ((wrap64 ((ji7) + 5)) : Int).toNat).drop ((ji7) : Int).toNat) 0), .int .i64 (rd ((l0.take ((wrap64 ((ji7) + 5)) : Int).toNat).drop ((ji7) : Int).toNat) 1), .int .i64 (rd ((l0.take ((wrap64 ((ji7) + 5)) : Int).toNat).drop ((ji7) : Int).toNat) 2)] 61 (0, 0)) (qK BK321) hg (Kd.R_away HO_3.out (fun _ hk => hk.2))); have n1_ := Aside0.mk (Kd.R_over' (qR HO325) (Kd.R_typed (qR HO_3)) (by decide) hg); have n2_ := Aside0.mk (hb); have n3_ := Aside0.mk (ho); clear BK321; clear HO325; clear HB; clear HO_3; have BK321 := n0_; have HO325 := n1_; have HB := n2_; have HO329 := n3_; clear n0_ n1_ n2_ n3_; clear ho hb hg hat))
               go_roundg kj3
               case measure => have := HK1.out; have := HJ3.out; omega
               case rel => exact ⟨(y327), (wrap64 (x4_1 + 1)), qs, H', ⟨by have := HK1.out; have := HJ3.out; omega⟩, ⟨by exact uR (Kd.R_mono HO329.out (fun _ hk => trivial))⟩, ⟨qT HB GE321⟩⟩
              ·rw [if_neg c19] at H
               exact absurd H (by simp)
             ·replace c18 := Bool.eq_false_iff.mpr c18
              subst c18
              rw [if_neg (show ¬ (false = true) by decide)] at H
              obtain rfl := Option.some.inj H
              obtain ⟨i033, hi033, _, hsz33, _⟩ := info_parts info3
              obtain ⟨A33, hcut33, hA33, hC33⟩ := print_mid_of (P := Try.prog) (Value.int .i64) 0 23 3 .i64 .i64 Try.underlying23 hi033 hsz33 A0 c0 l0 (ji7) (wrap64 ((ji7) + 5)) (of_decide_eq_true qa) (by first | omega | exact of_decide_eq_true qa) (of_decide_eq_true qa) HC0.out
              have hz33 : Aside0 (((wrap64 ((ji7) + 5)) : Int).toNat - ((ji7) : Int).toNat = ((l0.take ((wrap64 ((ji7) + 5)) : Int).toNat).drop ((ji7) : Int).toNat).length) := ⟨by have h_ : (wrap64 ((ji7) + 5)) ≤ (l0.length : Int) := of_decide_eq_true qa; simp only [List.length_drop, List.length_take]; omega⟩
              have HR317 := Aside0.mk (Kd.C_of_reads (h1 := fun _ => rfl) (hA33 _ (Kd.reads_of_C HR0.out)))
              have HC317 := Aside0.mk hC33
              clear hA33 hC33 hi033 hsz33
              try go_wp2
              have n0_ := Aside0.mk (Kd.R_drew HO_3.out)
              have n1_ := Aside0.mk (below_drew1 HB.out)
              clear HO_3
              clear HB
              have HO_3 := n0_
              have HB := n1_
              clear n0_ n1_
              have p318 : 0 ≤ (0 : Int) := (by omega)
              have q318 : 0 < (((l0.take ((wrap64 ((ji7) + 5)) : Int).toNat).drop ((ji7) : Int).toNat).length : Int) := of_decide_eq_true qa
              obtain ⟨ad318, e318, hx318_0⟩ := Kd.at_int HR317.out 0 p318 q318
              have hw318_0 := hx318_0
              (try rw [show ((0 : Int)).toNat = 0 from rfl] at hw318_0)
              (try rw [show 0 * 1 = 0 from rfl] at hw318_0)
              (try rw [Addr.add_zero'] at hw318_0)
              cases e318
              have qi318 : (0 < ((l0.take ((wrap64 ((ji7) + 5)) : Int).toNat).drop ((ji7) : Int).toNat).length) = True := eq_true (by omega)
              have qj318 : (0 < ((wrap64 ((ji7) + 5)) : Int).toNat - ((ji7) : Int).toNat) = True := eq_true (by have h_ := q318; simp only [List.length_drop, List.length_take] at h_; omega)
              have qk318 : ((0 : Int) < ((((wrap64 ((ji7) + 5)) : Int).toNat - ((ji7) : Int).toNat : Nat) : Int)) = True := eq_true (by have h_ := of_eq_true qj318; omega)
              (try rw [show ((0 : Int)).toNat = 0 from rfl] at hx318_0)
              (try rw [Addr.add_zero'] at hx318_0)
              replace hx318_0 := (HB.out.cell (World.block_lt_of_cell? w _ hx318_0)).trans hx318_0
              replace p318 := eq_true p318
              replace q318 := eq_true q318
              have p319 : 0 ≤ (1 : Int) := (by omega)
              have q319 : 1 < (((l0.take ((wrap64 ((ji7) + 5)) : Int).toNat).drop ((ji7) : Int).toNat).length : Int) := of_decide_eq_true qa
              obtain ⟨ad319, e319, hx319_0⟩ := Kd.at_int HR317.out 1 p319 q319
              have hw319_0 := hx319_0
              (try rw [show ((1 : Int)).toNat = 1 from rfl] at hw319_0)
              (try rw [show 1 * 1 = 1 from rfl] at hw319_0)
              (try simp only [Nat.reduceMul, Nat.reduceEqDiff, Go.Addr.add, ↓reduceIte] at hw319_0)
              obtain rfl : ad318 = ad319 := (by injection e319)
              (try simp only [show (1 : Int).toNat = 1 from rfl, Nat.reduceMul, Nat.reduceEqDiff, Go.Addr.add, ↓reduceIte] at hx319_0)
              have qi319 : (1 < ((l0.take ((wrap64 ((ji7) + 5)) : Int).toNat).drop ((ji7) : Int).toNat).length) = True := eq_true (by omega)
              have qj319 : (1 < ((wrap64 ((ji7) + 5)) : Int).toNat - ((ji7) : Int).toNat) = True := eq_true (by have h_ := q319; simp only [List.length_drop, List.length_take] at h_; omega)
              have qk319 : ((1 : Int) < ((((wrap64 ((ji7) + 5)) : Int).toNat - ((ji7) : Int).toNat : Nat) : Int)) = True := eq_true (by have h_ := of_eq_true qj319; omega)
              (try rw [show ((1 : Int)).toNat = 1 from rfl] at hx319_0)
              replace hx319_0 := (HB.out.cell (World.block_lt_of_cell? w _ hx319_0)).trans hx319_0
              replace p319 := eq_true p319
              replace q319 := eq_true q319
              have p320 : 0 ≤ (2 : Int) := (by omega)
              have q320 : 2 < (((l0.take ((wrap64 ((ji7) + 5)) : Int).toNat).drop ((ji7) : Int).toNat).length : Int) := of_decide_eq_true qa
              obtain ⟨ad320, e320, hx320_0⟩ := Kd.at_int HR317.out 2 p320 q320
              have hw320_0 := hx320_0
              (try rw [show ((2 : Int)).toNat = 2 from rfl] at hw320_0)
              (try rw [show 2 * 1 = 2 from rfl] at hw320_0)
              (try simp only [Nat.reduceMul, Nat.reduceEqDiff, Go.Addr.add, ↓reduceIte] at hw320_0)
              obtain rfl : ad318 = ad320 := (by injection e320)
              (try simp only [show (2 : Int).toNat = 2 from rfl, Nat.reduceMul, Nat.reduceEqDiff, Go.Addr.add, ↓reduceIte] at hx320_0)
              have qi320 : (2 < ((l0.take ((wrap64 ((ji7) + 5)) : Int).toNat).drop ((ji7) : Int).toNat).length) = True := eq_true (by omega)
              have qj320 : (2 < ((wrap64 ((ji7) + 5)) : Int).toNat - ((ji7) : Int).toNat) = True := eq_true (by have h_ := q320; simp only [List.length_drop, List.length_take] at h_; omega)
              have qk320 : ((2 : Int) < ((((wrap64 ((ji7) + 5)) : Int).toNat - ((ji7) : Int).toNat : Nat) : Int)) = True := eq_true (by have h_ := of_eq_true qj320; omega)
              (try rw [show ((2 : Int)).toNat = 2 from rfl] at hx320_0)
              replace hx320_0 := (HB.out.cell (World.block_lt_of_cell? w _ hx320_0)).trans hx320_0
              replace p320 := eq_true p320
              replace q320 := eq_true q320
              refine start_ (n := 12) (S := fun w' => w'.cell? ad318 = some (.int .i64 (rd ((l0.take ((wrap64 ((ji7) + 5)) : Int).toNat).drop ((ji7) : Int).toNat) 0)) ∧ w'.cell? ⟨ad318.block, ad318.off + 1, none⟩ = some (.int .i64 (rd ((l0.take ((wrap64 ((ji7) + 5)) : Int).toNat).drop ((ji7) : Int).toNat) 1)) ∧ w'.cell? ⟨ad318.block, ad318.off + 2, none⟩ = some (.int .i64 (rd ((l0.take ((wrap64 ((ji7) + 5)) : Int).toNat).drop ((ji7) : Int).toNat) 2))) (ds := []) (Array.replicate 12 false) (by kernel_rfl) rfl rfl ⟨((HB.out.cell (World.block_lt_of_cell? w _ hw318_0)).trans hw318_0), ((HB.out.cell (World.block_lt_of_cell? w _ hw319_0)).trans hw319_0), ((HB.out.cell (World.block_lt_of_cell? w _ hw320_0)).trans hw320_0)⟩ (fun hHeld => ?_); refine with_tabW impl_recovered.tab6 impl_recovered.bits6 (fun HT_ HW_ => ?_)
              generalize wc.drew = w34 at HO_3 HB hx318_0 hx319_0 hx320_0 hHeld ⊢
              refine pure_ (i := 0) (N := some 27) (v := ?_) (a' := ?_) (bq 12 1) rfl rfl (qn HT_) (fun _ _ _ h => h) (Or.inl ⟨by rfl, ?_⟩) ?_ ?_; rotate_left; focus (intro w'; go_simp; with_reducible rfl)
              rotate_left; focus (simp only [Act.put, List.setIfInBounds_toArray, List.set_cons_zero, List.set_cons_succ, i64_w, i32_w]; rfl)
              refine pure_ (i := 1) (N := some 28) (v := ?_) (a' := ?_) (bq 12 3) rfl rfl (qn HT_) (fun _ _ _ h => h) (Or.inl ⟨by rfl, ?_⟩) ?_ ?_; rotate_left; focus (intro w'; go_simp; with_reducible rfl)
              rotate_left; focus (simp only [Act.put, List.setIfInBounds_toArray, List.set_cons_zero, List.set_cons_succ, i64_w, i32_w]; rfl)
              refine pure_ (i := 3) (N := some 30) (v := ?_) (a' := ?_) (bq 12 11) rfl rfl (qn HT_) (fun _ _ _ h => h) (Or.inl ⟨by rfl, ?_⟩) ?_ ?_; rotate_left; focus (intro w'; go_simp; with_reducible rfl)
              rotate_left; focus (simp only [Act.put, List.setIfInBounds_toArray, List.set_cons_zero, List.set_cons_succ, i64_w, i32_w]; rfl)
              refine pure_ (i := 4) (N := some 31) (v := ?_) (a' := ?_) (bq 12 27) rfl rfl (qn HT_) (fun _ _ _ h => h) (Or.inl ⟨by rfl, ?_⟩) ?_ ?_; rotate_left; focus (intro w'; go_simp; with_reducible rfl)
              rotate_left; focus (simp only [Act.put, List.setIfInBounds_toArray, List.set_cons_zero, List.set_cons_succ, i64_w, i32_w]; rfl)
              refine pure_ (i := 6) (N := some 33) (v := ?_) (a' := ?_) (bq 12 91) rfl rfl (qn HT_) (fun _ _ _ h => h) (Or.inl ⟨by rfl, ?_⟩) ?_ ?_; rotate_left; focus (intro w'; go_simp; with_reducible rfl)
              rotate_left; focus (simp only [Act.put, List.setIfInBounds_toArray, List.set_cons_zero, List.set_cons_succ, i64_w, i32_w]; rfl)
              refine pure_ (i := 7) (N := some 34) (v := ?_) (a' := ?_) (bq 12 219) rfl rfl (qn HT_) (fun _ _ _ h => h) (Or.inl ⟨by rfl, ?_⟩) ?_ ?_; rotate_left; focus (intro w'; go_simp; with_reducible rfl)
              rotate_left; focus (simp only [Act.put, List.setIfInBounds_toArray, List.set_cons_zero, List.set_cons_succ, i64_w, i32_w]; rfl)
              refine take_ (i := 2) (N := some 29) (v := ?_) (a' := ?_) (bq 12 223) rfl rfl (take_ofW HT_.out HW_.out (by kernel_rfl)) (fun _ _ _ h => h) (Or.inl ⟨by rfl, ?_⟩) hHeld ?_ ?_
              rotate_left
              ·rintro w' ⟨s0, s1, s2⟩
               go_simp
               with_reducible rfl
              rotate_left
              ·simp only [Act.put, List.setIfInBounds_toArray, List.set_cons_zero, List.set_cons_succ, i64_w, i32_w]
               rfl
              refine take_ (i := 5) (N := some 32) (v := ?_) (a' := ?_) (bq 12 255) rfl rfl (take_ofW HT_.out HW_.out (by kernel_rfl)) (fun _ _ _ h => h) (Or.inl ⟨by rfl, ?_⟩) hHeld ?_ ?_
              rotate_left
              ·rintro w' ⟨s0, s1, s2⟩
               go_simp
               with_reducible rfl
              rotate_left
              ·simp only [Act.put, List.setIfInBounds_toArray, List.set_cons_zero, List.set_cons_succ, i64_w, i32_w]
               rfl
              refine take_ (i := 8) (N := some 35) (v := ?_) (a' := ?_) (bq 12 511) rfl rfl (take_ofW HT_.out HW_.out (by kernel_rfl)) (fun _ _ _ h => h) (Or.inl ⟨by rfl, ?_⟩) hHeld ?_ ?_
              rotate_left
              ·rintro w' ⟨s0, s1, s2⟩
               go_simp
               with_reducible rfl
              rotate_left
              ·simp only [Act.put, List.setIfInBounds_toArray, List.set_cons_zero, List.set_cons_succ, i64_w, i32_w]
               rfl
              refine pure_ (i := 9) (N := some 36) (v := ?_) (a' := ?_) (bq 12 1023) rfl rfl (qn HT_) (fun _ _ _ h => h) (Or.inl ⟨by rfl, ?_⟩) ?_ ?_; rotate_left; focus (intro w'; go_simp; with_reducible rfl)
              rotate_left; focus (simp only [Act.put, List.setIfInBounds_toArray, List.set_cons_zero, List.set_cons_succ, i64_w, i32_w]; rfl)
              refine one_ (i := 10) (N := some 6) (bq 12 2047) rfl rfl (qo HT_) (by decide) (fun K hK => ?_)
              refine box_step ?hg (N := 6) ?hd (cs := #[.int .i64 0, .int .i64 0, .int .i64 0]) (t := 61) ?hr ?_; (case hd => rfl); (case hg => rfl); (case hr => first | (go_simp; done) | (go_simp; rfl))
              intro gb321 hg w35 hbox hb
              have n0_ := Aside0.mk (Kd.R_below (Kd.R_elderB (qR HO_3) gb321 (Nat.le_of_eq hg.symm)) hb)
              have n1_ := Aside0.mk (below_step (qB HB) hb)
              have n2_ := Aside0.mk (hbox)
              have n3_ := Aside0.mk ((by rw [hg]; exact (below_size (qB HB)) : w.heap.size ≤ gb321))
              have n4_ := Aside0.mk ((by rw [hg]; exact (below_size (qB HB)) : w.heap.size ≤ gb321))
              clear HO_3
              clear HB
              have HO_3 := n0_
              have HB := n1_
              have BK321 := n2_
              have GW321 := n3_
              have GE321 := n4_
              clear n0_ n1_ n2_ n3_ n4_
              clear hb hbox hg
              refine hK.out _ _ ⟨((HB.out.cell (World.block_lt_of_cell? w _ hw318_0)).trans hw318_0), ((HB.out.cell (World.block_lt_of_cell? w _ hw319_0)).trans hw319_0), ((HB.out.cell (World.block_lt_of_cell? w _ hw320_0)).trans hw320_0)⟩ (fun hHeld => ?_)
              clear hK K
              refine norm_ (a' := ?_) ?_ ?_
              rotate_left
              ·show Act.put _ (some 6) _ = _
               simp only [Act.put, List.setIfInBounds_toArray, List.set_cons_zero, List.set_cons_succ, i64_w, i32_w]
               rfl
              refine one_ (i := 11) (N := none) (bq 12 4095) rfl rfl (qo HT_) (by decide) (fun K hK => ?_)
              have hs36 : w35.cell? ⟨gb321, 0, none⟩ = some (.int .i64 0) := (blk_cell BK321.out 0).trans rfl
              have hfs36 := blk_frozen BK321.out 0
              have hs37 : w35.cell? ⟨gb321, 1, none⟩ = some (.int .i64 0) := (blk_cell BK321.out 1).trans rfl
              have hfs37 := blk_frozen BK321.out 1
              have hs38 : w35.cell? ⟨gb321, 2, none⟩ = some (.int .i64 0) := (blk_cell BK321.out 2).trans rfl
              have hfs38 := blk_frozen BK321.out 2
              refine skip_ (w1 := ?_) (by rfl) rfl ?_ ?_
              rotate_left
              ·go_simp
               rfl
              refine hK.out _ _ ⟨((cell_far (p := ⟨gb321, _, none⟩) (by first | exact Nat.ne_of_lt (Nat.lt_of_lt_of_le (qW hw318_0) GW321.out) | (rw [add_block]; exact Nat.ne_of_lt (Nat.lt_of_lt_of_le (qW hw318_0) GW321.out)) | (show (Addr.add _ _).block ≠ _; rw [add_block]; exact Nat.ne_of_lt (Nat.lt_of_lt_of_le (qW hw318_0) GW321.out)) | (dsimp only; exact Nat.ne_of_lt (Nat.lt_of_lt_of_le (qW hw318_0) GW321.out))) _).trans (((cell_far (p := ⟨gb321, _, none⟩) (by first | exact Nat.ne_of_lt (Nat.lt_of_lt_of_le (qW hw318_0) GW321.out) | (rw [add_block]; exact Nat.ne_of_lt (Nat.lt_of_lt_of_le (qW hw318_0) GW321.out)) | (show (Addr.add _ _).block ≠ _; rw [add_block]; exact Nat.ne_of_lt (Nat.lt_of_lt_of_le (qW hw318_0) GW321.out)) | (dsimp only; exact Nat.ne_of_lt (Nat.lt_of_lt_of_le (qW hw318_0) GW321.out))) _).trans (((cell_far (p := ⟨gb321, _, none⟩) (by first | exact Nat.ne_of_lt (Nat.lt_of_lt_of_le (qW hw318_0) GW321.out) | (rw [add_block]; exact Nat.ne_of_lt (Nat.lt_of_lt_of_le (qW hw318_0) GW321.out)) | (show (Addr.add _ _).block ≠ _; rw [add_block]; exact Nat.ne_of_lt (Nat.lt_of_lt_of_le (qW hw318_0) GW321.out)) | (dsimp only; exact Nat.ne_of_lt (Nat.lt_of_lt_of_le (qW hw318_0) GW321.out))) _).trans (hHeld.1)))))), ((cell_far (p := ⟨gb321, _, none⟩) (by first | exact Nat.ne_of_lt (Nat.lt_of_lt_of_le (qW hw319_0) GW321.out) | (rw [add_block]; exact Nat.ne_of_lt (Nat.lt_of_lt_of_le (qW hw319_0) GW321.out)) | (show (Addr.add _ _).block ≠ _; rw [add_block]; exact Nat.ne_of_lt (Nat.lt_of_lt_of_le (qW hw319_0) GW321.out)) | (dsimp only; exact Nat.ne_of_lt (Nat.lt_of_lt_of_le (qW hw319_0) GW321.out))) _).trans (((cell_far (p := ⟨gb321, _, none⟩) (by first | exact Nat.ne_of_lt (Nat.lt_of_lt_of_le (qW hw319_0) GW321.out) | (rw [add_block]; exact Nat.ne_of_lt (Nat.lt_of_lt_of_le (qW hw319_0) GW321.out)) | (show (Addr.add _ _).block ≠ _; rw [add_block]; exact Nat.ne_of_lt (Nat.lt_of_lt_of_le (qW hw319_0) GW321.out)) | (dsimp only; exact Nat.ne_of_lt (Nat.lt_of_lt_of_le (qW hw319_0) GW321.out))) _).trans (((cell_far (p := ⟨gb321, _, none⟩) (by first | exact Nat.ne_of_lt (Nat.lt_of_lt_of_le (qW hw319_0) GW321.out) | (rw [add_block]; exact Nat.ne_of_lt (Nat.lt_of_lt_of_le (qW hw319_0) GW321.out)) | (show (Addr.add _ _).block ≠ _; rw [add_block]; exact Nat.ne_of_lt (Nat.lt_of_lt_of_le (qW hw319_0) GW321.out)) | (dsimp only; exact Nat.ne_of_lt (Nat.lt_of_lt_of_le (qW hw319_0) GW321.out))) _).trans (hHeld.2.1)))))), ((cell_far (p := ⟨gb321, _, none⟩) (by first | exact Nat.ne_of_lt (Nat.lt_of_lt_of_le (qW hw320_0) GW321.out) | (rw [add_block]; exact Nat.ne_of_lt (Nat.lt_of_lt_of_le (qW hw320_0) GW321.out)) | (show (Addr.add _ _).block ≠ _; rw [add_block]; exact Nat.ne_of_lt (Nat.lt_of_lt_of_le (qW hw320_0) GW321.out)) | (dsimp only; exact Nat.ne_of_lt (Nat.lt_of_lt_of_le (qW hw320_0) GW321.out))) _).trans (((cell_far (p := ⟨gb321, _, none⟩) (by first | exact Nat.ne_of_lt (Nat.lt_of_lt_of_le (qW hw320_0) GW321.out) | (rw [add_block]; exact Nat.ne_of_lt (Nat.lt_of_lt_of_le (qW hw320_0) GW321.out)) | (show (Addr.add _ _).block ≠ _; rw [add_block]; exact Nat.ne_of_lt (Nat.lt_of_lt_of_le (qW hw320_0) GW321.out)) | (dsimp only; exact Nat.ne_of_lt (Nat.lt_of_lt_of_le (qW hw320_0) GW321.out))) _).trans (((cell_far (p := ⟨gb321, _, none⟩) (by first | exact Nat.ne_of_lt (Nat.lt_of_lt_of_le (qW hw320_0) GW321.out) | (rw [add_block]; exact Nat.ne_of_lt (Nat.lt_of_lt_of_le (qW hw320_0) GW321.out)) | (show (Addr.add _ _).block ≠ _; rw [add_block]; exact Nat.ne_of_lt (Nat.lt_of_lt_of_le (qW hw320_0) GW321.out)) | (dsimp only; exact Nat.ne_of_lt (Nat.lt_of_lt_of_le (qW hw320_0) GW321.out))) _).trans (hHeld.2.2))))))⟩ (fun hHeld => ?_)
              clear hK K
              refine done_ (done_of HT_.out (by kernel_rfl)) ?_
              have hcz39_0 : w35.cell? ⟨gb321, 0, none⟩ = some (.int .i64 0) := (blk_cell BK321.out 0).trans rfl
              have hcz39_1 : w35.cell? ⟨gb321, 1, none⟩ = some (.int .i64 0) := (blk_cell BK321.out 1).trans rfl
              have hcz39_2 : w35.cell? ⟨gb321, 2, none⟩ = some (.int .i64 0) := (blk_cell BK321.out 2).trans rfl
              have hfz39_0 := blk_frozen BK321.out 0
              have hfz39_1 := blk_frozen BK321.out 1
              have hfz39_2 := blk_frozen BK321.out 2
              try go_wp2_with (first | ((with_reducible refine gate_callee (f := 43) rfl ?_); refine goesL_ (some 38) rfl rfl Try.func43 (by kernel_rfl) rfl #[.agg #[.int .i64 (rd ((l0.take ((wrap64 ((ji7) + 5)) : Int).toNat).drop ((ji7) : Int).toNat) 0), .int .i64 (rd ((l0.take ((wrap64 ((ji7) + 5)) : Int).toNat).drop ((ji7) : Int).toNat) 1), .int .i64 (rd ((l0.take ((wrap64 ((ji7) + 5)) : Int).toNat).drop ((ji7) : Int).toNat) 2)]] rfl (by (try simp only [List.map_toArray, List.map_cons, List.map_nil]); first | done | (simp only [hji7]; rfl) | rfl | (simp only [List.length_drop, List.length_take]; rfl)) ?_; (with_reducible refine (impl_IsJournalRecord.calls (rd ((l0.take ((wrap64 ((ji7) + 5)) : Int).toNat).drop ((ji7) : Int).toNat) 0) (rd ((l0.take ((wrap64 ((ji7) + 5)) : Int).toNat).drop ((ji7) : Int).toNat) 1) (rd ((l0.take ((wrap64 ((ji7) + 5)) : Int).toNat).drop ((ji7) : Int).toNat) 2) true _ A14.out).mono ?_); rintro e w40 ⟨rfl, hb⟩; refine ⟨_, rfl, ?_⟩; have n0_ := Aside0.mk (Kd.R_below (by exact uR ((Kd.R_mono (Kd.R_far (p := ⟨gb321, 2, none⟩) (Kd.R_far (p := ⟨gb321, 1, none⟩) (Kd.R_far (p := ⟨gb321, 0, none⟩) (Kd.R_mono HO_3.out (fun k_ hk => (⟨hk, hk.2⟩ : _ ∧ k_ ≠ gb321))) (fun _ hk => hk.2) (.int .i64 (rd ((l0.take ((wrap64 ((ji7) + 5)) : Int).toNat).drop ((ji7) : Int).toNat) 0))) (fun _ hk => hk.2) (.int .i64 (rd ((l0.take ((wrap64 ((ji7) + 5)) : Int).toNat).drop ((ji7) : Int).toNat) 1))) (fun _ hk => hk.2) (.int .i64 (rd ((l0.take ((wrap64 ((ji7) + 5)) : Int).toNat).drop ((ji7) : Int).toNat) 2))) (fun _ h_ => h_.1)))) hb); have n1_ := Aside0.mk (blk_below (g := gb321) (o := .cells #[.int .i64 (rd ((l0.take ((wrap64 ((ji7) + 5)) : Int).toNat).drop ((ji7) : Int).toNat) 0), .int .i64 (rd ((l0.take ((wrap64 ((ji7) + 5)) : Int).toNat).drop ((ji7) : Int).toNat) 1), .int .i64 (rd ((l0.take ((wrap64 ((ji7) + 5)) : Int).toNat).drop ((ji7) : Int).toNat) 2)] 61 (0, 0)) (by (with_reducible repeat (first | refine blk_drewN ?_ _ | refine blk_drew ?_ | refine blk_alloc ?_ _)); refine blk_put (cs := #[.int .i64 (rd ((l0.take ((wrap64 ((ji7) + 5)) : Int).toNat).drop ((ji7) : Int).toNat) 0), .int .i64 (rd ((l0.take ((wrap64 ((ji7) + 5)) : Int).toNat).drop ((ji7) : Int).toNat) 1), .int .i64 0]) ?_ 2 _ rfl; (with_reducible repeat (first | refine blk_drewN ?_ _ | refine blk_drew ?_ | refine blk_alloc ?_ _)); refine blk_put (cs := #[.int .i64 (rd ((l0.take ((wrap64 ((ji7) + 5)) : Int).toNat).drop ((ji7) : Int).toNat) 0), .int .i64 0, .int .i64 0]) ?_ 1 _ rfl; (with_reducible repeat (first | refine blk_drewN ?_ _ | refine blk_drew ?_ | refine blk_alloc ?_ _)); refine blk_put (cs := #[.int .i64 0, .int .i64 0, .int .i64 0]) ?_ 0 _ rfl; (with_reducible repeat (first | refine blk_drewN ?_ _ | refine blk_drew ?_ | refine blk_alloc ?_ _)); exact BK321.out) hb); have n2_ := Aside0.mk (below_step (qT HB GE321) hb); clear HO_3; clear BK321; clear HB; have HO_3 := n0_; have BK321 := n1_; have HB := n2_; clear n0_ n1_ n2_; (try clear hb); (try clear hb2); (try clear hk); (try clear hi); have hcz41_0 : w40.cell? ⟨gb321, 0, none⟩ = some (.int .i64 (rd ((l0.take ((wrap64 ((ji7) + 5)) : Int).toNat).drop ((ji7) : Int).toNat) 0)) := (blk_cell BK321.out 0).trans rfl; have hcz41_1 : w40.cell? ⟨gb321, 1, none⟩ = some (.int .i64 (rd ((l0.take ((wrap64 ((ji7) + 5)) : Int).toNat).drop ((ji7) : Int).toNat) 1)) := (blk_cell BK321.out 1).trans rfl; have hcz41_2 : w40.cell? ⟨gb321, 2, none⟩ = some (.int .i64 (rd ((l0.take ((wrap64 ((ji7) + 5)) : Int).toNat).drop ((ji7) : Int).toNat) 2)) := (blk_cell BK321.out 2).trans rfl; have hfz41_0 := blk_frozen BK321.out 0; have hfz41_1 := blk_frozen BK321.out 1; have hfz41_2 := blk_frozen BK321.out 2) | (go_at_call 144; (try simp only [hz33.out]); (with_reducible refine (impl_recordNumbers.calls (rd ((l0.take ((wrap64 ((ji7) + 5)) : Int).toNat).drop ((ji7) : Int).toNat) 0) (rd ((l0.take ((wrap64 ((ji7) + 5)) : Int).toNat).drop ((ji7) : Int).toNat) 1) (rd ((l0.take ((wrap64 ((ji7) + 5)) : Int).toNat).drop ((ji7) : Int).toNat) 2) x4_1 t323 _ A16.out).mono ?_); rintro e w42 ⟨v324, rfl, ho0, hb⟩; have n0_ := Aside0.mk (Kd.R_below (qR HO_3) hb); have n1_ := Aside0.mk (Kd.R_lower ho0 (below_size (qT HB GE321))); have n2_ := Aside0.mk (blk_below (g := gb321) (o := .cells #[.int .i64 (rd ((l0.take ((wrap64 ((ji7) + 5)) : Int).toNat).drop ((ji7) : Int).toNat) 0), .int .i64 (rd ((l0.take ((wrap64 ((ji7) + 5)) : Int).toNat).drop ((ji7) : Int).toNat) 1), .int .i64 (rd ((l0.take ((wrap64 ((ji7) + 5)) : Int).toNat).drop ((ji7) : Int).toNat) 2)] 61 (0, 0)) (qK BK321) hb); have n3_ := Aside0.mk (below_step (qT HB GE321) hb); clear HO_3; clear BK321; clear HB; have HO_3 := n0_; have HO325 := n1_; have BK321 := n2_; have HB := n3_; clear n0_ n1_ n2_ n3_; (try clear hb); (try clear hb2); (try clear hk); (try clear hi); (try clear ho0); obtain ⟨Ao43, co43, eo43⟩ := Kd.R_slice HO325.out; subst eo43) | (go_at_call 187; (try simp only [hz33.out]); (with_reducible refine (slices_Equal_int_int.calls kj3 _ _ t323 _ _ ((l0.take ((wrap64 ((ji7) + 5)) : Int).toNat).drop ((ji7) : Int).toNat) false _ ?side1 ?side2 ?side3 ?side4 A17.out).mono ?_); (case side1 => exact uC (Kd.R_reads' HO325.out).2.2); (case side2 => exact (Kd.R_reads' HO325.out).2.1); (case side3 => exact uC (Kd.C_below HR317.out HB.out)); (case side4 => exact HC317.out); rintro e w' ⟨rfl, ⟨nd, rfl⟩⟩))
              go_ret
              exact ⟨_, by first | rfl | (simp [errW_none, errW_some] <;> rfl) | (simp only [← hji7]; first | rfl | (simp [errW_none, errW_some] <;> rfl)) | (simp [*, errW_none, errW_some] <;> rfl), by exact uR (Kd.R_mono HO_3.out (fun _ hk => trivial)), qT HB GE321⟩
            ·replace c15 := Bool.eq_false_iff.mpr c15
             subst c15
             rw [if_neg (show ¬ (false = true) by decide)] at H
             obtain rfl := Option.some.inj H
             obtain ⟨i044, hi044, _, hsz44, _⟩ := info_parts info3
             obtain ⟨A44, hcut44, hA44, hC44⟩ := print_mid_of (P := Try.prog) (Value.int .i64) 0 23 3 .i64 .i64 Try.underlying23 hi044 hsz44 A0 c0 l0 (ji7) (wrap64 ((ji7) + 5)) (of_decide_eq_true qa) (by first | omega | exact of_decide_eq_true qa) (of_decide_eq_true qa) HC0.out
             have hz44 : Aside0 (((wrap64 ((ji7) + 5)) : Int).toNat - ((ji7) : Int).toNat = ((l0.take ((wrap64 ((ji7) + 5)) : Int).toNat).drop ((ji7) : Int).toNat).length) := ⟨by have h_ : (wrap64 ((ji7) + 5)) ≤ (l0.length : Int) := of_decide_eq_true qa; simp only [List.length_drop, List.length_take]; omega⟩
             have HR317 := Aside0.mk (Kd.C_of_reads (h1 := fun _ => rfl) (hA44 _ (Kd.reads_of_C HR0.out)))
             have HC317 := Aside0.mk hC44
             clear hA44 hC44 hi044 hsz44
             try go_wp2
             have n0_ := Aside0.mk (Kd.R_drew HO_3.out)
             have n1_ := Aside0.mk (below_drew1 HB.out)
             clear HO_3
             clear HB
             have HO_3 := n0_
             have HB := n1_
             clear n0_ n1_
             have p318 : 0 ≤ (0 : Int) := (by omega)
             have q318 : 0 < (((l0.take ((wrap64 ((ji7) + 5)) : Int).toNat).drop ((ji7) : Int).toNat).length : Int) := of_decide_eq_true qa
             obtain ⟨ad318, e318, hx318_0⟩ := Kd.at_int HR317.out 0 p318 q318
             have hw318_0 := hx318_0
             (try rw [show ((0 : Int)).toNat = 0 from rfl] at hw318_0)
             (try rw [show 0 * 1 = 0 from rfl] at hw318_0)
             (try rw [Addr.add_zero'] at hw318_0)
             cases e318
             have qi318 : (0 < ((l0.take ((wrap64 ((ji7) + 5)) : Int).toNat).drop ((ji7) : Int).toNat).length) = True := eq_true (by omega)
             have qj318 : (0 < ((wrap64 ((ji7) + 5)) : Int).toNat - ((ji7) : Int).toNat) = True := eq_true (by have h_ := q318; simp only [List.length_drop, List.length_take] at h_; omega)
             have qk318 : ((0 : Int) < ((((wrap64 ((ji7) + 5)) : Int).toNat - ((ji7) : Int).toNat : Nat) : Int)) = True := eq_true (by have h_ := of_eq_true qj318; omega)
             (try rw [show ((0 : Int)).toNat = 0 from rfl] at hx318_0)
             (try rw [Addr.add_zero'] at hx318_0)
             replace hx318_0 := (HB.out.cell (World.block_lt_of_cell? w _ hx318_0)).trans hx318_0
             replace p318 := eq_true p318
             replace q318 := eq_true q318
             have p319 : 0 ≤ (1 : Int) := (by omega)
             have q319 : 1 < (((l0.take ((wrap64 ((ji7) + 5)) : Int).toNat).drop ((ji7) : Int).toNat).length : Int) := of_decide_eq_true qa
             obtain ⟨ad319, e319, hx319_0⟩ := Kd.at_int HR317.out 1 p319 q319
             have hw319_0 := hx319_0
             (try rw [show ((1 : Int)).toNat = 1 from rfl] at hw319_0)
             (try rw [show 1 * 1 = 1 from rfl] at hw319_0)
             (try simp only [Nat.reduceMul, Nat.reduceEqDiff, Go.Addr.add, ↓reduceIte] at hw319_0)
             obtain rfl : ad318 = ad319 := (by injection e319)
             (try simp only [show (1 : Int).toNat = 1 from rfl, Nat.reduceMul, Nat.reduceEqDiff, Go.Addr.add, ↓reduceIte] at hx319_0)
             have qi319 : (1 < ((l0.take ((wrap64 ((ji7) + 5)) : Int).toNat).drop ((ji7) : Int).toNat).length) = True := eq_true (by omega)
             have qj319 : (1 < ((wrap64 ((ji7) + 5)) : Int).toNat - ((ji7) : Int).toNat) = True := eq_true (by have h_ := q319; simp only [List.length_drop, List.length_take] at h_; omega)
             have qk319 : ((1 : Int) < ((((wrap64 ((ji7) + 5)) : Int).toNat - ((ji7) : Int).toNat : Nat) : Int)) = True := eq_true (by have h_ := of_eq_true qj319; omega)
             (try rw [show ((1 : Int)).toNat = 1 from rfl] at hx319_0)
             replace hx319_0 := (HB.out.cell (World.block_lt_of_cell? w _ hx319_0)).trans hx319_0
             replace p319 := eq_true p319
             replace q319 := eq_true q319
             have p320 : 0 ≤ (2 : Int) := (by omega)
             have q320 : 2 < (((l0.take ((wrap64 ((ji7) + 5)) : Int).toNat).drop ((ji7) : Int).toNat).length : Int) := of_decide_eq_true qa
             obtain ⟨ad320, e320, hx320_0⟩ := Kd.at_int HR317.out 2 p320 q320
             have hw320_0 := hx320_0
             (try rw [show ((2 : Int)).toNat = 2 from rfl] at hw320_0)
             (try rw [show 2 * 1 = 2 from rfl] at hw320_0)
             (try simp only [Nat.reduceMul, Nat.reduceEqDiff, Go.Addr.add, ↓reduceIte] at hw320_0)
             obtain rfl : ad318 = ad320 := (by injection e320)
             (try simp only [show (2 : Int).toNat = 2 from rfl, Nat.reduceMul, Nat.reduceEqDiff, Go.Addr.add, ↓reduceIte] at hx320_0)
             have qi320 : (2 < ((l0.take ((wrap64 ((ji7) + 5)) : Int).toNat).drop ((ji7) : Int).toNat).length) = True := eq_true (by omega)
             have qj320 : (2 < ((wrap64 ((ji7) + 5)) : Int).toNat - ((ji7) : Int).toNat) = True := eq_true (by have h_ := q320; simp only [List.length_drop, List.length_take] at h_; omega)
             have qk320 : ((2 : Int) < ((((wrap64 ((ji7) + 5)) : Int).toNat - ((ji7) : Int).toNat : Nat) : Int)) = True := eq_true (by have h_ := of_eq_true qj320; omega)
             (try rw [show ((2 : Int)).toNat = 2 from rfl] at hx320_0)
             replace hx320_0 := (HB.out.cell (World.block_lt_of_cell? w _ hx320_0)).trans hx320_0
             replace p320 := eq_true p320
             replace q320 := eq_true q320
             refine start_ (n := 12) (S := fun w' => w'.cell? ad318 = some (.int .i64 (rd ((l0.take ((wrap64 ((ji7) + 5)) : Int).toNat).drop ((ji7) : Int).toNat) 0)) ∧ w'.cell? ⟨ad318.block, ad318.off + 1, none⟩ = some (.int .i64 (rd ((l0.take ((wrap64 ((ji7) + 5)) : Int).toNat).drop ((ji7) : Int).toNat) 1)) ∧ w'.cell? ⟨ad318.block, ad318.off + 2, none⟩ = some (.int .i64 (rd ((l0.take ((wrap64 ((ji7) + 5)) : Int).toNat).drop ((ji7) : Int).toNat) 2))) (ds := []) (Array.replicate 12 false) (by kernel_rfl) rfl rfl ⟨((HB.out.cell (World.block_lt_of_cell? w _ hw318_0)).trans hw318_0), ((HB.out.cell (World.block_lt_of_cell? w _ hw319_0)).trans hw319_0), ((HB.out.cell (World.block_lt_of_cell? w _ hw320_0)).trans hw320_0)⟩ (fun hHeld => ?_); refine with_tabW impl_recovered.tab6 impl_recovered.bits6 (fun HT_ HW_ => ?_)
             generalize wc.drew = w45 at HO_3 HB hx318_0 hx319_0 hx320_0 hHeld ⊢
             refine pure_ (i := 0) (N := some 27) (v := ?_) (a' := ?_) (bq 12 1) rfl rfl (qn HT_) (fun _ _ _ h => h) (Or.inl ⟨by rfl, ?_⟩) ?_ ?_; rotate_left; focus (intro w'; go_simp; with_reducible rfl)
             rotate_left; focus (simp only [Act.put, List.setIfInBounds_toArray, List.set_cons_zero, List.set_cons_succ, i64_w, i32_w]; rfl)
             refine pure_ (i := 1) (N := some 28) (v := ?_) (a' := ?_) (bq 12 3) rfl rfl (qn HT_) (fun _ _ _ h => h) (Or.inl ⟨by rfl, ?_⟩) ?_ ?_; rotate_left; focus (intro w'; go_simp; with_reducible rfl)
             rotate_left; focus (simp only [Act.put, List.setIfInBounds_toArray, List.set_cons_zero, List.set_cons_succ, i64_w, i32_w]; rfl)
             refine pure_ (i := 3) (N := some 30) (v := ?_) (a' := ?_) (bq 12 11) rfl rfl (qn HT_) (fun _ _ _ h => h) (Or.inl ⟨by rfl, ?_⟩) ?_ ?_; rotate_left; focus (intro w'; go_simp; with_reducible rfl)
             rotate_left; focus (simp only [Act.put, List.setIfInBounds_toArray, List.set_cons_zero, List.set_cons_succ, i64_w, i32_w]; rfl)
             refine pure_ (i := 4) (N := some 31) (v := ?_) (a' := ?_) (bq 12 27) rfl rfl (qn HT_) (fun _ _ _ h => h) (Or.inl ⟨by rfl, ?_⟩) ?_ ?_; rotate_left; focus (intro w'; go_simp; with_reducible rfl)
             rotate_left; focus (simp only [Act.put, List.setIfInBounds_toArray, List.set_cons_zero, List.set_cons_succ, i64_w, i32_w]; rfl)
             refine pure_ (i := 6) (N := some 33) (v := ?_) (a' := ?_) (bq 12 91) rfl rfl (qn HT_) (fun _ _ _ h => h) (Or.inl ⟨by rfl, ?_⟩) ?_ ?_; rotate_left; focus (intro w'; go_simp; with_reducible rfl)
             rotate_left; focus (simp only [Act.put, List.setIfInBounds_toArray, List.set_cons_zero, List.set_cons_succ, i64_w, i32_w]; rfl)
             refine pure_ (i := 7) (N := some 34) (v := ?_) (a' := ?_) (bq 12 219) rfl rfl (qn HT_) (fun _ _ _ h => h) (Or.inl ⟨by rfl, ?_⟩) ?_ ?_; rotate_left; focus (intro w'; go_simp; with_reducible rfl)
             rotate_left; focus (simp only [Act.put, List.setIfInBounds_toArray, List.set_cons_zero, List.set_cons_succ, i64_w, i32_w]; rfl)
             refine take_ (i := 2) (N := some 29) (v := ?_) (a' := ?_) (bq 12 223) rfl rfl (take_ofW HT_.out HW_.out (by kernel_rfl)) (fun _ _ _ h => h) (Or.inl ⟨by rfl, ?_⟩) hHeld ?_ ?_
             rotate_left
             ·rintro w' ⟨s0, s1, s2⟩
              go_simp
              with_reducible rfl
             rotate_left
             ·simp only [Act.put, List.setIfInBounds_toArray, List.set_cons_zero, List.set_cons_succ, i64_w, i32_w]
              rfl
             refine take_ (i := 5) (N := some 32) (v := ?_) (a' := ?_) (bq 12 255) rfl rfl (take_ofW HT_.out HW_.out (by kernel_rfl)) (fun _ _ _ h => h) (Or.inl ⟨by rfl, ?_⟩) hHeld ?_ ?_
             rotate_left
             ·rintro w' ⟨s0, s1, s2⟩
              go_simp
              with_reducible rfl
             rotate_left
             ·simp only [Act.put, List.setIfInBounds_toArray, List.set_cons_zero, List.set_cons_succ, i64_w, i32_w]
              rfl
             refine take_ (i := 8) (N := some 35) (v := ?_) (a' := ?_) (bq 12 511) rfl rfl (take_ofW HT_.out HW_.out (by kernel_rfl)) (fun _ _ _ h => h) (Or.inl ⟨by rfl, ?_⟩) hHeld ?_ ?_
             rotate_left
             ·rintro w' ⟨s0, s1, s2⟩
              go_simp
              with_reducible rfl
             rotate_left
             ·simp only [Act.put, List.setIfInBounds_toArray, List.set_cons_zero, List.set_cons_succ, i64_w, i32_w]
              rfl
             refine pure_ (i := 9) (N := some 36) (v := ?_) (a' := ?_) (bq 12 1023) rfl rfl (qn HT_) (fun _ _ _ h => h) (Or.inl ⟨by rfl, ?_⟩) ?_ ?_; rotate_left; focus (intro w'; go_simp; with_reducible rfl)
             rotate_left; focus (simp only [Act.put, List.setIfInBounds_toArray, List.set_cons_zero, List.set_cons_succ, i64_w, i32_w]; rfl)
             refine one_ (i := 10) (N := some 6) (bq 12 2047) rfl rfl (qo HT_) (by decide) (fun K hK => ?_)
             refine box_step ?hg (N := 6) ?hd (cs := #[.int .i64 0, .int .i64 0, .int .i64 0]) (t := 61) ?hr ?_; (case hd => rfl); (case hg => rfl); (case hr => first | (go_simp; done) | (go_simp; rfl))
             intro gb321 hg w46 hbox hb
             have n0_ := Aside0.mk (Kd.R_below (Kd.R_elderB (qR HO_3) gb321 (Nat.le_of_eq hg.symm)) hb)
             have n1_ := Aside0.mk (below_step (qB HB) hb)
             have n2_ := Aside0.mk (hbox)
             have n3_ := Aside0.mk ((by rw [hg]; exact (below_size (qB HB)) : w.heap.size ≤ gb321))
             have n4_ := Aside0.mk ((by rw [hg]; exact (below_size (qB HB)) : w.heap.size ≤ gb321))
             clear HO_3
             clear HB
             have HO_3 := n0_
             have HB := n1_
             have BK321 := n2_
             have GW321 := n3_
             have GE321 := n4_
             clear n0_ n1_ n2_ n3_ n4_
             clear hb hbox hg
             refine hK.out _ _ ⟨((HB.out.cell (World.block_lt_of_cell? w _ hw318_0)).trans hw318_0), ((HB.out.cell (World.block_lt_of_cell? w _ hw319_0)).trans hw319_0), ((HB.out.cell (World.block_lt_of_cell? w _ hw320_0)).trans hw320_0)⟩ (fun hHeld => ?_)
             clear hK K
             refine norm_ (a' := ?_) ?_ ?_
             rotate_left
             ·show Act.put _ (some 6) _ = _
              simp only [Act.put, List.setIfInBounds_toArray, List.set_cons_zero, List.set_cons_succ, i64_w, i32_w]
              rfl
             refine one_ (i := 11) (N := none) (bq 12 4095) rfl rfl (qo HT_) (by decide) (fun K hK => ?_)
             have hs47 : w46.cell? ⟨gb321, 0, none⟩ = some (.int .i64 0) := (blk_cell BK321.out 0).trans rfl
             have hfs47 := blk_frozen BK321.out 0
             have hs48 : w46.cell? ⟨gb321, 1, none⟩ = some (.int .i64 0) := (blk_cell BK321.out 1).trans rfl
             have hfs48 := blk_frozen BK321.out 1
             have hs49 : w46.cell? ⟨gb321, 2, none⟩ = some (.int .i64 0) := (blk_cell BK321.out 2).trans rfl
             have hfs49 := blk_frozen BK321.out 2
             refine skip_ (w1 := ?_) (by rfl) rfl ?_ ?_
             rotate_left
             ·go_simp
              rfl
             refine hK.out _ _ ⟨((cell_far (p := ⟨gb321, _, none⟩) (by first | exact Nat.ne_of_lt (Nat.lt_of_lt_of_le (qW hw318_0) GW321.out) | (rw [add_block]; exact Nat.ne_of_lt (Nat.lt_of_lt_of_le (qW hw318_0) GW321.out)) | (show (Addr.add _ _).block ≠ _; rw [add_block]; exact Nat.ne_of_lt (Nat.lt_of_lt_of_le (qW hw318_0) GW321.out)) | (dsimp only; exact Nat.ne_of_lt (Nat.lt_of_lt_of_le (qW hw318_0) GW321.out))) _).trans (((cell_far (p := ⟨gb321, _, none⟩) (by first | exact Nat.ne_of_lt (Nat.lt_of_lt_of_le (qW hw318_0) GW321.out) | (rw [add_block]; exact Nat.ne_of_lt (Nat.lt_of_lt_of_le (qW hw318_0) GW321.out)) | (show (Addr.add _ _).block ≠ _; rw [add_block]; exact Nat.ne_of_lt (Nat.lt_of_lt_of_le (qW hw318_0) GW321.out)) | (dsimp only; exact Nat.ne_of_lt (Nat.lt_of_lt_of_le (qW hw318_0) GW321.out))) _).trans (((cell_far (p := ⟨gb321, _, none⟩) (by first | exact Nat.ne_of_lt (Nat.lt_of_lt_of_le (qW hw318_0) GW321.out) | (rw [add_block]; exact Nat.ne_of_lt (Nat.lt_of_lt_of_le (qW hw318_0) GW321.out)) | (show (Addr.add _ _).block ≠ _; rw [add_block]; exact Nat.ne_of_lt (Nat.lt_of_lt_of_le (qW hw318_0) GW321.out)) | (dsimp only; exact Nat.ne_of_lt (Nat.lt_of_lt_of_le (qW hw318_0) GW321.out))) _).trans (hHeld.1)))))), ((cell_far (p := ⟨gb321, _, none⟩) (by first | exact Nat.ne_of_lt (Nat.lt_of_lt_of_le (qW hw319_0) GW321.out) | (rw [add_block]; exact Nat.ne_of_lt (Nat.lt_of_lt_of_le (qW hw319_0) GW321.out)) | (show (Addr.add _ _).block ≠ _; rw [add_block]; exact Nat.ne_of_lt (Nat.lt_of_lt_of_le (qW hw319_0) GW321.out)) | (dsimp only; exact Nat.ne_of_lt (Nat.lt_of_lt_of_le (qW hw319_0) GW321.out))) _).trans (((cell_far (p := ⟨gb321, _, none⟩) (by first | exact Nat.ne_of_lt (Nat.lt_of_lt_of_le (qW hw319_0) GW321.out) | (rw [add_block]; exact Nat.ne_of_lt (Nat.lt_of_lt_of_le (qW hw319_0) GW321.out)) | (show (Addr.add _ _).block ≠ _; rw [add_block]; exact Nat.ne_of_lt (Nat.lt_of_lt_of_le (qW hw319_0) GW321.out)) | (dsimp only; exact Nat.ne_of_lt (Nat.lt_of_lt_of_le (qW hw319_0) GW321.out))) _).trans (((cell_far (p := ⟨gb321, _, none⟩) (by first | exact Nat.ne_of_lt (Nat.lt_of_lt_of_le (qW hw319_0) GW321.out) | (rw [add_block]; exact Nat.ne_of_lt (Nat.lt_of_lt_of_le (qW hw319_0) GW321.out)) | (show (Addr.add _ _).block ≠ _; rw [add_block]; exact Nat.ne_of_lt (Nat.lt_of_lt_of_le (qW hw319_0) GW321.out)) | (dsimp only; exact Nat.ne_of_lt (Nat.lt_of_lt_of_le (qW hw319_0) GW321.out))) _).trans (hHeld.2.1)))))), ((cell_far (p := ⟨gb321, _, none⟩) (by first | exact Nat.ne_of_lt (Nat.lt_of_lt_of_le (qW hw320_0) GW321.out) | (rw [add_block]; exact Nat.ne_of_lt (Nat.lt_of_lt_of_le (qW hw320_0) GW321.out)) | (show (Addr.add _ _).block ≠ _; rw [add_block]; exact Nat.ne_of_lt (Nat.lt_of_lt_of_le (qW hw320_0) GW321.out)) | (dsimp only; exact Nat.ne_of_lt (Nat.lt_of_lt_of_le (qW hw320_0) GW321.out))) _).trans (((cell_far (p := ⟨gb321, _, none⟩) (by first | exact Nat.ne_of_lt (Nat.lt_of_lt_of_le (qW hw320_0) GW321.out) | (rw [add_block]; exact Nat.ne_of_lt (Nat.lt_of_lt_of_le (qW hw320_0) GW321.out)) | (show (Addr.add _ _).block ≠ _; rw [add_block]; exact Nat.ne_of_lt (Nat.lt_of_lt_of_le (qW hw320_0) GW321.out)) | (dsimp only; exact Nat.ne_of_lt (Nat.lt_of_lt_of_le (qW hw320_0) GW321.out))) _).trans (((cell_far (p := ⟨gb321, _, none⟩) (by first | exact Nat.ne_of_lt (Nat.lt_of_lt_of_le (qW hw320_0) GW321.out) | (rw [add_block]; exact Nat.ne_of_lt (Nat.lt_of_lt_of_le (qW hw320_0) GW321.out)) | (show (Addr.add _ _).block ≠ _; rw [add_block]; exact Nat.ne_of_lt (Nat.lt_of_lt_of_le (qW hw320_0) GW321.out)) | (dsimp only; exact Nat.ne_of_lt (Nat.lt_of_lt_of_le (qW hw320_0) GW321.out))) _).trans (hHeld.2.2))))))⟩ (fun hHeld => ?_)
             clear hK K
             refine done_ (done_of HT_.out (by kernel_rfl)) ?_
             have hcz50_0 : w46.cell? ⟨gb321, 0, none⟩ = some (.int .i64 0) := (blk_cell BK321.out 0).trans rfl
             have hcz50_1 : w46.cell? ⟨gb321, 1, none⟩ = some (.int .i64 0) := (blk_cell BK321.out 1).trans rfl
             have hcz50_2 : w46.cell? ⟨gb321, 2, none⟩ = some (.int .i64 0) := (blk_cell BK321.out 2).trans rfl
             have hfz50_0 := blk_frozen BK321.out 0
             have hfz50_1 := blk_frozen BK321.out 1
             have hfz50_2 := blk_frozen BK321.out 2
             try go_wp2_with (first | ((with_reducible refine gate_callee (f := 43) rfl ?_); refine goesL_ (some 38) rfl rfl Try.func43 (by kernel_rfl) rfl #[.agg #[.int .i64 (rd ((l0.take ((wrap64 ((ji7) + 5)) : Int).toNat).drop ((ji7) : Int).toNat) 0), .int .i64 (rd ((l0.take ((wrap64 ((ji7) + 5)) : Int).toNat).drop ((ji7) : Int).toNat) 1), .int .i64 (rd ((l0.take ((wrap64 ((ji7) + 5)) : Int).toNat).drop ((ji7) : Int).toNat) 2)]] rfl (by (try simp only [List.map_toArray, List.map_cons, List.map_nil]); first | done | (simp only [hji7]; rfl) | rfl | (simp only [List.length_drop, List.length_take]; rfl)) ?_; (with_reducible refine (impl_IsJournalRecord.calls (rd ((l0.take ((wrap64 ((ji7) + 5)) : Int).toNat).drop ((ji7) : Int).toNat) 0) (rd ((l0.take ((wrap64 ((ji7) + 5)) : Int).toNat).drop ((ji7) : Int).toNat) 1) (rd ((l0.take ((wrap64 ((ji7) + 5)) : Int).toNat).drop ((ji7) : Int).toNat) 2) false _ A14.out).mono ?_); rintro e w51 ⟨rfl, hb⟩; refine ⟨_, rfl, ?_⟩; have n0_ := Aside0.mk (Kd.R_below (by exact uR ((Kd.R_mono (Kd.R_far (p := ⟨gb321, 2, none⟩) (Kd.R_far (p := ⟨gb321, 1, none⟩) (Kd.R_far (p := ⟨gb321, 0, none⟩) (Kd.R_mono HO_3.out (fun k_ hk => (⟨hk, hk.2⟩ : _ ∧ k_ ≠ gb321))) (fun _ hk => hk.2) (.int .i64 (rd ((l0.take ((wrap64 ((ji7) + 5)) : Int).toNat).drop ((ji7) : Int).toNat) 0))) (fun _ hk => hk.2) (.int .i64 (rd ((l0.take ((wrap64 ((ji7) + 5)) : Int).toNat).drop ((ji7) : Int).toNat) 1))) (fun _ hk => hk.2) (.int .i64 (rd ((l0.take ((wrap64 ((ji7) + 5)) : Int).toNat).drop ((ji7) : Int).toNat) 2))) (fun _ h_ => h_.1)))) hb); have n1_ := Aside0.mk (blk_below (g := gb321) (o := .cells #[.int .i64 (rd ((l0.take ((wrap64 ((ji7) + 5)) : Int).toNat).drop ((ji7) : Int).toNat) 0), .int .i64 (rd ((l0.take ((wrap64 ((ji7) + 5)) : Int).toNat).drop ((ji7) : Int).toNat) 1), .int .i64 (rd ((l0.take ((wrap64 ((ji7) + 5)) : Int).toNat).drop ((ji7) : Int).toNat) 2)] 61 (0, 0)) (by (with_reducible repeat (first | refine blk_drewN ?_ _ | refine blk_drew ?_ | refine blk_alloc ?_ _)); refine blk_put (cs := #[.int .i64 (rd ((l0.take ((wrap64 ((ji7) + 5)) : Int).toNat).drop ((ji7) : Int).toNat) 0), .int .i64 (rd ((l0.take ((wrap64 ((ji7) + 5)) : Int).toNat).drop ((ji7) : Int).toNat) 1), .int .i64 0]) ?_ 2 _ rfl; (with_reducible repeat (first | refine blk_drewN ?_ _ | refine blk_drew ?_ | refine blk_alloc ?_ _)); refine blk_put (cs := #[.int .i64 (rd ((l0.take ((wrap64 ((ji7) + 5)) : Int).toNat).drop ((ji7) : Int).toNat) 0), .int .i64 0, .int .i64 0]) ?_ 1 _ rfl; (with_reducible repeat (first | refine blk_drewN ?_ _ | refine blk_drew ?_ | refine blk_alloc ?_ _)); refine blk_put (cs := #[.int .i64 0, .int .i64 0, .int .i64 0]) ?_ 0 _ rfl; (with_reducible repeat (first | refine blk_drewN ?_ _ | refine blk_drew ?_ | refine blk_alloc ?_ _)); exact BK321.out) hb); have n2_ := Aside0.mk (below_step (qT HB GE321) hb); clear HO_3; clear BK321; clear HB; have HO_3 := n0_; have BK321 := n1_; have HB := n2_; clear n0_ n1_ n2_; (try clear hb); (try clear hb2); (try clear hk); (try clear hi)))
             go_ret
             exact ⟨_, by first | rfl | (simp [errW_none, errW_some] <;> rfl) | (simp only [← hji7]; first | rfl | (simp [errW_none, errW_some] <;> rfl)) | (simp [*, errW_none, errW_some] <;> rfl), by exact uR (Kd.R_mono HO_3.out (fun _ hk => trivial)), qT HB GE321⟩
           ·rw [if_neg c13] at H
            exact absurd H (by simp)
          ·rw [if_neg c12] at H
           exact absurd H (by simp)
         ·rw [if_neg c11] at H
          exact absurd H (by simp)
        ·rw [if_neg c10] at H
         exact absurd H (by simp)
       ·rw [if_neg c9] at H
        exact absurd H (by simp)
      ·rw [if_neg c8] at H
       exact absurd H (by simp)
     ·replace c6 := Bool.eq_false_iff.mpr c6
      subst c6
      rw [if_neg (show ¬ (false = true) by decide)] at H
      obtain rfl := Option.some.inj H
      go_wp2
      go_ret
      exact ⟨_, qe, qR HO_3, qB HB⟩

/-! ### impl_RecoverRecords: function 29 -/
def impl_RecoverRecords.f (k : Nat) (l0 : List Int) : Option ((List (S61)) × Int × Bool) := (impl_areNumbers.f k l0).bind fun t330 => (if t330 = true then ((impl_recovered.f k l0).bind fun t331 => (some (t331, wrap64 (5 * (t331.length : Int)), true))) else (some (([] : List (S61)), 0, false)))
theorem impl_RecoverRecords.mono : ∀ a0 k, LeO (impl_RecoverRecords.f k a0) (impl_RecoverRecords.f (k + 1) a0) := by
 intro a0 k
 unfold impl_RecoverRecords.f
 repeat' first | (with_reducible first | exact impl_areNumbers.mono _ _ | exact impl_recovered.mono _ _ | exact LeO.refl _ | exact LeO.none _ | refine LeO.ite ?_ ?_ | refine LeO.bind ?_ (fun _ => ?_)) | exact impl_areNumbers.mono _ _ | exact impl_recovered.mono _ _ | exact LeO.none _ | refine LeO.ite ?_ ?_ | refine LeO.bind ?_ (fun _ => ?_)
set_option maxHeartbeats 8000000 in
set_option maxRecDepth 100000 in
theorem impl_RecoverRecords.calls (k : Nat) (A0 : Option Addr) (c0 : Nat) (l0 : List Int) (r1 : List (S61)) (r2 : Int) (r3 : Bool) (w : World) (hr0 : Kd.C (Kd.int .i64) w A0 l0.length l0) (hc0 : l0.length ≤ c0) (h : impl_RecoverRecords.f k l0 = some (r1, r2, r3)) :
  Calls Try.prog 29 #[.slice A0 l0.length c0] w fun e w' => ∃ v0_ : Value, e = .returned (.tuple #[v0_, .int .i64 r2, .bool r3]) ∧ Kd.R k61 61 w' w.heap.size (fun _ => True) v0_ r1 ∧ Below w.heap.size w w' := by
 have HR0 := Aside0.mk hr0
 have HC0 := Aside0.mk hc0
 clear hr0 hc0
 have HB := Aside0.mk (Below.refl w.heap.size w)
 have H : ((impl_areNumbers.f k l0).bind fun t330 => (if t330 = true then ((impl_recovered.f k l0).bind fun t331 => (some (t331, wrap64 (5 * (t331.length : Int)), true))) else (some (([] : List (S61)), 0, false)))) = some (r1, r2, r3) := h
 clear h
 replace H := Option.bind_eq_some_iff.mp H
 obtain ⟨t330, A20, H⟩ := H
 replace H : (if t330 = true then ((impl_recovered.f k l0).bind fun t331 => (some (t331, wrap64 (5 * (t331.length : Int)), true))) else (some (([] : List (S61)), 0, false))) = some (r1, r2, r3) := H
 have A2 := Aside0.mk A20
 clear A20
 by_cases c3 : t330 = true
 ·subst c3
  rw [if_pos rfl] at H
  replace H := Option.bind_eq_some_iff.mp H
  obtain ⟨t331, A40, H⟩ := H
  replace H : (some (t331, wrap64 (5 * (t331.length : Int)), true)) = some (r1, r2, r3) := H
  have A4 := Aside0.mk A40
  clear A40
  simp only [Option.some.injEq, Prod.mk.injEq] at H
  obtain ⟨rfl, rfl, rfl⟩ := H
  go_enter Try.func29, Try.ntmps29
  go_wp2_with (first | ((with_reducible refine gate_callee (f := 129) rfl ?_); refine goesL_ (some 7) rfl rfl Try.func129 (by kernel_rfl) rfl #[.slice A0 l0.length c0] rfl qA ?_; (with_reducible refine (impl_areNumbers.calls k _ _ l0 true _ ?side1 ?side2 A2.out).mono ?_); (case side1 => exact uC HR0.out); (case side2 => exact HC0.out); rintro e w' ⟨rfl, ⟨nd, rfl⟩⟩; refine ⟨_, rfl, ?_⟩) | ((with_reducible refine gate_callee (f := 133) rfl ?_); refine goesL_ (some 10) rfl rfl Try.func133 (by kernel_rfl) rfl #[.slice A0 l0.length c0] rfl qA ?_; (with_reducible refine (impl_recovered.calls k _ _ l0 t331 _ ?side1 ?side2 A4.out).mono ?_); (case side1 => exact uC HR0.out); (case side2 => exact HC0.out); rintro e w5 ⟨v332, rfl, ho0, hb⟩; refine ⟨_, rfl, ?_⟩; have n0_ := Aside0.mk (Kd.R_lower ho0 (below_size (qB HB))); have n1_ := Aside0.mk (below_step (qB HB) hb); clear HB; have HO333 := n0_; have HB := n1_; clear n0_ n1_; (try clear hb); (try clear hb2); (try clear hk); (try clear hi); (try clear ho0); obtain ⟨Ao6, co6, eo6⟩ := Kd.R_slice HO333.out; subst eo6))
  go_ret3
  exact ⟨_, qe, qR HO333, qB HB⟩
 ·replace c3 := Bool.eq_false_iff.mpr c3
  subst c3
  rw [if_neg (show ¬ (false = true) by decide)] at H
  simp only [Option.some.injEq, Prod.mk.injEq] at H
  obtain ⟨rfl, rfl, rfl⟩ := H
  go_enter Try.func29, Try.ntmps29
  go_wp2_with (first | ((with_reducible refine gate_callee (f := 129) rfl ?_); refine goesL_ (some 7) rfl rfl Try.func129 (by kernel_rfl) rfl #[.slice A0 l0.length c0] rfl qA ?_; (with_reducible refine (impl_areNumbers.calls k _ _ l0 false _ ?side1 ?side2 A2.out).mono ?_); (case side1 => exact uC HR0.out); (case side2 => exact HC0.out); rintro e w' ⟨rfl, ⟨nd, rfl⟩⟩; refine ⟨_, rfl, ?_⟩))
  go_ret3
  exact ⟨_, qe, by first | exact Kd.R_nil _ _ _ _ _ | exact Kd.N_nil _ _ _ _ _ | exact Kd.V_nil _ _ _ _ _ | exact Kd.Q_nil _ _ _ _ _ | exact Kd.S_nil _ _ _ _ _, qB HB⟩

end Go.Proofs.Ytgblcbgkkfipoaa.XFnCuts
