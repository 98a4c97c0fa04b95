/- Written by xprint.py, a program of this session, out of the translation: what Go functions compute, as Lean functions, proved over the program. -/
import Derived.Test.YtgblcbgkkfipoaaXFnPurchasesx0
import Derived.Test.YtgblcbgkkfipoaaXFnPurchasesx4
import Derived.Test.YtgblcbgkkfipoaaXFnPurchasesx5
import Derived.Test.YtgblcbgkkfipoaaXFnPurchasesx6
import Derived.Test.YtgblcbgkkfipoaaWQuickB
namespace Go.Proofs.Ytgblcbgkkfipoaa.XFnPurchases
open Go.RowKit Go.Proofs.YtgblcbgkkfipoaaW.PrintWords Go.Proofs.YtgblcbgkkfipoaaW.PrintLast Go.Proofs.YtgblcbgkkfipoaaW.PrintMore
attribute [local go_sem] max2_int min2_int max_two min_two max_three min_three max_four min_four   -- for this text's walks alone
set_option linter.unusedVariables false
set_option linter.unusedSimpArgs false

/-! ### spec_kiBest: function 170 -/
mutual
def spec_kiBest.l0 : Nat → List (List Int) → List Int → List Int → List Int → Int → Int → Option (List Int × Int)
 | 0, _, _, _, _, _, _ => none
 | k + 1, x0, x1, x2, x8, x9, x10 => if 0 ≤ (IntKind.u64.wrap ((x0.length : Int))) then (if x10 < (shl .i64 1 (IntKind.u64.wrap ((x0.length : Int)))) then ((spec_kiList.f k x10).bind fun t326 => ((spec_kiTotal.f k x0 t326).bind fun t329 => ((spec_kiEnough.f k t329 x2).bind fun t332 => (if t332 = true then (spec_kiBest.l1 k x0 x1 x2 x8 x9 x10 t326 0 t326 (t326.length : Int) 0) else (spec_kiBest.l0 k x0 x1 x2 x8 x9 (wrap64 (x10 + 1))))))) else (some (x8, x9))) else (none)
def spec_kiBest.l1 : Nat → List (List Int) → List Int → List Int → List Int → Int → Int → List Int → Int → List Int → Int → Int → Option (List Int × Int)
 | 0, _, _, _, _, _, _, _, _, _, _, _ => none
 | k + 1, x0, x1, x2, x8, x9, x10, x11, x12, x31, x32, x33 => if x33 < x32 then (if 0 ≤ x33 then (if x33 < (x31.length : Int) then (if 0 ≤ (rd x31 x33) then (if (rd x31 x33) < (x1.length : Int) then (spec_kiBest.l1 k x0 x1 x2 x8 x9 x10 x11 (wrap64 (x12 + (rd x1 (rd x31 x33)))) x31 x32 (wrap64 (x33 + 1))) else (none)) else (none)) else (none)) else (none)) else (if x9 < 0 then (spec_kiBest.l0 k x0 x1 x2 x11 x12 (wrap64 (x10 + 1))) else (if x12 < x9 then (spec_kiBest.l0 k x0 x1 x2 x11 x12 (wrap64 (x10 + 1))) else (if x12 = x9 then ((spec_kiBefore.f k x11 x8).bind fun t335 => (if t335 = true then (spec_kiBest.l0 k x0 x1 x2 x11 x12 (wrap64 (x10 + 1))) else (spec_kiBest.l0 k x0 x1 x2 x8 x9 (wrap64 (x10 + 1))))) else (spec_kiBest.l0 k x0 x1 x2 x8 x9 (wrap64 (x10 + 1))))))
end
def spec_kiBest.f (k : Nat) (l0 : List (List Int)) (l1 : List Int) (l2 : List Int) : Option (List Int × Int) := spec_kiBest.l0 k l0 l1 l2 ([] : List Int) (-1) 0
theorem spec_kiBest.mono_l : ∀ k, (∀ y0 y1 y2 y3 y4 y5, LeO (spec_kiBest.l0 k y0 y1 y2 y3 y4 y5) (spec_kiBest.l0 (k + 1) y0 y1 y2 y3 y4 y5)) ∧ (∀ y0 y1 y2 y3 y4 y5 y6 y7 y8 y9 y10, LeO (spec_kiBest.l1 k y0 y1 y2 y3 y4 y5 y6 y7 y8 y9 y10) (spec_kiBest.l1 (k + 1) y0 y1 y2 y3 y4 y5 y6 y7 y8 y9 y10))
 | 0 => ⟨fun _ _ _ _ _ _ r h => by simp [spec_kiBest.l0] at h, fun _ _ _ _ _ _ _ _ _ _ _ r h => by simp [spec_kiBest.l1] at h⟩
 | k + 1 => by
  obtain ⟨ih0, ih1⟩ := spec_kiBest.mono_l k
  refine ⟨?_, ?_⟩
  ·intro y0 y1 y2 y3 y4 y5
   unfold spec_kiBest.l0
   repeat' first | (with_reducible first | exact ih0 _ _ _ _ _ _ | exact ih1 _ _ _ _ _ _ _ _ _ _ _ | exact spec_kiBefore.mono _ _ _ | exact spec_kiEnough.mono _ _ _ | exact spec_kiList.mono _ _ | exact spec_kiTotal.mono _ _ _ | exact LeO.refl _ | exact LeO.none _ | refine LeO.ite ?_ ?_ | refine LeO.bind ?_ (fun _ => ?_)) | exact ih0 _ _ _ _ _ _ | exact ih1 _ _ _ _ _ _ _ _ _ _ _ | exact spec_kiBefore.mono _ _ _ | exact spec_kiEnough.mono _ _ _ | exact spec_kiList.mono _ _ | exact spec_kiTotal.mono _ _ _ | exact LeO.none _ | refine LeO.ite ?_ ?_ | refine LeO.bind ?_ (fun _ => ?_)
  ·intro y0 y1 y2 y3 y4 y5 y6 y7 y8 y9 y10
   unfold spec_kiBest.l1
   repeat' first | (with_reducible first | exact ih0 _ _ _ _ _ _ | exact ih1 _ _ _ _ _ _ _ _ _ _ _ | exact spec_kiBefore.mono _ _ _ | exact spec_kiEnough.mono _ _ _ | exact spec_kiList.mono _ _ | exact spec_kiTotal.mono _ _ _ | exact LeO.refl _ | exact LeO.none _ | refine LeO.ite ?_ ?_ | refine LeO.bind ?_ (fun _ => ?_)) | exact ih0 _ _ _ _ _ _ | exact ih1 _ _ _ _ _ _ _ _ _ _ _ | exact spec_kiBefore.mono _ _ _ | exact spec_kiEnough.mono _ _ _ | exact spec_kiList.mono _ _ | exact spec_kiTotal.mono _ _ _ | exact LeO.none _ | refine LeO.ite ?_ ?_ | refine LeO.bind ?_ (fun _ => ?_)
theorem spec_kiBest.mono : ∀ a0 a1 a2 k, LeO (spec_kiBest.f k a0 a1 a2) (spec_kiBest.f (k + 1) a0 a1 a2) := by
 intro a0 a1 a2 k
 obtain ⟨ih0, ih1⟩ := spec_kiBest.mono_l k
 unfold spec_kiBest.f
 repeat' first | (with_reducible first | exact ih0 _ _ _ _ _ _ | exact ih1 _ _ _ _ _ _ _ _ _ _ _ | exact spec_kiBefore.mono _ _ _ | exact spec_kiEnough.mono _ _ _ | exact spec_kiList.mono _ _ | exact spec_kiTotal.mono _ _ _ | exact LeO.refl _ | exact LeO.none _ | refine LeO.ite ?_ ?_ | refine LeO.bind ?_ (fun _ => ?_)) | exact ih0 _ _ _ _ _ _ | exact ih1 _ _ _ _ _ _ _ _ _ _ _ | exact spec_kiBefore.mono _ _ _ | exact spec_kiEnough.mono _ _ _ | exact spec_kiList.mono _ _ | exact spec_kiTotal.mono _ _ _ | exact LeO.none _ | refine LeO.ite ?_ ?_ | refine LeO.bind ?_ (fun _ => ?_)
set_option maxHeartbeats 8000000 in
set_option maxRecDepth 100000 in
theorem spec_kiBest.calls (k : Nat) (A0 : Option Addr) (c0 : Nat) (l0 : List (List Int)) (A1 : Option Addr) (c1 : Nat) (l1 : List Int) (A2 : Option Addr) (c2 : Nat) (l2 : List Int) (r1 : List Int) (r2 : Int) (w : World) (hr0 : Kd.C (Kd.slice 3 (Kd.int .i64)) w A0 l0.length l0) (hc0 : l0.length ≤ c0) (hr1 : Kd.C (Kd.int .i64) w A1 l1.length l1) (hc1 : l1.length ≤ c1) (hr2 : Kd.C (Kd.int .i64) w A2 l2.length l2) (hc2 : l2.length ≤ c2) (h : spec_kiBest.f k l0 l1 l2 = some (r1, r2)) :
  Calls Try.prog 170 #[.slice A0 l0.length c0, .slice A1 l1.length c1, .slice A2 l2.length c2] w fun e w' => ∃ v0_ : Value, e = .returned (.tuple #[v0_, .int .i64 r2]) ∧ Kd.R (Kd.int .i64) 3 w' w.heap.size (fun _ => True) v0_ r1 ∧ Below w.heap.size w w' := by
 have HR0 := Aside0.mk hr0
 have HC0 := Aside0.mk hc0
 clear hr0 hc0
 have HR1 := Aside0.mk hr1
 have HC1 := Aside0.mk hc1
 clear hr1 hc1
 have HR2 := Aside0.mk hr2
 have HC2 := Aside0.mk hc2
 clear hr2 hc2
 have HB := Aside0.mk (Below.refl w.heap.size w)
 have H : (spec_kiBest.l0 k l0 l1 l2 ([] : List Int) (-1) 0) = some (r1, r2) := h
 clear h
 have H' := Aside0.mk H
 clear H
 go_enter Try.func170, Try.ntmps170
 go_wp2
 go_loopg [8, 9, 10] k (fun kq v8 v9 v10 w' => ∃ (x8_1 : List Int) (x9_1 : Int) (x10_1 : Int), v9 = .int .i64 x9_1 ∧ v10 = .int .i64 x10_1 ∧ Aside0 (spec_kiBest.l0 kq l0 l1 l2 x8_1 x9_1 x10_1 = some (r1, r2)) ∧ Aside0 (kq ≤ k) ∧ Aside0 (Kd.R (Kd.int .i64) 3 w' w.heap.size (fun _ => True) v8 x8_1) ∧ Aside0 (Below w.heap.size w w'))
 case atStart => exact ⟨(([] : List Int)), ((-1)), (0), qs, qs, H', ⟨Nat.le_refl _⟩, ⟨by first | exact Kd.R_nil _ _ _ _ _ | exact Kd.N_nil _ _ _ _ _ | exact Kd.V_nil _ _ _ _ _ | exact Kd.Q_nil _ _ _ _ _ | exact Kd.S_nil _ _ _ _ _⟩, ⟨qB HB⟩⟩
 case round =>
  clear H'
  try clear c1
  try clear c2
  try clear p2
  obtain ⟨x8_1, x9_1, x10_1, rfl, rfl, HA, HK1, HO_8, HB⟩ := hrel
  cases gk with
  | zero => exact absurd HA.out (by simp [spec_kiBest.l0])
  | succ k1 =>
   have H := HA.out
   clear HA
   simp only [spec_kiBest.l0] at H
   obtain ⟨ji4, hji4⟩ : ∃ j_ : Int, (IntKind.u64.wrap ((l0.length : Int))) = j_ := ⟨_, rfl⟩
   replace H : (if 0 ≤ (ji4) then (if x10_1 < (shl .i64 1 (ji4)) then ((spec_kiList.f k1 x10_1).bind fun t326 => ((spec_kiTotal.f k1 l0 t326).bind fun t329 => ((spec_kiEnough.f k1 t329 l2).bind fun t332 => (if t332 = true then (spec_kiBest.l1 k1 l0 l1 l2 x8_1 x9_1 x10_1 t326 0 t326 (t326.length : Int) 0) else (spec_kiBest.l0 k1 l0 l1 l2 x8_1 x9_1 (wrap64 (x10_1 + 1))))))) else (some (x8_1, x9_1))) else (none)) = some (r1, r2) := by first | (rw [hji4] at H; exact H) | (simp only [hji4] at H ⊢; exact H)
   by_cases c5 : 0 ≤ (ji4)
   ·rw [if_pos c5] at H
    have c5b0 := eq_true c5
    have c5b1 : decide (0 ≤ (ji4)) = true := decide_eq_true c5
    clear c5
    obtain ⟨ji6, hji6⟩ : ∃ j_ : Int, (shl .i64 1 (ji4)) = j_ := ⟨_, rfl⟩
    replace H : (if x10_1 < (ji6) then ((spec_kiList.f k1 x10_1).bind fun t326 => ((spec_kiTotal.f k1 l0 t326).bind fun t329 => ((spec_kiEnough.f k1 t329 l2).bind fun t332 => (if t332 = true then (spec_kiBest.l1 k1 l0 l1 l2 x8_1 x9_1 x10_1 t326 0 t326 (t326.length : Int) 0) else (spec_kiBest.l0 k1 l0 l1 l2 x8_1 x9_1 (wrap64 (x10_1 + 1))))))) else (some (x8_1, x9_1))) = some (r1, r2) := by first | (rw [hji6] at H; exact H) | (simp only [hji6] at H ⊢; exact H)
    have hji6_ : (IntKind.i64.wrap (1 * 2 ^ min (ji4).toNat 64)) = ji6 := hji6
    have hji6z : (ji4) ≤ 64 → (IntKind.i64.wrap (1 * 2 ^ (ji4).toNat)) = ji6 := shl_small hji6
    have hji6u : (IntKind.i64.wrap (2 ^ min (ji4).toNat 64)) = ji6 := by have h_ := hji6_; rw [Int.one_mul] at h_; exact h_
    have hji6v : (ji4) ≤ 64 → (IntKind.i64.wrap (2 ^ (ji4).toNat)) = ji6 := fun hle_ => by have h_ := hji6z hle_; rw [Int.one_mul] at h_; exact h_
    have hji6y : (wrap64 (1 * 2 ^ min (ji4).toNat 64)) = ji6 := (i64_w _).symm.trans hji6_
    have hji6x : (ji4) ≤ 64 → (wrap64 (1 * 2 ^ (ji4).toNat)) = ji6 := fun h_ => (i64_w _).symm.trans (hji6z h_)
    by_cases c7 : x10_1 < (ji6)
    ·rw [if_pos c7] at H
     have c7b0 : decide (x10_1 < (ji6)) = true := decide_eq_true c7
     clear c7
     replace H := Option.bind_eq_some_iff.mp H
     obtain ⟨t326, A80, H⟩ := H
     replace H : ((spec_kiTotal.f k1 l0 t326).bind fun t329 => ((spec_kiEnough.f k1 t329 l2).bind fun t332 => (if t332 = true then (spec_kiBest.l1 k1 l0 l1 l2 x8_1 x9_1 x10_1 t326 0 t326 (t326.length : Int) 0) else (spec_kiBest.l0 k1 l0 l1 l2 x8_1 x9_1 (wrap64 (x10_1 + 1)))))) = some (r1, r2) := H
     have A8 := Aside0.mk A80
     clear A80
     replace H := Option.bind_eq_some_iff.mp H
     obtain ⟨t329, A90, H⟩ := H
     replace H : ((spec_kiEnough.f k1 t329 l2).bind fun t332 => (if t332 = true then (spec_kiBest.l1 k1 l0 l1 l2 x8_1 x9_1 x10_1 t326 0 t326 (t326.length : Int) 0) else (spec_kiBest.l0 k1 l0 l1 l2 x8_1 x9_1 (wrap64 (x10_1 + 1))))) = some (r1, r2) := H
     have A9 := Aside0.mk A90
     clear A90
     replace H := Option.bind_eq_some_iff.mp H
     obtain ⟨t332, A100, H⟩ := H
     replace H : (if t332 = true then (spec_kiBest.l1 k1 l0 l1 l2 x8_1 x9_1 x10_1 t326 0 t326 (t326.length : Int) 0) else (spec_kiBest.l0 k1 l0 l1 l2 x8_1 x9_1 (wrap64 (x10_1 + 1)))) = some (r1, r2) := H
     have A10 := Aside0.mk A100
     clear A100
     by_cases c11 : t332 = true
     ·subst c11
      rw [if_pos rfl] at H
      have H' := Aside0.mk H
      clear H
      go_wp2_with (first | ((with_reducible refine gate_callee (f := 196) rfl ?_); refine goesL_ (some 24) rfl rfl Try.func196 (by kernel_rfl) rfl #[.int .i64 x10_1] rfl qA ?_; (with_reducible refine (spec_kiList.calls k1 x10_1 t326 _ A8.out).mono ?_); rintro e w12 ⟨v327, rfl, ho0, hb⟩; refine ⟨_, rfl, ?_⟩; have n0_ := Aside0.mk (Kd.R_elder' (qR HO_8) (Kd.R_base ho0) hb); have n1_ := Aside0.mk (Kd.R_lower (Kd.R_new' ho0 (Kd.R_lt (qR HO_8))) (below_size (qB HB))); have n2_ := Aside0.mk (below_step (qB HB) hb); clear HO_8; clear HB; have HO_8 := n0_; have HO328 := n1_; have HB := n2_; clear n0_ n1_ n2_; (try clear hb); (try clear hb2); (try clear hk); (try clear hi); (try clear ho0); obtain ⟨Ao13, co13, eo13⟩ := Kd.R_slice HO328.out; subst eo13) | ((with_reducible refine gate_callee (f := 197) rfl ?_); refine goesL_ (some 27) rfl rfl Try.func197 (by kernel_rfl) rfl #[.slice A0 l0.length c0, .slice Ao13 t326.length co13] rfl qA ?_; (with_reducible refine (spec_kiTotal.calls k1 _ _ l0 _ _ t326 t329 _ ?side1 ?side2 ?side3 ?side4 A9.out).mono ?_); (case side1 => exact uC (Kd.C_below HR0.out HB.out)); (case side2 => exact HC0.out); (case side3 => exact uC (Kd.R_reads' HO328.out).2.2); (case side4 => exact (Kd.R_reads' HO328.out).2.1); rintro e w14 ⟨v330, rfl, ho0, hb⟩; refine ⟨_, rfl, ?_⟩; have n0_ := Aside0.mk (Kd.R_elder' (qR HO_8) (Kd.R_base ho0) hb); have n1_ := Aside0.mk (Kd.R_elder' (qR HO328) (Kd.R_base ho0) hb); have n2_ := Aside0.mk (Kd.R_lower (Kd.R_new' (Kd.R_new' ho0 (Kd.R_lt (qR HO_8))) (Kd.R_lt (qR HO328))) (below_size (qB HB))); have n3_ := Aside0.mk (below_step (qB HB) hb); clear HO_8; clear HO328; clear HB; have HO_8 := n0_; have HO328 := n1_; have HO331 := n2_; have HB := n3_; clear n0_ n1_ n2_ n3_; (try clear hb); (try clear hb2); (try clear hk); (try clear hi); (try clear ho0); obtain ⟨Ao15, co15, eo15⟩ := Kd.R_slice HO331.out; subst eo15) | ((with_reducible refine gate_callee (f := 155) rfl ?_); refine goesL_ (some 29) rfl rfl Try.func155 (by kernel_rfl) rfl #[.slice Ao15 t329.length co15, .slice A2 l2.length c2] rfl qA ?_; (with_reducible refine (spec_kiEnough.calls k1 _ _ t329 _ _ l2 true _ ?side1 ?side2 ?side3 ?side4 A10.out).mono ?_); (case side1 => exact uC (Kd.R_reads' HO331.out).2.2); (case side2 => exact (Kd.R_reads' HO331.out).2.1); (case side3 => exact uC (Kd.C_below HR2.out HB.out)); (case side4 => exact HC2.out); rintro e w' ⟨rfl, ⟨nd, rfl⟩⟩; refine ⟨_, rfl, ?_⟩))
      go_loopg [12, 33] k1 (fun kq v12 v33 w' => ∃ (x12_2 : Int) (x33_2 : Int), v12 = .int .i64 x12_2 ∧ v33 = .int .i64 x33_2 ∧ Aside0 (spec_kiBest.l1 kq l0 l1 l2 x8_1 x9_1 x10_1 t326 x12_2 t326 (t326.length : Int) x33_2 = some (r1, r2)) ∧ Aside0 (kq ≤ k1) ∧ Aside0 (Kd.R (Kd.int .i64) 3 w' w.heap.size (fun k_ => some k_ ≠ ((.slice Ao13 t326.length co13) : Value).ownBlock ∧ some k_ ≠ ((.slice Ao13 t326.length co13) : Value).ownBlock) u8 x8_1) ∧ Aside0 (Kd.R (Kd.int .i64) 3 w' w.heap.size (fun k_ => some k_ ≠ (u8 : Value).ownBlock) (.slice Ao13 t326.length co13) t326) ∧ Aside0 (Kd.R (Kd.int .i64) 3 w' w.heap.size (fun k_ => some k_ ≠ (u8 : Value).ownBlock) (.slice Ao13 t326.length co13) t326) ∧ Aside0 (Below w.heap.size w w'))
      case atStart => exact ⟨(0), (0), qs, qs, H', ⟨Nat.le_refl _⟩, ⟨by exact uR (Kd.R_mono HO_8.out (fun _ hk => ⟨hk.1.2, hk.1.2⟩))⟩, ⟨by exact uR (Kd.R_mono HO328.out (fun _ hk => hk.1.2))⟩, ⟨by exact uR (Kd.R_mono HO328.out (fun _ hk => hk.1.2))⟩, ⟨qB HB⟩⟩
      case round =>
       clear H'
       try clear c1
       try clear c2
       try clear p2
       try clear c5
       try clear c5b0
       try clear c5b1
       try clear p6
       try clear c7
       try clear c7b0
       try clear c11
       try clear c15
       try clear p2
       obtain ⟨x12_2, x33_2, rfl, rfl, HA, HK2, HO_8, HO_11, HO_31, HB⟩ := hrel
       cases gk with
       | zero => exact absurd HA.out (by simp [spec_kiBest.l1])
       | succ k2 =>
        have H := HA.out
        clear HA
        simp only [spec_kiBest.l1] at H
        by_cases c16 : x33_2 < (t326.length : Int)
        ·rw [if_pos c16] at H
         have c16b0 : decide (x33_2 < (t326.length : Int)) = true := decide_eq_true c16
         clear c16
         by_cases c17 : 0 ≤ x33_2
         ·rw [if_pos c17] at H
          have c17b0 : decide (0 ≤ x33_2) = true := decide_eq_true c17
          clear c17
          by_cases c18 : x33_2 < (t326.length : Int)
          ·rw [if_pos c18] at H
           have c18b0 : decide (x33_2 < (t326.length : Int)) = true := decide_eq_true c18
           clear c18
           by_cases c19 : 0 ≤ (rd t326 x33_2)
           ·rw [if_pos c19] at H
            have c19b0 : decide (0 ≤ (rd t326 x33_2)) = true := decide_eq_true c19
            clear c19
            by_cases c20 : (rd t326 x33_2) < (l1.length : Int)
            ·rw [if_pos c20] at H
             have c20b0 : decide ((rd t326 x33_2) < (l1.length : Int)) = true := decide_eq_true c20
             clear c20
             have H' := Aside0.mk H
             clear H
             have p333 : 0 ≤ (x33_2 : Int) := of_decide_eq_true qa
             have q333 : x33_2 < (t326.length : Int) := of_decide_eq_true qa
             obtain ⟨ad333, e333, hx333_0⟩ := Kd.at_int (Kd.R_reads' HO_31.out).2.2 x33_2 p333 q333
             cases e333
             replace p333 := eq_true p333
             replace q333 := eq_true q333
             have p334 : 0 ≤ ((rd t326 x33_2) : Int) := of_decide_eq_true qa
             have q334 : (rd t326 x33_2) < (l1.length : Int) := of_decide_eq_true qa
             obtain ⟨ad334, e334, hx334_0⟩ := Kd.at_int HR1.out (rd t326 x33_2) p334 q334
             cases e334
             replace hx334_0 := (HB.out.cell (World.block_lt_of_cell? w _ hx334_0)).trans hx334_0
             replace p334 := eq_true p334
             replace q334 := eq_true q334
             go_wp2
             go_roundg k2
             case measure => have := HK1.out; have := HK2.out; omega
             case rel => exact ⟨(wrap64 (x12_2 + (rd l1 (rd t326 x33_2)))), (wrap64 (x33_2 + 1)), qs, qs, H', ⟨by have := HK1.out; have := HK2.out; omega⟩, ⟨qR HO_8⟩, ⟨qR HO_11⟩, ⟨qR HO_31⟩, ⟨qB HB⟩⟩
            ·rw [if_neg c20] at H
             exact absurd H (by simp)
           ·rw [if_neg c19] at H
            exact absurd H (by simp)
          ·rw [if_neg c18] at H
           exact absurd H (by simp)
         ·rw [if_neg c17] at H
          exact absurd H (by simp)
        ·rw [if_neg c16] at H
         have c16b0 : decide (x33_2 < (t326.length : Int)) = false := decide_eq_false c16
         clear c16
         by_cases c21 : x9_1 < 0
         ·rw [if_pos c21] at H
          have c21b0 : decide (x9_1 < 0) = true := decide_eq_true c21
          clear c21
          have H' := Aside0.mk H
          clear H
          go_wp2
          go_roundg k2
          case measure => have := HK1.out; have := HK2.out; omega
          case rel => exact ⟨(t326), (x12_2), (wrap64 (x10_1 + 1)), qs, qs, H', ⟨by have := HK1.out; have := HK2.out; omega⟩, ⟨by exact uR (Kd.R_mono HO_11.out (fun _ hk => trivial))⟩, ⟨qB HB⟩⟩
         ·rw [if_neg c21] at H
          have c21b0 : decide (x9_1 < 0) = false := decide_eq_false c21
          clear c21
          by_cases c22 : x12_2 < x9_1
          ·rw [if_pos c22] at H
           have c22b0 : decide (x12_2 < x9_1) = true := decide_eq_true c22
           clear c22
           have H' := Aside0.mk H
           clear H
           go_wp2
           go_roundg k2
           case measure => have := HK1.out; have := HK2.out; omega
           case rel => exact ⟨(t326), (x12_2), (wrap64 (x10_1 + 1)), qs, qs, H', ⟨by have := HK1.out; have := HK2.out; omega⟩, ⟨by exact uR (Kd.R_mono HO_11.out (fun _ hk => trivial))⟩, ⟨qB HB⟩⟩
          ·rw [if_neg c22] at H
           have c22b0 : decide (x12_2 < x9_1) = false := decide_eq_false c22
           clear c22
           by_cases c23 : x12_2 = x9_1
           ·rw [if_pos c23] at H
            have c23b0 : (x12_2 == x9_1) = true := beq_iff_eq.mpr c23
            have c23b1 : (x12_2 != x9_1) = false := bne_eq_false_iff_eq.mpr c23
            clear c23
            replace H := Option.bind_eq_some_iff.mp H
            obtain ⟨t335, A240, H⟩ := H
            replace H : (if t335 = true then (spec_kiBest.l0 k2 l0 l1 l2 t326 x12_2 (wrap64 (x10_1 + 1))) else (spec_kiBest.l0 k2 l0 l1 l2 x8_1 x9_1 (wrap64 (x10_1 + 1)))) = some (r1, r2) := H
            have A24 := Aside0.mk A240
            clear A240
            by_cases c25 : t335 = true
            ·subst c25
             rw [if_pos rfl] at H
             have H' := Aside0.mk H
             clear H
             obtain ⟨Ao26, co26, eo26⟩ := Kd.R_slice HO_8.out
             subst eo26
             go_wp2_with (first | (go_at_call 198; (with_reducible refine (spec_kiBefore.calls k2 _ _ t326 _ _ x8_1 true _ ?side1 ?side2 ?side3 ?side4 A24.out).mono ?_); (case side1 => exact uC (Kd.R_reads' HO_11.out).2.2); (case side2 => exact (Kd.R_reads' HO_11.out).2.1); (case side3 => exact uC (Kd.R_reads' HO_8.out).2.2); (case side4 => exact (Kd.R_reads' HO_8.out).2.1); rintro e w' ⟨rfl, ⟨nd, rfl⟩⟩))
             go_roundg k2
             case measure => have := HK1.out; have := HK2.out; omega
             case rel => exact ⟨(t326), (x12_2), (wrap64 (x10_1 + 1)), qs, qs, H', ⟨by have := HK1.out; have := HK2.out; omega⟩, ⟨by exact uR (Kd.R_mono HO_11.out (fun _ hk => trivial))⟩, ⟨qB HB⟩⟩
            ·replace c25 := Bool.eq_false_iff.mpr c25
             subst c25
             rw [if_neg (show ¬ (false = true) by decide)] at H
             have H' := Aside0.mk H
             clear H
             obtain ⟨Ao27, co27, eo27⟩ := Kd.R_slice HO_8.out
             subst eo27
             go_wp2_with (first | (go_at_call 198; (with_reducible refine (spec_kiBefore.calls k2 _ _ t326 _ _ x8_1 false _ ?side1 ?side2 ?side3 ?side4 A24.out).mono ?_); (case side1 => exact uC (Kd.R_reads' HO_11.out).2.2); (case side2 => exact (Kd.R_reads' HO_11.out).2.1); (case side3 => exact uC (Kd.R_reads' HO_8.out).2.2); (case side4 => exact (Kd.R_reads' HO_8.out).2.1); rintro e w' ⟨rfl, ⟨nd, rfl⟩⟩))
             go_roundg k2
             case measure => have := HK1.out; have := HK2.out; omega
             case rel => exact ⟨(x8_1), (x9_1), (wrap64 (x10_1 + 1)), qs, qs, H', ⟨by have := HK1.out; have := HK2.out; omega⟩, ⟨by exact uR (Kd.R_mono HO_8.out (fun _ hk => trivial))⟩, ⟨qB HB⟩⟩
           ·rw [if_neg c23] at H
            have c23b0 : (x12_2 == x9_1) = false := beq_eq_false_iff_ne.mpr c23
            have c23b1 : (x12_2 != x9_1) = true := bne_iff_ne.mpr c23
            have H' := Aside0.mk H
            clear H
            go_wp2
            go_roundg k2
            case measure => have := HK1.out; have := HK2.out; omega
            case rel => exact ⟨(x8_1), (x9_1), (wrap64 (x10_1 + 1)), qs, qs, H', ⟨by have := HK1.out; have := HK2.out; omega⟩, ⟨by exact uR (Kd.R_mono HO_8.out (fun _ hk => trivial))⟩, ⟨qB HB⟩⟩
     ·replace c11 := Bool.eq_false_iff.mpr c11
      subst c11
      rw [if_neg (show ¬ (false = true) by decide)] at H
      have H' := Aside0.mk H
      clear H
      go_wp2_with (first | ((with_reducible refine gate_callee (f := 196) rfl ?_); refine goesL_ (some 24) rfl rfl Try.func196 (by kernel_rfl) rfl #[.int .i64 x10_1] rfl qA ?_; (with_reducible refine (spec_kiList.calls k1 x10_1 t326 _ A8.out).mono ?_); rintro e w28 ⟨v327, rfl, ho0, hb⟩; refine ⟨_, rfl, ?_⟩; have n0_ := Aside0.mk (Kd.R_elder' (qR HO_8) (Kd.R_base ho0) hb); have n1_ := Aside0.mk (Kd.R_lower (Kd.R_new' ho0 (Kd.R_lt (qR HO_8))) (below_size (qB HB))); have n2_ := Aside0.mk (below_step (qB HB) hb); clear HO_8; clear HB; have HO_8 := n0_; have HO328 := n1_; have HB := n2_; clear n0_ n1_ n2_; (try clear hb); (try clear hb2); (try clear hk); (try clear hi); (try clear ho0); obtain ⟨Ao29, co29, eo29⟩ := Kd.R_slice HO328.out; subst eo29) | ((with_reducible refine gate_callee (f := 197) rfl ?_); refine goesL_ (some 27) rfl rfl Try.func197 (by kernel_rfl) rfl #[.slice A0 l0.length c0, .slice Ao29 t326.length co29] rfl qA ?_; (with_reducible refine (spec_kiTotal.calls k1 _ _ l0 _ _ t326 t329 _ ?side1 ?side2 ?side3 ?side4 A9.out).mono ?_); (case side1 => exact uC (Kd.C_below HR0.out HB.out)); (case side2 => exact HC0.out); (case side3 => exact uC (Kd.R_reads' HO328.out).2.2); (case side4 => exact (Kd.R_reads' HO328.out).2.1); rintro e w30 ⟨v330, rfl, ho0, hb⟩; refine ⟨_, rfl, ?_⟩; have n0_ := Aside0.mk (Kd.R_elder' (qR HO_8) (Kd.R_base ho0) hb); have n1_ := Aside0.mk (Kd.R_elder' (qR HO328) (Kd.R_base ho0) hb); have n2_ := Aside0.mk (Kd.R_lower (Kd.R_new' (Kd.R_new' ho0 (Kd.R_lt (qR HO_8))) (Kd.R_lt (qR HO328))) (below_size (qB HB))); have n3_ := Aside0.mk (below_step (qB HB) hb); clear HO_8; clear HO328; clear HB; have HO_8 := n0_; have HO328 := n1_; have HO331 := n2_; have HB := n3_; clear n0_ n1_ n2_ n3_; (try clear hb); (try clear hb2); (try clear hk); (try clear hi); (try clear ho0); obtain ⟨Ao31, co31, eo31⟩ := Kd.R_slice HO331.out; subst eo31) | ((with_reducible refine gate_callee (f := 155) rfl ?_); refine goesL_ (some 29) rfl rfl Try.func155 (by kernel_rfl) rfl #[.slice Ao31 t329.length co31, .slice A2 l2.length c2] rfl qA ?_; (with_reducible refine (spec_kiEnough.calls k1 _ _ t329 _ _ l2 false _ ?side1 ?side2 ?side3 ?side4 A10.out).mono ?_); (case side1 => exact uC (Kd.R_reads' HO331.out).2.2); (case side2 => exact (Kd.R_reads' HO331.out).2.1); (case side3 => exact uC (Kd.C_below HR2.out HB.out)); (case side4 => exact HC2.out); rintro e w' ⟨rfl, ⟨nd, rfl⟩⟩; refine ⟨_, rfl, ?_⟩))
      go_roundg k1
      case measure => have := HK1.out; omega
      case rel => exact ⟨(x8_1), (x9_1), (wrap64 (x10_1 + 1)), qs, qs, H', ⟨by have := HK1.out; omega⟩, ⟨by exact uR (Kd.R_mono HO_8.out (fun _ hk => trivial))⟩, ⟨qB HB⟩⟩
    ·rw [if_neg c7] at H
     have c7b0 : decide (x10_1 < (ji6)) = false := decide_eq_false c7
     clear c7
     simp only [Option.some.injEq, Prod.mk.injEq] at H
     obtain ⟨rfl, rfl⟩ := H
     go_wp2
     go_ret2
     exact ⟨_, by first | rfl | (simp [errW_none, errW_some] <;> rfl) | (simp only [← hji4, ← hji6]; first | rfl | (simp [errW_none, errW_some] <;> rfl)) | (simp [*, errW_none, errW_some] <;> rfl), qR HO_8, qB HB⟩
   ·rw [if_neg c5] at H
    exact absurd H (by simp)

/-! ### spec_CheapestKits: function 76 -/
def spec_CheapestKits.j0 : Nat → List (List Int) → List Int → List Int → Bool → Option (List Int × Int × Bool)
 | 0, _, _, _, _ => none
 | k + 1, x0, x1, x2, x30 => if x30 = true then (some (([] : List Int), 0, false)) else ((spec_kiBest.f k x0 x1 x2).bind fun bt339 => (if bt339.2 < 0 then (some (([] : List Int), 0, false)) else (some (bt339.1, bt339.2, true))))
def spec_CheapestKits.f (k : Nat) (l0 : List (List Int)) (l1 : List Int) (l2 : List Int) : Option (List Int × Int × Bool) := (spec_kiKits.f k l0).bind fun t336 => (if t336 = true then (if (l1.length : Int) = (l0.length : Int) then ((spec_l1All.f k l1 0 10000).bind fun t337 => (if t337 = true then ((spec_kiParts.f k l2).bind fun t338 => (spec_CheapestKits.j0 k l0 l1 l2 (!t338))) else (spec_CheapestKits.j0 k l0 l1 l2 true))) else (spec_CheapestKits.j0 k l0 l1 l2 true)) else (spec_CheapestKits.j0 k l0 l1 l2 true))
theorem spec_CheapestKits.mono_l : ∀ k, (∀ y0 y1 y2 y3, LeO (spec_CheapestKits.j0 k y0 y1 y2 y3) (spec_CheapestKits.j0 (k + 1) y0 y1 y2 y3))
 | 0 => fun _ _ _ _ r h => by simp [spec_CheapestKits.j0] at h
 | k + 1 => by
  have ih0 := spec_CheapestKits.mono_l k
  ·intro y0 y1 y2 y3
   unfold spec_CheapestKits.j0
   repeat' first | (with_reducible first | exact ih0 _ _ _ _ | exact spec_kiBest.mono _ _ _ _ | exact spec_kiKits.mono _ _ | exact spec_kiParts.mono _ _ | exact spec_l1All.mono _ _ _ _ | exact LeO.refl _ | exact LeO.none _ | refine LeO.ite ?_ ?_ | refine LeO.bind ?_ (fun _ => ?_)) | exact ih0 _ _ _ _ | exact spec_kiBest.mono _ _ _ _ | exact spec_kiKits.mono _ _ | exact spec_kiParts.mono _ _ | exact spec_l1All.mono _ _ _ _ | exact LeO.none _ | refine LeO.ite ?_ ?_ | refine LeO.bind ?_ (fun _ => ?_)
theorem spec_CheapestKits.mono : ∀ a0 a1 a2 k, LeO (spec_CheapestKits.f k a0 a1 a2) (spec_CheapestKits.f (k + 1) a0 a1 a2) := by
 intro a0 a1 a2 k
 have ih0 := spec_CheapestKits.mono_l k
 unfold spec_CheapestKits.f
 repeat' first | (with_reducible first | exact ih0 _ _ _ _ | exact spec_kiBest.mono _ _ _ _ | exact spec_kiKits.mono _ _ | exact spec_kiParts.mono _ _ | exact spec_l1All.mono _ _ _ _ | exact LeO.refl _ | exact LeO.none _ | refine LeO.ite ?_ ?_ | refine LeO.bind ?_ (fun _ => ?_)) | exact ih0 _ _ _ _ | exact spec_kiBest.mono _ _ _ _ | exact spec_kiKits.mono _ _ | exact spec_kiParts.mono _ _ | exact spec_l1All.mono _ _ _ _ | exact LeO.none _ | refine LeO.ite ?_ ?_ | refine LeO.bind ?_ (fun _ => ?_)
set_option maxHeartbeats 8000000 in
set_option maxRecDepth 100000 in
theorem spec_CheapestKits.calls (k : Nat) (A0 : Option Addr) (c0 : Nat) (l0 : List (List Int)) (A1 : Option Addr) (c1 : Nat) (l1 : List Int) (A2 : Option Addr) (c2 : Nat) (l2 : List Int) (r1 : List Int) (r2 : Int) (r3 : Bool) (w : World) (hr0 : Kd.C (Kd.slice 3 (Kd.int .i64)) w A0 l0.length l0) (hc0 : l0.length ≤ c0) (hr1 : Kd.C (Kd.int .i64) w A1 l1.length l1) (hc1 : l1.length ≤ c1) (hr2 : Kd.C (Kd.int .i64) w A2 l2.length l2) (hc2 : l2.length ≤ c2) (h : spec_CheapestKits.f k l0 l1 l2 = some (r1, r2, r3)) :
  Calls Try.prog 76 #[.slice A0 l0.length c0, .slice A1 l1.length c1, .slice A2 l2.length c2] w fun e w' => ∃ v0_ : Value, e = .returned (.tuple #[v0_, .int .i64 r2, .bool r3]) ∧ Kd.R (Kd.int .i64) 3 w' w.heap.size (fun _ => True) v0_ r1 ∧ Below w.heap.size w w' := by
 have HR0 := Aside0.mk hr0
 have HC0 := Aside0.mk hc0
 clear hr0 hc0
 have HR1 := Aside0.mk hr1
 have HC1 := Aside0.mk hc1
 clear hr1 hc1
 have HR2 := Aside0.mk hr2
 have HC2 := Aside0.mk hc2
 clear hr2 hc2
 have HB := Aside0.mk (Below.refl w.heap.size w)
 have H : ((spec_kiKits.f k l0).bind fun t336 => (if t336 = true then (if (l1.length : Int) = (l0.length : Int) then ((spec_l1All.f k l1 0 10000).bind fun t337 => (if t337 = true then ((spec_kiParts.f k l2).bind fun t338 => (spec_CheapestKits.j0 k l0 l1 l2 (!t338))) else (spec_CheapestKits.j0 k l0 l1 l2 true))) else (spec_CheapestKits.j0 k l0 l1 l2 true)) else (spec_CheapestKits.j0 k l0 l1 l2 true))) = some (r1, r2, r3) := h
 clear h
 have HC4 := Aside0.mk H
 clear H
 go_enter Try.func76, Try.ntmps76
 go_upto_region 1 with (fail)
 go_cut [30] (fun v30 wc => ∃ (kq : Nat) (x30_3 : Bool), v30 = .bool x30_3 ∧ Aside0 (spec_CheapestKits.j0 kq l0 l1 l2 x30_3 = some (r1, r2, r3)) ∧ Aside0 (kq ≤ k) ∧ Aside0 (Below w.heap.size w wc))
 case first =>
  have H := HC4.out
  clear HC4
  replace H := Option.bind_eq_some_iff.mp H
  obtain ⟨t336, A50, H⟩ := H
  replace H : (if t336 = true then (if (l1.length : Int) = (l0.length : Int) then ((spec_l1All.f k l1 0 10000).bind fun t337 => (if t337 = true then ((spec_kiParts.f k l2).bind fun t338 => (spec_CheapestKits.j0 k l0 l1 l2 (!t338))) else (spec_CheapestKits.j0 k l0 l1 l2 true))) else (spec_CheapestKits.j0 k l0 l1 l2 true)) else (spec_CheapestKits.j0 k l0 l1 l2 true)) = some (r1, r2, r3) := H
  have A5 := Aside0.mk A50
  clear A50
  by_cases c6 : t336 = true
  ·subst c6
   rw [if_pos rfl] at H
   by_cases c7 : (l1.length : Int) = (l0.length : Int)
   ·rw [if_pos c7] at H
    have c7b0 : ((l1.length : Int) == (l0.length : Int)) = true := beq_iff_eq.mpr c7
    have c7b1 : ((l1.length : Int) != (l0.length : Int)) = false := bne_eq_false_iff_eq.mpr c7
    have c7b2 : (l1.length == l0.length) = true := by first | simpa using c7 | (simp at c7 ⊢; omega)
    clear c7
    (first | rw [c7b0] | (simp only [i64_w, i32_w]; rw [c7b0]) | skip)
    replace H := Option.bind_eq_some_iff.mp H
    obtain ⟨t337, A80, H⟩ := H
    replace H : (if t337 = true then ((spec_kiParts.f k l2).bind fun t338 => (spec_CheapestKits.j0 k l0 l1 l2 (!t338))) else (spec_CheapestKits.j0 k l0 l1 l2 true)) = some (r1, r2, r3) := H
    have A8 := Aside0.mk A80
    clear A80
    by_cases c9 : t337 = true
    ·subst c9
     rw [if_pos rfl] at H
     replace H := Option.bind_eq_some_iff.mp H
     obtain ⟨t338, A100, H⟩ := H
     replace H : (spec_CheapestKits.j0 k l0 l1 l2 (!t338)) = some (r1, r2, r3) := H
     have A10 := Aside0.mk A100
     clear A100
     have H' := Aside0.mk H
     clear H
     go_wp2_with (first | ((with_reducible refine gate_callee (f := 168) rfl ?_); refine goesL_ (some 12) rfl rfl Try.func168 (by kernel_rfl) rfl #[.slice A0 l0.length c0] rfl qA ?_; (with_reducible refine (spec_kiKits.calls k _ _ l0 true _ ?side1 ?side2 A5.out).mono ?_); (case side1 => exact uC (Kd.C_below HR0.out HB.out)); (case side2 => exact HC0.out); rintro e w' ⟨rfl, ⟨nd, rfl⟩⟩; refine ⟨_, rfl, ?_⟩) | (go_at_call 169; (with_reducible refine (spec_l1All.calls k _ _ l1 0 10000 true _ ?side1 ?side2 A8.out).mono ?_); (case side1 => exact uC (Kd.C_below HR1.out (qB HB))); (case side2 => exact HC1.out); rintro e w' ⟨rfl, ⟨nd, rfl⟩⟩) | (go_at_call 153; (with_reducible refine (spec_kiParts.calls k _ _ l2 t338 _ ?side1 ?side2 A10.out).mono ?_); (case side1 => exact uC (Kd.C_below HR2.out (qB HB))); (case side2 => exact HC2.out); rintro e w' ⟨rfl, ⟨nd, rfl⟩⟩))
     go_meet
     case rel => exact ⟨_, (!t338), qs, H', ⟨by first | omega | exact Nat.le_refl _⟩, ⟨qB HB⟩⟩
    ·replace c9 := Bool.eq_false_iff.mpr c9
     subst c9
     rw [if_neg (show ¬ (false = true) by decide)] at H
     have H' := Aside0.mk H
     clear H
     go_wp2_with (first | ((with_reducible refine gate_callee (f := 168) rfl ?_); refine goesL_ (some 12) rfl rfl Try.func168 (by kernel_rfl) rfl #[.slice A0 l0.length c0] rfl qA ?_; (with_reducible refine (spec_kiKits.calls k _ _ l0 true _ ?side1 ?side2 A5.out).mono ?_); (case side1 => exact uC (Kd.C_below HR0.out HB.out)); (case side2 => exact HC0.out); rintro e w' ⟨rfl, ⟨nd, rfl⟩⟩; refine ⟨_, rfl, ?_⟩) | (go_at_call 169; (with_reducible refine (spec_l1All.calls k _ _ l1 0 10000 false _ ?side1 ?side2 A8.out).mono ?_); (case side1 => exact uC (Kd.C_below HR1.out (qB HB))); (case side2 => exact HC1.out); rintro e w' ⟨rfl, ⟨nd, rfl⟩⟩))
     go_meet
     case rel => exact ⟨_, (true), qs, H', ⟨by first | omega | exact Nat.le_refl _⟩, ⟨qB HB⟩⟩
   ·rw [if_neg c7] at H
    have c7b0 : ((l1.length : Int) == (l0.length : Int)) = false := beq_eq_false_iff_ne.mpr c7
    have c7b1 : ((l1.length : Int) != (l0.length : Int)) = true := bne_iff_ne.mpr c7
    have c7b2 : (l1.length == l0.length) = false := by first | simpa using c7 | (simp at c7 ⊢; omega)
    (first | rw [c7b0] | (simp only [i64_w, i32_w]; rw [c7b0]) | skip)
    have H' := Aside0.mk H
    clear H
    go_wp2_with (first | ((with_reducible refine gate_callee (f := 168) rfl ?_); refine goesL_ (some 12) rfl rfl Try.func168 (by kernel_rfl) rfl #[.slice A0 l0.length c0] rfl qA ?_; (with_reducible refine (spec_kiKits.calls k _ _ l0 true _ ?side1 ?side2 A5.out).mono ?_); (case side1 => exact uC (Kd.C_below HR0.out HB.out)); (case side2 => exact HC0.out); rintro e w' ⟨rfl, ⟨nd, rfl⟩⟩; refine ⟨_, rfl, ?_⟩))
    go_meet
    case rel => exact ⟨_, (true), qs, H', ⟨by first | omega | exact Nat.le_refl _⟩, ⟨qB HB⟩⟩
  ·replace c6 := Bool.eq_false_iff.mpr c6
   subst c6
   rw [if_neg (show ¬ (false = true) by decide)] at H
   have H' := Aside0.mk H
   clear H
   go_wp2_with (first | ((with_reducible refine gate_callee (f := 168) rfl ?_); refine goesL_ (some 12) rfl rfl Try.func168 (by kernel_rfl) rfl #[.slice A0 l0.length c0] rfl qA ?_; (with_reducible refine (spec_kiKits.calls k _ _ l0 false _ ?side1 ?side2 A5.out).mono ?_); (case side1 => exact uC (Kd.C_below HR0.out HB.out)); (case side2 => exact HC0.out); rintro e w' ⟨rfl, ⟨nd, rfl⟩⟩; refine ⟨_, rfl, ?_⟩))
   go_meet
   case rel => exact ⟨_, (true), qs, H', ⟨by first | omega | exact Nat.le_refl _⟩, ⟨qB HB⟩⟩
 case rest =>
  clear HC4
  try clear c1
  try clear c2
  try clear p2
  try clear c6
  try clear c7
  try clear c7b0
  try clear c7b1
  try clear c7b2
  try clear c9
  obtain ⟨kq, x30_3, rfl, HA, HJ3, HB⟩ := hcut
  cases kq with
  | zero => exact absurd HA.out (by simp [spec_CheapestKits.j0])
  | succ kj3 =>
   have H := HA.out
   clear HA
   simp only [spec_CheapestKits.j0] at H
   by_cases c11 : x30_3 = true
   ·subst c11
    rw [if_pos rfl] at H
    simp only [Option.some.injEq, Prod.mk.injEq] at H
    obtain ⟨rfl, rfl, rfl⟩ := H
    go_wp2
    go_ret3
    exact ⟨_, qe, by first | exact Kd.R_nil _ _ _ _ _ | exact Kd.N_nil _ _ _ _ _ | exact Kd.V_nil _ _ _ _ _ | exact Kd.Q_nil _ _ _ _ _ | exact Kd.S_nil _ _ _ _ _, qB HB⟩
   ·replace c11 := Bool.eq_false_iff.mpr c11
    subst c11
    rw [if_neg (show ¬ (false = true) by decide)] at H
    replace H := Option.bind_eq_some_iff.mp H
    obtain ⟨⟨t339, t340⟩, A120, H⟩ := H
    replace H : (if t340 < 0 then (some (([] : List Int), 0, false)) else (some (t339, t340, true))) = some (r1, r2, r3) := H
    have A12 := Aside0.mk A120
    clear A120
    by_cases c13 : t340 < 0
    ·rw [if_pos c13] at H
     have c13b0 : decide (t340 < 0) = true := decide_eq_true c13
     clear c13
     simp only [Option.some.injEq, Prod.mk.injEq] at H
     obtain ⟨rfl, rfl, rfl⟩ := H
     go_wp2_with (first | ((with_reducible refine gate_callee (f := 170) rfl ?_); refine goesL_ (some 35) rfl rfl Try.func170 (by kernel_rfl) rfl #[.slice A0 l0.length c0, .slice A1 l1.length c1, .slice A2 l2.length c2] rfl qA ?_; (with_reducible refine (spec_kiBest.calls kj3 _ _ l0 _ _ l1 _ _ l2 t339 t340 _ ?side1 ?side2 ?side3 ?side4 ?side5 ?side6 A12.out).mono ?_); (case side1 => exact uC (Kd.C_below HR0.out HB.out)); (case side2 => exact HC0.out); (case side3 => exact uC (Kd.C_below HR1.out HB.out)); (case side4 => exact HC1.out); (case side5 => exact uC (Kd.C_below HR2.out HB.out)); (case side6 => exact HC2.out); rintro e w14 ⟨v341, rfl, ho0, hb⟩; refine ⟨_, rfl, ?_⟩; have n0_ := Aside0.mk (Kd.R_lower ho0 (below_size (qB HB))); have n1_ := Aside0.mk (below_step (qB HB) hb); clear HB; have HO342 := n0_; have HB := n1_; clear n0_ n1_; (try clear hb); (try clear hb2); (try clear hk); (try clear hi); (try clear ho0)))
     go_ret3
     exact ⟨_, qe, by first | exact Kd.R_nil _ _ _ _ _ | exact Kd.N_nil _ _ _ _ _ | exact Kd.V_nil _ _ _ _ _ | exact Kd.Q_nil _ _ _ _ _ | exact Kd.S_nil _ _ _ _ _, qB HB⟩
    ·rw [if_neg c13] at H
     have c13b0 : decide (t340 < 0) = false := decide_eq_false c13
     clear c13
     simp only [Option.some.injEq, Prod.mk.injEq] at H
     obtain ⟨rfl, rfl, rfl⟩ := H
     go_wp2_with (first | ((with_reducible refine gate_callee (f := 170) rfl ?_); refine goesL_ (some 35) rfl rfl Try.func170 (by kernel_rfl) rfl #[.slice A0 l0.length c0, .slice A1 l1.length c1, .slice A2 l2.length c2] rfl qA ?_; (with_reducible refine (spec_kiBest.calls kj3 _ _ l0 _ _ l1 _ _ l2 t339 t340 _ ?side1 ?side2 ?side3 ?side4 ?side5 ?side6 A12.out).mono ?_); (case side1 => exact uC (Kd.C_below HR0.out HB.out)); (case side2 => exact HC0.out); (case side3 => exact uC (Kd.C_below HR1.out HB.out)); (case side4 => exact HC1.out); (case side5 => exact uC (Kd.C_below HR2.out HB.out)); (case side6 => exact HC2.out); rintro e w15 ⟨v341, rfl, ho0, hb⟩; refine ⟨_, rfl, ?_⟩; have n0_ := Aside0.mk (Kd.R_lower ho0 (below_size (qB HB))); have n1_ := Aside0.mk (below_step (qB HB) hb); clear HB; have HO342 := n0_; have HB := n1_; clear n0_ n1_; (try clear hb); (try clear hb2); (try clear hk); (try clear hi); (try clear ho0)))
     go_ret3
     exact ⟨_, qe, qR HO342, qB HB⟩

/-! ### impl_FewestKits: function 77 -/
def impl_FewestKits.l0 : Nat → List (List Int) → List Int → List (List Int) → List Int → Bool → Int → Option (List Int × Bool)
 | 0, _, _, _, _, _, _ => none
 | k + 1, x0, x1, ps, b, f, i => if i < (ps.length : Int) then (if 0 ≤ i then ((impl_sumOfKits.f k x0 (rdRow ps i)).bind fun t => ((impl_isEnough.f k t x1).bind fun e => (if e = true then (if f = true then (if ((rdRow ps i).length : Int) < (b.length : Int) then (impl_FewestKits.l0 k x0 x1 ps (rdRow ps i) true (wrap64 (i + 1))) else (impl_FewestKits.l0 k x0 x1 ps b f (wrap64 (i + 1)))) else (impl_FewestKits.l0 k x0 x1 ps (rdRow ps i) true (wrap64 (i + 1)))) else (impl_FewestKits.l0 k x0 x1 ps b f (wrap64 (i + 1)))))) else (none)) else (if f = true then (some (b, true)) else (some ([], false)))
def impl_FewestKits.f (k : Nat) (l0 : List (List Int)) (l1 : List Int) : Option (List Int × Bool) := (impl_areKits.f k l0).bind fun a => (if a = true then ((impl_isKit.f k l1).bind fun b => (if b = true then ((impl_purchases.f (l0.length : Int)).bind fun ps => (impl_FewestKits.l0 k l0 l1 ps [] false 0)) else (some ([], false)))) else (some ([], false)))
theorem impl_FewestKits.mono_l : ∀ k, (∀ y0 y1 y2 y3 y4 y5, LeO (impl_FewestKits.l0 k y0 y1 y2 y3 y4 y5) (impl_FewestKits.l0 (k + 1) y0 y1 y2 y3 y4 y5))
 | 0 => fun _ _ _ _ _ _ r h => by simp [impl_FewestKits.l0] at h
 | k + 1 => by
  have ih0 := impl_FewestKits.mono_l k
  intro y0 y1 y2 y3 y4 y5
  unfold impl_FewestKits.l0
  repeat' first | (with_reducible first | exact ih0 _ _ _ _ _ _ | exact impl_sumOfKits.mono _ _ _ | exact impl_isEnough.mono _ _ _ | exact LeO.refl _ | exact LeO.none _ | refine LeO.ite ?_ ?_ | refine LeO.bind ?_ (fun _ => ?_))
theorem impl_FewestKits.mono : ∀ a0 a1 k, LeO (impl_FewestKits.f k a0 a1) (impl_FewestKits.f (k + 1) a0 a1) := by
 intro a0 a1 k
 have ih0 := impl_FewestKits.mono_l k
 unfold impl_FewestKits.f
 repeat' first | (with_reducible first | exact ih0 _ _ _ _ _ _ | exact impl_areKits.mono _ _ | exact impl_isKit.mono _ _ | exact LeO.refl _ | refine LeO.ite ?_ ?_ | refine LeO.bind ?_ (fun _ => ?_))
set_option maxHeartbeats 8000000 in
set_option maxRecDepth 100000 in
theorem impl_FewestKits.calls (k : Nat) (A0 : Option Addr) (c0 : Nat) (l0 : List (List Int)) (A1 : Option Addr) (c1 : Nat) (l1 : List Int) (r1 : List Int) (r2 : Bool) (w : World) (hr0 : Kd.C (Kd.slice 3 (Kd.int .i64)) w A0 l0.length l0) (hc0 : l0.length ≤ c0) (hr1 : Kd.C (Kd.int .i64) w A1 l1.length l1) (hc1 : l1.length ≤ c1) (h : impl_FewestKits.f k l0 l1 = some (r1, r2)) :
  Calls Try.prog 77 #[.slice A0 l0.length c0, .slice A1 l1.length c1] w fun e w' => ∃ v0_ : Value, e = .returned (.tuple #[v0_, .bool r2]) ∧ Kd.R (Kd.int .i64) 3 w' w.heap.size (fun _ => True) v0_ r1 ∧ Below w.heap.size w w' := by
 have HR0 := Aside0.mk hr0
 have HC0 := Aside0.mk hc0
 have HR1 := Aside0.mk hr1
 have HC1 := Aside0.mk hc1
 clear hr0 hc0 hr1 hc1
 unfold impl_FewestKits.f at h
 obtain ⟨a, ha, h⟩ := Option.bind_eq_some_iff.mp h
 have HA := Aside0.mk ha
 clear ha
 cases a with
 | false =>
  simp only [Bool.false_eq_true, if_false, Option.some.injEq, Prod.mk.injEq] at h
  obtain ⟨rfl, rfl⟩ := h
  go_enter Try.func77, Try.ntmps77
  go_wp2_with (go_at_call 165; (with_reducible refine (impl_areKits.calls k _ _ l0 false _ ?s1 HC0.out HA.out).mono ?_); (case s1 => exact HR0.out); rintro e w' ⟨rfl, ⟨nd, rfl⟩⟩)
  go_ret2
  exact ⟨_, rfl, Kd.R_nil _ _ _ _ _, pw_below_drewN (Below.refl _ _) _⟩
 | true =>
  simp only [if_true] at h
  obtain ⟨b, hb, h⟩ := Option.bind_eq_some_iff.mp h
  have HB0 := Aside0.mk hb
  clear hb
  cases b with
  | false =>
   simp only [Bool.false_eq_true, if_false, Option.some.injEq, Prod.mk.injEq] at h
   obtain ⟨rfl, rfl⟩ := h
   go_enter Try.func77, Try.ntmps77
   go_wp2_with (first | (go_at_call 165; (with_reducible refine (impl_areKits.calls k _ _ l0 true _ ?s1 HC0.out HA.out).mono ?_); (case s1 => exact HR0.out); rintro e w' ⟨rfl, ⟨nd, rfl⟩⟩) | (go_at_call 149; (with_reducible refine (impl_isKit.calls k _ _ l1 false _ ?s1 HC1.out HB0.out).mono ?_); (case s1 => exact Kd.C_drewN HR1.out _); rintro e w' ⟨rfl, ⟨nd2, rfl⟩⟩))
   go_ret2
   exact ⟨_, rfl, Kd.R_nil _ _ _ _ _, by repeat (first | exact Below.refl _ _ | apply pw_below_drewN | apply below_drew1)⟩
  | true =>
   simp only [if_true] at h
   obtain ⟨ps, hp, h⟩ := Option.bind_eq_some_iff.mp h
   have HP := Aside0.mk hp
   have H' := Aside0.mk h
   clear hp h
   go_enter Try.func77, Try.ntmps77
   go_wp2_with (first | (go_at_call 165; (with_reducible refine (impl_areKits.calls k _ _ l0 true _ ?s1 HC0.out HA.out).mono ?_); (case s1 => exact HR0.out); rintro e w' ⟨rfl, ⟨nd, rfl⟩⟩) | (go_at_call 149; (with_reducible refine (impl_isKit.calls k _ _ l1 true _ ?s1 HC1.out HB0.out).mono ?_); (case s1 => exact Kd.C_drewN HR1.out _); rintro e w' ⟨rfl, ⟨nd2, rfl⟩⟩) | (go_at_call 166; (with_reducible refine (impl_purchases.calls _ ps _ HP.out).mono ?_); rintro e w9 ⟨v9, rfl, ho9, hb9⟩; obtain ⟨A9, c9, e9⟩ := Kd.S_slice ho9; subst e9; have n1_ := Aside0.mk (Kd.R_mono (ok' := fun _ => True) (Kd.R_elder' (v := .slice none 0 0) (Kd.R_emptyLit (Kd.int .i64) (w.drewN (nd + nd2)) w.heap.size 3 (fun _ => True) (Nat.le_refl _) trivial) (fun _ he => by simp [Value.ownBlock] at he) hb9) (fun _ _ => trivial)); have n2_ := Aside0.mk (show Below w.heap.size w w9 from below_step (w := w) (by repeat (first | exact Below.refl _ _ | apply below_alloc | apply pw_below_drewN)) hb9); have n3_ := Aside0.mk (Kd.S_mono (ok' := fun _ => True) (Kd.S_lower (base' := w.heap.size) ho9 (by simp [World.alloc])) (fun _ _ => trivial)); clear ho9 hb9))
   go_loopg [6, 7, 23] k (fun kq v6 v7 v23 w' => ∃ (b : List Int) (f : Bool) (i : Int), v7 = .bool f ∧ v23 = .int .i64 i ∧ Aside0 (impl_FewestKits.l0 kq l0 l1 ps b f i = some (r1, r2)) ∧ Aside0 (kq ≤ k) ∧ Aside0 (Kd.R (Kd.int .i64) 3 w' w.heap.size (fun _ => True) v6 b) ∧ Aside0 (Kd.S (Kd.slice 3 (Kd.int .i64)) 23 w' w.heap.size (fun _ => True) (.slice A9 ps.length c9) ps) ∧ Aside0 (Below w.heap.size w w'))
   case atStart => exact ⟨[], false, 0, rfl, rfl, H', ⟨Nat.le_refl _⟩, n1_, n3_, n2_⟩
   case round =>
    clear n1_ n2_ n3_ H'
    obtain ⟨b, f, i, rfl, rfl, HH, HK1, HRb, HS, HB⟩ := hrel
    obtain ⟨A6, c6, e6⟩ := Kd.R_slice HRb.out
    subst e6
    cases gk with
    | zero => exact absurd HH.out (by simp [impl_FewestKits.l0])
    | succ k1 =>
     have H := HH.out
     clear HH
     simp only [impl_FewestKits.l0] at H
     by_cases c1 : i < (ps.length : Int)
     ·rw [if_pos c1] at H
      have c1b : decide (i < (ps.length : Int)) = true := decide_eq_true c1
      by_cases c2 : 0 ≤ i
      ·rw [if_pos c2] at H
       obtain ⟨t, ht, H⟩ := Option.bind_eq_some_iff.mp H
       obtain ⟨e, he, H⟩ := Option.bind_eq_some_iff.mp H
       have HT1 := Aside0.mk ht
       have HT2 := Aside0.mk he
       clear ht he
       have hC := (Kd.S_reads' HS.out).2.2
       obtain ⟨g9, cc9, e9, _, _, _⟩ := Kd.S_form HS.out (by omega)
       injection e9 with e9a e9b e9c
       subst e9a e9c
       obtain ⟨oki, c, hcl, hM, hcc, hfr, hok, hH⟩ := Kd.S_elem HS.out ([] : List Int) i c2 (by omega)
       obtain ⟨ve, rfl, ge⟩ := hM
       have hx := hcc 0 _ rfl
       simp only [show (Kd.slice 3 (Kd.int .i64)).sz = 1 from rfl, Nat.mul_one, Nat.add_zero] at hx
       have HRe := Aside0.mk (Kd.R_mono (ok' := fun _ => True) (show Kd.R (Kd.int .i64) 3 wr w.heap.size oki ve (rdRow ps i) from ge) (fun _ _ => trivial))
       clear hcl hcc hfr hok hH ge hC e9b
       obtain ⟨Ae, ce, ee⟩ := Kd.R_slice HRe.out
       subst ee
       have p1 := eq_true c2
       have q1 := eq_true c1
       clear c1 c2
       cases e with
       | false =>
        simp only [Bool.false_eq_true, if_false] at H
        have H' := Aside0.mk H
        clear H
        go_wp2_with (first | (go_at_call 167; (with_reducible refine (impl_sumOfKits.calls k1 _ _ l0 _ _ (rdRow ps i) t _ ?s1 HC0.out ?s2 ?s3 HT1.out).mono ?_); (case s1 => exact Kd.C_below HR0.out HB.out); (case s2 => exact (Kd.R_reads' HRe.out).2.2); (case s3 => exact (Kd.R_reads' HRe.out).2.1); rintro e w2 ⟨v2, rfl, ho2, hb2⟩; obtain ⟨A2, c2_, e2⟩ := Kd.R_slice ho2; subst e2; have n1_ := Aside0.mk (Kd.R_mono (ok' := fun _ => True) (Kd.R_elder' (v := .slice none 0 0) HRb.out (fun _ he => by simp [Value.ownBlock] at he) hb2) (fun _ _ => trivial)); have n2_ := Aside0.mk (Kd.S_mono (ok' := fun _ => True) (Kd.S_elder' (v := .slice none 0 0) HS.out (fun _ he => by simp [Value.ownBlock] at he) hb2) (fun _ _ => trivial)); have n3_ := Aside0.mk (Kd.R_mono (ok' := fun _ => True) (Kd.R_elder' (v := .slice none 0 0) HRe.out (fun _ he => by simp [Value.ownBlock] at he) hb2) (fun _ _ => trivial)); have n4_ := Aside0.mk (below_step HB.out hb2); have HRt := Aside0.mk ho2; clear HRb HS HRe HB ho2 hb2) | (go_at_call 151; (with_reducible refine (impl_isEnough.calls k1 _ _ t _ _ l1 false _ ?s1 ?s2 ?s3 HC1.out HT2.out).mono ?_); (case s1 => exact (Kd.R_reads' HRt.out).2.2); (case s2 => exact (Kd.R_reads' HRt.out).2.1); (case s3 => exact Kd.C_below HR1.out n4_.out); rintro e w3 ⟨rfl, ⟨nd3, rfl⟩⟩))
        go_roundg k1
        case measure => omega
        case rel => exact ⟨_, _, _, rfl, rfl, H', ⟨by have := HK1.out; omega⟩, ⟨Kd.R_drewN n1_.out _⟩, ⟨Kd.S_drewN n2_.out _⟩, ⟨pw_below_drewN n4_.out _⟩⟩
       | true =>
        simp only [if_true] at H
        cases f with
        | false =>
         simp only [Bool.false_eq_true, if_false] at H
         have H' := Aside0.mk H
         clear H
         go_wp2_with (first | (go_at_call 167; (with_reducible refine (impl_sumOfKits.calls k1 _ _ l0 _ _ (rdRow ps i) t _ ?s1 HC0.out ?s2 ?s3 HT1.out).mono ?_); (case s1 => exact Kd.C_below HR0.out HB.out); (case s2 => exact (Kd.R_reads' HRe.out).2.2); (case s3 => exact (Kd.R_reads' HRe.out).2.1); rintro e w2 ⟨v2, rfl, ho2, hb2⟩; obtain ⟨A2, c2_, e2⟩ := Kd.R_slice ho2; subst e2; have n1_ := Aside0.mk (Kd.R_mono (ok' := fun _ => True) (Kd.R_elder' (v := .slice none 0 0) HRb.out (fun _ he => by simp [Value.ownBlock] at he) hb2) (fun _ _ => trivial)); have n2_ := Aside0.mk (Kd.S_mono (ok' := fun _ => True) (Kd.S_elder' (v := .slice none 0 0) HS.out (fun _ he => by simp [Value.ownBlock] at he) hb2) (fun _ _ => trivial)); have n3_ := Aside0.mk (Kd.R_mono (ok' := fun _ => True) (Kd.R_elder' (v := .slice none 0 0) HRe.out (fun _ he => by simp [Value.ownBlock] at he) hb2) (fun _ _ => trivial)); have n4_ := Aside0.mk (below_step HB.out hb2); have HRt := Aside0.mk ho2; clear HRb HS HRe HB ho2 hb2) | (go_at_call 151; (with_reducible refine (impl_isEnough.calls k1 _ _ t _ _ l1 true _ ?s1 ?s2 ?s3 HC1.out HT2.out).mono ?_); (case s1 => exact (Kd.R_reads' HRt.out).2.2); (case s2 => exact (Kd.R_reads' HRt.out).2.1); (case s3 => exact Kd.C_below HR1.out n4_.out); rintro e w3 ⟨rfl, ⟨nd3, rfl⟩⟩))
         go_roundg k1
         case measure => omega
         case rel => exact ⟨_, _, _, rfl, rfl, H', ⟨by have := HK1.out; omega⟩, ⟨Kd.R_drewN n3_.out _⟩, ⟨Kd.S_drewN n2_.out _⟩, ⟨pw_below_drewN n4_.out _⟩⟩
        | true =>
         simp only [if_true] at H
         by_cases c3 : ((rdRow ps i).length : Int) < (b.length : Int)
         ·rw [if_pos c3] at H
          have c3b : decide (((rdRow ps i).length : Int) < (b.length : Int)) = true := decide_eq_true c3
          have H' := Aside0.mk H
          clear H
          go_wp2_with (first | (go_at_call 167; (with_reducible refine (impl_sumOfKits.calls k1 _ _ l0 _ _ (rdRow ps i) t _ ?s1 HC0.out ?s2 ?s3 HT1.out).mono ?_); (case s1 => exact Kd.C_below HR0.out HB.out); (case s2 => exact (Kd.R_reads' HRe.out).2.2); (case s3 => exact (Kd.R_reads' HRe.out).2.1); rintro e w2 ⟨v2, rfl, ho2, hb2⟩; obtain ⟨A2, c2_, e2⟩ := Kd.R_slice ho2; subst e2; have n1_ := Aside0.mk (Kd.R_mono (ok' := fun _ => True) (Kd.R_elder' (v := .slice none 0 0) HRb.out (fun _ he => by simp [Value.ownBlock] at he) hb2) (fun _ _ => trivial)); have n2_ := Aside0.mk (Kd.S_mono (ok' := fun _ => True) (Kd.S_elder' (v := .slice none 0 0) HS.out (fun _ he => by simp [Value.ownBlock] at he) hb2) (fun _ _ => trivial)); have n3_ := Aside0.mk (Kd.R_mono (ok' := fun _ => True) (Kd.R_elder' (v := .slice none 0 0) HRe.out (fun _ he => by simp [Value.ownBlock] at he) hb2) (fun _ _ => trivial)); have n4_ := Aside0.mk (below_step HB.out hb2); have HRt := Aside0.mk ho2; clear HRb HS HRe HB ho2 hb2) | (go_at_call 151; (with_reducible refine (impl_isEnough.calls k1 _ _ t _ _ l1 true _ ?s1 ?s2 ?s3 HC1.out HT2.out).mono ?_); (case s1 => exact (Kd.R_reads' HRt.out).2.2); (case s2 => exact (Kd.R_reads' HRt.out).2.1); (case s3 => exact Kd.C_below HR1.out n4_.out); rintro e w3 ⟨rfl, ⟨nd3, rfl⟩⟩))
          go_roundg k1
          case measure => omega
          case rel => exact ⟨_, _, _, rfl, rfl, H', ⟨by have := HK1.out; omega⟩, ⟨Kd.R_drewN n3_.out _⟩, ⟨Kd.S_drewN n2_.out _⟩, ⟨pw_below_drewN n4_.out _⟩⟩
         ·rw [if_neg c3] at H
          have c3b : decide (((rdRow ps i).length : Int) < (b.length : Int)) = false := decide_eq_false c3
          have H' := Aside0.mk H
          clear H
          go_wp2_with (first | (go_at_call 167; (with_reducible refine (impl_sumOfKits.calls k1 _ _ l0 _ _ (rdRow ps i) t _ ?s1 HC0.out ?s2 ?s3 HT1.out).mono ?_); (case s1 => exact Kd.C_below HR0.out HB.out); (case s2 => exact (Kd.R_reads' HRe.out).2.2); (case s3 => exact (Kd.R_reads' HRe.out).2.1); rintro e w2 ⟨v2, rfl, ho2, hb2⟩; obtain ⟨A2, c2_, e2⟩ := Kd.R_slice ho2; subst e2; have n1_ := Aside0.mk (Kd.R_mono (ok' := fun _ => True) (Kd.R_elder' (v := .slice none 0 0) HRb.out (fun _ he => by simp [Value.ownBlock] at he) hb2) (fun _ _ => trivial)); have n2_ := Aside0.mk (Kd.S_mono (ok' := fun _ => True) (Kd.S_elder' (v := .slice none 0 0) HS.out (fun _ he => by simp [Value.ownBlock] at he) hb2) (fun _ _ => trivial)); have n3_ := Aside0.mk (Kd.R_mono (ok' := fun _ => True) (Kd.R_elder' (v := .slice none 0 0) HRe.out (fun _ he => by simp [Value.ownBlock] at he) hb2) (fun _ _ => trivial)); have n4_ := Aside0.mk (below_step HB.out hb2); have HRt := Aside0.mk ho2; clear HRb HS HRe HB ho2 hb2) | (go_at_call 151; (with_reducible refine (impl_isEnough.calls k1 _ _ t _ _ l1 true _ ?s1 ?s2 ?s3 HC1.out HT2.out).mono ?_); (case s1 => exact (Kd.R_reads' HRt.out).2.2); (case s2 => exact (Kd.R_reads' HRt.out).2.1); (case s3 => exact Kd.C_below HR1.out n4_.out); rintro e w3 ⟨rfl, ⟨nd3, rfl⟩⟩))
          go_roundg k1
          case measure => omega
          case rel => exact ⟨_, _, _, rfl, rfl, H', ⟨by have := HK1.out; omega⟩, ⟨Kd.R_drewN n1_.out _⟩, ⟨Kd.S_drewN n2_.out _⟩, ⟨pw_below_drewN n4_.out _⟩⟩
      ·rw [if_neg c2] at H
       exact absurd H (by simp)
     ·rw [if_neg c1] at H
      have c1b : decide (i < (ps.length : Int)) = false := decide_eq_false c1
      cases f with
      | false =>
       simp only [Bool.false_eq_true, if_false, Option.some.injEq, Prod.mk.injEq] at H
       obtain ⟨rfl, rfl⟩ := H
       go_wp2
       go_ret2
       exact ⟨_, rfl, Kd.R_nil _ _ _ _ _, HB.out⟩
      | true =>
       simp only [if_true, Option.some.injEq, Prod.mk.injEq] at H
       obtain ⟨rfl, rfl⟩ := H
       go_wp2
       go_ret2
       exact ⟨_, rfl, HRb.out, HB.out⟩


end Go.Proofs.Ytgblcbgkkfipoaa.XFnPurchases
