/- Written by xprint.py, a program of this session, out of the translation: what Go functions compute, as Lean functions, proved over the program. -/
import Derived.Test.YtgblcbgkkfipoaaXFnPurchasesx0
import Derived.Test.YtgblcbgkkfipoaaXFnPurchasesx2
import Derived.Test.YtgblcbgkkfipoaaXFnPurchasesx3
import Derived.Test.YtgblcbgkkfipoaaXFnPurchasesx4
import Derived.Test.YtgblcbgkkfipoaaXFnPurchasesx5
import Derived.Test.YtgblcbgkkfipoaaXFnPurchasesx6
import Derived.Test.YtgblcbgkkfipoaaXFnPurchasesx7
import Derived.Test.YtgblcbgkkfipoaaWQuickB
namespace Go.Proofs.Ytgblcbgkkfipoaa.XFnPurchases
open Go.RowKit Go.Proofs.YtgblcbgkkfipoaaW.PrintWords Go.Proofs.YtgblcbgkkfipoaaW.PrintLast Go.Proofs.YtgblcbgkkfipoaaW.PrintMore
attribute [local go_sem] max2_int min2_int max_two min_two max_three min_three max_four min_four   -- for this text's walks alone
set_option linter.unusedVariables false
set_option linter.unusedSimpArgs false

/-! ### spec_FewestKits: function 78 -/
mutual
def spec_FewestKits.j0 : Nat → List (List Int) → List Int → Bool → Option (List Int × Bool)
 | 0, _, _, _ => none
 | k + 1, x0, x1, x17 => if x17 = true then (some (([] : List Int), false)) else (if 0 ≤ (x0.length : Int) then (if ((x0.length : Int) : Int).toNat ≤ 35184372088832 then ((some (List.replicate ((x0.length : Int) : Int).toNat 0 : List Int)).bind fun y345 => (spec_FewestKits.l0 k x0 x1 y345 (y345.length : Int) 0)) else (none)) else (none))
def spec_FewestKits.l0 : Nat → List (List Int) → List Int → List Int → Int → Int → Option (List Int × Bool)
 | 0, _, _, _, _, _ => none
 | k + 1, x0, x1, x6, x22, x23 => if x23 < x22 then (if 0 ≤ x23 then (if x23 < (x6.length : Int) then (spec_FewestKits.l0 k x0 x1 (x6.set (x23 : Int).toNat 1) x22 (wrap64 (x23 + 1))) else (none)) else (none)) else ((spec_kiBest.f k x0 x6 x1).bind fun bt349 => (if bt349.2 < 0 then (some (([] : List Int), false)) else (some (bt349.1, true))))
end
def spec_FewestKits.f (k : Nat) (l0 : List (List Int)) (l1 : List Int) : Option (List Int × Bool) := (spec_kiKits.f k l0).bind fun t343 => (if t343 = true then ((spec_kiParts.f k l1).bind fun t344 => (spec_FewestKits.j0 k l0 l1 (!t344))) else (spec_FewestKits.j0 k l0 l1 true))
theorem spec_FewestKits.mono_l : ∀ k, (∀ y0 y1 y2, LeO (spec_FewestKits.j0 k y0 y1 y2) (spec_FewestKits.j0 (k + 1) y0 y1 y2)) ∧ (∀ y0 y1 y2 y3 y4, LeO (spec_FewestKits.l0 k y0 y1 y2 y3 y4) (spec_FewestKits.l0 (k + 1) y0 y1 y2 y3 y4))
 | 0 => ⟨fun _ _ _ r h => by simp [spec_FewestKits.j0] at h, fun _ _ _ _ _ r h => by simp [spec_FewestKits.l0] at h⟩
 | k + 1 => by
  obtain ⟨ih0, ih1⟩ := spec_FewestKits.mono_l k
  refine ⟨?_, ?_⟩
  ·intro y0 y1 y2
   unfold spec_FewestKits.j0
   repeat' first | (with_reducible first | exact ih0 _ _ _ | exact ih1 _ _ _ _ _ | exact spec_kiBest.mono _ _ _ _ | exact spec_kiKits.mono _ _ | exact spec_kiParts.mono _ _ | exact LeO.refl _ | exact LeO.none _ | refine LeO.ite ?_ ?_ | refine LeO.bind ?_ (fun _ => ?_)) | exact ih0 _ _ _ | exact ih1 _ _ _ _ _ | exact spec_kiBest.mono _ _ _ _ | exact spec_kiKits.mono _ _ | exact spec_kiParts.mono _ _ | exact LeO.none _ | refine LeO.ite ?_ ?_ | refine LeO.bind ?_ (fun _ => ?_)
  ·intro y0 y1 y2 y3 y4
   unfold spec_FewestKits.l0
   repeat' first | (with_reducible first | exact ih0 _ _ _ | exact ih1 _ _ _ _ _ | exact spec_kiBest.mono _ _ _ _ | exact spec_kiKits.mono _ _ | exact spec_kiParts.mono _ _ | exact LeO.refl _ | exact LeO.none _ | refine LeO.ite ?_ ?_ | refine LeO.bind ?_ (fun _ => ?_)) | exact ih0 _ _ _ | exact ih1 _ _ _ _ _ | exact spec_kiBest.mono _ _ _ _ | exact spec_kiKits.mono _ _ | exact spec_kiParts.mono _ _ | exact LeO.none _ | refine LeO.ite ?_ ?_ | refine LeO.bind ?_ (fun _ => ?_)
theorem spec_FewestKits.mono : ∀ a0 a1 k, LeO (spec_FewestKits.f k a0 a1) (spec_FewestKits.f (k + 1) a0 a1) := by
 intro a0 a1 k
 obtain ⟨ih0, ih1⟩ := spec_FewestKits.mono_l k
 unfold spec_FewestKits.f
 repeat' first | (with_reducible first | exact ih0 _ _ _ | exact ih1 _ _ _ _ _ | exact spec_kiBest.mono _ _ _ _ | exact spec_kiKits.mono _ _ | exact spec_kiParts.mono _ _ | exact LeO.refl _ | exact LeO.none _ | refine LeO.ite ?_ ?_ | refine LeO.bind ?_ (fun _ => ?_)) | exact ih0 _ _ _ | exact ih1 _ _ _ _ _ | exact spec_kiBest.mono _ _ _ _ | exact spec_kiKits.mono _ _ | exact spec_kiParts.mono _ _ | exact LeO.none _ | refine LeO.ite ?_ ?_ | refine LeO.bind ?_ (fun _ => ?_)
set_option maxHeartbeats 8000000 in
set_option maxRecDepth 100000 in
theorem spec_FewestKits.calls (k : Nat) (A0 : Option Addr) (c0 : Nat) (l0 : List (List Int)) (A1 : Option Addr) (c1 : Nat) (l1 : List Int) (r1 : List Int) (r2 : Bool) (w : World) (hr0 : Kd.C (Kd.slice 3 (Kd.int .i64)) w A0 l0.length l0) (hc0 : l0.length ≤ c0) (hr1 : Kd.C (Kd.int .i64) w A1 l1.length l1) (hc1 : l1.length ≤ c1) (h : spec_FewestKits.f k l0 l1 = some (r1, r2)) :
  Calls Try.prog 78 #[.slice A0 l0.length c0, .slice A1 l1.length c1] w fun e w' => ∃ v0_ : Value, e = .returned (.tuple #[v0_, .bool r2]) ∧ Kd.R (Kd.int .i64) 3 w' w.heap.size (fun _ => True) v0_ r1 ∧ Below w.heap.size w w' := by
 have HR0 := Aside0.mk hr0
 have HC0 := Aside0.mk hc0
 clear hr0 hc0
 have HR1 := Aside0.mk hr1
 have HC1 := Aside0.mk hc1
 clear hr1 hc1
 have HB := Aside0.mk (Below.refl w.heap.size w)
 have H : ((spec_kiKits.f k l0).bind fun t343 => (if t343 = true then ((spec_kiParts.f k l1).bind fun t344 => (spec_FewestKits.j0 k l0 l1 (!t344))) else (spec_FewestKits.j0 k l0 l1 true))) = some (r1, r2) := h
 clear h
 have HC3 := Aside0.mk H
 clear H
 go_enter Try.func78, Try.ntmps78
 go_upto_region 1 with (fail)
 go_cut [17] (fun v17 wc => ∃ (kq : Nat) (x17_2 : Bool), v17 = .bool x17_2 ∧ Aside0 (spec_FewestKits.j0 kq l0 l1 x17_2 = some (r1, r2)) ∧ Aside0 (kq ≤ k) ∧ Aside0 (Below w.heap.size w wc))
 case first =>
  have H := HC3.out
  clear HC3
  replace H := Option.bind_eq_some_iff.mp H
  obtain ⟨t343, A40, H⟩ := H
  replace H : (if t343 = true then ((spec_kiParts.f k l1).bind fun t344 => (spec_FewestKits.j0 k l0 l1 (!t344))) else (spec_FewestKits.j0 k l0 l1 true)) = some (r1, r2) := H
  have A4 := Aside0.mk A40
  clear A40
  by_cases c5 : t343 = true
  ·subst c5
   rw [if_pos rfl] at H
   replace H := Option.bind_eq_some_iff.mp H
   obtain ⟨t344, A60, H⟩ := H
   replace H : (spec_FewestKits.j0 k l0 l1 (!t344)) = some (r1, r2) := H
   have A6 := Aside0.mk A60
   clear A60
   have H' := Aside0.mk H
   clear H
   go_wp2_with (first | ((with_reducible refine gate_callee (f := 168) rfl ?_); refine goesL_ (some 11) rfl rfl Try.func168 (by kernel_rfl) rfl #[.slice A0 l0.length c0] rfl qA ?_; (with_reducible refine (spec_kiKits.calls k _ _ l0 true _ ?side1 ?side2 A4.out).mono ?_); (case side1 => exact uC (Kd.C_below HR0.out HB.out)); (case side2 => exact HC0.out); rintro e w' ⟨rfl, ⟨nd, rfl⟩⟩; refine ⟨_, rfl, ?_⟩) | (go_at_call 153; (with_reducible refine (spec_kiParts.calls k _ _ l1 t344 _ ?side1 ?side2 A6.out).mono ?_); (case side1 => exact uC (Kd.C_below HR1.out (qB HB))); (case side2 => exact HC1.out); rintro e w' ⟨rfl, ⟨nd, rfl⟩⟩))
   go_meet
   case rel => exact ⟨_, (!t344), qs, H', ⟨by first | omega | exact Nat.le_refl _⟩, ⟨qB HB⟩⟩
  ·replace c5 := Bool.eq_false_iff.mpr c5
   subst c5
   rw [if_neg (show ¬ (false = true) by decide)] at H
   have H' := Aside0.mk H
   clear H
   go_wp2_with (first | ((with_reducible refine gate_callee (f := 168) rfl ?_); refine goesL_ (some 11) rfl rfl Try.func168 (by kernel_rfl) rfl #[.slice A0 l0.length c0] rfl qA ?_; (with_reducible refine (spec_kiKits.calls k _ _ l0 false _ ?side1 ?side2 A4.out).mono ?_); (case side1 => exact uC (Kd.C_below HR0.out HB.out)); (case side2 => exact HC0.out); rintro e w' ⟨rfl, ⟨nd, rfl⟩⟩; refine ⟨_, rfl, ?_⟩))
   go_meet
   case rel => exact ⟨_, (true), qs, H', ⟨by first | omega | exact Nat.le_refl _⟩, ⟨qB HB⟩⟩
 case rest =>
  clear HC3
  try clear c1
  try clear p2
  try clear c5
  obtain ⟨kq, x17_2, rfl, HA, HJ2, HB⟩ := hcut
  cases kq with
  | zero => exact absurd HA.out (by simp [spec_FewestKits.j0])
  | succ kj2 =>
   have H := HA.out
   clear HA
   simp only [spec_FewestKits.j0] at H
   by_cases c7 : x17_2 = true
   ·subst c7
    rw [if_pos rfl] at H
    simp only [Option.some.injEq, Prod.mk.injEq] at H
    obtain ⟨rfl, rfl⟩ := H
    go_wp2
    go_ret2
    exact ⟨_, qe, by first | exact Kd.R_nil _ _ _ _ _ | exact Kd.N_nil _ _ _ _ _ | exact Kd.V_nil _ _ _ _ _ | exact Kd.Q_nil _ _ _ _ _ | exact Kd.S_nil _ _ _ _ _, qB HB⟩
   ·replace c7 := Bool.eq_false_iff.mpr c7
    subst c7
    rw [if_neg (show ¬ (false = true) by decide)] at H
    by_cases c8 : 0 ≤ (l0.length : Int)
    ·rw [if_pos c8] at H
     have c8b0 := eq_true c8
     have c8b1 : decide (0 ≤ (l0.length : Int)) = true := decide_eq_true c8
     clear c8
     by_cases c9 : ((l0.length : Int) : Int).toNat ≤ 35184372088832
     ·rw [if_pos c9] at H
      have c9b0 := eq_true c9
      have c9b1 : decide (((l0.length : Int) : Int).toNat ≤ 35184372088832) = true := decide_eq_true c9
      clear c9
      obtain ⟨y345, hy345⟩ : ∃ y_ : List Int, y_ = (List.replicate ((l0.length : Int) : Int).toNat 0) := ⟨_, rfl⟩
      replace H : (spec_FewestKits.l0 kj2 l0 l1 y345 (y345.length : Int) 0) = some (r1, r2) := by first | (rw [hy345]; with_reducible exact H) | (have H2_ := (Option.bind_some _ _).symm.trans H; rw [hy345]; with_reducible exact H2_) | (have H2_ := (Option.bind_some _ _).symm.trans H; with_reducible exact H2_) | with_reducible exact H | (rw [hy345]; exact H) | exact H
      have Ny345 := Aside0.mk hy345
      clear hy345
      have H' := Aside0.mk H
      clear H
      go_wp2_with (first | ((with_reducible refine gate_dst (N := 20) rfl ?_); refine Kd.R_make (Kd.int .i64) _ 3 rfl (N := 20) rfl 23 _ _ rfl (l0.length : Int) rfl rfl Try.underlying23 (.int .i64 0) 8 info3 rfl (by decide) (by omega) 0 (ok := fun _ => True) (okp := fun _ => True) rfl (fun _ hk => hk) trivial (of_decide_eq_true qa) (Nat.le_trans (Nat.mul_le_mul_right _ (of_decide_eq_true qa : (l0.length : Int).toNat ≤ 35184372088832)) (by omega)) (Below.refl _ _) (Nat.le_refl _) ?_; intro v346 w10 ho11 hb hg_ hnew_; clear hg_ hnew_; (first | rw [← Ny345.out] at ho11 | (simp only [Int.reduceToNat] at ho11; rw [← Ny345.out] at ho11)); have n0_ := Aside0.mk (Kd.R_lower ho11 (below_size (qB HB))); have n1_ := Aside0.mk (below_step (qB HB) hb); clear HB; have HO347 := n0_; have HB := n1_; clear n0_ n1_; clear hb ho11; obtain ⟨Ao12, co12, eo12⟩ := Kd.R_slice HO347.out; subst eo12))
      go_loopg [23] kj2 (fun kq v23 w' => ∃ (x6_2 : List Int) (x23_2 : Int), v23 = .int .i64 x23_2 ∧ Aside0 (spec_FewestKits.l0 kq l0 l1 x6_2 (y345.length : Int) x23_2 = some (r1, r2)) ∧ Aside0 (kq ≤ kj2) ∧ Aside0 (Kd.R (Kd.int .i64) 3 w' w.heap.size (fun _ => True) (.slice Ao12 y345.length co12) x6_2) ∧ Aside0 (Below w.heap.size w w'))
      case atStart => exact ⟨(y345), (0), qs, H', ⟨Nat.le_refl _⟩, ⟨qR HO347⟩, ⟨qB HB⟩⟩
      case round =>
       clear H'
       try clear c1
       try clear p2
       try clear c5
       try clear c7
       try clear c8
       try clear c8b0
       try clear c8b1
       try clear c9
       try clear c9b0
       try clear c9b1
       try clear p2
       obtain ⟨x6_2, x23_2, rfl, HA, HK2, HO_6, HB⟩ := hrel
       have hl6_2 := (Kd.R_reads' HO_6.out).1
       rw [hl6_2] at HO_6
       (try simp only [hl6_2])
       cases gk with
       | zero => exact absurd HA.out (by simp [spec_FewestKits.l0])
       | succ k2 =>
        have H := HA.out
        clear HA
        simp only [spec_FewestKits.l0] at H
        by_cases c13 : x23_2 < (y345.length : Int)
        ·rw [if_pos c13] at H
         have c13b0 : decide (x23_2 < (y345.length : Int)) = true := decide_eq_true c13
         have c13b0h := c13b0
         (try simp only [hl6_2] at c13b0h)
         clear c13
         by_cases c14 : 0 ≤ x23_2
         ·rw [if_pos c14] at H
          have c14b0 : decide (0 ≤ x23_2) = true := decide_eq_true c14
          clear c14
          by_cases c15 : x23_2 < (x6_2.length : Int)
          ·rw [if_pos c15] at H
           have c15b0 : decide (x23_2 < (x6_2.length : Int)) = true := decide_eq_true c15
           clear c15
           obtain ⟨y348, hy348⟩ : ∃ y_ : List Int, y_ = (x6_2.set (x23_2 : Int).toNat 1) := ⟨_, rfl⟩
           replace H : (spec_FewestKits.l0 k2 l0 l1 y348 (y345.length : Int) (wrap64 (x23_2 + 1))) = some (r1, r2) := by first | (rw [hy348]; with_reducible exact H) | (have H2_ := (Option.bind_some _ _).symm.trans H; rw [hy348]; with_reducible exact H2_) | (have H2_ := (Option.bind_some _ _).symm.trans H; with_reducible exact H2_) | with_reducible exact H | (rw [hy348]; exact H) | exact H
           have Ny348 := Aside0.mk hy348
           clear hy348
           have H' := Aside0.mk H
           clear H
           have p16 : 0 ≤ (x23_2 : Int) := of_decide_eq_true qa
           have q16 : (x23_2 : Int) < ((x6_2.length : Int) : Int) := of_decide_eq_true qa
           obtain ⟨go16, co16, eo16, gb16, gl16, cl16, HG16⟩ := Kd.R_form HO_6.out (by omega)
           (first | cases eo16 | (injection eo16 with ea_ en_ ec_; (first | subst ea_ | (injection ea_ with ea_; subst ea_)); subst ec_; clear en_))
           have GB16 := Aside0.mk gb16
           have GG16 := Aside0.mk HG16
           clear gb16 gl16 HG16
           obtain ⟨hx16_0, hf16_0⟩ := Kd.R_celln 0 HO_6.out (x23_2 : Int) p16 q16
           replace p16 := eq_true p16
           replace q16 := eq_true q16
           have HP17 := Kd.R_putg HO_6.out (x23_2 : Int) 1
           go_wp2_with (first | ((with_reducible refine gate_store (t := 3) (p := 28) rfl ?_); refine store_event (t := 3) (p := 28) (v := ?vo_w18) (w1 := (wr.setCell ⟨go16, (x23_2 : Int).toNat, none⟩ (.int .i64 1))) ?hg ?ho ?hn ?hr ?_; (case ho => rfl); (case hg => rfl); (case hn => rfl); (case hr => first | (go_simp; done) | (go_simp; rfl)); intro w18 hw; have hg : wr.grownBy w18 (some go16) := (by rw [hw]; exact HP17.2); have hp_ : Kd.R (Kd.int .i64) 3 w18 w.heap.size (fun _ => True) (.slice (some ⟨go16, 0, none⟩) x6_2.length co12) y348 := (by rw [hw, Ny348.out]; exact HP17.1); clear HP17; have n0_ := Aside0.mk (hp_); have n1_ := Aside0.mk ((by rw [hw]; exact below_set (HB.out) GB16.out : Below w.heap.size w w18)); clear HO_6; clear HB; have HO_6 := n0_; have HB := n1_; clear n0_ n1_; clear hg hw hp_))
           (try simp only [← hl6_2])
           go_roundg k2
           case measure => have := HJ2.out; have := HK2.out; omega
           case rel => exact ⟨(y348), (wrap64 (x23_2 + 1)), qs, H', ⟨by have := HJ2.out; have := HK2.out; omega⟩, ⟨by (try simp only [hl6_2]); exact uR (HO_6.out)⟩, ⟨qB HB⟩⟩
          ·rw [if_neg c15] at H
           exact absurd H (by simp)
         ·rw [if_neg c14] at H
          exact absurd H (by simp)
        ·rw [if_neg c13] at H
         have c13b0 : decide (x23_2 < (y345.length : Int)) = false := decide_eq_false c13
         have c13b0h := c13b0
         (try simp only [hl6_2] at c13b0h)
         clear c13
         replace H := Option.bind_eq_some_iff.mp H
         obtain ⟨⟨t349, t350⟩, A190, H⟩ := H
         replace H : (if t350 < 0 then (some (([] : List Int), false)) else (some (t349, true))) = some (r1, r2) := H
         have A19 := Aside0.mk A190
         clear A190
         by_cases c20 : t350 < 0
         ·rw [if_pos c20] at H
          have c20b0 : decide (t350 < 0) = true := decide_eq_true c20
          clear c20
          simp only [Option.some.injEq, Prod.mk.injEq] at H
          obtain ⟨rfl, rfl⟩ := H
          go_wp2_with (first | ((with_reducible refine gate_callee (f := 170) rfl ?_); refine goesL_ (some 34) rfl rfl Try.func170 (by kernel_rfl) rfl #[.slice A0 l0.length c0, .slice Ao12 x6_2.length co12, .slice A1 l1.length c1] rfl qA ?_; (with_reducible refine (spec_kiBest.calls k2 _ _ l0 _ _ x6_2 _ _ l1 t349 t350 _ ?side1 ?side2 ?side3 ?side4 ?side5 ?side6 A19.out).mono ?_); (case side1 => exact uC (Kd.C_below HR0.out HB.out)); (case side2 => exact HC0.out); (case side3 => exact uC (Kd.R_reads' HO_6.out).2.2); (case side4 => exact (Kd.R_reads' HO_6.out).2.1); (case side5 => exact uC (Kd.C_below HR1.out HB.out)); (case side6 => exact HC1.out); rintro e w21 ⟨v351, rfl, ho0, hb⟩; refine ⟨_, rfl, ?_⟩; have n0_ := Aside0.mk (Kd.R_elder' (qR HO_6) (Kd.R_base ho0) hb); have n1_ := Aside0.mk (Kd.R_lower (Kd.R_new' ho0 (Kd.R_lt (qR HO_6))) (below_size (qB HB))); have n2_ := Aside0.mk (below_step (qB HB) hb); clear HO_6; clear HB; have HO_6 := n0_; have HO352 := n1_; have HB := n2_; clear n0_ n1_ n2_; (try clear hb); (try clear hb2); (try clear hk); (try clear hi); (try clear ho0)))
          go_ret2
          exact ⟨_, qe, by first | exact Kd.R_nil _ _ _ _ _ | exact Kd.N_nil _ _ _ _ _ | exact Kd.V_nil _ _ _ _ _ | exact Kd.Q_nil _ _ _ _ _ | exact Kd.S_nil _ _ _ _ _, qB HB⟩
         ·rw [if_neg c20] at H
          have c20b0 : decide (t350 < 0) = false := decide_eq_false c20
          clear c20
          simp only [Option.some.injEq, Prod.mk.injEq] at H
          obtain ⟨rfl, rfl⟩ := H
          go_wp2_with (first | ((with_reducible refine gate_callee (f := 170) rfl ?_); refine goesL_ (some 34) rfl rfl Try.func170 (by kernel_rfl) rfl #[.slice A0 l0.length c0, .slice Ao12 x6_2.length co12, .slice A1 l1.length c1] rfl qA ?_; (with_reducible refine (spec_kiBest.calls k2 _ _ l0 _ _ x6_2 _ _ l1 t349 t350 _ ?side1 ?side2 ?side3 ?side4 ?side5 ?side6 A19.out).mono ?_); (case side1 => exact uC (Kd.C_below HR0.out HB.out)); (case side2 => exact HC0.out); (case side3 => exact uC (Kd.R_reads' HO_6.out).2.2); (case side4 => exact (Kd.R_reads' HO_6.out).2.1); (case side5 => exact uC (Kd.C_below HR1.out HB.out)); (case side6 => exact HC1.out); rintro e w22 ⟨v351, rfl, ho0, hb⟩; refine ⟨_, rfl, ?_⟩; have n0_ := Aside0.mk (Kd.R_elder' (qR HO_6) (Kd.R_base ho0) hb); have n1_ := Aside0.mk (Kd.R_lower (Kd.R_new' ho0 (Kd.R_lt (qR HO_6))) (below_size (qB HB))); have n2_ := Aside0.mk (below_step (qB HB) hb); clear HO_6; clear HB; have HO_6 := n0_; have HO352 := n1_; have HB := n2_; clear n0_ n1_ n2_; (try clear hb); (try clear hb2); (try clear hk); (try clear hi); (try clear ho0)))
          go_ret2
          exact ⟨_, qe, by exact uR (Kd.R_mono HO352.out (fun _ hk => trivial)), qB HB⟩
     ·rw [if_neg c9] at H
      exact absurd H (by simp)
    ·rw [if_neg c8] at H
     exact absurd H (by simp)

/-! ### spec_DrawKitPrice: function 79 -/
def spec_DrawKitPrice.l0 : Nat → List Int → Int → List Int → Int → Int → Option (List Int × List Int)
 | 0, _, _, _, _, _ => none
 | k + 1, x5, x6, x354000, x354001, x354002 => if (x5.length : Int) < x6 then ((spec_l1Cur_pick.f x354000 x354001 x354002 50).bind fun bt357 => ((spec_l1Cur_among.f x354000 bt357.2.1 bt357.2.2 (([0, 1, 5, 100, bt357.1] : List Int))).bind fun bt363 => (if x5.length < 17592186044416 then (spec_DrawKitPrice.l0 k (x5 ++ [bt363.1]) x6 x354000 bt363.2.1 bt363.2.2) else (none)))) else ((spec_l1Cur_one.f x354000 x354001 x354002 24).bind fun bt369 => (if bt369.1 = true then ((spec_l1Cur_among.f x354000 bt369.2.1 bt369.2.2 (([(-1), 101] : List Int))).bind fun bt375 => (if 0 < (x5.length : Int) then ((spec_l1Cur_kit.f k x354000 bt375.2.1 bt375.2.2).bind fun bt379 => (some (bt379.1, (x5.set (0 : Int).toNat bt375.1)))) else (none))) else ((spec_l1Cur_kit.f k x354000 bt369.2.1 bt369.2.2).bind fun bt384 => (some (bt384.1, x5)))))
def spec_DrawKitPrice.f (k : Nat) (l0 : List Int) : Option (List Int × List Int) := (spec_l1Cur_pick.f l0 0 0 24).bind fun bt354 => (spec_DrawKitPrice.l0 k ([] : List Int) (wrap64 (7 - (wrap64 (Int.tdiv bt354.1 23)))) l0 bt354.2.1 bt354.2.2)
theorem spec_DrawKitPrice.mono_l : ∀ k, (∀ y0 y1 y2 y3 y4, LeO (spec_DrawKitPrice.l0 k y0 y1 y2 y3 y4) (spec_DrawKitPrice.l0 (k + 1) y0 y1 y2 y3 y4))
 | 0 => fun _ _ _ _ _ r h => by simp [spec_DrawKitPrice.l0] at h
 | k + 1 => by
  have ih0 := spec_DrawKitPrice.mono_l k
  ·intro y0 y1 y2 y3 y4
   unfold spec_DrawKitPrice.l0
   repeat' first | (with_reducible first | exact ih0 _ _ _ _ _ | exact spec_l1Cur_kit.mono _ _ _ _ | exact LeO.refl _ | exact LeO.none _ | refine LeO.ite ?_ ?_ | refine LeO.bind ?_ (fun _ => ?_)) | exact ih0 _ _ _ _ _ | exact spec_l1Cur_kit.mono _ _ _ _ | exact LeO.none _ | refine LeO.ite ?_ ?_ | refine LeO.bind ?_ (fun _ => ?_)
theorem spec_DrawKitPrice.mono : ∀ a0 k, LeO (spec_DrawKitPrice.f k a0) (spec_DrawKitPrice.f (k + 1) a0) := by
 intro a0 k
 have ih0 := spec_DrawKitPrice.mono_l k
 unfold spec_DrawKitPrice.f
 repeat' first | (with_reducible first | exact ih0 _ _ _ _ _ | exact spec_l1Cur_kit.mono _ _ _ _ | exact LeO.refl _ | exact LeO.none _ | refine LeO.ite ?_ ?_ | refine LeO.bind ?_ (fun _ => ?_)) | exact ih0 _ _ _ _ _ | exact spec_l1Cur_kit.mono _ _ _ _ | exact LeO.none _ | refine LeO.ite ?_ ?_ | refine LeO.bind ?_ (fun _ => ?_)
set_option maxHeartbeats 8000000 in
set_option maxRecDepth 100000 in
theorem spec_DrawKitPrice.calls (k : Nat) (A0 : Option Addr) (c0 : Nat) (l0 : List Int) (r1 : List Int) (r2 : List Int) (w : World) (hr0 : Kd.C (Kd.int .u8) w A0 l0.length l0) (hc0 : l0.length ≤ c0) (h : spec_DrawKitPrice.f k l0 = some (r1, r2)) :
  Calls Try.prog 79 #[.slice A0 l0.length c0] w fun e w' => ∃ v0_ v1_ : Value, e = .returned (.tuple #[v0_, v1_]) ∧ Kd.R (Kd.int .i64) 3 w' w.heap.size (fun k_ => some k_ ≠ (v1_ : Value).ownBlock) v0_ r1 ∧ Kd.R (Kd.int .i64) 3 w' w.heap.size (fun k_ => some k_ ≠ (v0_ : Value).ownBlock) v1_ r2 ∧ Below w.heap.size w w' := by
 have hu126 := Try.underlying126
 have HR0 := Aside0.mk hr0
 have HC0 := Aside0.mk hc0
 clear hr0 hc0
 have HB := Aside0.mk (Below.refl w.heap.size w)
 have H : ((spec_l1Cur_pick.f l0 0 0 24).bind fun bt354 => (spec_DrawKitPrice.l0 k ([] : List Int) (wrap64 (7 - (wrap64 (Int.tdiv bt354.1 23)))) l0 bt354.2.1 bt354.2.2)) = some (r1, r2) := h
 clear h
 replace H := Option.bind_eq_some_iff.mp H
 obtain ⟨⟨t354, t355, t356⟩, A20, H⟩ := H
 replace H : (spec_DrawKitPrice.l0 k ([] : List Int) (wrap64 (7 - (wrap64 (Int.tdiv t354 23)))) l0 t355 t356) = some (r1, r2) := H
 have A2 := Aside0.mk A20
 clear A20
 have H' := Aside0.mk H
 clear H
 go_enter Try.func79, Try.ntmps79
 go_wp2_with (first | ((with_reducible refine gate_dst (N := 9) rfl ?_); refine box_event ?hg (N := 9) ?hd (cs := #[.slice A0 l0.length c0, .int .i64 0, .int .u64 0]) (t := 126) ?hr ?_; (case hd => rfl); (case hg => rfl); (case hr => first | (go_simp; done) | (go_simp; rfl)); intro gb353 hg w3 hbox hb; have n0_ := Aside0.mk (below_step (qB HB) hb); have n1_ := Aside0.mk (hbox); have n2_ := Aside0.mk ((by rw [hg]; exact (below_size (qB HB)) : w.heap.size ≤ gb353)); have n3_ := Aside0.mk ((by rw [hg]; exact (below_size (qB HB)) : w.heap.size ≤ gb353)); clear HB; have HB := n0_; have BK353 := n1_; have GW353 := n2_; have GE353 := n3_; clear n0_ n1_ n2_ n3_; clear hb hbox hg; have HI353 := Aside0.mk (show IsS126 w _ gb353 l0 0 0 from ⟨_, _, by (with_reducible repeat (first | refine blk_drewN ?_ _ | refine blk_drew ?_ | refine blk_alloc ?_ _)); exact BK353.out, GE353.out, HR0.out⟩)) | ((with_reducible refine gate_callee (f := 102) rfl ?_); refine goesL_ (some 11) rfl rfl Try.func102 (by kernel_rfl) rfl #[.pointer (some ⟨gb353, 0, none⟩), .int .i64 24] rfl qA ?_; (with_reducible refine (spec_l1Cur_pick.calls gb353 l0 0 0 24 t354 t355 t356 w _ ?side1 ?side2 A2.out).mono ?_); (case side1 => exact qI126 HI353); (case side2 => exact qV126 HB); rintro e w4 ⟨rfl, hi, hb, hk⟩; refine ⟨_, rfl, ?_⟩; have n0_ := Aside0.mk (hb); have n1_ := Aside0.mk (hi); clear HB; clear HI353; have HB := n0_; have HI353 := n1_; clear n0_ n1_; (try clear hb); (try clear hb2); (try clear hk); (try clear hi)))
 go_loopg [5] k (fun kq v5 w' => ∃ (x5_1 : List Int) (x354001_1 : Int) (x354002_1 : Int), Aside0 (spec_DrawKitPrice.l0 kq x5_1 (wrap64 (7 - (wrap64 (Int.tdiv t354 23)))) l0 x354001_1 x354002_1 = some (r1, r2)) ∧ Aside0 (kq ≤ k) ∧ Aside0 (Kd.R (Kd.int .i64) 3 w' w.heap.size (fun _ => True) v5 x5_1) ∧ Aside0 (IsS126 w w' gb353 l0 x354001_1 x354002_1) ∧ Aside0 (Below w.heap.size w w'))
 case atStart => exact ⟨(([] : List Int)), (t355), (t356), H', ⟨Nat.le_refl _⟩, ⟨by first | exact Kd.R_nil _ _ _ _ _ | exact Kd.N_nil _ _ _ _ _ | exact Kd.V_nil _ _ _ _ _ | exact Kd.Q_nil _ _ _ _ _ | exact Kd.S_nil _ _ _ _ _⟩, ⟨qI126 HI353⟩, ⟨qV126 HB⟩⟩
 case round =>
  clear H'
  try clear c1
  try clear p2
  obtain ⟨x5_1, x354001_1, x354002_1, HA, HK1, HO_5, HI353, HB⟩ := hrel
  cases gk with
  | zero => exact absurd HA.out (by simp [spec_DrawKitPrice.l0])
  | succ k1 =>
   have H := HA.out
   clear HA
   simp only [spec_DrawKitPrice.l0] at H
   by_cases c5 : (x5_1.length : Int) < (wrap64 (7 - (wrap64 (Int.tdiv t354 23))))
   ·rw [if_pos c5] at H
    have c5b0 : decide ((x5_1.length : Int) < (wrap64 (7 - (wrap64 (Int.tdiv t354 23))))) = true := decide_eq_true c5
    clear c5
    replace H := Option.bind_eq_some_iff.mp H
    obtain ⟨⟨t357, t358, t359⟩, A60, H⟩ := H
    replace H : ((spec_l1Cur_among.f l0 t358 t359 (([0, 1, 5, 100, t357] : List Int))).bind fun bt363 => (if x5_1.length < 17592186044416 then (spec_DrawKitPrice.l0 k1 (x5_1 ++ [bt363.1]) (wrap64 (7 - (wrap64 (Int.tdiv t354 23)))) l0 bt363.2.1 bt363.2.2) else (none))) = some (r1, r2) := H
    have A6 := Aside0.mk A60
    clear A60
    obtain ⟨y360, hy360⟩ : ∃ y_ : List Int, y_ = (([0, 1, 5, 100, t357] : List Int)) := ⟨_, rfl⟩
    replace H : ((spec_l1Cur_among.f l0 t358 t359 y360).bind fun bt363 => (if x5_1.length < 17592186044416 then (spec_DrawKitPrice.l0 k1 (x5_1 ++ [bt363.1]) (wrap64 (7 - (wrap64 (Int.tdiv t354 23)))) l0 bt363.2.1 bt363.2.2) else (none))) = some (r1, r2) := by first | (rw [hy360]; with_reducible exact H) | (have H2_ := (Option.bind_some _ _).symm.trans H; rw [hy360]; with_reducible exact H2_) | (have H2_ := (Option.bind_some _ _).symm.trans H; with_reducible exact H2_) | with_reducible exact H | (rw [hy360]; exact H) | exact H
    have Ny360 := Aside0.mk hy360
    clear hy360
    replace H := Option.bind_eq_some_iff.mp H
    obtain ⟨⟨t363, t364, t365⟩, A70, H⟩ := H
    replace H : (if x5_1.length < 17592186044416 then (spec_DrawKitPrice.l0 k1 (x5_1 ++ [t363]) (wrap64 (7 - (wrap64 (Int.tdiv t354 23)))) l0 t364 t365) else (none)) = some (r1, r2) := H
    have A7 := Aside0.mk A70
    clear A70
    by_cases c8 : x5_1.length < 17592186044416
    ·rw [if_pos c8] at H
     have LMc8 := Aside0.mk c8
     clear c8
     obtain ⟨y366, hy366⟩ : ∃ y_ : List Int, y_ = (x5_1 ++ [t363]) := ⟨_, rfl⟩
     replace H : (spec_DrawKitPrice.l0 k1 y366 (wrap64 (7 - (wrap64 (Int.tdiv t354 23)))) l0 t364 t365) = some (r1, r2) := by first | (rw [hy366]; with_reducible exact H) | (have H2_ := (Option.bind_some _ _).symm.trans H; rw [hy366]; with_reducible exact H2_) | (have H2_ := (Option.bind_some _ _).symm.trans H; with_reducible exact H2_) | with_reducible exact H | (rw [hy366]; exact H) | exact H
     have Ny366 := Aside0.mk hy366
     clear hy366
     have H' := Aside0.mk H
     clear H
     obtain ⟨Ao9, co9, eo9⟩ := Kd.R_slice HO_5.out
     subst eo9
     go_wp2_with (first | ((with_reducible refine gate_callee (f := 102) rfl ?_); refine goesL_ (some 21) rfl rfl Try.func102 (by kernel_rfl) rfl #[.pointer (some ⟨gb353, 0, none⟩), .int .i64 50] rfl qA ?_; (with_reducible refine (spec_l1Cur_pick.calls gb353 l0 x354001_1 x354002_1 50 t357 t358 t359 w _ ?side1 ?side2 A6.out).mono ?_); (case side1 => exact qI126 HI353); (case side2 => exact qV126 HB); rintro e w10 ⟨rfl, hi, hb, hk⟩; refine ⟨_, rfl, ?_⟩; have n0_ := Aside0.mk (Kd.R_mono (Kd.R_keep (IsS126.apart (show IsS126 w _ gb353 l0 x354001_1 x354002_1 from qI126 HI353) (qR HO_5) (by decide)) hk (fun _ h => h.2)) (fun _ h => h.1)); have n1_ := Aside0.mk (hb); have n2_ := Aside0.mk (hi); clear HO_5; clear HB; clear HI353; have HO_5 := n0_; have HB := n1_; have HI353 := n2_; clear n0_ n1_ n2_; (try clear hb); (try clear hb2); (try clear hk); (try clear hi)) | ((with_reducible refine gate_dst (N := 22) rfl ?_); refine Kd.R_lit (Kd.int .i64) _ 3 ?hg (N := 22) ?hd (xs := ([0, 1, 5, 100, t357] : List Int)) (inner := [.int .i64 0, .int .i64 1, .int .i64 5, .int .i64 100, .int .i64 t357]) (ok := fun _ => True) (okp := fun _ => True) ?hr ?hp (fun _ hk => hk) trivial (Below.refl _ _) (Nat.le_refl _) (by simp) ?_; (case hd => rfl); (case hg => rfl); (case hr => first | (go_simp; done) | (go_simp; rfl)); (case hp => exact (Reps.one (show Kd.M (Kd.int .i64) _ _ _ 0 [.int .i64 0] from rfl) (Reps.one (show Kd.M (Kd.int .i64) _ _ _ 1 [.int .i64 1] from rfl) (Reps.one (show Kd.M (Kd.int .i64) _ _ _ 5 [.int .i64 5] from rfl) (Reps.one (show Kd.M (Kd.int .i64) _ _ _ 100 [.int .i64 100] from rfl) (Reps.one (show Kd.M (Kd.int .i64) _ _ _ t357 [.int .i64 t357] from rfl) (Reps.none _ _))))))); intro v361 w11 ho12 hb hg_ hnew_; clear hg_ hnew_; (first | rw [← Ny360.out] at ho12 | (simp only [Int.reduceToNat] at ho12; rw [← Ny360.out] at ho12)); have n0_ := Aside0.mk (Kd.R_elder' (qR HO_5) (Kd.R_base ho12) hb); have n1_ := Aside0.mk (Kd.R_lower (Kd.R_new' ho12 (Kd.R_lt (qR HO_5))) (below_size (qV126 HB))); have n2_ := Aside0.mk (IsS126.below (qI126 HI353) hb); have n3_ := Aside0.mk (below_step (qV126 HB) hb); clear HO_5; clear HI353; clear HB; have HO_5 := n0_; have HO362 := n1_; have HI353 := n2_; have HB := n3_; clear n0_ n1_ n2_ n3_; clear hb ho12; obtain ⟨Ao13, co13, eo13⟩ := Kd.R_slice HO362.out; subst eo13) | ((with_reducible refine gate_callee (f := 116) rfl ?_); refine goesL_ (some 23) rfl rfl Try.func116 (by kernel_rfl) rfl #[.pointer (some ⟨gb353, 0, none⟩), .slice Ao13 y360.length co13] rfl qA ?_; (with_reducible refine (spec_l1Cur_among.calls gb353 l0 t358 t359 _ _ y360 t363 t364 t365 w _ ?side1 ?side2 ?side3 ?side4 ?side5 A7.out).mono ?_); (case side1 => exact qI126 HI353); (case side2 => exact qV126 HB); (case side3 => exact uC (Kd.R_reads' HO362.out).2.2); (case side4 => exact (Kd.R_reads' HO362.out).2.1); (case side5 => exact far_slice (IsS126.own_ne HI353.out HO362.out (by decide))); rintro e w14 ⟨rfl, hi, hb, hk⟩; refine ⟨_, rfl, ?_⟩; have n0_ := Aside0.mk (Kd.R_mono (Kd.R_keep (IsS126.apart (show IsS126 w _ gb353 l0 t358 t359 from qI126 HI353) (qR HO_5) (by decide)) hk (fun _ h => h.2)) (fun _ h => h.1)); have n1_ := Aside0.mk (Kd.R_mono (Kd.R_keep (IsS126.apart (show IsS126 w _ gb353 l0 t358 t359 from qI126 HI353) (qR HO362) (by decide)) hk (fun _ h => h.2)) (fun _ h => h.1)); have n2_ := Aside0.mk (hb); have n3_ := Aside0.mk (hi); clear HO_5; clear HO362; clear HB; clear HI353; have HO_5 := n0_; have HO362 := n1_; have HB := n2_; have HI353 := n3_; clear n0_ n1_ n2_ n3_; (try clear hb); (try clear hb2); (try clear hk); (try clear hi)) | ((with_reducible refine gate_builtin (b := .append) (xs := #[.tmp 18, .tmp 24]) rfl ?_); at_builtin; refine Kd.R_append (Kd.int .i64) (w0 := w) w.heap.size rfl (.tmp 18) (.tmp 24) 23 3 (.int .i64 0) 8 rfl Try.underlying23 info3 rfl (by decide) (by omega) (.slice Ao9 x5_1.length co9) x5_1 t363 [.int .i64 t363] (fun k_ => some k_ ≠ (.slice Ao13 y360.length co13 : Value).ownBlock) (fun _ => False) rfl rfl ?aP (fun _ hk => hk.elim) ?aF ?aO ?aB ?aS ?aL ?_; (case aP => exact rfl); (case aB => exact (qV126 HB)); (case aF => exact (fun k_ hk => Kd.fresh' (Kd.R_lt (qR HO362)) k_ hk)); (case aO => exact (by exact uR (Kd.R_mono HO_5.out (fun _ hk => hk.2)))); (case aS => exact (below_size (qV126 HB))); (case aL => have := LMc8.out; omega); intro v367 w15 ho hb hg hat; rw [← Ny366.out] at ho; have n0_ := Aside0.mk (IsS126.grown (show IsS126 w _ gb353 l0 t364 t365 from qI126 HI353) hg (IsS126.own_ne HI353.out HO_5.out (by decide))); have n1_ := Aside0.mk (Kd.R_after (ok := (fun _ => True)) (qR HO362) hg hat); have n2_ := Aside0.mk (hb); have n3_ := Aside0.mk (ho); clear HI353; clear HO362; clear HB; clear HO_5; have HI353 := n0_; have HO362 := n1_; have HB := n2_; have HO368 := n3_; clear n0_ n1_ n2_ n3_; clear ho hb hg hat))
     go_roundg k1
     case measure => have := HK1.out; omega
     case rel => exact ⟨(y366), (t364), (t365), H', ⟨by have := HK1.out; omega⟩, ⟨by exact uR (Kd.R_mono HO368.out (fun _ hk => trivial))⟩, ⟨qI126 HI353⟩, ⟨qV126 HB⟩⟩
    ·rw [if_neg c8] at H
     exact absurd H (by simp)
   ·rw [if_neg c5] at H
    have c5b0 : decide ((x5_1.length : Int) < (wrap64 (7 - (wrap64 (Int.tdiv t354 23))))) = false := decide_eq_false c5
    clear c5
    replace H := Option.bind_eq_some_iff.mp H
    obtain ⟨⟨t369, t370, t371⟩, A160, H⟩ := H
    replace H : (if t369 = true then ((spec_l1Cur_among.f l0 t370 t371 (([(-1), 101] : List Int))).bind fun bt375 => (if 0 < (x5_1.length : Int) then ((spec_l1Cur_kit.f k1 l0 bt375.2.1 bt375.2.2).bind fun bt379 => (some (bt379.1, (x5_1.set (0 : Int).toNat bt375.1)))) else (none))) else ((spec_l1Cur_kit.f k1 l0 t370 t371).bind fun bt384 => (some (bt384.1, x5_1)))) = some (r1, r2) := H
    have A16 := Aside0.mk A160
    clear A160
    by_cases c17 : t369 = true
    ·subst c17
     rw [if_pos rfl] at H
     obtain ⟨y372, hy372⟩ : ∃ y_ : List Int, y_ = (([(-1), 101] : List Int)) := ⟨_, rfl⟩
     replace H : ((spec_l1Cur_among.f l0 t370 t371 y372).bind fun bt375 => (if 0 < (x5_1.length : Int) then ((spec_l1Cur_kit.f k1 l0 bt375.2.1 bt375.2.2).bind fun bt379 => (some (bt379.1, (x5_1.set (0 : Int).toNat bt375.1)))) else (none))) = some (r1, r2) := by first | (rw [hy372]; with_reducible exact H) | (have H2_ := (Option.bind_some _ _).symm.trans H; rw [hy372]; with_reducible exact H2_) | (have H2_ := (Option.bind_some _ _).symm.trans H; with_reducible exact H2_) | with_reducible exact H | (rw [hy372]; exact H) | exact H
     have Ny372 := Aside0.mk hy372
     clear hy372
     replace H := Option.bind_eq_some_iff.mp H
     obtain ⟨⟨t375, t376, t377⟩, A180, H⟩ := H
     replace H : (if 0 < (x5_1.length : Int) then ((spec_l1Cur_kit.f k1 l0 t376 t377).bind fun bt379 => (some (bt379.1, (x5_1.set (0 : Int).toNat t375)))) else (none)) = some (r1, r2) := H
     have A18 := Aside0.mk A180
     clear A180
     by_cases c19 : 0 < (x5_1.length : Int)
     ·rw [if_pos c19] at H
      have c19b0 : decide (0 < (x5_1.length : Int)) = true := decide_eq_true c19
      have c19b1 : decide (0 < x5_1.length) = true := decide_eq_true (by omega)
      clear c19
      obtain ⟨y378, hy378⟩ : ∃ y_ : List Int, y_ = (x5_1.set (0 : Int).toNat t375) := ⟨_, rfl⟩
      replace H : ((spec_l1Cur_kit.f k1 l0 t376 t377).bind fun bt379 => (some (bt379.1, y378))) = some (r1, r2) := by first | (rw [hy378]; with_reducible exact H) | (have H2_ := (Option.bind_some _ _).symm.trans H; rw [hy378]; with_reducible exact H2_) | (have H2_ := (Option.bind_some _ _).symm.trans H; with_reducible exact H2_) | with_reducible exact H | (rw [hy378]; exact H) | exact H
      have Ny378 := Aside0.mk hy378
      clear hy378
      replace H := Option.bind_eq_some_iff.mp H
      obtain ⟨⟨t379, t382, t383⟩, A210, H⟩ := H
      replace H : (some (t379, y378)) = some (r1, r2) := H
      have A21 := Aside0.mk A210
      clear A210
      simp only [Option.some.injEq, Prod.mk.injEq] at H
      obtain ⟨rfl, rfl⟩ := H
      obtain ⟨Ao22, co22, eo22⟩ := Kd.R_slice HO_5.out
      subst eo22
      go_wp2_with (first | ((with_reducible refine gate_callee (f := 101) rfl ?_); refine goesL_ (some 27) rfl rfl Try.func101 (by kernel_rfl) rfl #[.pointer (some ⟨gb353, 0, none⟩), .int .i64 24] rfl qA ?_; (with_reducible refine (spec_l1Cur_one.calls gb353 l0 x354001_1 x354002_1 24 true t370 t371 w _ ?side1 ?side2 A16.out).mono ?_); (case side1 => exact qI126 HI353); (case side2 => exact qV126 HB); rintro e w23 ⟨rfl, hi, hb, hk⟩; refine ⟨_, rfl, ?_⟩; have n0_ := Aside0.mk (Kd.R_mono (Kd.R_keep (IsS126.apart (show IsS126 w _ gb353 l0 x354001_1 x354002_1 from qI126 HI353) (qR HO_5) (by decide)) hk (fun _ h => h.2)) (fun _ h => h.1)); have n1_ := Aside0.mk (hb); have n2_ := Aside0.mk (hi); clear HO_5; clear HB; clear HI353; have HO_5 := n0_; have HB := n1_; have HI353 := n2_; clear n0_ n1_ n2_; (try clear hb); (try clear hb2); (try clear hk); (try clear hi)) | ((with_reducible refine gate_dst (N := 30) rfl ?_); refine Kd.R_lit (Kd.int .i64) _ 3 ?hg (N := 30) ?hd (xs := ([(-1), 101] : List Int)) (inner := [.int .i64 (-1), .int .i64 101]) (ok := fun _ => True) (okp := fun _ => True) ?hr ?hp (fun _ hk => hk) trivial (Below.refl _ _) (Nat.le_refl _) (by simp) ?_; (case hd => rfl); (case hg => rfl); (case hr => first | (go_simp; done) | (go_simp; rfl)); (case hp => exact (Reps.one (show Kd.M (Kd.int .i64) _ _ _ (-1) [.int .i64 (-1)] from rfl) (Reps.one (show Kd.M (Kd.int .i64) _ _ _ 101 [.int .i64 101] from rfl) (Reps.none _ _)))); intro v373 w24 ho25 hb hg_ hnew_; clear hg_ hnew_; (first | rw [← Ny372.out] at ho25 | (simp only [Int.reduceToNat] at ho25; rw [← Ny372.out] at ho25)); have n0_ := Aside0.mk (Kd.R_elder' (qR HO_5) (Kd.R_base ho25) hb); have n1_ := Aside0.mk (Kd.R_lower (Kd.R_new' ho25 (Kd.R_lt (qR HO_5))) (below_size (qV126 HB))); have n2_ := Aside0.mk (IsS126.below (qI126 HI353) hb); have n3_ := Aside0.mk (below_step (qV126 HB) hb); clear HO_5; clear HI353; clear HB; have HO_5 := n0_; have HO374 := n1_; have HI353 := n2_; have HB := n3_; clear n0_ n1_ n2_ n3_; clear hb ho25; obtain ⟨Ao26, co26, eo26⟩ := Kd.R_slice HO374.out; subst eo26) | ((with_reducible refine gate_callee (f := 116) rfl ?_); refine goesL_ (some 31) rfl rfl Try.func116 (by kernel_rfl) rfl #[.pointer (some ⟨gb353, 0, none⟩), .slice Ao26 y372.length co26] rfl qA ?_; (with_reducible refine (spec_l1Cur_among.calls gb353 l0 t370 t371 _ _ y372 t375 t376 t377 w _ ?side1 ?side2 ?side3 ?side4 ?side5 A18.out).mono ?_); (case side1 => exact qI126 HI353); (case side2 => exact qV126 HB); (case side3 => exact uC (Kd.R_reads' HO374.out).2.2); (case side4 => exact (Kd.R_reads' HO374.out).2.1); (case side5 => exact far_slice (IsS126.own_ne HI353.out HO374.out (by decide))); rintro e w27 ⟨rfl, hi, hb, hk⟩; refine ⟨_, rfl, ?_⟩; have n0_ := Aside0.mk (Kd.R_mono (Kd.R_keep (IsS126.apart (show IsS126 w _ gb353 l0 t370 t371 from qI126 HI353) (qR HO_5) (by decide)) hk (fun _ h => h.2)) (fun _ h => h.1)); have n1_ := Aside0.mk (Kd.R_mono (Kd.R_keep (IsS126.apart (show IsS126 w _ gb353 l0 t370 t371 from qI126 HI353) (qR HO374) (by decide)) hk (fun _ h => h.2)) (fun _ h => h.1)); have n2_ := Aside0.mk (hb); have n3_ := Aside0.mk (hi); clear HO_5; clear HO374; clear HB; clear HI353; have HO_5 := n0_; have HO374 := n1_; have HB := n2_; have HI353 := n3_; clear n0_ n1_ n2_ n3_; (try clear hb); (try clear hb2); (try clear hk); (try clear hi); have p20 : 0 ≤ (0 : Int) := (by omega); have q20 : (0 : Int) < ((x5_1.length : Int) : Int) := of_decide_eq_true qa; have qi20 : (0 < x5_1.length) = True := eq_true (by omega); obtain ⟨go20, co20, eo20, gb20, gl20, cl20, HG20⟩ := Kd.R_form HO_5.out (by omega); (first | cases eo20 | (injection eo20 with ea_ en_ ec_; (first | subst ea_ | (injection ea_ with ea_; subst ea_)); subst ec_; clear en_)); have GB20 := Aside0.mk gb20; have GG20 := Aside0.mk HG20; clear gb20 gl20 HG20; obtain ⟨hx20_0, hf20_0⟩ := Kd.R_celln 0 HO_5.out (0 : Int) p20 q20; (try rw [show ((0 : Int)).toNat = 0 from rfl] at hx20_0); (try simp only [Nat.reduceMul, Nat.zero_mul, Nat.zero_add, Nat.reduceAdd, Nat.add_zero] at hx20_0); (try rw [show ((0 : Int)).toNat = 0 from rfl] at hf20_0); (try simp only [Nat.reduceMul, Nat.zero_mul, Nat.zero_add, Nat.reduceAdd, Nat.add_zero] at hf20_0); replace p20 := eq_true p20; replace q20 := eq_true q20; have n_ := Aside0.mk (Kd.R_mono (ok' := (fun k_ => some k_ ≠ (.slice Ao26 y372.length co26 : Value).ownBlock)) HO_5.out (fun k_ hk => hk.2)); clear HO_5; have HO_5 := n_; clear n_; obtain ⟨hy28_, hz28_⟩ := Kd.R_celln 0 HO_5.out (0 : Int) (by omega) (of_decide_eq_true qa); (try simp only [Int.reduceToNat, Int.toNat_zero, Int.toNat_ofNat, Nat.reduceMul, Nat.zero_mul, Nat.zero_add, Nat.add_zero] at hy28_ hz28_); (try rw [show ((0 : Int)).toNat = 0 from rfl] at hy28_); (try rw [show ((0 : Int)).toNat = 0 from rfl] at hz28_); have HP28 := Kd.R_putg HO_5.out (0 : Int) t375) | ((with_reducible refine gate_store (t := 3) (p := 32) rfl ?_); refine store_event (t := 3) (p := 32) (v := ?vo_w29) (w1 := (w27.setCell ⟨go20, (0 : Int).toNat, none⟩ (.int .i64 t375))) ?hg ?ho ?hn ?hr ?_; (case ho => rfl); (case hg => rfl); (case hn => rfl); (case hr => first | (go_simp; done) | (go_simp; rfl)); intro w29 hw; have hg : w27.grownBy w29 (some go20) := (by rw [hw]; exact HP28.2); have hp_ : Kd.R (Kd.int .i64) 3 w29 w.heap.size (fun k_ => some k_ ≠ (.slice Ao26 y372.length co26 : Value).ownBlock) (.slice (some ⟨go20, 0, none⟩) x5_1.length co22) y378 := (by rw [hw, Ny378.out]; exact HP28.1); clear HP28; have n0_ := Aside0.mk (hp_); have n1_ := Aside0.mk (IsS126.grown (qI126 HI353) hg (IsS126.own_ne HI353.out HO_5.out (by decide))); have n2_ := Aside0.mk (Kd.R_after (v := (.slice (some ⟨go20, 0, none⟩) x5_1.length co22)) (v1 := (.slice (some ⟨go20, 0, none⟩) x5_1.length co22)) (ok := (fun _ => True)) (qR HO374) hg (.inl rfl)); have n3_ := Aside0.mk ((by rw [hw]; exact below_set (HB.out) GB20.out : Below w.heap.size w w29)); clear HO_5; clear HI353; clear HO374; clear HB; have HO_5 := n0_; have HI353 := n1_; have HO374 := n2_; have HB := n3_; clear n0_ n1_ n2_ n3_; clear hg hw hp_) | ((with_reducible refine gate_callee (f := 171) rfl ?_); refine goesL_ (some 34) rfl rfl Try.func171 (by kernel_rfl) rfl #[.pointer (some ⟨gb353, 0, none⟩)] rfl qA ?_; (with_reducible refine (spec_l1Cur_kit.calls k1 gb353 l0 t376 t377 t379 t382 t383 w _ ?side1 ?side2 A21.out).mono ?_); (case side1 => exact qI126 HI353); (case side2 => exact qV126 HB); rintro e w30 ⟨v380, rfl, ho0, hi, hb, hk⟩; refine ⟨_, rfl, ?_⟩; have n0_ := Aside0.mk (Kd.R_mono (Kd.R_told (Kd.R_oldK (IsS126.apart (show IsS126 w _ gb353 l0 t376 t377 from qI126 HI353) (qR HO_5) (by decide)) hk) (Kd.R_base ho0)) (fun _ h_ => h_.1)); have n1_ := Aside0.mk (Kd.R_mono (Kd.R_told (Kd.R_oldK (IsS126.apart (show IsS126 w _ gb353 l0 t376 t377 from qI126 HI353) (qR HO374) (by decide)) hk) (Kd.R_base ho0)) (fun _ h_ => h_.1)); have n2_ := Aside0.mk (Kd.R_lower (Kd.R_new' (Kd.R_new' ho0 (Kd.R_lt (qR HO_5))) (Kd.R_lt (qR HO374))) (below_size (qV126 HB))); have n3_ := Aside0.mk (hb); have n4_ := Aside0.mk (hi); clear HO_5; clear HO374; clear HB; clear HI353; have HO_5 := n0_; have HO374 := n1_; have HO381 := n2_; have HB := n3_; have HI353 := n4_; clear n0_ n1_ n2_ n3_ n4_; (try clear hb); (try clear hb2); (try clear hk); (try clear hi); (try clear ho0)))
      go_ret2
      exact ⟨_, _, qe, by exact uR (Kd.R_mono HO381.out (fun _ hk => hk.1.2)), by exact uR (Kd.R_mono HO_5.out (fun _ hk => hk.2)), qV126 HB⟩
     ·rw [if_neg c19] at H
      exact absurd H (by simp)
    ·replace c17 := Bool.eq_false_iff.mpr c17
     subst c17
     rw [if_neg (show ¬ (false = true) by decide)] at H
     replace H := Option.bind_eq_some_iff.mp H
     obtain ⟨⟨t384, t387, t388⟩, A310, H⟩ := H
     replace H : (some (t384, x5_1)) = some (r1, r2) := H
     have A31 := Aside0.mk A310
     clear A310
     simp only [Option.some.injEq, Prod.mk.injEq] at H
     obtain ⟨rfl, rfl⟩ := H
     obtain ⟨Ao32, co32, eo32⟩ := Kd.R_slice HO_5.out
     subst eo32
     go_wp2_with (first | ((with_reducible refine gate_callee (f := 101) rfl ?_); refine goesL_ (some 27) rfl rfl Try.func101 (by kernel_rfl) rfl #[.pointer (some ⟨gb353, 0, none⟩), .int .i64 24] rfl qA ?_; (with_reducible refine (spec_l1Cur_one.calls gb353 l0 x354001_1 x354002_1 24 false t370 t371 w _ ?side1 ?side2 A16.out).mono ?_); (case side1 => exact qI126 HI353); (case side2 => exact qV126 HB); rintro e w33 ⟨rfl, hi, hb, hk⟩; refine ⟨_, rfl, ?_⟩; have n0_ := Aside0.mk (Kd.R_mono (Kd.R_keep (IsS126.apart (show IsS126 w _ gb353 l0 x354001_1 x354002_1 from qI126 HI353) (qR HO_5) (by decide)) hk (fun _ h => h.2)) (fun _ h => h.1)); have n1_ := Aside0.mk (hb); have n2_ := Aside0.mk (hi); clear HO_5; clear HB; clear HI353; have HO_5 := n0_; have HB := n1_; have HI353 := n2_; clear n0_ n1_ n2_; (try clear hb); (try clear hb2); (try clear hk); (try clear hi)) | ((with_reducible refine gate_callee (f := 171) rfl ?_); refine goesL_ (some 34) rfl rfl Try.func171 (by kernel_rfl) rfl #[.pointer (some ⟨gb353, 0, none⟩)] rfl qA ?_; (with_reducible refine (spec_l1Cur_kit.calls k1 gb353 l0 t370 t371 t384 t387 t388 w _ ?side1 ?side2 A31.out).mono ?_); (case side1 => exact qI126 HI353); (case side2 => exact qV126 HB); rintro e w34 ⟨v385, rfl, ho0, hi, hb, hk⟩; refine ⟨_, rfl, ?_⟩; have n0_ := Aside0.mk (Kd.R_mono (Kd.R_told (Kd.R_oldK (IsS126.apart (show IsS126 w _ gb353 l0 t370 t371 from qI126 HI353) (qR HO_5) (by decide)) hk) (Kd.R_base ho0)) (fun _ h_ => h_.1)); have n1_ := Aside0.mk (Kd.R_lower (Kd.R_new' ho0 (Kd.R_lt (qR HO_5))) (below_size (qV126 HB))); have n2_ := Aside0.mk (hb); have n3_ := Aside0.mk (hi); clear HO_5; clear HB; clear HI353; have HO_5 := n0_; have HO386 := n1_; have HB := n2_; have HI353 := n3_; clear n0_ n1_ n2_ n3_; (try clear hb); (try clear hb2); (try clear hk); (try clear hi); (try clear ho0)))
     go_ret2
     exact ⟨_, _, qe, by exact uR (Kd.R_mono HO386.out (fun _ hk => hk.2)), by exact uR (Kd.R_mono HO_5.out (fun _ hk => hk.2)), qV126 HB⟩

/-! ### impl_KitPrice: function 80 -/
mutual
def impl_KitPrice.j0 : Nat → List Int → List Int → Bool → Option (Int × Bool)
 | 0, _, _, _ => none
 | k + 1, x0, x1, x16 => if x16 = true then (some (0, false)) else (impl_KitPrice.l0 k x0 0 x1 (x1.length : Int) 0)
def impl_KitPrice.l0 : Nat → List Int → Int → List Int → Int → Int → Option (Int × Bool)
 | 0, _, _, _, _, _ => none
 | k + 1, x0, x6, x17, x18, x19 => if x19 < x18 then (if 0 ≤ x19 then (if x19 < (x17.length : Int) then (if (rd x17 x19) < 0 then (some (0, false)) else (if (rd x17 x19) > 100 then (some (0, false)) else (if x19 < (x0.length : Int) then (impl_KitPrice.l0 k x0 (wrap64 (x6 + (wrap64 ((rd x0 x19) * (rd x17 x19))))) x17 x18 (wrap64 (x19 + 1))) else (none)))) else (none)) else (none)) else (some (x6, true))
end
def impl_KitPrice.f (k : Nat) (l0 : List Int) (l1 : List Int) : Option (Int × Bool) := (impl_isKit.f k l0).bind fun t389 => (if t389 = true then (impl_KitPrice.j0 k l0 l1 ((l1.length : Int) != 7)) else (impl_KitPrice.j0 k l0 l1 true))
theorem impl_KitPrice.mono_l : ∀ k, (∀ y0 y1 y2, LeO (impl_KitPrice.j0 k y0 y1 y2) (impl_KitPrice.j0 (k + 1) y0 y1 y2)) ∧ (∀ y0 y1 y2 y3 y4, LeO (impl_KitPrice.l0 k y0 y1 y2 y3 y4) (impl_KitPrice.l0 (k + 1) y0 y1 y2 y3 y4))
 | 0 => ⟨fun _ _ _ r h => by simp [impl_KitPrice.j0] at h, fun _ _ _ _ _ r h => by simp [impl_KitPrice.l0] at h⟩
 | k + 1 => by
  obtain ⟨ih0, ih1⟩ := impl_KitPrice.mono_l k
  refine ⟨?_, ?_⟩
  ·intro y0 y1 y2
   unfold impl_KitPrice.j0
   repeat' first | (with_reducible first | exact ih0 _ _ _ | exact ih1 _ _ _ _ _ | exact impl_isKit.mono _ _ | exact LeO.refl _ | exact LeO.none _ | refine LeO.ite ?_ ?_ | refine LeO.bind ?_ (fun _ => ?_)) | exact ih0 _ _ _ | exact ih1 _ _ _ _ _ | exact impl_isKit.mono _ _ | exact LeO.none _ | refine LeO.ite ?_ ?_ | refine LeO.bind ?_ (fun _ => ?_)
  ·intro y0 y1 y2 y3 y4
   unfold impl_KitPrice.l0
   repeat' first | (with_reducible first | exact ih0 _ _ _ | exact ih1 _ _ _ _ _ | exact impl_isKit.mono _ _ | exact LeO.refl _ | exact LeO.none _ | refine LeO.ite ?_ ?_ | refine LeO.bind ?_ (fun _ => ?_)) | exact ih0 _ _ _ | exact ih1 _ _ _ _ _ | exact impl_isKit.mono _ _ | exact LeO.none _ | refine LeO.ite ?_ ?_ | refine LeO.bind ?_ (fun _ => ?_)
theorem impl_KitPrice.mono : ∀ a0 a1 k, LeO (impl_KitPrice.f k a0 a1) (impl_KitPrice.f (k + 1) a0 a1) := by
 intro a0 a1 k
 obtain ⟨ih0, ih1⟩ := impl_KitPrice.mono_l k
 unfold impl_KitPrice.f
 repeat' first | (with_reducible first | exact ih0 _ _ _ | exact ih1 _ _ _ _ _ | exact impl_isKit.mono _ _ | exact LeO.refl _ | exact LeO.none _ | refine LeO.ite ?_ ?_ | refine LeO.bind ?_ (fun _ => ?_)) | exact ih0 _ _ _ | exact ih1 _ _ _ _ _ | exact impl_isKit.mono _ _ | exact LeO.none _ | refine LeO.ite ?_ ?_ | refine LeO.bind ?_ (fun _ => ?_)
set_option maxHeartbeats 8000000 in
set_option maxRecDepth 100000 in
theorem impl_KitPrice.calls (k : Nat) (A0 : Option Addr) (c0 : Nat) (l0 : List Int) (A1 : Option Addr) (c1 : Nat) (l1 : List Int) (r1 : Int) (r2 : Bool) (w : World) (hr0 : Kd.C (Kd.int .i64) w A0 l0.length l0) (hc0 : l0.length ≤ c0) (hr1 : Kd.C (Kd.int .i64) w A1 l1.length l1) (hc1 : l1.length ≤ c1) (h : impl_KitPrice.f k l0 l1 = some (r1, r2)) :
  Calls Try.prog 80 #[.slice A0 l0.length c0, .slice A1 l1.length c1] w fun e w' => e = .returned (.tuple #[.int .i64 r1, .bool r2]) ∧ Drawn0 w w' := by
 have HR0 := Aside0.mk hr0
 have HC0 := Aside0.mk hc0
 clear hr0 hc0
 have HR1 := Aside0.mk hr1
 have HC1 := Aside0.mk hc1
 clear hr1 hc1
 have H : ((impl_isKit.f k l0).bind fun t389 => (if t389 = true then (impl_KitPrice.j0 k l0 l1 ((l1.length : Int) != 7)) else (impl_KitPrice.j0 k l0 l1 true))) = some (r1, r2) := h
 clear h
 have HC3 := Aside0.mk H
 clear H
 go_enter Try.func80, Try.ntmps80
 go_upto_region 1 with (fail)
 go_cut [16] (fun v16 wc => ∃ (kq : Nat) (x16_2 : Bool), v16 = .bool x16_2 ∧ Aside0 (impl_KitPrice.j0 kq l0 l1 x16_2 = some (r1, r2)) ∧ Aside0 (kq ≤ k) ∧ Drawn0 w wc)
 case first =>
  have H := HC3.out
  clear HC3
  replace H := Option.bind_eq_some_iff.mp H
  obtain ⟨t389, A40, H⟩ := H
  replace H : (if t389 = true then (impl_KitPrice.j0 k l0 l1 ((l1.length : Int) != 7)) else (impl_KitPrice.j0 k l0 l1 true)) = some (r1, r2) := H
  have A4 := Aside0.mk A40
  clear A40
  by_cases c5 : t389 = true
  ·subst c5
   rw [if_pos rfl] at H
   have H' := Aside0.mk H
   clear H
   go_wp2_with (first | ((with_reducible refine gate_callee (f := 149) rfl ?_); refine goesL_ (some 10) rfl rfl Try.func149 (by kernel_rfl) rfl #[.slice A0 l0.length c0] rfl qA ?_; (with_reducible refine (impl_isKit.calls k _ _ l0 true _ ?side1 ?side2 A4.out).mono ?_); (case side1 => exact uC HR0.out); (case side2 => exact HC0.out); rintro e w' ⟨rfl, ⟨nd, rfl⟩⟩; refine ⟨_, rfl, ?_⟩))
   go_meet
   case rel => exact ⟨_, (((l1.length : Int) != 7)), qs, H', ⟨by first | omega | exact Nat.le_refl _⟩, by repeat (first | exact Drawn0.refl _ | apply Drawn0.step)⟩
  ·replace c5 := Bool.eq_false_iff.mpr c5
   subst c5
   rw [if_neg (show ¬ (false = true) by decide)] at H
   have H' := Aside0.mk H
   clear H
   go_wp2_with (first | ((with_reducible refine gate_callee (f := 149) rfl ?_); refine goesL_ (some 10) rfl rfl Try.func149 (by kernel_rfl) rfl #[.slice A0 l0.length c0] rfl qA ?_; (with_reducible refine (impl_isKit.calls k _ _ l0 false _ ?side1 ?side2 A4.out).mono ?_); (case side1 => exact uC HR0.out); (case side2 => exact HC0.out); rintro e w' ⟨rfl, ⟨nd, rfl⟩⟩; refine ⟨_, rfl, ?_⟩))
   go_meet
   case rel => exact ⟨_, (true), qs, H', ⟨by first | omega | exact Nat.le_refl _⟩, by repeat (first | exact Drawn0.refl _ | apply Drawn0.step)⟩
 case rest =>
  clear HC3
  try clear c1
  try clear p2
  try clear c5
  obtain ⟨kq, x16_2, rfl, HA, HJ2, ⟨mc2, rfl⟩⟩ := hcut
  cases kq with
  | zero => exact absurd HA.out (by simp [impl_KitPrice.j0])
  | succ kj2 =>
   have H := HA.out
   clear HA
   simp only [impl_KitPrice.j0] at H
   by_cases c6 : x16_2 = true
   ·subst c6
    rw [if_pos rfl] at H
    simp only [Option.some.injEq, Prod.mk.injEq] at H
    obtain ⟨rfl, rfl⟩ := H
    go_wp2
    go_ret2
    exact ⟨qs, by repeat (first | exact Drawn0.refl _ | apply Drawn0.step)⟩
   ·replace c6 := Bool.eq_false_iff.mpr c6
    subst c6
    rw [if_neg (show ¬ (false = true) by decide)] at H
    have H' := Aside0.mk H
    clear H
    go_wp2
    go_loopg [6, 19] kj2 (fun kq v6 v19 w' => ∃ (x6_2 : Int) (x19_2 : Int), v6 = .int .i64 x6_2 ∧ v19 = .int .i64 x19_2 ∧ Aside0 (impl_KitPrice.l0 kq l0 x6_2 l1 (l1.length : Int) x19_2 = some (r1, r2)) ∧ Aside0 (kq ≤ kj2) ∧ Drawn0 w w')
    case atStart => exact ⟨(0), (0), qs, qs, H', ⟨Nat.le_refl _⟩, by repeat (first | exact Drawn0.refl _ | apply Drawn0.step)⟩
    case round =>
     clear H'
     try clear c1
     try clear c2
     try clear p2
     try clear c5
     try clear c6
     try clear p2
     obtain ⟨x6_2, x19_2, rfl, rfl, HA, HK2, ⟨m2, rfl⟩⟩ := hrel
     cases gk with
     | zero => exact absurd HA.out (by simp [impl_KitPrice.l0])
     | succ k2 =>
      have H := HA.out
      clear HA
      simp only [impl_KitPrice.l0] at H
      by_cases c7 : x19_2 < (l1.length : Int)
      ·rw [if_pos c7] at H
       have c7b0 : decide (x19_2 < (l1.length : Int)) = true := decide_eq_true c7
       clear c7
       by_cases c8 : 0 ≤ x19_2
       ·rw [if_pos c8] at H
        have c8b0 : decide (0 ≤ x19_2) = true := decide_eq_true c8
        clear c8
        by_cases c9 : x19_2 < (l1.length : Int)
        ·rw [if_pos c9] at H
         have c9b0 : decide (x19_2 < (l1.length : Int)) = true := decide_eq_true c9
         clear c9
         by_cases c10 : (rd l1 x19_2) < 0
         ·rw [if_pos c10] at H
          have c10b0 : decide ((rd l1 x19_2) < 0) = true := decide_eq_true c10
          clear c10
          simp only [Option.some.injEq, Prod.mk.injEq] at H
          obtain ⟨rfl, rfl⟩ := H
          have p390 : 0 ≤ (x19_2 : Int) := of_decide_eq_true qa
          have q390 : x19_2 < (l1.length : Int) := of_decide_eq_true qa
          obtain ⟨ad390, e390, hx390_0⟩ := Kd.at_int HR1.out x19_2 p390 q390
          cases e390
          replace p390 := eq_true p390
          replace q390 := eq_true q390
          go_wp2
          go_ret2
          exact ⟨qs, by repeat (first | exact Drawn0.refl _ | apply Drawn0.step)⟩
         ·rw [if_neg c10] at H
          have c10b0 : decide ((rd l1 x19_2) < 0) = false := decide_eq_false c10
          clear c10
          by_cases c11 : (rd l1 x19_2) > 100
          ·rw [if_pos c11] at H
           have c11b0 : decide (100 < (rd l1 x19_2)) = true := decide_eq_true c11
           clear c11
           simp only [Option.some.injEq, Prod.mk.injEq] at H
           obtain ⟨rfl, rfl⟩ := H
           have p390 : 0 ≤ (x19_2 : Int) := of_decide_eq_true qa
           have q390 : x19_2 < (l1.length : Int) := of_decide_eq_true qa
           obtain ⟨ad390, e390, hx390_0⟩ := Kd.at_int HR1.out x19_2 p390 q390
           cases e390
           replace p390 := eq_true p390
           replace q390 := eq_true q390
           go_wp2
           go_ret2
           exact ⟨qs, by repeat (first | exact Drawn0.refl _ | apply Drawn0.step)⟩
          ·rw [if_neg c11] at H
           have c11b0 : decide (100 < (rd l1 x19_2)) = false := decide_eq_false c11
           clear c11
           by_cases c12 : x19_2 < (l0.length : Int)
           ·rw [if_pos c12] at H
            have c12b0 : decide (x19_2 < (l0.length : Int)) = true := decide_eq_true c12
            clear c12
            have H' := Aside0.mk H
            clear H
            have p390 : 0 ≤ (x19_2 : Int) := of_decide_eq_true qa
            have q390 : x19_2 < (l1.length : Int) := of_decide_eq_true qa
            obtain ⟨ad390, e390, hx390_0⟩ := Kd.at_int HR1.out x19_2 p390 q390
            cases e390
            replace p390 := eq_true p390
            replace q390 := eq_true q390
            have p391 : 0 ≤ (x19_2 : Int) := of_decide_eq_true qa
            have q391 : x19_2 < (l0.length : Int) := of_decide_eq_true qa
            obtain ⟨ad391, e391, hx391_0⟩ := Kd.at_int HR0.out x19_2 p391 q391
            cases e391
            replace p391 := eq_true p391
            replace q391 := eq_true q391
            go_wp2
            go_roundg k2
            case measure => have := HJ2.out; have := HK2.out; omega
            case rel => exact ⟨(wrap64 (x6_2 + (wrap64 ((rd l0 x19_2) * (rd l1 x19_2))))), (wrap64 (x19_2 + 1)), qs, qs, H', ⟨by have := HJ2.out; have := HK2.out; omega⟩, by repeat (first | exact Drawn0.refl _ | apply Drawn0.step)⟩
           ·rw [if_neg c12] at H
            exact absurd H (by simp)
        ·rw [if_neg c9] at H
         exact absurd H (by simp)
       ·rw [if_neg c8] at H
        exact absurd H (by simp)
      ·rw [if_neg c7] at H
       have c7b0 : decide (x19_2 < (l1.length : Int)) = false := decide_eq_false c7
       clear c7
       simp only [Option.some.injEq, Prod.mk.injEq] at H
       obtain ⟨rfl, rfl⟩ := H
       go_wp2
       go_ret2
       exact ⟨qs, by repeat (first | exact Drawn0.refl _ | apply Drawn0.step)⟩

end Go.Proofs.Ytgblcbgkkfipoaa.XFnPurchases
