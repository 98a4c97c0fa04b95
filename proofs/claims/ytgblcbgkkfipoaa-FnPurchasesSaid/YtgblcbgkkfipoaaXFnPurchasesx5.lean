/- Written by xprint.py, a program of this session, out of the translation: what Go functions compute, as Lean functions, proved over the program. -/
import Derived.Test.YtgblcbgkkfipoaaXFnPurchasesx0
import Derived.Test.YtgblcbgkkfipoaaXFnPurchasesx1
import Derived.Test.YtgblcbgkkfipoaaXFnPurchasesx4
import Derived.Test.YtgblcbgkkfipoaaWQuickB
namespace Go.Proofs.Ytgblcbgkkfipoaa.XFnPurchases
open Go.RowKit Go.Proofs.YtgblcbgkkfipoaaW.PrintWords Go.Proofs.YtgblcbgkkfipoaaW.PrintLast Go.Proofs.YtgblcbgkkfipoaaW.PrintMore
attribute [local go_sem] max2_int min2_int max_two min_two max_three min_three max_four min_four   -- for this text's walks alone
set_option linter.unusedVariables false
set_option linter.unusedSimpArgs false

/-! ### impl_sumOfKits: function 167 -/
mutual
def impl_sumOfKits.l0 : Nat → List (List Int) → List Int → List Int → Int → Int → Option (List Int)
 | 0, _, _, _, _, _ => none
 | k + 1, x0, x5, x11, x12, x13 => if x13 < x12 then (if 0 ≤ x13 then (if x13 < (x11.length : Int) then (if 0 ≤ (rd x11 x13) then (if (rd x11 x13) < (x0.length : Int) then (impl_sumOfKits.l1 k x0 x5 x11 x12 x13 (rd_L3 x0 (rd x11 x13)) ((rd_L3 x0 (rd x11 x13)).length : Int) 0) else (none)) else (none)) else (none)) else (none)) else (some x5)
def impl_sumOfKits.l1 : Nat → List (List Int) → List Int → List Int → Int → Int → List Int → Int → Int → Option (List Int)
 | 0, _, _, _, _, _, _, _, _ => none
 | k + 1, x0, x5, x11, x12, x13, x20, x21, x22 => if x22 < x21 then (if 0 ≤ x22 then (if x22 < (x20.length : Int) then (if x22 < (x5.length : Int) then (impl_sumOfKits.l1 k x0 (x5.set (x22 : Int).toNat (wrap64 ((rd x5 x22) + (rd x20 x22)))) x11 x12 x13 x20 x21 (wrap64 (x22 + 1))) else (none)) else (none)) else (none)) else (impl_sumOfKits.l0 k x0 x5 x11 x12 (wrap64 (x13 + 1)))
end
def impl_sumOfKits.f (k : Nat) (l0 : List (List Int)) (l1 : List Int) : Option (List Int) := if 7 ≤ 35184372088832 then (impl_sumOfKits.l0 k l0 (List.replicate 7 0) l1 (l1.length : Int) 0) else (none)
theorem impl_sumOfKits.mono_l : ∀ k, (∀ y0 y1 y2 y3 y4, LeO (impl_sumOfKits.l0 k y0 y1 y2 y3 y4) (impl_sumOfKits.l0 (k + 1) y0 y1 y2 y3 y4)) ∧ (∀ y0 y1 y2 y3 y4 y5 y6 y7, LeO (impl_sumOfKits.l1 k y0 y1 y2 y3 y4 y5 y6 y7) (impl_sumOfKits.l1 (k + 1) y0 y1 y2 y3 y4 y5 y6 y7))
 | 0 => ⟨fun _ _ _ _ _ r h => by simp [impl_sumOfKits.l0] at h, fun _ _ _ _ _ _ _ _ r h => by simp [impl_sumOfKits.l1] at h⟩
 | k + 1 => by
  obtain ⟨ih0, ih1⟩ := impl_sumOfKits.mono_l k
  refine ⟨?_, ?_⟩
  ·intro y0 y1 y2 y3 y4
   unfold impl_sumOfKits.l0
   repeat' first | (with_reducible first | exact ih0 _ _ _ _ _ | exact ih1 _ _ _ _ _ _ _ _ | exact LeO.refl _ | exact LeO.none _ | refine LeO.ite ?_ ?_ | refine LeO.bind ?_ (fun _ => ?_)) | exact ih0 _ _ _ _ _ | exact ih1 _ _ _ _ _ _ _ _ | exact LeO.none _ | refine LeO.ite ?_ ?_ | refine LeO.bind ?_ (fun _ => ?_)
  ·intro y0 y1 y2 y3 y4 y5 y6 y7
   unfold impl_sumOfKits.l1
   repeat' first | (with_reducible first | exact ih0 _ _ _ _ _ | exact ih1 _ _ _ _ _ _ _ _ | exact LeO.refl _ | exact LeO.none _ | refine LeO.ite ?_ ?_ | refine LeO.bind ?_ (fun _ => ?_)) | exact ih0 _ _ _ _ _ | exact ih1 _ _ _ _ _ _ _ _ | exact LeO.none _ | refine LeO.ite ?_ ?_ | refine LeO.bind ?_ (fun _ => ?_)
theorem impl_sumOfKits.mono : ∀ a0 a1 k, LeO (impl_sumOfKits.f k a0 a1) (impl_sumOfKits.f (k + 1) a0 a1) := by
 intro a0 a1 k
 obtain ⟨ih0, ih1⟩ := impl_sumOfKits.mono_l k
 unfold impl_sumOfKits.f
 repeat' first | (with_reducible first | exact ih0 _ _ _ _ _ | exact ih1 _ _ _ _ _ _ _ _ | exact LeO.refl _ | exact LeO.none _ | refine LeO.ite ?_ ?_ | refine LeO.bind ?_ (fun _ => ?_)) | exact ih0 _ _ _ _ _ | exact ih1 _ _ _ _ _ _ _ _ | exact LeO.none _ | refine LeO.ite ?_ ?_ | refine LeO.bind ?_ (fun _ => ?_)
set_option maxHeartbeats 8000000 in
set_option maxRecDepth 100000 in
theorem impl_sumOfKits.calls (k : Nat) (A0 : Option Addr) (c0 : Nat) (l0 : List (List Int)) (A1 : Option Addr) (c1 : Nat) (l1 : List Int) (r : List Int) (w : World) (hr0 : Kd.C (Kd.slice 3 (Kd.int .i64)) w A0 l0.length l0) (hc0 : l0.length ≤ c0) (hr1 : Kd.C (Kd.int .i64) w A1 l1.length l1) (hc1 : l1.length ≤ c1) (h : impl_sumOfKits.f k l0 l1 = some r) :
  Calls Try.prog 167 #[.slice A0 l0.length c0, .slice A1 l1.length c1] w fun e w' => ∃ v0_ : Value, e = .returned (v0_) ∧ Kd.R (Kd.int .i64) 3 w' w.heap.size (fun _ => True) v0_ r ∧ Below w.heap.size w w' := by
 have HR0 := Aside0.mk hr0
 have HC0 := Aside0.mk hc0
 clear hr0 hc0
 have HR1 := Aside0.mk hr1
 have HC1 := Aside0.mk hc1
 clear hr1 hc1
 have HB := Aside0.mk (Below.refl w.heap.size w)
 have H : (if 7 ≤ 35184372088832 then (impl_sumOfKits.l0 k l0 (List.replicate 7 0) l1 (l1.length : Int) 0) else (none)) = some r := h
 clear h
 by_cases c3 : 7 ≤ 35184372088832
 ·rw [if_pos c3] at H
  have c3b0 := eq_true c3
  have c3b1 : decide (7 ≤ 35184372088832) = true := decide_eq_true c3
  clear c3
  obtain ⟨y295, hy295⟩ : ∃ y_ : List Int, y_ = (List.replicate 7 0) := ⟨_, rfl⟩
  replace H : (impl_sumOfKits.l0 k l0 y295 l1 (l1.length : Int) 0) = some r := by first | (rw [hy295]; with_reducible exact H) | (have H2_ := (Option.bind_some _ _).symm.trans H; rw [hy295]; with_reducible exact H2_) | (have H2_ := (Option.bind_some _ _).symm.trans H; with_reducible exact H2_) | with_reducible exact H | (rw [hy295]; exact H) | exact H
  have Ny295 := Aside0.mk hy295
  clear hy295
  have H' := Aside0.mk H
  clear H
  go_enter Try.func167, Try.ntmps167
  go_wp2_with (first | ((with_reducible refine gate_dst (N := 10) rfl ?_); refine Kd.R_make (Kd.int .i64) _ 3 rfl (N := 10) rfl 23 _ _ rfl 7 rfl rfl Try.underlying23 (.int .i64 0) 8 info3 rfl (by decide) (by omega) 0 (ok := fun _ => True) (okp := fun _ => True) rfl (fun _ hk => hk) trivial (by omega) (by omega) (Below.refl _ _) (Nat.le_refl _) ?_; intro v296 w4 ho5 hb hg_ hnew_; clear hg_ hnew_; (first | rw [← Ny295.out] at ho5 | (simp only [Int.reduceToNat] at ho5; rw [← Ny295.out] at ho5)); have n0_ := Aside0.mk (Kd.R_lower ho5 (below_size (qB HB))); have n1_ := Aside0.mk (below_step (qB HB) hb); clear HB; have HO297 := n0_; have HB := n1_; clear n0_ n1_; clear hb ho5))
  go_loopg [13] k (fun kq v13 w' => ∃ (x5_1 : List Int) (x13_1 : Int), v13 = .int .i64 x13_1 ∧ Aside0 (impl_sumOfKits.l0 kq l0 x5_1 l1 (l1.length : Int) x13_1 = some r) ∧ Aside0 (kq ≤ k) ∧ Aside0 (Kd.R (Kd.int .i64) 3 w' w.heap.size (fun _ => True) v296 x5_1) ∧ Aside0 (Below w.heap.size w w'))
  case atStart => exact ⟨(y295), (0), qs, H', ⟨Nat.le_refl _⟩, ⟨qR HO297⟩, ⟨qB HB⟩⟩
  case round =>
   clear H'
   try clear c1
   try clear p2
   try clear c3
   try clear c3b0
   try clear c3b1
   obtain ⟨x5_1, x13_1, rfl, HA, HK1, HO_5, HB⟩ := hrel
   cases gk with
   | zero => exact absurd HA.out (by simp [impl_sumOfKits.l0])
   | succ k1 =>
    have H := HA.out
    clear HA
    simp only [impl_sumOfKits.l0] at H
    by_cases c6 : x13_1 < (l1.length : Int)
    ·rw [if_pos c6] at H
     have c6b0 : decide (x13_1 < (l1.length : Int)) = true := decide_eq_true c6
     clear c6
     by_cases c7 : 0 ≤ x13_1
     ·rw [if_pos c7] at H
      have c7b0 : decide (0 ≤ x13_1) = true := decide_eq_true c7
      clear c7
      by_cases c8 : x13_1 < (l1.length : Int)
      ·rw [if_pos c8] at H
       have c8b0 : decide (x13_1 < (l1.length : Int)) = true := decide_eq_true c8
       clear c8
       by_cases c9 : 0 ≤ (rd l1 x13_1)
       ·rw [if_pos c9] at H
        have c9b0 : decide (0 ≤ (rd l1 x13_1)) = true := decide_eq_true c9
        clear c9
        by_cases c10 : (rd l1 x13_1) < (l0.length : Int)
        ·rw [if_pos c10] at H
         have c10b0 : decide ((rd l1 x13_1) < (l0.length : Int)) = true := decide_eq_true c10
         clear c10
         have H' := Aside0.mk H
         clear H
         have p298 : 0 ≤ (x13_1 : Int) := of_decide_eq_true qa
         have q298 : x13_1 < (l1.length : Int) := of_decide_eq_true qa
         obtain ⟨ad298, e298, hx298_0⟩ := Kd.at_int HR1.out x13_1 p298 q298
         cases e298
         replace hx298_0 := (HB.out.cell (World.block_lt_of_cell? w _ hx298_0)).trans hx298_0
         replace p298 := eq_true p298
         replace q298 := eq_true q298
         have p299 : 0 ≤ ((rd l1 x13_1) : Int) := of_decide_eq_true qa
         have q299 : (rd l1 x13_1) < (l0.length : Int) := of_decide_eq_true qa
         obtain ⟨ad299, A299_0, c299_0, e299, hx299_0, hl299_0, hi299_0⟩ := at_L3 HR0.out (rd l1 x13_1) p299 q299
         cases e299
         replace hx299_0 := (HB.out.cell (World.block_lt_of_cell? w _ hx299_0)).trans hx299_0
         have HR299_0 := Aside0.mk hi299_0
         have HC299_0 := Aside0.mk hl299_0
         clear hi299_0 hl299_0
         replace p299 := eq_true p299
         replace q299 := eq_true q299
         go_wp2
         go_loopg [22] k1 (fun kq v22 w' => ∃ (x5_2 : List Int) (x22_2 : Int), v22 = .int .i64 x22_2 ∧ Aside0 (impl_sumOfKits.l1 kq l0 x5_2 l1 (l1.length : Int) x13_1 (rd_L3 l0 (rd l1 x13_1)) ((rd_L3 l0 (rd l1 x13_1)).length : Int) x22_2 = some r) ∧ Aside0 (kq ≤ k1) ∧ Aside0 (Kd.R (Kd.int .i64) 3 w' w.heap.size (fun _ => True) v296 x5_2) ∧ Aside0 (Below w.heap.size w w'))
         case atStart => exact ⟨(x5_1), (0), qs, H', ⟨Nat.le_refl _⟩, ⟨qR HO_5⟩, ⟨qB HB⟩⟩
         case round =>
          clear H'
          try clear c1
          try clear c2
          try clear p2
          try clear q2
          try clear hx2
          try clear c3
          try clear c3b0
          try clear c3b1
          try clear c6
          try clear c6b0
          try clear c7
          try clear c7b0
          try clear c8
          try clear c8b0
          try clear c9
          try clear c9b0
          try clear c10
          try clear c10b0
          try clear hx298_0
          try clear hx299_0
          try clear p2
          try clear p298
          try clear p299
          try clear q298
          try clear q299
          obtain ⟨x5_2, x22_2, rfl, HA, HK2, HO_5, HB⟩ := hrel
          cases gk with
          | zero => exact absurd HA.out (by simp [impl_sumOfKits.l1])
          | succ k2 =>
           have H := HA.out
           clear HA
           simp only [impl_sumOfKits.l1] at H
           by_cases c11 : x22_2 < ((rd_L3 l0 (rd l1 x13_1)).length : Int)
           ·rw [if_pos c11] at H
            have c11b0 : decide (x22_2 < ((rd_L3 l0 (rd l1 x13_1)).length : Int)) = true := decide_eq_true c11
            clear c11
            by_cases c12 : 0 ≤ x22_2
            ·rw [if_pos c12] at H
             have c12b0 : decide (0 ≤ x22_2) = true := decide_eq_true c12
             clear c12
             by_cases c13 : x22_2 < ((rd_L3 l0 (rd l1 x13_1)).length : Int)
             ·rw [if_pos c13] at H
              have c13b0 : decide (x22_2 < ((rd_L3 l0 (rd l1 x13_1)).length : Int)) = true := decide_eq_true c13
              clear c13
              by_cases c14 : x22_2 < (x5_2.length : Int)
              ·rw [if_pos c14] at H
               have c14b0 : decide (x22_2 < (x5_2.length : Int)) = true := decide_eq_true c14
               clear c14
               obtain ⟨y302, hy302⟩ : ∃ y_ : List Int, y_ = (x5_2.set (x22_2 : Int).toNat (wrap64 ((rd x5_2 x22_2) + (rd (rd_L3 l0 (rd l1 x13_1)) x22_2)))) := ⟨_, rfl⟩
               replace H : (impl_sumOfKits.l1 k2 l0 y302 l1 (l1.length : Int) x13_1 (rd_L3 l0 (rd l1 x13_1)) ((rd_L3 l0 (rd l1 x13_1)).length : Int) (wrap64 (x22_2 + 1))) = some r := by first | (rw [hy302]; with_reducible exact H) | (have H2_ := (Option.bind_some _ _).symm.trans H; rw [hy302]; with_reducible exact H2_) | (have H2_ := (Option.bind_some _ _).symm.trans H; with_reducible exact H2_) | with_reducible exact H | (rw [hy302]; exact H) | exact H
               have Ny302 := Aside0.mk hy302
               clear hy302
               have H' := Aside0.mk H
               clear H
               have p300 : 0 ≤ (x22_2 : Int) := of_decide_eq_true qa
               have q300 : x22_2 < ((rd_L3 l0 (rd l1 x13_1)).length : Int) := of_decide_eq_true qa
               obtain ⟨ad300, e300, hx300_0⟩ := Kd.at_int HR299_0.out x22_2 p300 q300
               cases e300
               replace hx300_0 := (HB.out.cell (World.block_lt_of_cell? w _ hx300_0)).trans hx300_0
               replace p300 := eq_true p300
               replace q300 := eq_true q300
               obtain ⟨Ao16, co16, eo16⟩ := Kd.R_slice HO_5.out
               subst eo16
               have p301 : 0 ≤ (x22_2 : Int) := of_decide_eq_true qa
               have q301 : x22_2 < (x5_2.length : Int) := of_decide_eq_true qa
               obtain ⟨ad301, e301, hx301_0⟩ := Kd.at_int (Kd.R_reads' HO_5.out).2.2 x22_2 p301 q301
               cases e301
               replace p301 := eq_true p301
               replace q301 := eq_true q301
               have p15 : 0 ≤ (x22_2 : Int) := of_decide_eq_true qa
               have q15 : (x22_2 : Int) < ((x5_2.length : Int) : Int) := of_decide_eq_true qa
               obtain ⟨go15, co15, eo15, gb15, gl15, cl15, HG15⟩ := Kd.R_form HO_5.out (by omega)
               (first | cases eo15 | (injection eo15 with ea_ en_ ec_; (first | subst ea_ | (injection ea_ with ea_; subst ea_)); subst ec_; clear en_))
               have GB15 := Aside0.mk gb15
               have GG15 := Aside0.mk HG15
               clear gb15 gl15 HG15
               (first | simp only [add_plain] at hx301_0 | skip)
               obtain ⟨hx15_0, hf15_0⟩ := Kd.R_celln 0 HO_5.out (x22_2 : Int) p15 q15
               replace p15 := eq_true p15
               replace q15 := eq_true q15
               have HP17 := Kd.R_putg HO_5.out (x22_2 : Int) (wrap64 ((rd x5_2 x22_2) + (rd (rd_L3 l0 (rd l1 x13_1)) x22_2)))
               go_wp2_with (first | ((with_reducible refine gate_store (t := 3) (p := 33) rfl ?_); refine store_event (t := 3) (p := 33) (v := ?vo_w18) (w1 := (wr.setCell ⟨go15, (x22_2 : Int).toNat, none⟩ (.int .i64 (wrap64 ((rd x5_2 x22_2) + (rd (rd_L3 l0 (rd l1 x13_1)) x22_2)))))) ?hg ?ho ?hn ?hr ?_; (case ho => rfl); (case hg => rfl); (case hn => rfl); (case hr => first | (go_simp; done) | (go_simp; rfl)); intro w18 hw; have hg : wr.grownBy w18 (some go15) := (by rw [hw]; exact HP17.2); have hp_ : Kd.R (Kd.int .i64) 3 w18 w.heap.size (fun _ => True) (.slice (some ⟨go15, 0, none⟩) x5_2.length co16) y302 := (by rw [hw, Ny302.out]; exact HP17.1); clear HP17; have n0_ := Aside0.mk (hp_); have n1_ := Aside0.mk ((by rw [hw]; exact below_set (HB.out) GB15.out : Below w.heap.size w w18)); clear HO_5; clear HB; have HO_5 := n0_; have HB := n1_; clear n0_ n1_; clear hg hw hp_))
               go_roundg k2
               case measure => have := HK1.out; have := HK2.out; omega
               case rel => exact ⟨(y302), (wrap64 (x22_2 + 1)), qs, H', ⟨by have := HK1.out; have := HK2.out; omega⟩, ⟨qR HO_5⟩, ⟨qB HB⟩⟩
              ·rw [if_neg c14] at H
               exact absurd H (by simp)
             ·rw [if_neg c13] at H
              exact absurd H (by simp)
            ·rw [if_neg c12] at H
             exact absurd H (by simp)
           ·rw [if_neg c11] at H
            have c11b0 : decide (x22_2 < ((rd_L3 l0 (rd l1 x13_1)).length : Int)) = false := decide_eq_false c11
            clear c11
            have H' := Aside0.mk H
            clear H
            go_wp2
            go_roundg k2
            case measure => have := HK1.out; have := HK2.out; omega
            case rel => exact ⟨(x5_2), (wrap64 (x13_1 + 1)), qs, H', ⟨by have := HK1.out; have := HK2.out; omega⟩, ⟨qR HO_5⟩, ⟨qB HB⟩⟩
        ·rw [if_neg c10] at H
         exact absurd H (by simp)
       ·rw [if_neg c9] at H
        exact absurd H (by simp)
      ·rw [if_neg c8] at H
       exact absurd H (by simp)
     ·rw [if_neg c7] at H
      exact absurd H (by simp)
    ·rw [if_neg c6] at H
     have c6b0 : decide (x13_1 < (l1.length : Int)) = false := decide_eq_false c6
     clear c6
     obtain rfl := Option.some.inj H
     go_wp2
     go_ret
     exact ⟨_, qe, qR HO_5, qB HB⟩
 ·rw [if_neg c3] at H
  exact absurd H (by simp)

/-! ### impl_CheapestKits: function 75 -/
def impl_CheapestKits.p0 : Nat → List Int → Int → Option Bool
 | 0, _, _ => none
 | k + 1, x1, i => if i < (x1.length : Int) then (if 0 ≤ i then (if (rd x1 i) < 0 then (some false) else (if (rd x1 i) > 10000 then (some false) else (impl_CheapestKits.p0 k x1 (wrap64 (i + 1))))) else (none)) else (some true)
def impl_CheapestKits.s0 : Nat → List Int → List Int → Int → Int → Option Int
 | 0, _, _, _, _ => none
 | k + 1, x1, row, s, j => if j < (row.length : Int) then (if 0 ≤ j then (if 0 ≤ (rd row j) then (if (rd row j) < (x1.length : Int) then (impl_CheapestKits.s0 k x1 row (wrap64 (s + (rd x1 (rd row j)))) (wrap64 (j + 1))) else (none)) else (none)) else (none)) else (some s)
def impl_CheapestKits.l0 : Nat → List (List Int) → List Int → List Int → List (List Int) → List Int → Int → Int → Option (List Int × Int × Bool)
 | 0, _, _, _, _, _, _, _ => none
 | k + 1, x0, x1, x2, ps, b, m, i => if i < (ps.length : Int) then (if 0 ≤ i then ((impl_CheapestKits.s0 k x1 (rdRow ps i) 0 0).bind fun s => ((impl_sumOfKits.f k x0 (rdRow ps i)).bind fun t => ((impl_isEnough.f k t x2).bind fun e => (if e = true then (if m < 0 then (impl_CheapestKits.l0 k x0 x1 x2 ps (rdRow ps i) s (wrap64 (i + 1))) else (if s < m then (impl_CheapestKits.l0 k x0 x1 x2 ps (rdRow ps i) s (wrap64 (i + 1))) else (impl_CheapestKits.l0 k x0 x1 x2 ps b m (wrap64 (i + 1))))) else (impl_CheapestKits.l0 k x0 x1 x2 ps b m (wrap64 (i + 1))))))) else (none)) else (if m < 0 then (some ([], 0, false)) else (some (b, m, true)))
def impl_CheapestKits.f (k : Nat) (l0 : List (List Int)) (l1 : List Int) (l2 : List Int) : Option (List Int × Int × Bool) := (impl_areKits.f k l0).bind fun a => (if a = true then ((impl_isKit.f k l2).bind fun b => (if b = true then (if (l1.length : Int) = (l0.length : Int) then ((impl_CheapestKits.p0 k l1 0).bind fun g => (if g = true then ((impl_purchases.f (l0.length : Int)).bind fun ps => (impl_CheapestKits.l0 k l0 l1 l2 ps [] (-1) 0)) else (some ([], 0, false)))) else (some ([], 0, false))) else (some ([], 0, false)))) else (some ([], 0, false)))
theorem impl_CheapestKits.mono_p : ∀ k, (∀ y0 y1, LeO (impl_CheapestKits.p0 k y0 y1) (impl_CheapestKits.p0 (k + 1) y0 y1))
 | 0 => fun _ _ r h => by simp [impl_CheapestKits.p0] at h
 | k + 1 => by
  have ih0 := impl_CheapestKits.mono_p k
  intro y0 y1
  unfold impl_CheapestKits.p0
  repeat' first | (with_reducible first | exact ih0 _ _ | exact LeO.refl _ | exact LeO.none _ | refine LeO.ite ?_ ?_ | refine LeO.bind ?_ (fun _ => ?_))
theorem impl_CheapestKits.mono_s : ∀ k, (∀ y0 y1 y2 y3, LeO (impl_CheapestKits.s0 k y0 y1 y2 y3) (impl_CheapestKits.s0 (k + 1) y0 y1 y2 y3))
 | 0 => fun _ _ _ _ r h => by simp [impl_CheapestKits.s0] at h
 | k + 1 => by
  have ih0 := impl_CheapestKits.mono_s k
  intro y0 y1 y2 y3
  unfold impl_CheapestKits.s0
  repeat' first | (with_reducible first | exact ih0 _ _ _ _ | exact LeO.refl _ | exact LeO.none _ | refine LeO.ite ?_ ?_ | refine LeO.bind ?_ (fun _ => ?_))
theorem impl_CheapestKits.mono_l : ∀ k, (∀ y0 y1 y2 y3 y4 y5 y6, LeO (impl_CheapestKits.l0 k y0 y1 y2 y3 y4 y5 y6) (impl_CheapestKits.l0 (k + 1) y0 y1 y2 y3 y4 y5 y6))
 | 0 => fun _ _ _ _ _ _ _ r h => by simp [impl_CheapestKits.l0] at h
 | k + 1 => by
  have ih0 := impl_CheapestKits.mono_l k
  intro y0 y1 y2 y3 y4 y5 y6
  unfold impl_CheapestKits.l0
  repeat' first | (with_reducible first | exact ih0 _ _ _ _ _ _ _ | exact impl_CheapestKits.mono_s _ _ _ _ _ | exact impl_sumOfKits.mono _ _ _ | exact impl_isEnough.mono _ _ _ | exact LeO.refl _ | exact LeO.none _ | refine LeO.ite ?_ ?_ | refine LeO.bind ?_ (fun _ => ?_))
theorem impl_CheapestKits.mono : ∀ a0 a1 a2 k, LeO (impl_CheapestKits.f k a0 a1 a2) (impl_CheapestKits.f (k + 1) a0 a1 a2) := by
 intro a0 a1 a2 k
 have ih0 := impl_CheapestKits.mono_l k
 have ih1 := impl_CheapestKits.mono_p k
 unfold impl_CheapestKits.f
 repeat' first | (with_reducible first | exact ih0 _ _ _ _ _ _ _ | exact ih1 _ _ | exact impl_areKits.mono _ _ | exact impl_isKit.mono _ _ | exact LeO.refl _ | refine LeO.ite ?_ ?_ | refine LeO.bind ?_ (fun _ => ?_))
set_option maxHeartbeats 8000000 in
set_option maxRecDepth 100000 in
theorem impl_CheapestKits.calls (k : Nat) (A0 : Option Addr) (c0 : Nat) (l0 : List (List Int)) (A1 : Option Addr) (c1 : Nat) (l1 : List Int) (A2 : Option Addr) (c2 : Nat) (l2 : List Int) (r1 : List Int) (r2 : Int) (r3 : Bool) (w : World) (hr0 : Kd.C (Kd.slice 3 (Kd.int .i64)) w A0 l0.length l0) (hc0 : l0.length ≤ c0) (hr1 : Kd.C (Kd.int .i64) w A1 l1.length l1) (hc1 : l1.length ≤ c1) (hr2 : Kd.C (Kd.int .i64) w A2 l2.length l2) (hc2 : l2.length ≤ c2) (h : impl_CheapestKits.f k l0 l1 l2 = some (r1, r2, r3)) :
  Calls Try.prog 75 #[.slice A0 l0.length c0, .slice A1 l1.length c1, .slice A2 l2.length c2] w fun e w' => ∃ v0_ : Value, e = .returned (.tuple #[v0_, .int .i64 r2, .bool r3]) ∧ Kd.R (Kd.int .i64) 3 w' w.heap.size (fun _ => True) v0_ r1 ∧ Below w.heap.size w w' := by
 have HR0 := Aside0.mk hr0
 have HC0 := Aside0.mk hc0
 have HR1 := Aside0.mk hr1
 have HC1 := Aside0.mk hc1
 have HR2 := Aside0.mk hr2
 have HC2 := Aside0.mk hc2
 clear hr0 hc0 hr1 hc1 hr2 hc2
 unfold impl_CheapestKits.f at h
 obtain ⟨a, ha, h⟩ := Option.bind_eq_some_iff.mp h
 have HA := Aside0.mk ha
 clear ha
 cases a with
 | false =>
  simp only [Bool.false_eq_true, if_false, Option.some.injEq, Prod.mk.injEq] at h
  obtain ⟨rfl, rfl, rfl⟩ := h
  go_enter Try.func75, Try.ntmps75
  go_wp2_with ((go_at_call 165; (with_reducible refine (impl_areKits.calls k _ _ l0 false _ ?s1 HC0.out HA.out).mono ?_); (case s1 => exact HR0.out); rintro e w' ⟨rfl, ⟨nd, rfl⟩⟩))
  go_ret3
  exact ⟨_, rfl, Kd.R_nil _ _ _ _ _, by repeat (first | exact Below.refl _ _ | apply pw_below_drewN | apply below_drew1)⟩
 | true =>
  simp only [if_true] at h
  obtain ⟨b, hb, h⟩ := Option.bind_eq_some_iff.mp h
  have HB0 := Aside0.mk hb
  clear hb
  cases b with
  | false =>
   simp only [Bool.false_eq_true, if_false, Option.some.injEq, Prod.mk.injEq] at h
   obtain ⟨rfl, rfl, rfl⟩ := h
   go_enter Try.func75, Try.ntmps75
   go_wp2_with (first | (go_at_call 165; (with_reducible refine (impl_areKits.calls k _ _ l0 true _ ?s1 HC0.out HA.out).mono ?_); (case s1 => exact HR0.out); rintro e w' ⟨rfl, ⟨nd, rfl⟩⟩) | (go_at_call 149; (with_reducible refine (impl_isKit.calls k _ _ l2 false _ ?s1 HC2.out HB0.out).mono ?_); (case s1 => exact Kd.C_drewN HR2.out _); rintro e w' ⟨rfl, ⟨nd2, rfl⟩⟩))
   go_ret3
   exact ⟨_, rfl, Kd.R_nil _ _ _ _ _, by repeat (first | exact Below.refl _ _ | apply pw_below_drewN | apply below_drew1)⟩
  | true =>
   simp only [if_true] at h
   by_cases c0_ : (l1.length : Int) = (l0.length : Int)
   ·rw [if_pos c0_] at h
    have c0b : ((l1.length : Int) != (l0.length : Int)) = false := by rw [c0_]; simp
    obtain ⟨g, hg, h⟩ := Option.bind_eq_some_iff.mp h
    have HG := Aside0.mk hg
    have Hrest := Aside0.mk h
    clear hg h
    go_enter Try.func75, Try.ntmps75
    go_wp2_with (first | (go_at_call 165; (with_reducible refine (impl_areKits.calls k _ _ l0 true _ ?s1 HC0.out HA.out).mono ?_); (case s1 => exact HR0.out); rintro e w' ⟨rfl, ⟨nd, rfl⟩⟩) | (go_at_call 149; (with_reducible refine (impl_isKit.calls k _ _ l2 true _ ?s1 HC2.out HB0.out).mono ?_); (case s1 => exact Kd.C_drewN HR2.out _); rintro e w' ⟨rfl, ⟨nd2, rfl⟩⟩))
    have HB := Aside0.mk (show Below w.heap.size w (w.drewN (nd + nd2)) from pw_below_drewN (Below.refl _ _) _)
    go_loopg [35] k (fun kq v35 w' => ∃ (i : Int), v35 = .int .i64 i ∧ Aside0 (impl_CheapestKits.p0 kq l1 i = some g) ∧ Aside0 (kq ≤ k) ∧ ∃ nd, w' = w.drewN nd)
    case atStart => exact ⟨0, rfl, HG, ⟨Nat.le_refl _⟩, ⟨_, rfl⟩⟩
    case round =>
     clear HB
     obtain ⟨i, rfl, HH, HK1, ⟨nq, rfl⟩⟩ := hrel
     cases gk with
     | zero => exact absurd HH.out (by simp [impl_CheapestKits.p0])
     | succ k1 =>
      have H := HH.out
      clear HH
      simp only [impl_CheapestKits.p0] at H
      by_cases d1 : i < (l1.length : Int)
      ·rw [if_pos d1] at H
       have d1b : decide (i < (l1.length : Int)) = true := decide_eq_true d1
       by_cases d2 : 0 ≤ i
       ·rw [if_pos d2] at H
        obtain ⟨ad1, cc1, eA1, hcl1, hM1, hcc1⟩ := Kd.C_get (Kd.C_drewN HR1.out nq) (0 : Int) i d2 d1
        subst eA1
        obtain rfl := hM1
        have hx := hcc1 0 _ rfl
        simp only [show (Kd.int .i64).sz = 1 from rfl, Nat.mul_one, Nat.add_zero] at hx
        change _ = some (Value.int .i64 (rd l1 i)) at hx
        have p1 := eq_true d2
        have q1 := eq_true d1
        by_cases d3 : rd l1 i < 0
        ·rw [if_pos d3] at H
         obtain rfl := Option.some.inj H
         have d3b : decide (rd l1 i < 0) = true := decide_eq_true d3
         have R := Hrest.out
         simp only [Bool.false_eq_true, if_false, Option.some.injEq, Prod.mk.injEq] at R
         obtain ⟨rfl, rfl, rfl⟩ := R
         go_wp2
         go_ret3
         exact ⟨_, rfl, Kd.R_nil _ _ _ _ _, by repeat (first | exact Below.refl _ _ | apply pw_below_drewN | apply below_drew1)⟩
        ·rw [if_neg d3] at H
         have d3b : decide (rd l1 i < 0) = false := decide_eq_false d3
         by_cases d4 : rd l1 i > 10000
         ·rw [if_pos d4] at H
          obtain rfl := Option.some.inj H
          have d4b : decide (rd l1 i > 10000) = true := decide_eq_true d4
          have R := Hrest.out
          simp only [Bool.false_eq_true, if_false, Option.some.injEq, Prod.mk.injEq] at R
          obtain ⟨rfl, rfl, rfl⟩ := R
          go_wp2
          go_ret3
          exact ⟨_, rfl, Kd.R_nil _ _ _ _ _, by repeat (first | exact Below.refl _ _ | apply pw_below_drewN | apply below_drew1)⟩
         ·rw [if_neg d4] at H
          have d4b : decide (rd l1 i > 10000) = false := decide_eq_false d4
          have H' := Aside0.mk H
          clear H
          go_wp2
          go_roundg k1
          case measure => omega
          case rel => exact ⟨_, rfl, H', ⟨by have := HK1.out; omega⟩, ⟨_, rfl⟩⟩
       ·rw [if_neg d2] at H
        exact absurd H (by simp)
      ·rw [if_neg d1] at H
       have d1b : decide (i < (l1.length : Int)) = false := decide_eq_false d1
       obtain rfl := Option.some.inj H
       have R := Hrest.out
       simp only [if_true] at R
       obtain ⟨ps, hp, R⟩ := Option.bind_eq_some_iff.mp R
       have HP := Aside0.mk hp
       have H' := Aside0.mk R
       clear hp R
       go_wp2_with (first | (go_at_call 166; (with_reducible refine (impl_purchases.calls _ ps _ HP.out).mono ?_); rintro e w9 ⟨v9, rfl, ho9, hb9⟩; obtain ⟨A9, c9, e9⟩ := Kd.S_slice ho9; subst e9; have n1_ := Aside0.mk (Kd.R_mono (ok' := fun _ => True) (Kd.R_elder' (v := .slice none 0 0) (Kd.R_emptyLit (Kd.int .i64) (w.drewN nq) w.heap.size 3 (fun _ => True) (Nat.le_refl _) trivial) (fun _ he => by simp [Value.ownBlock] at he) hb9) (fun _ _ => trivial)); have n2_ := Aside0.mk (show Below w.heap.size w w9 from below_step (w := w) (by repeat (first | exact Below.refl _ _ | apply below_alloc | apply pw_below_drewN)) hb9); have n3_ := Aside0.mk (Kd.S_mono (ok' := fun _ => True) (Kd.S_lower (base' := w.heap.size) ho9 (by simp [World.alloc])) (fun _ _ => trivial)); clear ho9 hb9))
       go_loopg [11, 12, 51] k (fun kq v11 v12 v51 w' => ∃ (b : List Int) (m i : Int), v12 = .int .i64 m ∧ v51 = .int .i64 i ∧ Aside0 (impl_CheapestKits.l0 kq l0 l1 l2 ps b m i = some (r1, r2, r3)) ∧ Aside0 (kq ≤ k) ∧ Aside0 (Kd.R (Kd.int .i64) 3 w' w.heap.size (fun _ => True) v11 b) ∧ Aside0 (Kd.S (Kd.slice 3 (Kd.int .i64)) 23 w' w.heap.size (fun _ => True) (.slice A9 ps.length c9) ps) ∧ Aside0 (Below w.heap.size w w'))
       case atStart => exact ⟨[], -1, 0, rfl, rfl, H', ⟨Nat.le_refl _⟩, n1_, n3_, n2_⟩
       case round =>
        clear n1_ n2_ n3_ H' d1 d1b
        obtain ⟨b, m, i, rfl, rfl, HH, HK2, HRb, HS, HB⟩ := hrel
        obtain ⟨A6, c6, e6⟩ := Kd.R_slice HRb.out
        subst e6
        cases gk with
        | zero => exact absurd HH.out (by simp [impl_CheapestKits.l0])
        | succ k2 =>
         have H := HH.out
         clear HH
         simp only [impl_CheapestKits.l0] at H
         by_cases c1 : i < (ps.length : Int)
         ·rw [if_pos c1] at H
          have c1b : decide (i < (ps.length : Int)) = true := decide_eq_true c1
          by_cases c2 : 0 ≤ i
          ·rw [if_pos c2] at H
           obtain ⟨sv, hs, H⟩ := Option.bind_eq_some_iff.mp H
           obtain ⟨t, ht, H⟩ := Option.bind_eq_some_iff.mp H
           obtain ⟨e, he, H⟩ := Option.bind_eq_some_iff.mp H
           have HT0 := Aside0.mk hs
           have HT1 := Aside0.mk ht
           have HT2 := Aside0.mk he
           have HX := Aside0.mk H
           clear hs ht he H
           obtain ⟨g9, cc9, e9, _, _, _⟩ := Kd.S_form HS.out (by omega)
           injection e9 with e9a e9b e9c
           subst e9a e9c
           obtain ⟨oki, c, hcl, hM, hcc, hfr, hok, hH⟩ := Kd.S_elem HS.out ([] : List Int) i c2 (by omega)
           obtain ⟨ve, rfl, ge⟩ := hM
           have hx := hcc 0 _ rfl
           simp only [show (Kd.slice 3 (Kd.int .i64)).sz = 1 from rfl, Nat.mul_one, Nat.add_zero] at hx
           have HRe := Aside0.mk (Kd.R_mono (ok' := fun _ => True) (show Kd.R (Kd.int .i64) 3 wr w.heap.size oki ve (rdRow ps i) from ge) (fun _ _ => trivial))
           clear hcl hcc hfr hok hH ge e9b
           obtain ⟨Ae, ce, ee⟩ := Kd.R_slice HRe.out
           subst ee
           have p1 := eq_true c2
           have q1 := eq_true c1
           clear c1 c2
           go_wp2
           go_loopg [15, 57] k2 (fun kq v15 v57 w' => ∃ (s j : Int), v15 = .int .i64 s ∧ v57 = .int .i64 j ∧ Aside0 (impl_CheapestKits.s0 kq l1 (rdRow ps i) s j = some sv) ∧ Aside0 (kq ≤ k2) ∧ ∃ nd, w' = wr.drewN nd)
           case atStart => exact ⟨0, 0, rfl, rfl, HT0, ⟨Nat.le_refl _⟩, ⟨0, rfl⟩⟩
           case round =>
            clear HT0
            obtain ⟨s, j, rfl, rfl, HH, HK3, ⟨nw, rfl⟩⟩ := hrel
            have HRe3 := Aside0.mk (Kd.R_drewN HRe.out nw)
            have HS3 := Aside0.mk (Kd.S_drewN HS.out nw)
            have HRb3 := Aside0.mk (Kd.R_drewN HRb.out nw)
            have HB3 := Aside0.mk (pw_below_drewN HB.out nw)
            cases gk with
            | zero => exact absurd HH.out (by simp [impl_CheapestKits.s0])
            | succ k3 =>
             have H := HH.out
             clear HH
             simp only [impl_CheapestKits.s0] at H
             by_cases f1 : j < ((rdRow ps i).length : Int)
             ·rw [if_pos f1] at H
              have f1b : decide (j < ((rdRow ps i).length : Int)) = true := decide_eq_true f1
              by_cases f2 : 0 ≤ j
              ·rw [if_pos f2] at H
               by_cases f3 : 0 ≤ rd (rdRow ps i) j
               ·rw [if_pos f3] at H
                by_cases f4 : rd (rdRow ps i) j < (l1.length : Int)
                ·rw [if_pos f4] at H
                 have H' := Aside0.mk H
                 clear H
                 obtain ⟨ade, cce, eAe, hcle, hMe, hcce⟩ := Kd.C_get (Kd.R_reads' HRe3.out).2.2 (0 : Int) j f2 f1
                 subst eAe
                 obtain rfl := hMe
                 have hxe := hcce 0 _ rfl
                 simp only [show (Kd.int .i64).sz = 1 from rfl, Nat.mul_one, Nat.add_zero] at hxe
                 change _ = some (Value.int .i64 (rd (rdRow ps i) j)) at hxe
                 obtain ⟨adp, ccp, eAp, hclp, hMp, hccp⟩ := Kd.C_get (Kd.C_below HR1.out HB3.out) (0 : Int) (rd (rdRow ps i) j) f3 f4
                 subst eAp
                 obtain rfl := hMp
                 have hxp := hccp 0 _ rfl
                 simp only [show (Kd.int .i64).sz = 1 from rfl, Nat.mul_one, Nat.add_zero] at hxp
                 change _ = some (Value.int .i64 (rd l1 (rd (rdRow ps i) j))) at hxp
                 have p2 := eq_true f2
                 have q2 := eq_true f1
                 have p3 := eq_true f3
                 have q3 := eq_true f4
                 clear hcle hcce hclp hccp
                 go_wp2
                 go_roundg k3
                 case measure => omega
                 case rel => exact ⟨_, _, rfl, rfl, H', ⟨by have := HK3.out; omega⟩, ⟨_, rfl⟩⟩
                ·rw [if_neg f4] at H
                 exact absurd H (by simp)
               ·rw [if_neg f3] at H
                exact absurd H (by simp)
              ·rw [if_neg f2] at H
               exact absurd H (by simp)
             ·rw [if_neg f1] at H
              have f1b : decide (j < ((rdRow ps i).length : Int)) = false := decide_eq_false f1
              obtain rfl := Option.some.inj H
              have H := HX.out
              clear HX
              cases e with
              | false =>
               simp only [Bool.false_eq_true, if_false] at H
               have H' := Aside0.mk H
               clear H
               go_wp2_with (first | (go_at_call 167; (with_reducible refine (impl_sumOfKits.calls k2 _ _ l0 _ _ (rdRow ps i) t _ ?s1 HC0.out ?s2 ?s3 HT1.out).mono ?_); (case s1 => exact Kd.C_below HR0.out HB3.out); (case s2 => exact (Kd.R_reads' HRe3.out).2.2); (case s3 => exact (Kd.R_reads' HRe3.out).2.1); rintro e w2 ⟨v2, rfl, ho2, hb2⟩; obtain ⟨A2_, c2_, e2⟩ := Kd.R_slice ho2; subst e2; have n1_ := Aside0.mk (Kd.R_mono (ok' := fun _ => True) (Kd.R_elder' (v := .slice none 0 0) HRb3.out (fun _ he => by simp [Value.ownBlock] at he) hb2) (fun _ _ => trivial)); have n2_ := Aside0.mk (Kd.S_mono (ok' := fun _ => True) (Kd.S_elder' (v := .slice none 0 0) HS3.out (fun _ he => by simp [Value.ownBlock] at he) hb2) (fun _ _ => trivial)); have n3_ := Aside0.mk (Kd.R_mono (ok' := fun _ => True) (Kd.R_elder' (v := .slice none 0 0) HRe3.out (fun _ he => by simp [Value.ownBlock] at he) hb2) (fun _ _ => trivial)); have n4_ := Aside0.mk (show Below w.heap.size w w2 from below_step HB3.out hb2); have HRt := Aside0.mk ho2; clear HRb3 HS3 HRe3 HB3 ho2 hb2) | (go_at_call 151; (with_reducible refine (impl_isEnough.calls k2 _ _ t _ _ l2 false _ ?s1 ?s2 ?s3 HC2.out HT2.out).mono ?_); (case s1 => exact (Kd.R_reads' HRt.out).2.2); (case s2 => exact (Kd.R_reads' HRt.out).2.1); (case s3 => exact Kd.C_below HR2.out n4_.out); rintro e w3 ⟨rfl, ⟨nd3, rfl⟩⟩))
               go_roundg k2
               case measure => omega
               case rel => exact ⟨_, _, _, rfl, rfl, H', ⟨by have := HK2.out; omega⟩, ⟨Kd.R_drewN n1_.out _⟩, ⟨Kd.S_drewN n2_.out _⟩, ⟨pw_below_drewN n4_.out _⟩⟩
              | true =>
               simp only [if_true] at H
               by_cases c3 : m < 0
               ·rw [if_pos c3] at H
                have c3b : decide (m < 0) = true := decide_eq_true c3
                have H' := Aside0.mk H
                clear H
                go_wp2_with (first | (go_at_call 167; (with_reducible refine (impl_sumOfKits.calls k2 _ _ l0 _ _ (rdRow ps i) t _ ?s1 HC0.out ?s2 ?s3 HT1.out).mono ?_); (case s1 => exact Kd.C_below HR0.out HB3.out); (case s2 => exact (Kd.R_reads' HRe3.out).2.2); (case s3 => exact (Kd.R_reads' HRe3.out).2.1); rintro e w2 ⟨v2, rfl, ho2, hb2⟩; obtain ⟨A2_, c2_, e2⟩ := Kd.R_slice ho2; subst e2; have n1_ := Aside0.mk (Kd.R_mono (ok' := fun _ => True) (Kd.R_elder' (v := .slice none 0 0) HRb3.out (fun _ he => by simp [Value.ownBlock] at he) hb2) (fun _ _ => trivial)); have n2_ := Aside0.mk (Kd.S_mono (ok' := fun _ => True) (Kd.S_elder' (v := .slice none 0 0) HS3.out (fun _ he => by simp [Value.ownBlock] at he) hb2) (fun _ _ => trivial)); have n3_ := Aside0.mk (Kd.R_mono (ok' := fun _ => True) (Kd.R_elder' (v := .slice none 0 0) HRe3.out (fun _ he => by simp [Value.ownBlock] at he) hb2) (fun _ _ => trivial)); have n4_ := Aside0.mk (show Below w.heap.size w w2 from below_step HB3.out hb2); have HRt := Aside0.mk ho2; clear HRb3 HS3 HRe3 HB3 ho2 hb2) | (go_at_call 151; (with_reducible refine (impl_isEnough.calls k2 _ _ t _ _ l2 true _ ?s1 ?s2 ?s3 HC2.out HT2.out).mono ?_); (case s1 => exact (Kd.R_reads' HRt.out).2.2); (case s2 => exact (Kd.R_reads' HRt.out).2.1); (case s3 => exact Kd.C_below HR2.out n4_.out); rintro e w3 ⟨rfl, ⟨nd3, rfl⟩⟩))
                go_roundg k2
                case measure => omega
                case rel => exact ⟨_, _, _, rfl, rfl, H', ⟨by have := HK2.out; omega⟩, ⟨Kd.R_drewN n3_.out _⟩, ⟨Kd.S_drewN n2_.out _⟩, ⟨pw_below_drewN n4_.out _⟩⟩
               ·rw [if_neg c3] at H
                have c3b : decide (m < 0) = false := decide_eq_false c3
                by_cases c4 : s < m
                ·rw [if_pos c4] at H
                 have c4b : decide (s < m) = true := decide_eq_true c4
                 have H' := Aside0.mk H
                 clear H
                 go_wp2_with (first | (go_at_call 167; (with_reducible refine (impl_sumOfKits.calls k2 _ _ l0 _ _ (rdRow ps i) t _ ?s1 HC0.out ?s2 ?s3 HT1.out).mono ?_); (case s1 => exact Kd.C_below HR0.out HB3.out); (case s2 => exact (Kd.R_reads' HRe3.out).2.2); (case s3 => exact (Kd.R_reads' HRe3.out).2.1); rintro e w2 ⟨v2, rfl, ho2, hb2⟩; obtain ⟨A2_, c2_, e2⟩ := Kd.R_slice ho2; subst e2; have n1_ := Aside0.mk (Kd.R_mono (ok' := fun _ => True) (Kd.R_elder' (v := .slice none 0 0) HRb3.out (fun _ he => by simp [Value.ownBlock] at he) hb2) (fun _ _ => trivial)); have n2_ := Aside0.mk (Kd.S_mono (ok' := fun _ => True) (Kd.S_elder' (v := .slice none 0 0) HS3.out (fun _ he => by simp [Value.ownBlock] at he) hb2) (fun _ _ => trivial)); have n3_ := Aside0.mk (Kd.R_mono (ok' := fun _ => True) (Kd.R_elder' (v := .slice none 0 0) HRe3.out (fun _ he => by simp [Value.ownBlock] at he) hb2) (fun _ _ => trivial)); have n4_ := Aside0.mk (show Below w.heap.size w w2 from below_step HB3.out hb2); have HRt := Aside0.mk ho2; clear HRb3 HS3 HRe3 HB3 ho2 hb2) | (go_at_call 151; (with_reducible refine (impl_isEnough.calls k2 _ _ t _ _ l2 true _ ?s1 ?s2 ?s3 HC2.out HT2.out).mono ?_); (case s1 => exact (Kd.R_reads' HRt.out).2.2); (case s2 => exact (Kd.R_reads' HRt.out).2.1); (case s3 => exact Kd.C_below HR2.out n4_.out); rintro e w3 ⟨rfl, ⟨nd3, rfl⟩⟩))
                 go_roundg k2
                 case measure => omega
                 case rel => exact ⟨_, _, _, rfl, rfl, H', ⟨by have := HK2.out; omega⟩, ⟨Kd.R_drewN n3_.out _⟩, ⟨Kd.S_drewN n2_.out _⟩, ⟨pw_below_drewN n4_.out _⟩⟩
                ·rw [if_neg c4] at H
                 have c4b : decide (s < m) = false := decide_eq_false c4
                 have H' := Aside0.mk H
                 clear H
                 go_wp2_with (first | (go_at_call 167; (with_reducible refine (impl_sumOfKits.calls k2 _ _ l0 _ _ (rdRow ps i) t _ ?s1 HC0.out ?s2 ?s3 HT1.out).mono ?_); (case s1 => exact Kd.C_below HR0.out HB3.out); (case s2 => exact (Kd.R_reads' HRe3.out).2.2); (case s3 => exact (Kd.R_reads' HRe3.out).2.1); rintro e w2 ⟨v2, rfl, ho2, hb2⟩; obtain ⟨A2_, c2_, e2⟩ := Kd.R_slice ho2; subst e2; have n1_ := Aside0.mk (Kd.R_mono (ok' := fun _ => True) (Kd.R_elder' (v := .slice none 0 0) HRb3.out (fun _ he => by simp [Value.ownBlock] at he) hb2) (fun _ _ => trivial)); have n2_ := Aside0.mk (Kd.S_mono (ok' := fun _ => True) (Kd.S_elder' (v := .slice none 0 0) HS3.out (fun _ he => by simp [Value.ownBlock] at he) hb2) (fun _ _ => trivial)); have n3_ := Aside0.mk (Kd.R_mono (ok' := fun _ => True) (Kd.R_elder' (v := .slice none 0 0) HRe3.out (fun _ he => by simp [Value.ownBlock] at he) hb2) (fun _ _ => trivial)); have n4_ := Aside0.mk (show Below w.heap.size w w2 from below_step HB3.out hb2); have HRt := Aside0.mk ho2; clear HRb3 HS3 HRe3 HB3 ho2 hb2) | (go_at_call 151; (with_reducible refine (impl_isEnough.calls k2 _ _ t _ _ l2 true _ ?s1 ?s2 ?s3 HC2.out HT2.out).mono ?_); (case s1 => exact (Kd.R_reads' HRt.out).2.2); (case s2 => exact (Kd.R_reads' HRt.out).2.1); (case s3 => exact Kd.C_below HR2.out n4_.out); rintro e w3 ⟨rfl, ⟨nd3, rfl⟩⟩))
                 go_roundg k2
                 case measure => omega
                 case rel => exact ⟨_, _, _, rfl, rfl, H', ⟨by have := HK2.out; omega⟩, ⟨Kd.R_drewN n1_.out _⟩, ⟨Kd.S_drewN n2_.out _⟩, ⟨pw_below_drewN n4_.out _⟩⟩
          ·rw [if_neg c2] at H
           exact absurd H (by simp)
         ·rw [if_neg c1] at H
          have c1b : decide (i < (ps.length : Int)) = false := decide_eq_false c1
          by_cases c5 : m < 0
          ·rw [if_pos c5] at H
           have c5b : decide (m < 0) = true := decide_eq_true c5
           simp only [Option.some.injEq, Prod.mk.injEq] at H
           obtain ⟨rfl, rfl, rfl⟩ := H
           go_wp2
           go_ret3
           exact ⟨_, rfl, Kd.R_nil _ _ _ _ _, HB.out⟩
          ·rw [if_neg c5] at H
           have c5b : decide (m < 0) = false := decide_eq_false c5
           simp only [Option.some.injEq, Prod.mk.injEq] at H
           obtain ⟨rfl, rfl, rfl⟩ := H
           go_wp2
           go_ret3
           exact ⟨_, rfl, HRb.out, HB.out⟩
   ·rw [if_neg c0_] at h
    simp only [Option.some.injEq, Prod.mk.injEq] at h
    obtain ⟨rfl, rfl, rfl⟩ := h
    have c0b : ((l1.length : Int) != (l0.length : Int)) = true := bne_iff_ne.mpr c0_
    clear c0_
    go_enter Try.func75, Try.ntmps75
    go_wp2_with (first | (go_at_call 165; (with_reducible refine (impl_areKits.calls k _ _ l0 true _ ?s1 HC0.out HA.out).mono ?_); (case s1 => exact HR0.out); rintro e w' ⟨rfl, ⟨nd, rfl⟩⟩) | (go_at_call 149; (with_reducible refine (impl_isKit.calls k _ _ l2 true _ ?s1 HC2.out HB0.out).mono ?_); (case s1 => exact Kd.C_drewN HR2.out _); rintro e w' ⟨rfl, ⟨nd2, rfl⟩⟩))
    go_ret3
    exact ⟨_, rfl, Kd.R_nil _ _ _ _ _, by repeat (first | exact Below.refl _ _ | apply pw_below_drewN | apply below_drew1)⟩


/-! ### spec_l1All: function 169 -/
def spec_l1All.l0 : Nat → Int → Int → List Int → Int → Int → Option (Bool)
 | 0, _, _, _, _, _ => none
 | k + 1, x1, x2, x9, x10, x11 => if x11 < x10 then (if 0 ≤ x11 then (if x11 < (x9.length : Int) then ((spec_l1In.f (rd x9 x11) x1 x2).bind fun t304 => (if t304 = true then (spec_l1All.l0 k x1 x2 x9 x10 (wrap64 (x11 + 1))) else (some false))) else (none)) else (none)) else (some true)
def spec_l1All.f (k : Nat) (l0 : List Int) (a1 : Int) (a2 : Int) : Option (Bool) := spec_l1All.l0 k a1 a2 l0 (l0.length : Int) 0
theorem spec_l1All.mono_l : ∀ k, (∀ y0 y1 y2 y3 y4, LeO (spec_l1All.l0 k y0 y1 y2 y3 y4) (spec_l1All.l0 (k + 1) y0 y1 y2 y3 y4))
 | 0 => fun _ _ _ _ _ r h => by simp [spec_l1All.l0] at h
 | k + 1 => by
  have ih0 := spec_l1All.mono_l k
  ·intro y0 y1 y2 y3 y4
   unfold spec_l1All.l0
   repeat' first | (with_reducible first | exact ih0 _ _ _ _ _ | exact LeO.refl _ | exact LeO.none _ | refine LeO.ite ?_ ?_ | refine LeO.bind ?_ (fun _ => ?_)) | exact ih0 _ _ _ _ _ | exact LeO.none _ | refine LeO.ite ?_ ?_ | refine LeO.bind ?_ (fun _ => ?_)
theorem spec_l1All.mono : ∀ a0 a1 a2 k, LeO (spec_l1All.f k a0 a1 a2) (spec_l1All.f (k + 1) a0 a1 a2) := by
 intro a0 a1 a2 k
 have ih0 := spec_l1All.mono_l k
 unfold spec_l1All.f
 repeat' first | (with_reducible first | exact ih0 _ _ _ _ _ | exact LeO.refl _ | exact LeO.none _ | refine LeO.ite ?_ ?_ | refine LeO.bind ?_ (fun _ => ?_)) | exact ih0 _ _ _ _ _ | exact LeO.none _ | refine LeO.ite ?_ ?_ | refine LeO.bind ?_ (fun _ => ?_)
set_option maxHeartbeats 8000000 in
set_option maxRecDepth 100000 in
theorem spec_l1All.calls (k : Nat) (A0 : Option Addr) (c0 : Nat) (l0 : List Int) (a1 : Int) (a2 : Int) (r : Bool) (w : World) (hr0 : Kd.C (Kd.int .i64) w A0 l0.length l0) (hc0 : l0.length ≤ c0) (h : spec_l1All.f k l0 a1 a2 = some r) :
  Calls Try.prog 169 #[.slice A0 l0.length c0, .int .i64 a1, .int .i64 a2] w fun e w' => e = .returned (.bool r) ∧ Drawn0 w w' := by
 have HR0 := Aside0.mk hr0
 have HC0 := Aside0.mk hc0
 clear hr0 hc0
 have H : (spec_l1All.l0 k a1 a2 l0 (l0.length : Int) 0) = some r := h
 clear h
 have H' := Aside0.mk H
 clear H
 go_enter Try.func169, Try.ntmps169
 go_wp2
 go_loopg [11] k (fun kq v11 w' => ∃ (x11_1 : Int), v11 = .int .i64 x11_1 ∧ Aside0 (spec_l1All.l0 kq a1 a2 l0 (l0.length : Int) x11_1 = some r) ∧ Aside0 (kq ≤ k) ∧ Drawn0 w w')
 case atStart => exact ⟨(0), qs, H', ⟨Nat.le_refl _⟩, by repeat (first | exact Drawn0.refl _ | apply Drawn0.step)⟩
 case round =>
  clear H'
  try clear c1
  try clear p2
  obtain ⟨x11_1, rfl, HA, HK1, ⟨m1, rfl⟩⟩ := hrel
  cases gk with
  | zero => exact absurd HA.out (by simp [spec_l1All.l0])
  | succ k1 =>
   have H := HA.out
   clear HA
   simp only [spec_l1All.l0] at H
   by_cases c4 : x11_1 < (l0.length : Int)
   ·rw [if_pos c4] at H
    have c4b0 : decide (x11_1 < (l0.length : Int)) = true := decide_eq_true c4
    clear c4
    by_cases c5 : 0 ≤ x11_1
    ·rw [if_pos c5] at H
     have c5b0 : decide (0 ≤ x11_1) = true := decide_eq_true c5
     clear c5
     by_cases c6 : x11_1 < (l0.length : Int)
     ·rw [if_pos c6] at H
      have c6b0 : decide (x11_1 < (l0.length : Int)) = true := decide_eq_true c6
      clear c6
      replace H := Option.bind_eq_some_iff.mp H
      obtain ⟨t304, A70, H⟩ := H
      replace H : (if t304 = true then (spec_l1All.l0 k1 a1 a2 l0 (l0.length : Int) (wrap64 (x11_1 + 1))) else (some false)) = some r := H
      have A7 := Aside0.mk A70
      clear A70
      by_cases c8 : t304 = true
      ·subst c8
       rw [if_pos rfl] at H
       have H' := Aside0.mk H
       clear H
       have p303 : 0 ≤ (x11_1 : Int) := of_decide_eq_true qa
       have q303 : x11_1 < (l0.length : Int) := of_decide_eq_true qa
       obtain ⟨ad303, e303, hx303_0⟩ := Kd.at_int HR0.out x11_1 p303 q303
       cases e303
       replace p303 := eq_true p303
       replace q303 := eq_true q303
       go_wp2_with (first | ((with_reducible refine gate_callee (f := 135) rfl ?_); refine goesL_ (some 18) rfl rfl Try.func135 (by kernel_rfl) rfl #[.int .i64 (rd l0 x11_1), .int .i64 a1, .int .i64 a2] rfl qA ?_; (with_reducible refine (spec_l1In.calls (rd l0 x11_1) a1 a2 true _ A7.out).mono ?_); rintro e w' ⟨rfl, ⟨nd, rfl⟩⟩; refine ⟨_, rfl, ?_⟩))
       go_roundg k1
       case measure => have := HK1.out; omega
       case rel => exact ⟨(wrap64 (x11_1 + 1)), qs, H', ⟨by have := HK1.out; omega⟩, by repeat (first | exact Drawn0.refl _ | apply Drawn0.step)⟩
      ·replace c8 := Bool.eq_false_iff.mpr c8
       subst c8
       rw [if_neg (show ¬ (false = true) by decide)] at H
       obtain rfl := Option.some.inj H
       have p303 : 0 ≤ (x11_1 : Int) := of_decide_eq_true qa
       have q303 : x11_1 < (l0.length : Int) := of_decide_eq_true qa
       obtain ⟨ad303, e303, hx303_0⟩ := Kd.at_int HR0.out x11_1 p303 q303
       cases e303
       replace p303 := eq_true p303
       replace q303 := eq_true q303
       go_wp2_with (first | ((with_reducible refine gate_callee (f := 135) rfl ?_); refine goesL_ (some 18) rfl rfl Try.func135 (by kernel_rfl) rfl #[.int .i64 (rd l0 x11_1), .int .i64 a1, .int .i64 a2] rfl qA ?_; (with_reducible refine (spec_l1In.calls (rd l0 x11_1) a1 a2 false _ A7.out).mono ?_); rintro e w' ⟨rfl, ⟨nd, rfl⟩⟩; refine ⟨_, rfl, ?_⟩))
       go_ret
       exact ⟨qs, by repeat (first | exact Drawn0.refl _ | apply Drawn0.step)⟩
     ·rw [if_neg c6] at H
      exact absurd H (by simp)
    ·rw [if_neg c5] at H
     exact absurd H (by simp)
   ·rw [if_neg c4] at H
    have c4b0 : decide (x11_1 < (l0.length : Int)) = false := decide_eq_false c4
    clear c4
    obtain rfl := Option.some.inj H
    go_wp2
    go_ret
    exact ⟨qs, by repeat (first | exact Drawn0.refl _ | apply Drawn0.step)⟩

/-! ### spec_kiParts: function 153 -/
def spec_kiParts.f (k : Nat) (l0 : List Int) : Option (Bool) := if (l0.length : Int) = 7 then ((spec_l1All.f k l0 0 600).bind fun t305 => (some t305)) else (some false)
theorem spec_kiParts.mono : ∀ a0 k, LeO (spec_kiParts.f k a0) (spec_kiParts.f (k + 1) a0) := by
 intro a0 k
 unfold spec_kiParts.f
 repeat' first | (with_reducible first | exact spec_l1All.mono _ _ _ _ | exact LeO.refl _ | exact LeO.none _ | refine LeO.ite ?_ ?_ | refine LeO.bind ?_ (fun _ => ?_)) | exact spec_l1All.mono _ _ _ _ | exact LeO.none _ | refine LeO.ite ?_ ?_ | refine LeO.bind ?_ (fun _ => ?_)
set_option maxHeartbeats 8000000 in
set_option maxRecDepth 100000 in
theorem spec_kiParts.calls (k : Nat) (A0 : Option Addr) (c0 : Nat) (l0 : List Int) (r : Bool) (w : World) (hr0 : Kd.C (Kd.int .i64) w A0 l0.length l0) (hc0 : l0.length ≤ c0) (h : spec_kiParts.f k l0 = some r) :
  Calls Try.prog 153 #[.slice A0 l0.length c0] w fun e w' => e = .returned (.bool r) ∧ Drawn0 w w' := by
 have HR0 := Aside0.mk hr0
 have HC0 := Aside0.mk hc0
 clear hr0 hc0
 have H : (if (l0.length : Int) = 7 then ((spec_l1All.f k l0 0 600).bind fun t305 => (some t305)) else (some false)) = some r := h
 clear h
 by_cases c2 : (l0.length : Int) = 7
 ·rw [if_pos c2] at H
  have c2b0 : ((l0.length : Int) == 7) = true := beq_iff_eq.mpr c2
  have c2b1 : ((l0.length : Int) != 7) = false := bne_eq_false_iff_eq.mpr c2
  clear c2
  replace H := Option.bind_eq_some_iff.mp H
  obtain ⟨t305, A30, H⟩ := H
  replace H : (some t305) = some r := H
  have A3 := Aside0.mk A30
  clear A30
  obtain rfl := Option.some.inj H
  go_enter Try.func153, Try.ntmps153
  go_wp2_with (first | (go_at_call 169; (with_reducible refine (spec_l1All.calls k _ _ l0 0 600 t305 _ ?side1 ?side2 A3.out).mono ?_); (case side1 => exact uC HR0.out); (case side2 => exact HC0.out); rintro e w' ⟨rfl, ⟨nd, rfl⟩⟩))
  go_ret
  exact ⟨qs, by repeat (first | exact Drawn0.refl _ | apply Drawn0.step)⟩
 ·rw [if_neg c2] at H
  have c2b0 : ((l0.length : Int) == 7) = false := beq_eq_false_iff_ne.mpr c2
  have c2b1 : ((l0.length : Int) != 7) = true := bne_iff_ne.mpr c2
  obtain rfl := Option.some.inj H
  go_enter Try.func153, Try.ntmps153
  go_wp2
  go_ret
  exact ⟨qs, by repeat (first | exact Drawn0.refl _ | apply Drawn0.step)⟩

end Go.Proofs.Ytgblcbgkkfipoaa.XFnPurchases
