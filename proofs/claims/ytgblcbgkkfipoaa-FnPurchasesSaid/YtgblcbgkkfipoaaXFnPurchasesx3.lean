/- Written by xprint.py, a program of this session, out of the translation: what Go functions compute, as Lean functions, proved over the program. -/
import Derived.Test.YtgblcbgkkfipoaaXFnPurchasesx0
import Derived.Test.YtgblcbgkkfipoaaXFnPurchasesx2
import Derived.Test.YtgblcbgkkfipoaaWQuickB
namespace Go.Proofs.Ytgblcbgkkfipoaa.XFnPurchases
open Go.RowKit Go.Proofs.YtgblcbgkkfipoaaW.PrintWords Go.Proofs.YtgblcbgkkfipoaaW.PrintLast Go.Proofs.YtgblcbgkkfipoaaW.PrintMore
attribute [local go_sem] max2_int min2_int max_two min_two max_three min_three max_four min_four   -- for this text's walks alone
set_option linter.unusedVariables false
set_option linter.unusedSimpArgs false

/-! ### spec_l1Cur_among: function 116 -/
def spec_l1Cur_among.f (s0_0 : List Int) (s0_1 : Int) (s0_2 : Int) (l1 : List Int) : Option (Int × Int × Int) := (spec_l1Cur_pick.f s0_0 s0_1 s0_2 (l1.length : Int)).bind fun bt177 => (if 0 ≤ bt177.1 then (if bt177.1 < (l1.length : Int) then (some (rd l1 bt177.1, bt177.2.1, bt177.2.2)) else (none)) else (none))
set_option maxHeartbeats 8000000 in
set_option maxRecDepth 100000 in
theorem spec_l1Cur_among.calls (g : Nat) (s0_0 : List Int) (s0_1 : Int) (s0_2 : Int) (A1 : Option Addr) (c1 : Nat) (l1 : List Int) (r1 : Int) (r2 : Int) (r3 : Int) (w0 w : World) (hI : IsS126 w0 w g s0_0 s0_1 s0_2) (hB : Below w0.heap.size w0 w) (hr1 : Kd.C (Kd.int .i64) w A1 l1.length l1) (hc1 : l1.length ≤ c1) (hf1 : ∀ ad, A1 = some ad → 0 < l1.length → ad.block ≠ g) (h : spec_l1Cur_among.f s0_0 s0_1 s0_2 l1 = some (r1, r2, r3)) :
  Calls Try.prog 116 #[.pointer (some ⟨g, 0, none⟩), .slice A1 l1.length c1] w fun e w' => e = .returned (.int .i64 r1) ∧ IsS126 w0 w' g s0_0 r2 r3 ∧ Below w0.heap.size w0 w' ∧ KeepBut w w' g none := by
 have HR1 := Aside0.mk hr1
 have HC1 := Aside0.mk hc1
 clear hr1 hc1
 have HI0 := Aside0.mk hI
 have HK := Aside0.mk (KeepBut.refl w g none)
 have HL := Aside0.mk hB.size
 clear hI
 have HW0 := Aside0.mk hB.size
 have HB := Aside0.mk hB
 clear hB
 have H : ((spec_l1Cur_pick.f s0_0 s0_1 s0_2 (l1.length : Int)).bind fun bt177 => (if 0 ≤ bt177.1 then (if bt177.1 < (l1.length : Int) then (some (rd l1 bt177.1, bt177.2.1, bt177.2.2)) else (none)) else (none))) = some (r1, r2, r3) := h
 clear h
 replace H := Option.bind_eq_some_iff.mp H
 obtain ⟨⟨t177, t178, t179⟩, A30, H⟩ := H
 replace H : (if 0 ≤ t177 then (if t177 < (l1.length : Int) then (some (rd l1 t177, t178, t179)) else (none)) else (none)) = some (r1, r2, r3) := H
 have A3 := Aside0.mk A30
 clear A30
 by_cases c4 : 0 ≤ t177
 ·rw [if_pos c4] at H
  have c4b0 : decide (0 ≤ t177) = true := decide_eq_true c4
  clear c4
  by_cases c5 : t177 < (l1.length : Int)
  ·rw [if_pos c5] at H
   have c5b0 : decide (t177 < (l1.length : Int)) = true := decide_eq_true c5
   clear c5
   simp only [Option.some.injEq, Prod.mk.injEq] at H
   obtain ⟨rfl, rfl, rfl⟩ := H
   go_enter Try.func116, Try.ntmps116
   go_wp2_with (first | ((with_reducible refine gate_callee (f := 102) rfl ?_); refine goesL_ (some 9) rfl rfl Try.func102 (by kernel_rfl) rfl #[.pointer (some ⟨g, 0, none⟩), .int .i64 (l1.length : Int)] rfl qA ?_; (with_reducible refine (spec_l1Cur_pick.calls g s0_0 s0_1 s0_2 (l1.length : Int) t177 t178 t179 w0 _ ?side1 ?side2 A3.out).mono ?_); (case side1 => exact qI126 HI0); (case side2 => exact qV126 HB); rintro e w6 ⟨rfl, hi, hb, hk⟩; refine ⟨_, rfl, ?_⟩; have n0_ := Aside0.mk (KeepBut.trans (qP HK) hk (.inl rfl)); have n1_ := Aside0.mk (hb); have n2_ := Aside0.mk (hi); clear HK; clear HB; clear HI0; have HK := n0_; have HB := n1_; have HI0 := n2_; clear n0_ n1_ n2_; (try clear hb); (try clear hb2); (try clear hk); (try clear hi); have p180 : 0 ≤ (t177 : Int) := of_decide_eq_true qa; have q180 : t177 < (l1.length : Int) := of_decide_eq_true qa; obtain ⟨ad180, e180, hx180_0⟩ := Kd.at_int HR1.out t177 p180 q180; cases e180; replace hx180_0 := keep_cell HK.out hx180_0 (by first | (rw [add_block]; exact hf1 _ rfl (by omega)) | exact hf1 _ rfl (by omega) | exact hf1 ad180 rfl (by omega)); replace p180 := eq_true p180; replace q180 := eq_true q180))
   go_ret
   exact ⟨qe, qI126 HI0, qV126 HB, qP HK⟩
  ·rw [if_neg c5] at H
   exact absurd H (by simp)
 ·rw [if_neg c4] at H
  exact absurd H (by simp)

/-! ### spec_l1Cur_kit: function 171 -/
def spec_l1Cur_kit.l0 : Nat → List Int → Int → List Int → Int → Int → Option (List Int × Int × Int)
 | 0, _, _, _, _, _ => none
 | k + 1, x3, x4, x1000, x1001, x1002 => if (x3.length : Int) < x4 then ((spec_l1Cur_pick.f x1000 x1001 x1002 20).bind fun bt184 => ((spec_l1Cur_among.f x1000 bt184.2.1 bt184.2.2 (([0, 1, 2, 3, 5, bt184.1, 600] : List Int))).bind fun bt190 => (if x3.length < 17592186044416 then (spec_l1Cur_kit.l0 k (x3 ++ [bt190.1]) x4 x1000 bt190.2.1 bt190.2.2) else (none)))) else ((spec_l1Cur_one.f x1000 x1001 x1002 24).bind fun bt196 => (if bt196.1 = true then ((spec_l1Cur_pick.f x1000 bt196.2.1 bt196.2.2 (x3.length : Int)).bind fun bt199 => ((spec_l1Cur_among.f x1000 bt199.2.1 bt199.2.2 (([(-1), 601] : List Int))).bind fun bt205 => (if 0 ≤ bt199.1 then (if bt199.1 < (x3.length : Int) then (some ((x3.set (bt199.1 : Int).toNat bt205.1), bt205.2.1, bt205.2.2)) else (none)) else (none)))) else (some (x3, bt196.2.1, bt196.2.2))))
def spec_l1Cur_kit.f (k : Nat) (s0_0 : List Int) (s0_1 : Int) (s0_2 : Int) : Option (List Int × Int × Int) := (spec_l1Cur_pick.f s0_0 s0_1 s0_2 24).bind fun bt181 => (spec_l1Cur_kit.l0 k ([] : List Int) (wrap64 (7 - (wrap64 (Int.tdiv bt181.1 23)))) s0_0 bt181.2.1 bt181.2.2)
theorem spec_l1Cur_kit.mono_l : ∀ k, (∀ y0 y1 y2 y3 y4, LeO (spec_l1Cur_kit.l0 k y0 y1 y2 y3 y4) (spec_l1Cur_kit.l0 (k + 1) y0 y1 y2 y3 y4))
 | 0 => fun _ _ _ _ _ r h => by simp [spec_l1Cur_kit.l0] at h
 | k + 1 => by
  have ih0 := spec_l1Cur_kit.mono_l k
  ·intro y0 y1 y2 y3 y4
   unfold spec_l1Cur_kit.l0
   repeat' first | (with_reducible first | exact ih0 _ _ _ _ _ | exact LeO.refl _ | exact LeO.none _ | refine LeO.ite ?_ ?_ | refine LeO.bind ?_ (fun _ => ?_)) | exact ih0 _ _ _ _ _ | exact LeO.none _ | refine LeO.ite ?_ ?_ | refine LeO.bind ?_ (fun _ => ?_)
theorem spec_l1Cur_kit.mono : ∀ a0 a1 a2 k, LeO (spec_l1Cur_kit.f k a0 a1 a2) (spec_l1Cur_kit.f (k + 1) a0 a1 a2) := by
 intro a0 a1 a2 k
 have ih0 := spec_l1Cur_kit.mono_l k
 unfold spec_l1Cur_kit.f
 repeat' first | (with_reducible first | exact ih0 _ _ _ _ _ | exact LeO.refl _ | exact LeO.none _ | refine LeO.ite ?_ ?_ | refine LeO.bind ?_ (fun _ => ?_)) | exact ih0 _ _ _ _ _ | exact LeO.none _ | refine LeO.ite ?_ ?_ | refine LeO.bind ?_ (fun _ => ?_)
set_option maxHeartbeats 8000000 in
set_option maxRecDepth 100000 in
theorem spec_l1Cur_kit.calls (k : Nat) (g : Nat) (s0_0 : List Int) (s0_1 : Int) (s0_2 : Int) (r1 : List Int) (r2 : Int) (r3 : Int) (w0 w : World) (hI : IsS126 w0 w g s0_0 s0_1 s0_2) (hB : Below w0.heap.size w0 w) (h : spec_l1Cur_kit.f k s0_0 s0_1 s0_2 = some (r1, r2, r3)) :
  Calls Try.prog 171 #[.pointer (some ⟨g, 0, none⟩)] w fun e w' => ∃ v0_ : Value, e = .returned (v0_) ∧ Kd.R (Kd.int .i64) 3 w' w.heap.size (fun _ => True) v0_ r1 ∧ IsS126 w0 w' g s0_0 r2 r3 ∧ Below w0.heap.size w0 w' ∧ KeepBut w w' g none := by
 have HI0 := Aside0.mk hI
 have HK := Aside0.mk (KeepBut.refl w g none)
 have HL := Aside0.mk hB.size
 clear hI
 have HW0 := Aside0.mk hB.size
 have HB := Aside0.mk hB
 clear hB
 have H : ((spec_l1Cur_pick.f s0_0 s0_1 s0_2 24).bind fun bt181 => (spec_l1Cur_kit.l0 k ([] : List Int) (wrap64 (7 - (wrap64 (Int.tdiv bt181.1 23)))) s0_0 bt181.2.1 bt181.2.2)) = some (r1, r2, r3) := h
 clear h
 replace H := Option.bind_eq_some_iff.mp H
 obtain ⟨⟨t181, t182, t183⟩, A20, H⟩ := H
 replace H : (spec_l1Cur_kit.l0 k ([] : List Int) (wrap64 (7 - (wrap64 (Int.tdiv t181 23)))) s0_0 t182 t183) = some (r1, r2, r3) := H
 have A2 := Aside0.mk A20
 clear A20
 have H' := Aside0.mk H
 clear H
 go_enter Try.func171, Try.ntmps171
 go_wp2_with (first | ((with_reducible refine gate_callee (f := 102) rfl ?_); refine goesL_ (some 6) rfl rfl Try.func102 (by kernel_rfl) rfl #[.pointer (some ⟨g, 0, none⟩), .int .i64 24] rfl qA ?_; (with_reducible refine (spec_l1Cur_pick.calls g s0_0 s0_1 s0_2 24 t181 t182 t183 w0 _ ?side1 ?side2 A2.out).mono ?_); (case side1 => exact qI126 HI0); (case side2 => exact qV126 HB); rintro e w3 ⟨rfl, hi, hb, hk⟩; refine ⟨_, rfl, ?_⟩; have n0_ := Aside0.mk (KeepBut.trans (qP HK) hk (.inl rfl)); have n1_ := Aside0.mk (hb); have n2_ := Aside0.mk (hi); clear HK; clear HB; clear HI0; have HK := n0_; have HB := n1_; have HI0 := n2_; clear n0_ n1_ n2_; (try clear hb); (try clear hb2); (try clear hk); (try clear hi)))
 go_loopg [3] k (fun kq v3 w' => ∃ (x3_1 : List Int) (x1001_1 : Int) (x1002_1 : Int), Aside0 (spec_l1Cur_kit.l0 kq x3_1 (wrap64 (7 - (wrap64 (Int.tdiv t181 23)))) s0_0 x1001_1 x1002_1 = some (r1, r2, r3)) ∧ Aside0 (kq ≤ k) ∧ Aside0 (Kd.R (Kd.int .i64) 3 w' w.heap.size (fun _ => True) v3 x3_1) ∧ Aside0 (IsS126 w0 w' g s0_0 x1001_1 x1002_1) ∧ Aside0 (KeepBut w w' g none) ∧ Aside0 (Below w0.heap.size w0 w'))
 case atStart => exact ⟨(([] : List Int)), (t182), (t183), H', ⟨Nat.le_refl _⟩, ⟨by first | exact Kd.R_nil _ _ _ _ _ | exact Kd.N_nil _ _ _ _ _ | exact Kd.V_nil _ _ _ _ _ | exact Kd.Q_nil _ _ _ _ _ | exact Kd.S_nil _ _ _ _ _⟩, ⟨qI126 HI0⟩, ⟨qP HK⟩, ⟨qV126 HB⟩⟩
 case round =>
  clear H'
  try clear c1
  try clear p2
  obtain ⟨x3_1, x1001_1, x1002_1, HA, HK1, HO_3, HI0, HK, HB⟩ := hrel
  cases gk with
  | zero => exact absurd HA.out (by simp [spec_l1Cur_kit.l0])
  | succ k1 =>
   have H := HA.out
   clear HA
   simp only [spec_l1Cur_kit.l0] at H
   by_cases c4 : (x3_1.length : Int) < (wrap64 (7 - (wrap64 (Int.tdiv t181 23))))
   ·rw [if_pos c4] at H
    have c4b0 : decide ((x3_1.length : Int) < (wrap64 (7 - (wrap64 (Int.tdiv t181 23))))) = true := decide_eq_true c4
    clear c4
    replace H := Option.bind_eq_some_iff.mp H
    obtain ⟨⟨t184, t185, t186⟩, A50, H⟩ := H
    replace H : ((spec_l1Cur_among.f s0_0 t185 t186 (([0, 1, 2, 3, 5, t184, 600] : List Int))).bind fun bt190 => (if x3_1.length < 17592186044416 then (spec_l1Cur_kit.l0 k1 (x3_1 ++ [bt190.1]) (wrap64 (7 - (wrap64 (Int.tdiv t181 23)))) s0_0 bt190.2.1 bt190.2.2) else (none))) = some (r1, r2, r3) := H
    have A5 := Aside0.mk A50
    clear A50
    obtain ⟨y187, hy187⟩ : ∃ y_ : List Int, y_ = (([0, 1, 2, 3, 5, t184, 600] : List Int)) := ⟨_, rfl⟩
    replace H : ((spec_l1Cur_among.f s0_0 t185 t186 y187).bind fun bt190 => (if x3_1.length < 17592186044416 then (spec_l1Cur_kit.l0 k1 (x3_1 ++ [bt190.1]) (wrap64 (7 - (wrap64 (Int.tdiv t181 23)))) s0_0 bt190.2.1 bt190.2.2) else (none))) = some (r1, r2, r3) := by first | (rw [hy187]; with_reducible exact H) | (have H2_ := (Option.bind_some _ _).symm.trans H; rw [hy187]; with_reducible exact H2_) | (have H2_ := (Option.bind_some _ _).symm.trans H; with_reducible exact H2_) | with_reducible exact H | (rw [hy187]; exact H) | exact H
    have Ny187 := Aside0.mk hy187
    clear hy187
    replace H := Option.bind_eq_some_iff.mp H
    obtain ⟨⟨t190, t191, t192⟩, A60, H⟩ := H
    replace H : (if x3_1.length < 17592186044416 then (spec_l1Cur_kit.l0 k1 (x3_1 ++ [t190]) (wrap64 (7 - (wrap64 (Int.tdiv t181 23)))) s0_0 t191 t192) else (none)) = some (r1, r2, r3) := H
    have A6 := Aside0.mk A60
    clear A60
    by_cases c7 : x3_1.length < 17592186044416
    ·rw [if_pos c7] at H
     have LMc7 := Aside0.mk c7
     clear c7
     obtain ⟨y193, hy193⟩ : ∃ y_ : List Int, y_ = (x3_1 ++ [t190]) := ⟨_, rfl⟩
     replace H : (spec_l1Cur_kit.l0 k1 y193 (wrap64 (7 - (wrap64 (Int.tdiv t181 23)))) s0_0 t191 t192) = some (r1, r2, r3) := by first | (rw [hy193]; with_reducible exact H) | (have H2_ := (Option.bind_some _ _).symm.trans H; rw [hy193]; with_reducible exact H2_) | (have H2_ := (Option.bind_some _ _).symm.trans H; with_reducible exact H2_) | with_reducible exact H | (rw [hy193]; exact H) | exact H
     have Ny193 := Aside0.mk hy193
     clear hy193
     have H' := Aside0.mk H
     clear H
     obtain ⟨Ao8, co8, eo8⟩ := Kd.R_slice HO_3.out
     subst eo8
     go_wp2_with (first | ((with_reducible refine gate_callee (f := 102) rfl ?_); refine goesL_ (some 16) rfl rfl Try.func102 (by kernel_rfl) rfl #[.pointer (some ⟨g, 0, none⟩), .int .i64 20] rfl qA ?_; (with_reducible refine (spec_l1Cur_pick.calls g s0_0 x1001_1 x1002_1 20 t184 t185 t186 w0 _ ?side1 ?side2 A5.out).mono ?_); (case side1 => exact qI126 HI0); (case side2 => exact qV126 HB); rintro e w9 ⟨rfl, hi, hb, hk⟩; refine ⟨_, rfl, ?_⟩; have n0_ := Aside0.mk (Kd.R_mono (Kd.R_keep (IsS126.apart (show IsS126 w0 _ g s0_0 x1001_1 x1002_1 from qI126 HI0) (qR HO_3) (by decide)) hk (fun _ h => h.2)) (fun _ h => h.1)); have n1_ := Aside0.mk (KeepBut.trans (qP HK) hk (.inl rfl)); have n2_ := Aside0.mk (hb); have n3_ := Aside0.mk (hi); clear HO_3; clear HK; clear HB; clear HI0; have HO_3 := n0_; have HK := n1_; have HB := n2_; have HI0 := n3_; clear n0_ n1_ n2_ n3_; (try clear hb); (try clear hb2); (try clear hk); (try clear hi)) | ((with_reducible refine gate_dst (N := 17) rfl ?_); refine Kd.R_lit (Kd.int .i64) _ 3 ?hg (N := 17) ?hd (xs := ([0, 1, 2, 3, 5, t184, 600] : List Int)) (inner := [.int .i64 0, .int .i64 1, .int .i64 2, .int .i64 3, .int .i64 5, .int .i64 t184, .int .i64 600]) (ok := fun _ => True) (okp := fun _ => True) ?hr ?hp (fun _ hk => hk) trivial (Below.refl _ _) (Nat.le_refl _) (by simp) ?_; (case hd => rfl); (case hg => rfl); (case hr => first | (go_simp; done) | (go_simp; rfl)); (case hp => exact (Reps.one (show Kd.M (Kd.int .i64) _ _ _ 0 [.int .i64 0] from rfl) (Reps.one (show Kd.M (Kd.int .i64) _ _ _ 1 [.int .i64 1] from rfl) (Reps.one (show Kd.M (Kd.int .i64) _ _ _ 2 [.int .i64 2] from rfl) (Reps.one (show Kd.M (Kd.int .i64) _ _ _ 3 [.int .i64 3] from rfl) (Reps.one (show Kd.M (Kd.int .i64) _ _ _ 5 [.int .i64 5] from rfl) (Reps.one (show Kd.M (Kd.int .i64) _ _ _ t184 [.int .i64 t184] from rfl) (Reps.one (show Kd.M (Kd.int .i64) _ _ _ 600 [.int .i64 600] from rfl) (Reps.none _ _))))))))); intro v188 w10 ho11 hb hg_ hnew_; clear hg_ hnew_; (first | rw [← Ny187.out] at ho11 | (simp only [Int.reduceToNat] at ho11; rw [← Ny187.out] at ho11)); have n0_ := Aside0.mk (Kd.R_elder' (qR HO_3) (Kd.R_base ho11) hb); have n1_ := Aside0.mk (Kd.R_lower (Kd.R_new' ho11 (Kd.R_lt (qR HO_3))) (keep_size (w := w) (g := g) (row := none) (qP HK))); have n2_ := Aside0.mk (IsS126.below (qI126 HI0) hb); have n3_ := Aside0.mk (KeepBut.trans (qP HK) (KeepBut.of_below hb g none) (.inl rfl)); have n4_ := Aside0.mk (below_step (qV126 HB) hb); clear HO_3; clear HI0; clear HK; clear HB; have HO_3 := n0_; have HO189 := n1_; have HI0 := n2_; have HK := n3_; have HB := n4_; clear n0_ n1_ n2_ n3_ n4_; clear hb ho11; obtain ⟨Ao12, co12, eo12⟩ := Kd.R_slice HO189.out; subst eo12) | ((with_reducible refine gate_callee (f := 116) rfl ?_); refine goesL_ (some 18) rfl rfl Try.func116 (by kernel_rfl) rfl #[.pointer (some ⟨g, 0, none⟩), .slice Ao12 y187.length co12] rfl qA ?_; (with_reducible refine (spec_l1Cur_among.calls g s0_0 t185 t186 _ _ y187 t190 t191 t192 w0 _ ?side1 ?side2 ?side3 ?side4 ?side5 A6.out).mono ?_); (case side1 => exact qI126 HI0); (case side2 => exact qV126 HB); (case side3 => exact uC (Kd.R_reads' HO189.out).2.2); (case side4 => exact (Kd.R_reads' HO189.out).2.1); (case side5 => exact far_slice (IsS126.own_ne HI0.out HO189.out (by decide))); rintro e w13 ⟨rfl, hi, hb, hk⟩; refine ⟨_, rfl, ?_⟩; have n0_ := Aside0.mk (Kd.R_mono (Kd.R_keep (IsS126.apart (show IsS126 w0 _ g s0_0 t185 t186 from qI126 HI0) (qR HO_3) (by decide)) hk (fun _ h => h.2)) (fun _ h => h.1)); have n1_ := Aside0.mk (Kd.R_mono (Kd.R_keep (IsS126.apart (show IsS126 w0 _ g s0_0 t185 t186 from qI126 HI0) (qR HO189) (by decide)) hk (fun _ h => h.2)) (fun _ h => h.1)); have n2_ := Aside0.mk (KeepBut.trans (qP HK) hk (.inl rfl)); have n3_ := Aside0.mk (hb); have n4_ := Aside0.mk (hi); clear HO_3; clear HO189; clear HK; clear HB; clear HI0; have HO_3 := n0_; have HO189 := n1_; have HK := n2_; have HB := n3_; have HI0 := n4_; clear n0_ n1_ n2_ n3_ n4_; (try clear hb); (try clear hb2); (try clear hk); (try clear hi)) | ((with_reducible refine gate_builtin (b := .append) (xs := #[.tmp 13, .tmp 19]) rfl ?_); at_builtin; refine Kd.R_append (Kd.int .i64) w.heap.size rfl (.tmp 13) (.tmp 19) 23 3 (.int .i64 0) 8 rfl Try.underlying23 info3 rfl (by decide) (by omega) (.slice Ao8 x3_1.length co8) x3_1 t190 [.int .i64 t190] (fun k_ => some k_ ≠ (.slice Ao12 y187.length co12 : Value).ownBlock) (fun _ => False) rfl rfl ?aP (fun _ hk => hk.elim) ?aF ?aO (Below.refl _ _) ?aS ?aL ?_; (case aP => exact rfl); (case aF => exact (fun k_ hk => Kd.fresh' (Kd.R_lt (qR HO189)) k_ hk)); (case aO => exact (by exact uR (Kd.R_mono HO_3.out (fun _ hk => hk.2)))); (case aS => exact (keep_size (w := w) (g := g) (row := none) (qP HK))); (case aL => have := LMc7.out; omega); intro v194 w14 ho hb hg hat; rw [← Ny193.out] at ho; have n0_ := Aside0.mk (IsS126.grown (show IsS126 w0 _ g s0_0 t191 t192 from qI126 HI0) hg (IsS126.own_ne HI0.out HO_3.out (by decide))); have n1_ := Aside0.mk (Kd.R_after (ok := (fun _ => True)) (qR HO189) hg hat); have n2_ := Aside0.mk (below_weaken (qV126 HB) HL.out hb); have n3_ := Aside0.mk (KeepBut.trans (qP HK) (KeepBut.of_grown hg g) (Kd.R_base2 HO_3.out)); have n4_ := Aside0.mk (ho); clear HI0; clear HO189; clear HB; clear HK; clear HO_3; have HI0 := n0_; have HO189 := n1_; have HB := n2_; have HK := n3_; have HO195 := n4_; clear n0_ n1_ n2_ n3_ n4_; clear ho hb hg hat))
     go_roundg k1
     case measure => have := HK1.out; omega
     case rel => exact ⟨(y193), (t191), (t192), H', ⟨by have := HK1.out; omega⟩, ⟨by exact uR (Kd.R_mono HO195.out (fun _ hk => trivial))⟩, ⟨qI126 HI0⟩, ⟨qP HK⟩, ⟨qV126 HB⟩⟩
    ·rw [if_neg c7] at H
     exact absurd H (by simp)
   ·rw [if_neg c4] at H
    have c4b0 : decide ((x3_1.length : Int) < (wrap64 (7 - (wrap64 (Int.tdiv t181 23))))) = false := decide_eq_false c4
    clear c4
    replace H := Option.bind_eq_some_iff.mp H
    obtain ⟨⟨t196, t197, t198⟩, A150, H⟩ := H
    replace H : (if t196 = true then ((spec_l1Cur_pick.f s0_0 t197 t198 (x3_1.length : Int)).bind fun bt199 => ((spec_l1Cur_among.f s0_0 bt199.2.1 bt199.2.2 (([(-1), 601] : List Int))).bind fun bt205 => (if 0 ≤ bt199.1 then (if bt199.1 < (x3_1.length : Int) then (some ((x3_1.set (bt199.1 : Int).toNat bt205.1), bt205.2.1, bt205.2.2)) else (none)) else (none)))) else (some (x3_1, t197, t198))) = some (r1, r2, r3) := H
    have A15 := Aside0.mk A150
    clear A150
    by_cases c16 : t196 = true
    ·subst c16
     rw [if_pos rfl] at H
     replace H := Option.bind_eq_some_iff.mp H
     obtain ⟨⟨t199, t200, t201⟩, A170, H⟩ := H
     replace H : ((spec_l1Cur_among.f s0_0 t200 t201 (([(-1), 601] : List Int))).bind fun bt205 => (if 0 ≤ t199 then (if t199 < (x3_1.length : Int) then (some ((x3_1.set (t199 : Int).toNat bt205.1), bt205.2.1, bt205.2.2)) else (none)) else (none))) = some (r1, r2, r3) := H
     have A17 := Aside0.mk A170
     clear A170
     obtain ⟨y202, hy202⟩ : ∃ y_ : List Int, y_ = (([(-1), 601] : List Int)) := ⟨_, rfl⟩
     replace H : ((spec_l1Cur_among.f s0_0 t200 t201 y202).bind fun bt205 => (if 0 ≤ t199 then (if t199 < (x3_1.length : Int) then (some ((x3_1.set (t199 : Int).toNat bt205.1), bt205.2.1, bt205.2.2)) else (none)) else (none))) = some (r1, r2, r3) := by first | (rw [hy202]; with_reducible exact H) | (have H2_ := (Option.bind_some _ _).symm.trans H; rw [hy202]; with_reducible exact H2_) | (have H2_ := (Option.bind_some _ _).symm.trans H; with_reducible exact H2_) | with_reducible exact H | (rw [hy202]; exact H) | exact H
     have Ny202 := Aside0.mk hy202
     clear hy202
     replace H := Option.bind_eq_some_iff.mp H
     obtain ⟨⟨t205, t206, t207⟩, A180, H⟩ := H
     replace H : (if 0 ≤ t199 then (if t199 < (x3_1.length : Int) then (some ((x3_1.set (t199 : Int).toNat t205), t206, t207)) else (none)) else (none)) = some (r1, r2, r3) := H
     have A18 := Aside0.mk A180
     clear A180
     by_cases c19 : 0 ≤ t199
     ·rw [if_pos c19] at H
      have c19b0 : decide (0 ≤ t199) = true := decide_eq_true c19
      clear c19
      by_cases c20 : t199 < (x3_1.length : Int)
      ·rw [if_pos c20] at H
       have c20b0 : decide (t199 < (x3_1.length : Int)) = true := decide_eq_true c20
       clear c20
       obtain ⟨y208, hy208⟩ : ∃ y_ : List Int, y_ = (x3_1.set (t199 : Int).toNat t205) := ⟨_, rfl⟩
       replace H : (some (y208, t206, t207)) = some (r1, r2, r3) := by first | (rw [hy208]; with_reducible exact H) | (have H2_ := (Option.bind_some _ _).symm.trans H; rw [hy208]; with_reducible exact H2_) | (have H2_ := (Option.bind_some _ _).symm.trans H; with_reducible exact H2_) | with_reducible exact H | (rw [hy208]; exact H) | exact H
       have Ny208 := Aside0.mk hy208
       clear hy208
       simp only [Option.some.injEq, Prod.mk.injEq] at H
       obtain ⟨rfl, rfl, rfl⟩ := H
       obtain ⟨Ao22, co22, eo22⟩ := Kd.R_slice HO_3.out
       subst eo22
       go_wp2_with (first | ((with_reducible refine gate_callee (f := 101) rfl ?_); refine goesL_ (some 22) rfl rfl Try.func101 (by kernel_rfl) rfl #[.pointer (some ⟨g, 0, none⟩), .int .i64 24] rfl qA ?_; (with_reducible refine (spec_l1Cur_one.calls g s0_0 x1001_1 x1002_1 24 true t197 t198 w0 _ ?side1 ?side2 A15.out).mono ?_); (case side1 => exact qI126 HI0); (case side2 => exact qV126 HB); rintro e w23 ⟨rfl, hi, hb, hk⟩; refine ⟨_, rfl, ?_⟩; have n0_ := Aside0.mk (Kd.R_mono (Kd.R_keep (IsS126.apart (show IsS126 w0 _ g s0_0 x1001_1 x1002_1 from qI126 HI0) (qR HO_3) (by decide)) hk (fun _ h => h.2)) (fun _ h => h.1)); have n1_ := Aside0.mk (KeepBut.trans (qP HK) hk (.inl rfl)); have n2_ := Aside0.mk (hb); have n3_ := Aside0.mk (hi); clear HO_3; clear HK; clear HB; clear HI0; have HO_3 := n0_; have HK := n1_; have HB := n2_; have HI0 := n3_; clear n0_ n1_ n2_ n3_; (try clear hb); (try clear hb2); (try clear hk); (try clear hi)) | ((with_reducible refine gate_callee (f := 102) rfl ?_); refine goesL_ (some 27) rfl rfl Try.func102 (by kernel_rfl) rfl #[.pointer (some ⟨g, 0, none⟩), .int .i64 (x3_1.length : Int)] rfl qA ?_; (with_reducible refine (spec_l1Cur_pick.calls g s0_0 t197 t198 (x3_1.length : Int) t199 t200 t201 w0 _ ?side1 ?side2 A17.out).mono ?_); (case side1 => exact qI126 HI0); (case side2 => exact qV126 HB); rintro e w24 ⟨rfl, hi, hb, hk⟩; refine ⟨_, rfl, ?_⟩; have n0_ := Aside0.mk (Kd.R_mono (Kd.R_keep (IsS126.apart (show IsS126 w0 _ g s0_0 t197 t198 from qI126 HI0) (qR HO_3) (by decide)) hk (fun _ h => h.2)) (fun _ h => h.1)); have n1_ := Aside0.mk (KeepBut.trans (qP HK) hk (.inl rfl)); have n2_ := Aside0.mk (hb); have n3_ := Aside0.mk (hi); clear HO_3; clear HK; clear HB; clear HI0; have HO_3 := n0_; have HK := n1_; have HB := n2_; have HI0 := n3_; clear n0_ n1_ n2_ n3_; (try clear hb); (try clear hb2); (try clear hk); (try clear hi)) | ((with_reducible refine gate_dst (N := 29) rfl ?_); refine Kd.R_lit (Kd.int .i64) _ 3 ?hg (N := 29) ?hd (xs := ([(-1), 601] : List Int)) (inner := [.int .i64 (-1), .int .i64 601]) (ok := fun _ => True) (okp := fun _ => True) ?hr ?hp (fun _ hk => hk) trivial (Below.refl _ _) (Nat.le_refl _) (by simp) ?_; (case hd => rfl); (case hg => rfl); (case hr => first | (go_simp; done) | (go_simp; rfl)); (case hp => exact (Reps.one (show Kd.M (Kd.int .i64) _ _ _ (-1) [.int .i64 (-1)] from rfl) (Reps.one (show Kd.M (Kd.int .i64) _ _ _ 601 [.int .i64 601] from rfl) (Reps.none _ _)))); intro v203 w25 ho26 hb hg_ hnew_; clear hg_ hnew_; (first | rw [← Ny202.out] at ho26 | (simp only [Int.reduceToNat] at ho26; rw [← Ny202.out] at ho26)); have n0_ := Aside0.mk (Kd.R_elder' (qR HO_3) (Kd.R_base ho26) hb); have n1_ := Aside0.mk (Kd.R_lower (Kd.R_new' ho26 (Kd.R_lt (qR HO_3))) (keep_size (w := w) (g := g) (row := none) (qP HK))); have n2_ := Aside0.mk (IsS126.below (qI126 HI0) hb); have n3_ := Aside0.mk (KeepBut.trans (qP HK) (KeepBut.of_below hb g none) (.inl rfl)); have n4_ := Aside0.mk (below_step (qV126 HB) hb); clear HO_3; clear HI0; clear HK; clear HB; have HO_3 := n0_; have HO204 := n1_; have HI0 := n2_; have HK := n3_; have HB := n4_; clear n0_ n1_ n2_ n3_ n4_; clear hb ho26; obtain ⟨Ao27, co27, eo27⟩ := Kd.R_slice HO204.out; subst eo27) | ((with_reducible refine gate_callee (f := 116) rfl ?_); refine goesL_ (some 30) rfl rfl Try.func116 (by kernel_rfl) rfl #[.pointer (some ⟨g, 0, none⟩), .slice Ao27 y202.length co27] rfl qA ?_; (with_reducible refine (spec_l1Cur_among.calls g s0_0 t200 t201 _ _ y202 t205 t206 t207 w0 _ ?side1 ?side2 ?side3 ?side4 ?side5 A18.out).mono ?_); (case side1 => exact qI126 HI0); (case side2 => exact qV126 HB); (case side3 => exact uC (Kd.R_reads' HO204.out).2.2); (case side4 => exact (Kd.R_reads' HO204.out).2.1); (case side5 => exact far_slice (IsS126.own_ne HI0.out HO204.out (by decide))); rintro e w28 ⟨rfl, hi, hb, hk⟩; refine ⟨_, rfl, ?_⟩; have n0_ := Aside0.mk (Kd.R_mono (Kd.R_keep (IsS126.apart (show IsS126 w0 _ g s0_0 t200 t201 from qI126 HI0) (qR HO_3) (by decide)) hk (fun _ h => h.2)) (fun _ h => h.1)); have n1_ := Aside0.mk (Kd.R_mono (Kd.R_keep (IsS126.apart (show IsS126 w0 _ g s0_0 t200 t201 from qI126 HI0) (qR HO204) (by decide)) hk (fun _ h => h.2)) (fun _ h => h.1)); have n2_ := Aside0.mk (KeepBut.trans (qP HK) hk (.inl rfl)); have n3_ := Aside0.mk (hb); have n4_ := Aside0.mk (hi); clear HO_3; clear HO204; clear HK; clear HB; clear HI0; have HO_3 := n0_; have HO204 := n1_; have HK := n2_; have HB := n3_; have HI0 := n4_; clear n0_ n1_ n2_ n3_ n4_; (try clear hb); (try clear hb2); (try clear hk); (try clear hi); have p21 : 0 ≤ (t199 : Int) := of_decide_eq_true qa; have q21 : (t199 : Int) < ((x3_1.length : Int) : Int) := of_decide_eq_true qa; obtain ⟨go21, co21, eo21, gb21, gl21, cl21, HG21⟩ := Kd.R_form HO_3.out (by omega); (first | cases eo21 | (injection eo21 with ea_ en_ ec_; (first | subst ea_ | (injection ea_ with ea_; subst ea_)); subst ec_; clear en_)); have GB21 := Aside0.mk gb21; have GG21 := Aside0.mk HG21; clear gb21 gl21 HG21; obtain ⟨hx21_0, hf21_0⟩ := Kd.R_celln 0 HO_3.out (t199 : Int) p21 q21; replace p21 := eq_true p21; replace q21 := eq_true q21; have n_ := Aside0.mk (Kd.R_mono (ok' := (fun k_ => some k_ ≠ (.slice Ao27 y202.length co27 : Value).ownBlock)) HO_3.out (fun k_ hk => hk.2)); clear HO_3; have HO_3 := n_; clear n_; obtain ⟨hy29_, hz29_⟩ := Kd.R_celln 0 HO_3.out (t199 : Int) (of_decide_eq_true qa) (of_decide_eq_true qa); have HP29 := Kd.R_putg HO_3.out (t199 : Int) t205) | ((with_reducible refine gate_store (t := 3) (p := 31) rfl ?_); refine store_event (t := 3) (p := 31) (v := ?vo_w30) (w1 := (w28.setCell ⟨go21, (t199 : Int).toNat, none⟩ (.int .i64 t205))) ?hg ?ho ?hn ?hr ?_; (case ho => rfl); (case hg => rfl); (case hn => rfl); (case hr => first | (go_simp; done) | (go_simp; rfl)); intro w30 hw; have hg : w28.grownBy w30 (some go21) := (by rw [hw]; exact HP29.2); have hp_ : Kd.R (Kd.int .i64) 3 w30 w.heap.size (fun k_ => some k_ ≠ (.slice Ao27 y202.length co27 : Value).ownBlock) (.slice (some ⟨go21, 0, none⟩) x3_1.length co22) y208 := (by rw [hw, Ny208.out]; exact HP29.1); clear HP29; have n0_ := Aside0.mk (hp_); have n1_ := Aside0.mk (IsS126.grown (qI126 HI0) hg (IsS126.own_ne HI0.out HO_3.out (by decide))); have n2_ := Aside0.mk (Kd.R_after (v := (.slice (some ⟨go21, 0, none⟩) x3_1.length co22)) (v1 := (.slice (some ⟨go21, 0, none⟩) x3_1.length co22)) (ok := (fun _ => True)) (qR HO204) hg (.inl rfl)); have n3_ := Aside0.mk ((by rw [hw]; exact below_set (HB.out) (Nat.le_trans HL.out GB21.out) : Below w0.heap.size w0 w30)); have n4_ := Aside0.mk (KeepBut.trans (qP HK) (KeepBut.of_grown hg g) (Kd.R_base2 HO_3.out)); clear HO_3; clear HI0; clear HO204; clear HB; clear HK; have HO_3 := n0_; have HI0 := n1_; have HO204 := n2_; have HB := n3_; have HK := n4_; clear n0_ n1_ n2_ n3_ n4_; clear hg hw hp_))
       go_ret
       exact ⟨_, qe, by exact uR (Kd.R_mono HO_3.out (fun _ hk => trivial)), qI126 HI0, qV126 HB, qP HK⟩
      ·rw [if_neg c20] at H
       exact absurd H (by simp)
     ·rw [if_neg c19] at H
      exact absurd H (by simp)
    ·replace c16 := Bool.eq_false_iff.mpr c16
     subst c16
     rw [if_neg (show ¬ (false = true) by decide)] at H
     simp only [Option.some.injEq, Prod.mk.injEq] at H
     obtain ⟨rfl, rfl, rfl⟩ := H
     obtain ⟨Ao31, co31, eo31⟩ := Kd.R_slice HO_3.out
     subst eo31
     go_wp2_with (first | ((with_reducible refine gate_callee (f := 101) rfl ?_); refine goesL_ (some 22) rfl rfl Try.func101 (by kernel_rfl) rfl #[.pointer (some ⟨g, 0, none⟩), .int .i64 24] rfl qA ?_; (with_reducible refine (spec_l1Cur_one.calls g s0_0 x1001_1 x1002_1 24 false t197 t198 w0 _ ?side1 ?side2 A15.out).mono ?_); (case side1 => exact qI126 HI0); (case side2 => exact qV126 HB); rintro e w32 ⟨rfl, hi, hb, hk⟩; refine ⟨_, rfl, ?_⟩; have n0_ := Aside0.mk (Kd.R_mono (Kd.R_keep (IsS126.apart (show IsS126 w0 _ g s0_0 x1001_1 x1002_1 from qI126 HI0) (qR HO_3) (by decide)) hk (fun _ h => h.2)) (fun _ h => h.1)); have n1_ := Aside0.mk (KeepBut.trans (qP HK) hk (.inl rfl)); have n2_ := Aside0.mk (hb); have n3_ := Aside0.mk (hi); clear HO_3; clear HK; clear HB; clear HI0; have HO_3 := n0_; have HK := n1_; have HB := n2_; have HI0 := n3_; clear n0_ n1_ n2_ n3_; (try clear hb); (try clear hb2); (try clear hk); (try clear hi)))
     go_ret
     exact ⟨_, qe, qR HO_3, qI126 HI0, qV126 HB, qP HK⟩

/-! ### spec_l1Cur_kits: function 164 -/
mutual
def spec_l1Cur_kits.j0 : Nat → List (List Int) → List Int → Int → List Int → Int → Int → Option ((List (List Int)) × List Int × List Int × Int × Int)
 | 0, _, _, _, _, _, _ => none
 | k + 1, x5, x6, x7, x1000, x1001, x1002 => spec_l1Cur_kits.l0 k x5 x6 x7 x1000 x1001 x1002
def spec_l1Cur_kits.l0 : Nat → List (List Int) → List Int → Int → List Int → Int → Int → Option ((List (List Int)) × List Int × List Int × Int × Int)
 | 0, _, _, _, _, _, _ => none
 | k + 1, x5, x6, x7, x1000, x1001, x1002 => if (x5.length : Int) < x7 then (spec_l1Cur_kits.l1 k x5 x6 x7 ([] : List Int) x1000 x1001 x1002) else (spec_l1Cur_kits.l2 k x5 x6 x7 ([] : List Int) x1000 x1001 x1002)
def spec_l1Cur_kits.l1 : Nat → List (List Int) → List Int → Int → List Int → List Int → Int → Int → Option ((List (List Int)) × List Int × List Int × Int × Int)
 | 0, _, _, _, _, _, _, _ => none
 | k + 1, x5, x6, x7, x8, x1000, x1001, x1002 => if (x8.length : Int) < 7 then ((spec_l1Cur_among.f x1000 x1001 x1002 (([0, 1, 2, 5] : List Int))).bind fun bt224 => (if x8.length < 17592186044416 then (spec_l1Cur_kits.l1 k x5 x6 x7 (x8 ++ [bt224.1]) x1000 bt224.2.1 bt224.2.2) else (none))) else (if x5.length < 5864062014805 then ((spec_l1Cur_pick.f x1000 x1001 x1002 100).bind fun bt233 => ((spec_l1Cur_among.f x1000 bt233.2.1 bt233.2.2 (([0, 5, 10, 10, bt233.1, 10000] : List Int))).bind fun bt239 => (if x6.length < 17592186044416 then (spec_l1Cur_kits.l0 k (x5 ++ [x8]) (x6 ++ [bt239.1]) x7 x1000 bt239.2.1 bt239.2.2) else (none)))) else (none))
def spec_l1Cur_kits.l2 : Nat → List (List Int) → List Int → Int → List Int → List Int → Int → Int → Option ((List (List Int)) × List Int × List Int × Int × Int)
 | 0, _, _, _, _, _, _, _ => none
 | k + 1, x5, x6, x7, x9, x1000, x1001, x1002 => if (x9.length : Int) < 7 then ((spec_l1Cur_among.f x1000 x1001 x1002 (([0, 0, 0, 1, 2] : List Int))).bind fun bt248 => (if x9.length < 17592186044416 then (spec_l1Cur_kits.l2 k x5 x6 x7 (x9 ++ [bt248.1]) x1000 bt248.2.1 bt248.2.2) else (none))) else (if x7 > 0 then ((spec_l1Cur_pick.f x1000 x1001 x1002 24).bind fun bt254 => (if bt254.1 = 0 then ((spec_l1Cur_kit.f k x1000 bt254.2.1 bt254.2.2).bind fun bt257 => (if 0 < (x5.length : Int) then (some ((x5.set (0 : Int).toNat bt257.1), x6, x9, bt257.2.1, bt257.2.2)) else (none))) else (if bt254.1 = 1 then ((spec_l1Cur_among.f x1000 bt254.2.1 bt254.2.2 (([(-1), 10001] : List Int))).bind fun bt266 => (if 0 < (x6.length : Int) then (some (x5, (x6.set (0 : Int).toNat bt266.1), x9, bt266.2.1, bt266.2.2)) else (none))) else (if bt254.1 = 2 then (if 1 ≤ (x6.length : Int) then (some (x5, (x6.drop (1 : Int).toNat), x9, bt254.2.1, bt254.2.2)) else (none)) else (if bt254.1 = 3 then ((spec_l1Cur_kit.f k x1000 bt254.2.1 bt254.2.2).bind fun bt273 => (some (x5, x6, bt273.1, bt273.2.1, bt273.2.2))) else (some (x5, x6, x9, bt254.2.1, bt254.2.2))))))) else (some (x5, x6, x9, x1001, x1002)))
end
def spec_l1Cur_kits.f (k : Nat) (s0_0 : List Int) (s0_1 : Int) (s0_2 : Int) : Option ((List (List Int)) × List Int × List Int × Int × Int) := (spec_l1Cur_pick.f s0_0 s0_1 s0_2 4).bind fun bt209 => ((spec_l1Cur_one.f s0_0 bt209.2.1 bt209.2.2 16).bind fun bt212 => (if bt212.1 = true then ((spec_l1Cur_among.f s0_0 bt212.2.1 bt212.2.2 (([0, 6, 7] : List Int))).bind fun bt218 => (spec_l1Cur_kits.j0 k ([] : List (List Int)) ([] : List Int) bt218.1 s0_0 bt218.2.1 bt218.2.2)) else (spec_l1Cur_kits.j0 k ([] : List (List Int)) ([] : List Int) (wrap64 (1 + bt209.1)) s0_0 bt212.2.1 bt212.2.2)))
theorem spec_l1Cur_kits.mono_l : ∀ k, (∀ y0 y1 y2 y3 y4 y5, LeO (spec_l1Cur_kits.j0 k y0 y1 y2 y3 y4 y5) (spec_l1Cur_kits.j0 (k + 1) y0 y1 y2 y3 y4 y5)) ∧ (∀ y0 y1 y2 y3 y4 y5, LeO (spec_l1Cur_kits.l0 k y0 y1 y2 y3 y4 y5) (spec_l1Cur_kits.l0 (k + 1) y0 y1 y2 y3 y4 y5)) ∧ (∀ y0 y1 y2 y3 y4 y5 y6, LeO (spec_l1Cur_kits.l1 k y0 y1 y2 y3 y4 y5 y6) (spec_l1Cur_kits.l1 (k + 1) y0 y1 y2 y3 y4 y5 y6)) ∧ (∀ y0 y1 y2 y3 y4 y5 y6, LeO (spec_l1Cur_kits.l2 k y0 y1 y2 y3 y4 y5 y6) (spec_l1Cur_kits.l2 (k + 1) y0 y1 y2 y3 y4 y5 y6))
 | 0 => ⟨fun _ _ _ _ _ _ r h => by simp [spec_l1Cur_kits.j0] at h, fun _ _ _ _ _ _ r h => by simp [spec_l1Cur_kits.l0] at h, fun _ _ _ _ _ _ _ r h => by simp [spec_l1Cur_kits.l1] at h, fun _ _ _ _ _ _ _ r h => by simp [spec_l1Cur_kits.l2] at h⟩
 | k + 1 => by
  obtain ⟨ih0, ih1, ih2, ih3⟩ := spec_l1Cur_kits.mono_l k
  refine ⟨?_, ?_, ?_, ?_⟩
  ·intro y0 y1 y2 y3 y4 y5
   unfold spec_l1Cur_kits.j0
   repeat' first | (with_reducible first | exact ih0 _ _ _ _ _ _ | exact ih1 _ _ _ _ _ _ | exact ih2 _ _ _ _ _ _ _ | exact ih3 _ _ _ _ _ _ _ | exact spec_l1Cur_kit.mono _ _ _ _ | exact LeO.refl _ | exact LeO.none _ | refine LeO.ite ?_ ?_ | refine LeO.bind ?_ (fun _ => ?_)) | exact ih0 _ _ _ _ _ _ | exact ih1 _ _ _ _ _ _ | exact ih2 _ _ _ _ _ _ _ | exact ih3 _ _ _ _ _ _ _ | exact spec_l1Cur_kit.mono _ _ _ _ | exact LeO.none _ | refine LeO.ite ?_ ?_ | refine LeO.bind ?_ (fun _ => ?_)
  ·intro y0 y1 y2 y3 y4 y5
   unfold spec_l1Cur_kits.l0
   repeat' first | (with_reducible first | exact ih0 _ _ _ _ _ _ | exact ih1 _ _ _ _ _ _ | exact ih2 _ _ _ _ _ _ _ | exact ih3 _ _ _ _ _ _ _ | exact spec_l1Cur_kit.mono _ _ _ _ | exact LeO.refl _ | exact LeO.none _ | refine LeO.ite ?_ ?_ | refine LeO.bind ?_ (fun _ => ?_)) | exact ih0 _ _ _ _ _ _ | exact ih1 _ _ _ _ _ _ | exact ih2 _ _ _ _ _ _ _ | exact ih3 _ _ _ _ _ _ _ | exact spec_l1Cur_kit.mono _ _ _ _ | exact LeO.none _ | refine LeO.ite ?_ ?_ | refine LeO.bind ?_ (fun _ => ?_)
  ·intro y0 y1 y2 y3 y4 y5 y6
   unfold spec_l1Cur_kits.l1
   repeat' first | (with_reducible first | exact ih0 _ _ _ _ _ _ | exact ih1 _ _ _ _ _ _ | exact ih2 _ _ _ _ _ _ _ | exact ih3 _ _ _ _ _ _ _ | exact spec_l1Cur_kit.mono _ _ _ _ | exact LeO.refl _ | exact LeO.none _ | refine LeO.ite ?_ ?_ | refine LeO.bind ?_ (fun _ => ?_)) | exact ih0 _ _ _ _ _ _ | exact ih1 _ _ _ _ _ _ | exact ih2 _ _ _ _ _ _ _ | exact ih3 _ _ _ _ _ _ _ | exact spec_l1Cur_kit.mono _ _ _ _ | exact LeO.none _ | refine LeO.ite ?_ ?_ | refine LeO.bind ?_ (fun _ => ?_)
  ·intro y0 y1 y2 y3 y4 y5 y6
   unfold spec_l1Cur_kits.l2
   repeat' first | (with_reducible first | exact ih0 _ _ _ _ _ _ | exact ih1 _ _ _ _ _ _ | exact ih2 _ _ _ _ _ _ _ | exact ih3 _ _ _ _ _ _ _ | exact spec_l1Cur_kit.mono _ _ _ _ | exact LeO.refl _ | exact LeO.none _ | refine LeO.ite ?_ ?_ | refine LeO.bind ?_ (fun _ => ?_)) | exact ih0 _ _ _ _ _ _ | exact ih1 _ _ _ _ _ _ | exact ih2 _ _ _ _ _ _ _ | exact ih3 _ _ _ _ _ _ _ | exact spec_l1Cur_kit.mono _ _ _ _ | exact LeO.none _ | refine LeO.ite ?_ ?_ | refine LeO.bind ?_ (fun _ => ?_)
theorem spec_l1Cur_kits.mono : ∀ a0 a1 a2 k, LeO (spec_l1Cur_kits.f k a0 a1 a2) (spec_l1Cur_kits.f (k + 1) a0 a1 a2) := by
 intro a0 a1 a2 k
 obtain ⟨ih0, ih1, ih2, ih3⟩ := spec_l1Cur_kits.mono_l k
 unfold spec_l1Cur_kits.f
 repeat' first | (with_reducible first | exact ih0 _ _ _ _ _ _ | exact ih1 _ _ _ _ _ _ | exact ih2 _ _ _ _ _ _ _ | exact ih3 _ _ _ _ _ _ _ | exact spec_l1Cur_kit.mono _ _ _ _ | exact LeO.refl _ | exact LeO.none _ | refine LeO.ite ?_ ?_ | refine LeO.bind ?_ (fun _ => ?_)) | exact ih0 _ _ _ _ _ _ | exact ih1 _ _ _ _ _ _ | exact ih2 _ _ _ _ _ _ _ | exact ih3 _ _ _ _ _ _ _ | exact spec_l1Cur_kit.mono _ _ _ _ | exact LeO.none _ | refine LeO.ite ?_ ?_ | refine LeO.bind ?_ (fun _ => ?_)
set_option maxHeartbeats 8000000 in
set_option maxRecDepth 100000 in
theorem spec_l1Cur_kits.calls (k : Nat) (g : Nat) (s0_0 : List Int) (s0_1 : Int) (s0_2 : Int) (r1 : List (List Int)) (r2 : List Int) (r3 : List Int) (r4 : Int) (r5 : Int) (w0 w : World) (hI : IsS126 w0 w g s0_0 s0_1 s0_2) (hB : Below w0.heap.size w0 w) (h : spec_l1Cur_kits.f k s0_0 s0_1 s0_2 = some (r1, r2, r3, r4, r5)) :
  Calls Try.prog 164 #[.pointer (some ⟨g, 0, none⟩)] w fun e w' => ∃ v0_ v1_ v2_ : Value, e = .returned (.tuple #[v0_, v1_, v2_]) ∧ Kd.S (Kd.slice 3 (Kd.int .i64)) 23 w' w.heap.size (fun k_ => some k_ ≠ (v1_ : Value).ownBlock ∧ some k_ ≠ (v2_ : Value).ownBlock) v0_ r1 ∧ Kd.Q (Kd.int .i64) 3 w' w.heap.size (fun k_ => some k_ ≠ (v2_ : Value).ownBlock) v1_ r2 ∧ Kd.R (Kd.int .i64) 3 w' w.heap.size (fun k_ => some k_ ≠ (v1_ : Value).ownBlock) v2_ r3 ∧ IsS126 w0 w' g s0_0 r4 r5 ∧ Below w0.heap.size w0 w' ∧ KeepBut w w' g none := by
 have HI0 := Aside0.mk hI
 have HK := Aside0.mk (KeepBut.refl w g none)
 have HL := Aside0.mk hB.size
 clear hI
 have HW0 := Aside0.mk hB.size
 have HB := Aside0.mk hB
 clear hB
 have H : ((spec_l1Cur_pick.f s0_0 s0_1 s0_2 4).bind fun bt209 => ((spec_l1Cur_one.f s0_0 bt209.2.1 bt209.2.2 16).bind fun bt212 => (if bt212.1 = true then ((spec_l1Cur_among.f s0_0 bt212.2.1 bt212.2.2 (([0, 6, 7] : List Int))).bind fun bt218 => (spec_l1Cur_kits.j0 k ([] : List (List Int)) ([] : List Int) bt218.1 s0_0 bt218.2.1 bt218.2.2)) else (spec_l1Cur_kits.j0 k ([] : List (List Int)) ([] : List Int) (wrap64 (1 + bt209.1)) s0_0 bt212.2.1 bt212.2.2)))) = some (r1, r2, r3, r4, r5) := h
 clear h
 replace H := Option.bind_eq_some_iff.mp H
 obtain ⟨⟨t209, t210, t211⟩, A20, H⟩ := H
 replace H : ((spec_l1Cur_one.f s0_0 t210 t211 16).bind fun bt212 => (if bt212.1 = true then ((spec_l1Cur_among.f s0_0 bt212.2.1 bt212.2.2 (([0, 6, 7] : List Int))).bind fun bt218 => (spec_l1Cur_kits.j0 k ([] : List (List Int)) ([] : List Int) bt218.1 s0_0 bt218.2.1 bt218.2.2)) else (spec_l1Cur_kits.j0 k ([] : List (List Int)) ([] : List Int) (wrap64 (1 + t209)) s0_0 bt212.2.1 bt212.2.2))) = some (r1, r2, r3, r4, r5) := H
 have A2 := Aside0.mk A20
 clear A20
 replace H := Option.bind_eq_some_iff.mp H
 obtain ⟨⟨t212, t213, t214⟩, A30, H⟩ := H
 replace H : (if t212 = true then ((spec_l1Cur_among.f s0_0 t213 t214 (([0, 6, 7] : List Int))).bind fun bt218 => (spec_l1Cur_kits.j0 k ([] : List (List Int)) ([] : List Int) bt218.1 s0_0 bt218.2.1 bt218.2.2)) else (spec_l1Cur_kits.j0 k ([] : List (List Int)) ([] : List Int) (wrap64 (1 + t209)) s0_0 t213 t214)) = some (r1, r2, r3, r4, r5) := H
 have A3 := Aside0.mk A30
 clear A30
 have HC4 := Aside0.mk H
 clear H
 go_enter Try.func164, Try.ntmps164
 go_upto_if 14 with (first | ((with_reducible refine gate_callee (f := 102) rfl ?_); refine goesL_ (some 11) rfl rfl Try.func102 (by kernel_rfl) rfl #[.pointer (some ⟨g, 0, none⟩), .int .i64 4] rfl qA ?_; (with_reducible refine (spec_l1Cur_pick.calls g s0_0 s0_1 s0_2 4 t209 t210 t211 w0 _ ?side1 ?side2 A2.out).mono ?_); (case side1 => exact qI126 HI0); (case side2 => exact qV126 HB); rintro e w5 ⟨rfl, hi, hb, hk⟩; refine ⟨_, rfl, ?_⟩; have n0_ := Aside0.mk (KeepBut.trans (qP HK) hk (.inl rfl)); have n1_ := Aside0.mk (hb); have n2_ := Aside0.mk (hi); clear HK; clear HB; clear HI0; have HK := n0_; have HB := n1_; have HI0 := n2_; clear n0_ n1_ n2_; (try clear hb); (try clear hb2); (try clear hk); (try clear hi)) | ((with_reducible refine gate_callee (f := 101) rfl ?_); refine goesL_ (some 14) rfl rfl Try.func101 (by kernel_rfl) rfl #[.pointer (some ⟨g, 0, none⟩), .int .i64 16] rfl qA ?_; (with_reducible refine (spec_l1Cur_one.calls g s0_0 t210 t211 16 t212 t213 t214 w0 _ ?side1 ?side2 A3.out).mono ?_); (case side1 => exact qI126 HI0); (case side2 => exact qV126 HB); rintro e w6 ⟨rfl, hi, hb, hk⟩; refine ⟨_, rfl, ?_⟩; have n0_ := Aside0.mk (KeepBut.trans (qP HK) hk (.inl rfl)); have n1_ := Aside0.mk (hb); have n2_ := Aside0.mk (hi); clear HK; clear HB; clear HI0; have HK := n0_; have HB := n1_; have HI0 := n2_; clear n0_ n1_ n2_; (try clear hb); (try clear hb2); (try clear hk); (try clear hi)))
 (try simp only [Act.put, List.setIfInBounds_toArray, List.set_cons_zero, List.set_cons_succ])
 go_cut [7] (fun v7 wc => ∃ (kq : Nat) (x7_3 : Int) (x1001_3 : Int) (x1002_3 : Int), v7 = .int .i64 x7_3 ∧ Aside0 (spec_l1Cur_kits.j0 kq ([] : List (List Int)) ([] : List Int) x7_3 s0_0 x1001_3 x1002_3 = some (r1, r2, r3, r4, r5)) ∧ Aside0 (kq ≤ k) ∧ Aside0 (Kd.S (Kd.slice 3 (Kd.int .i64)) 23 wc w.heap.size (fun k_ => some k_ ≠ ((.slice none 0 0) : Value).ownBlock) (.slice none 0 0) ([] : List (List Int))) ∧ Aside0 (Kd.Q (Kd.int .i64) 3 wc w.heap.size (fun _ => True) (.slice none 0 0) ([] : List Int)) ∧ Aside0 (IsS126 w0 wc g s0_0 x1001_3 x1002_3) ∧ Aside0 (KeepBut w wc g none) ∧ Aside0 (Below w0.heap.size w0 wc))
 case first =>
  have H := HC4.out
  clear HC4
  by_cases c7 : t212 = true
  ·subst c7
   rw [if_pos rfl] at H
   obtain ⟨y215, hy215⟩ : ∃ y_ : List Int, y_ = (([0, 6, 7] : List Int)) := ⟨_, rfl⟩
   replace H : ((spec_l1Cur_among.f s0_0 t213 t214 y215).bind fun bt218 => (spec_l1Cur_kits.j0 k ([] : List (List Int)) ([] : List Int) bt218.1 s0_0 bt218.2.1 bt218.2.2)) = some (r1, r2, r3, r4, r5) := by first | (rw [hy215]; with_reducible exact H) | (have H2_ := (Option.bind_some _ _).symm.trans H; rw [hy215]; with_reducible exact H2_) | (have H2_ := (Option.bind_some _ _).symm.trans H; with_reducible exact H2_) | with_reducible exact H | (rw [hy215]; exact H) | exact H
   have Ny215 := Aside0.mk hy215
   clear hy215
   replace H := Option.bind_eq_some_iff.mp H
   obtain ⟨⟨t218, t219, t220⟩, A80, H⟩ := H
   replace H : (spec_l1Cur_kits.j0 k ([] : List (List Int)) ([] : List Int) t218 s0_0 t219 t220) = some (r1, r2, r3, r4, r5) := H
   have A8 := Aside0.mk A80
   clear A80
   have H' := Aside0.mk H
   clear H
   go_wp2_with (first | ((with_reducible refine gate_dst (N := 16) rfl ?_); refine Kd.R_lit (Kd.int .i64) _ 3 ?hg (N := 16) ?hd (xs := ([0, 6, 7] : List Int)) (inner := [.int .i64 0, .int .i64 6, .int .i64 7]) (ok := fun _ => True) (okp := fun _ => True) ?hr ?hp (fun _ hk => hk) trivial (Below.refl _ _) (Nat.le_refl _) (by simp) ?_; (case hd => rfl); (case hg => rfl); (case hr => first | (go_simp; done) | (go_simp; rfl)); (case hp => exact (Reps.one (show Kd.M (Kd.int .i64) _ _ _ 0 [.int .i64 0] from rfl) (Reps.one (show Kd.M (Kd.int .i64) _ _ _ 6 [.int .i64 6] from rfl) (Reps.one (show Kd.M (Kd.int .i64) _ _ _ 7 [.int .i64 7] from rfl) (Reps.none _ _))))); intro v216 w9 ho10 hb hg_ hnew_; clear hg_ hnew_; (first | rw [← Ny215.out] at ho10 | (simp only [Int.reduceToNat] at ho10; rw [← Ny215.out] at ho10)); have n0_ := Aside0.mk (Kd.R_lower ho10 (keep_size (w := w) (g := g) (row := none) (qP HK))); have n1_ := Aside0.mk (IsS126.below (qI126 HI0) hb); have n2_ := Aside0.mk (KeepBut.trans (qP HK) (KeepBut.of_below hb g none) (.inl rfl)); have n3_ := Aside0.mk (below_step (qV126 HB) hb); clear HI0; clear HK; clear HB; have HO217 := n0_; have HI0 := n1_; have HK := n2_; have HB := n3_; clear n0_ n1_ n2_ n3_; clear hb ho10; obtain ⟨Ao11, co11, eo11⟩ := Kd.R_slice HO217.out; subst eo11) | ((with_reducible refine gate_callee (f := 116) rfl ?_); refine goesL_ (some 17) rfl rfl Try.func116 (by kernel_rfl) rfl #[.pointer (some ⟨g, 0, none⟩), .slice Ao11 y215.length co11] rfl qA ?_; (with_reducible refine (spec_l1Cur_among.calls g s0_0 t213 t214 _ _ y215 t218 t219 t220 w0 _ ?side1 ?side2 ?side3 ?side4 ?side5 A8.out).mono ?_); (case side1 => exact qI126 HI0); (case side2 => exact qV126 HB); (case side3 => exact uC (Kd.R_reads' HO217.out).2.2); (case side4 => exact (Kd.R_reads' HO217.out).2.1); (case side5 => exact far_slice (IsS126.own_ne HI0.out HO217.out (by decide))); rintro e w12 ⟨rfl, hi, hb, hk⟩; refine ⟨_, rfl, ?_⟩; have n0_ := Aside0.mk (Kd.R_mono (Kd.R_keep (IsS126.apart (show IsS126 w0 _ g s0_0 t213 t214 from qI126 HI0) (qR HO217) (by decide)) hk (fun _ h => h.2)) (fun _ h => h.1)); have n1_ := Aside0.mk (KeepBut.trans (qP HK) hk (.inl rfl)); have n2_ := Aside0.mk (hb); have n3_ := Aside0.mk (hi); clear HO217; clear HK; clear HB; clear HI0; have HO217 := n0_; have HK := n1_; have HB := n2_; have HI0 := n3_; clear n0_ n1_ n2_ n3_; (try clear hb); (try clear hb2); (try clear hk); (try clear hi)))
   go_meet
   case rel => exact ⟨_, (t218), (t219), (t220), qs, H', ⟨by first | omega | exact Nat.le_refl _⟩, ⟨by first | exact Kd.S_nil _ _ _ _ _ | exact Kd.N_nil _ _ _ _ _ | exact Kd.V_nil _ _ _ _ _ | exact Kd.Q_nil _ _ _ _ _ | exact Kd.R_nil _ _ _ _ _⟩, ⟨Kd.Q_of_R (by first | exact Kd.R_nil _ _ _ _ _ | exact Kd.N_nil _ _ _ _ _ | exact Kd.V_nil _ _ _ _ _ | exact Kd.Q_nil _ _ _ _ _ | exact Kd.S_nil _ _ _ _ _)⟩, ⟨qI126 HI0⟩, ⟨qP HK⟩, ⟨qV126 HB⟩⟩
  ·replace c7 := Bool.eq_false_iff.mpr c7
   subst c7
   rw [if_neg (show ¬ (false = true) by decide)] at H
   have H' := Aside0.mk H
   clear H
   go_wp2
   go_meet
   case rel => exact ⟨_, (wrap64 (1 + t209)), (t213), (t214), qs, H', ⟨by first | omega | exact Nat.le_refl _⟩, ⟨by first | exact Kd.S_nil _ _ _ _ _ | exact Kd.N_nil _ _ _ _ _ | exact Kd.V_nil _ _ _ _ _ | exact Kd.Q_nil _ _ _ _ _ | exact Kd.R_nil _ _ _ _ _⟩, ⟨Kd.Q_of_R (by first | exact Kd.R_nil _ _ _ _ _ | exact Kd.N_nil _ _ _ _ _ | exact Kd.V_nil _ _ _ _ _ | exact Kd.Q_nil _ _ _ _ _ | exact Kd.S_nil _ _ _ _ _)⟩, ⟨qI126 HI0⟩, ⟨qP HK⟩, ⟨qV126 HB⟩⟩
 case rest =>
  clear HC4
  try clear c1
  try clear p2
  try clear p6
  try clear c7
  try clear c10
  try clear c11
  obtain ⟨kq, x7_3, x1001_3, x1002_3, rfl, HA, HJ3, HO_5, HO_6, HI0, HK, HB⟩ := hcut
  cases kq with
  | zero => exact absurd HA.out (by simp [spec_l1Cur_kits.j0])
  | succ kj3 =>
   have H := HA.out
   clear HA
   simp only [spec_l1Cur_kits.j0] at H
   have H' := Aside0.mk H
   clear H
   go_wp2
   go_loopg [5, 6] kj3 (fun kq v5 v6 w' => ∃ (x5_2 : List (List Int)) (x6_2 : List Int) (x1001_2 : Int) (x1002_2 : Int), Aside0 (spec_l1Cur_kits.l0 kq x5_2 x6_2 x7_3 s0_0 x1001_2 x1002_2 = some (r1, r2, r3, r4, r5)) ∧ Aside0 (kq ≤ kj3) ∧ Aside0 (Kd.S (Kd.slice 3 (Kd.int .i64)) 23 w' w.heap.size (fun k_ => some k_ ≠ (v6 : Value).ownBlock) v5 x5_2) ∧ Aside0 (Kd.Q (Kd.int .i64) 3 w' w.heap.size (fun _ => True) v6 x6_2) ∧ Aside0 (IsS126 w0 w' g s0_0 x1001_2 x1002_2) ∧ Aside0 (KeepBut w w' g none) ∧ Aside0 (Below w0.heap.size w0 w'))
   case atStart => exact ⟨(([] : List (List Int))), (([] : List Int)), (x1001_3), (x1002_3), H', ⟨Nat.le_refl _⟩, ⟨qS HO_5⟩, ⟨by (with_reducible repeat (first | apply Kd.Q_alloc | apply Kd.Q_drewN | apply Kd.Q_drew)); exact HO_6.out⟩, ⟨qI126 HI0⟩, ⟨qP HK⟩, ⟨qV126 HB⟩⟩
   case round =>
    clear H'
    try clear c1
    try clear p2
    try clear p6
    try clear c7
    try clear c10
    try clear c11
    try clear p2
    try clear p6
    obtain ⟨x5_2, x6_2, x1001_2, x1002_2, HA, HK2, HO_5, HO_6, HI0, HK, HB⟩ := hrel
    cases gk with
    | zero => exact absurd HA.out (by simp [spec_l1Cur_kits.l0])
    | succ k2 =>
     have H := HA.out
     clear HA
     simp only [spec_l1Cur_kits.l0] at H
     by_cases c13 : (x5_2.length : Int) < x7_3
     ·rw [if_pos c13] at H
      have c13b0 : decide ((x5_2.length : Int) < x7_3) = true := decide_eq_true c13
      clear c13
      have H' := Aside0.mk H
      clear H
      obtain ⟨Ao14, co14, eo14⟩ := Kd.S_slice HO_5.out
      subst eo14
      go_wp2
      go_loopg [8] k2 (fun kq v8 w' => ∃ (x8_3 : List Int) (x1001_3 : Int) (x1002_3 : Int), Aside0 (spec_l1Cur_kits.l1 kq x5_2 x6_2 x7_3 x8_3 s0_0 x1001_3 x1002_3 = some (r1, r2, r3, r4, r5)) ∧ Aside0 (kq ≤ k2) ∧ Aside0 (Kd.S (Kd.slice 3 (Kd.int .i64)) 23 w' w.heap.size (fun k_ => some k_ ≠ (u6 : Value).ownBlock ∧ some k_ ≠ (v8 : Value).ownBlock) (.slice Ao14 x5_2.length co14) x5_2) ∧ Aside0 (Kd.Q (Kd.int .i64) 3 w' w.heap.size (fun k_ => some k_ ≠ (v8 : Value).ownBlock) u6 x6_2) ∧ Aside0 (Kd.R (Kd.int .i64) 3 w' w.heap.size (fun k_ => some k_ ≠ (u6 : Value).ownBlock) v8 x8_3) ∧ Aside0 (IsS126 w0 w' g s0_0 x1001_3 x1002_3) ∧ Aside0 (KeepBut w w' g none) ∧ Aside0 (Below w0.heap.size w0 w'))
      case atStart => exact ⟨(([] : List Int)), (x1001_2), (x1002_2), H', ⟨Nat.le_refl _⟩, ⟨by exact uS (Kd.S_mono HO_5.out (fun _ hk => ⟨hk, (by simp [Value.ownBlock])⟩))⟩, ⟨by (with_reducible repeat (first | apply Kd.Q_alloc | apply Kd.Q_drewN | apply Kd.Q_drew)); exact Kd.Q_mono HO_6.out (fun _ hk => (by simp [Value.ownBlock]))⟩, ⟨by first | exact Kd.R_nil _ _ _ _ _ | exact Kd.N_nil _ _ _ _ _ | exact Kd.V_nil _ _ _ _ _ | exact Kd.Q_nil _ _ _ _ _ | exact Kd.S_nil _ _ _ _ _⟩, ⟨qI126 HI0⟩, ⟨qP HK⟩, ⟨qV126 HB⟩⟩
      case round =>
       clear H'
       try clear c1
       try clear p2
       try clear p6
       try clear c7
       try clear c10
       try clear c11
       try clear c13
       try clear c13b0
       try clear p2
       try clear p6
       obtain ⟨x8_3, x1001_3, x1002_3, HA, HK3, HO_5, HO_6, HO_8, HI0, HK, HB⟩ := hrel
       cases gk with
       | zero => exact absurd HA.out (by simp [spec_l1Cur_kits.l1])
       | succ k3 =>
        have H := HA.out
        clear HA
        simp only [spec_l1Cur_kits.l1] at H
        by_cases c15 : (x8_3.length : Int) < 7
        ·rw [if_pos c15] at H
         have c15b0 : decide ((x8_3.length : Int) < 7) = true := decide_eq_true c15
         have c15b1 : decide (x8_3.length < 7) = true := decide_eq_true (by omega)
         clear c15
         obtain ⟨y221, hy221⟩ : ∃ y_ : List Int, y_ = (([0, 1, 2, 5] : List Int)) := ⟨_, rfl⟩
         replace H : ((spec_l1Cur_among.f s0_0 x1001_3 x1002_3 y221).bind fun bt224 => (if x8_3.length < 17592186044416 then (spec_l1Cur_kits.l1 k3 x5_2 x6_2 x7_3 (x8_3 ++ [bt224.1]) s0_0 bt224.2.1 bt224.2.2) else (none))) = some (r1, r2, r3, r4, r5) := by first | (rw [hy221]; with_reducible exact H) | (have H2_ := (Option.bind_some _ _).symm.trans H; rw [hy221]; with_reducible exact H2_) | (have H2_ := (Option.bind_some _ _).symm.trans H; with_reducible exact H2_) | with_reducible exact H | (rw [hy221]; exact H) | exact H
         have Ny221 := Aside0.mk hy221
         clear hy221
         replace H := Option.bind_eq_some_iff.mp H
         obtain ⟨⟨t224, t225, t226⟩, A160, H⟩ := H
         replace H : (if x8_3.length < 17592186044416 then (spec_l1Cur_kits.l1 k3 x5_2 x6_2 x7_3 (x8_3 ++ [t224]) s0_0 t225 t226) else (none)) = some (r1, r2, r3, r4, r5) := H
         have A16 := Aside0.mk A160
         clear A160
         by_cases c17 : x8_3.length < 17592186044416
         ·rw [if_pos c17] at H
          have LMc17 := Aside0.mk c17
          clear c17
          obtain ⟨y227, hy227⟩ : ∃ y_ : List Int, y_ = (x8_3 ++ [t224]) := ⟨_, rfl⟩
          replace H : (spec_l1Cur_kits.l1 k3 x5_2 x6_2 x7_3 y227 s0_0 t225 t226) = some (r1, r2, r3, r4, r5) := by first | (rw [hy227]; with_reducible exact H) | (have H2_ := (Option.bind_some _ _).symm.trans H; rw [hy227]; with_reducible exact H2_) | (have H2_ := (Option.bind_some _ _).symm.trans H; with_reducible exact H2_) | with_reducible exact H | (rw [hy227]; exact H) | exact H
          have Ny227 := Aside0.mk hy227
          clear hy227
          have H' := Aside0.mk H
          clear H
          obtain ⟨Ao18, co18, eo18⟩ := Kd.R_slice HO_8.out
          subst eo18
          go_wp2_with (first | ((with_reducible refine gate_dst (N := 27) rfl ?_); refine Kd.R_lit (Kd.int .i64) _ 3 ?hg (N := 27) ?hd (xs := ([0, 1, 2, 5] : List Int)) (inner := [.int .i64 0, .int .i64 1, .int .i64 2, .int .i64 5]) (ok := fun _ => True) (okp := fun _ => True) ?hr ?hp (fun _ hk => hk) trivial (Below.refl _ _) (Nat.le_refl _) (by simp) ?_; (case hd => rfl); (case hg => rfl); (case hr => first | (go_simp; done) | (go_simp; rfl)); (case hp => exact (Reps.one (show Kd.M (Kd.int .i64) _ _ _ 0 [.int .i64 0] from rfl) (Reps.one (show Kd.M (Kd.int .i64) _ _ _ 1 [.int .i64 1] from rfl) (Reps.one (show Kd.M (Kd.int .i64) _ _ _ 2 [.int .i64 2] from rfl) (Reps.one (show Kd.M (Kd.int .i64) _ _ _ 5 [.int .i64 5] from rfl) (Reps.none _ _)))))); intro v222 w19 ho20 hb hg_ hnew_; clear hg_ hnew_; (first | rw [← Ny221.out] at ho20 | (simp only [Int.reduceToNat] at ho20; rw [← Ny221.out] at ho20)); have n0_ := Aside0.mk (Kd.S_elder' (qS HO_5) (Kd.R_base ho20) hb); have n1_ := Aside0.mk (Kd.Q_elder' (by (with_reducible repeat (first | apply Kd.Q_alloc | apply Kd.Q_drewN | apply Kd.Q_drew)); exact HO_6.out) (Kd.R_base ho20) hb); have n2_ := Aside0.mk (Kd.R_elder' (qR HO_8) (Kd.R_base ho20) hb); have n3_ := Aside0.mk (Kd.R_lower (Kd.R_new' (Kd.R_new' ho20 (Kd.Q_lt (by (with_reducible repeat (first | apply Kd.Q_alloc | apply Kd.Q_drewN | apply Kd.Q_drew)); exact HO_6.out))) (Kd.R_lt (qR HO_8))) (keep_size (w := w) (g := g) (row := none) (qP HK))); have n4_ := Aside0.mk (IsS126.below (qI126 HI0) hb); have n5_ := Aside0.mk (KeepBut.trans (qP HK) (KeepBut.of_below hb g none) (.inl rfl)); have n6_ := Aside0.mk (below_step (qV126 HB) hb); clear HO_5; clear HO_6; clear HO_8; clear HI0; clear HK; clear HB; have HO_5 := n0_; have HO_6 := n1_; have HO_8 := n2_; have HO223 := n3_; have HI0 := n4_; have HK := n5_; have HB := n6_; clear n0_ n1_ n2_ n3_ n4_ n5_ n6_; clear hb ho20; obtain ⟨Ao21, co21, eo21⟩ := Kd.R_slice HO223.out; subst eo21) | ((with_reducible refine gate_callee (f := 116) rfl ?_); refine goesL_ (some 28) rfl rfl Try.func116 (by kernel_rfl) rfl #[.pointer (some ⟨g, 0, none⟩), .slice Ao21 y221.length co21] rfl qA ?_; (with_reducible refine (spec_l1Cur_among.calls g s0_0 x1001_3 x1002_3 _ _ y221 t224 t225 t226 w0 _ ?side1 ?side2 ?side3 ?side4 ?side5 A16.out).mono ?_); (case side1 => exact qI126 HI0); (case side2 => exact qV126 HB); (case side3 => exact uC (Kd.R_reads' HO223.out).2.2); (case side4 => exact (Kd.R_reads' HO223.out).2.1); (case side5 => exact far_slice (IsS126.own_ne HI0.out HO223.out (by decide))); rintro e w22 ⟨rfl, hi, hb, hk⟩; refine ⟨_, rfl, ?_⟩; have n0_ := Aside0.mk (Kd.S_mono (Kd.S_keep (IsS126.apartS (show IsS126 w0 _ g s0_0 x1001_3 x1002_3 from qI126 HI0) (qS HO_5) (by decide)) hk (fun _ h => h.2)) (fun _ h => h.1)); have n1_ := Aside0.mk (Kd.Q_mono (Kd.Q_keep (IsS126.apartQ (show IsS126 w0 _ g s0_0 x1001_3 x1002_3 from qI126 HI0) (by (with_reducible repeat (first | apply Kd.Q_alloc | apply Kd.Q_drewN | apply Kd.Q_drew)); exact HO_6.out) (by decide)) hk (fun _ h => h.2)) (fun _ h => h.1)); have n2_ := Aside0.mk (Kd.R_mono (Kd.R_keep (IsS126.apart (show IsS126 w0 _ g s0_0 x1001_3 x1002_3 from qI126 HI0) (qR HO_8) (by decide)) hk (fun _ h => h.2)) (fun _ h => h.1)); have n3_ := Aside0.mk (Kd.R_mono (Kd.R_keep (IsS126.apart (show IsS126 w0 _ g s0_0 x1001_3 x1002_3 from qI126 HI0) (qR HO223) (by decide)) hk (fun _ h => h.2)) (fun _ h => h.1)); have n4_ := Aside0.mk (KeepBut.trans (qP HK) hk (.inl rfl)); have n5_ := Aside0.mk (hb); have n6_ := Aside0.mk (hi); clear HO_5; clear HO_6; clear HO_8; clear HO223; clear HK; clear HB; clear HI0; have HO_5 := n0_; have HO_6 := n1_; have HO_8 := n2_; have HO223 := n3_; have HK := n4_; have HB := n5_; have HI0 := n6_; clear n0_ n1_ n2_ n3_ n4_ n5_ n6_; (try clear hb); (try clear hb2); (try clear hk); (try clear hi)) | ((with_reducible refine gate_builtin (b := .append) (xs := #[.tmp 25, .tmp 29]) rfl ?_); at_builtin; refine Kd.R_append (Kd.int .i64) w.heap.size rfl (.tmp 25) (.tmp 29) 23 3 (.int .i64 0) 8 rfl Try.underlying23 info3 rfl (by decide) (by omega) (.slice Ao18 x8_3.length co18) x8_3 t224 [.int .i64 t224] (fun k_ => some k_ ≠ (u6 : Value).ownBlock ∧ some k_ ≠ (.slice Ao21 y221.length co21 : Value).ownBlock) (fun _ => False) rfl rfl ?aP (fun _ hk => hk.elim) ?aF ?aO (Below.refl _ _) ?aS ?aL ?_; (case aP => exact rfl); (case aF => exact (fun k_ hk => ⟨Kd.fresh' (Kd.Q_lt (by (with_reducible repeat (first | apply Kd.Q_alloc | apply Kd.Q_drewN | apply Kd.Q_drew)); exact HO_6.out)) k_ hk, Kd.fresh' (Kd.R_lt (qR HO223)) k_ hk⟩)); (case aO => exact (qR HO_8)); (case aS => exact (keep_size (w := w) (g := g) (row := none) (qP HK))); (case aL => have := LMc17.out; omega); intro v228 w23 ho hb hg hat; rw [← Ny227.out] at ho; have n0_ := Aside0.mk (Kd.S_after (ok := (fun k_ => some k_ ≠ (u6 : Value).ownBlock ∧ some k_ ≠ (.slice Ao21 y221.length co21 : Value).ownBlock)) (by exact uS (Kd.S_mono HO_5.out (fun _ hk => ⟨⟨hk.1.1, hk.2⟩, hk.1.2⟩))) hg hat); have n1_ := Aside0.mk (Kd.Q_after (ok := (fun k_ => some k_ ≠ (.slice Ao21 y221.length co21 : Value).ownBlock)) (by (with_reducible repeat (first | apply Kd.Q_alloc | apply Kd.Q_drewN | apply Kd.Q_drew)); exact Kd.Q_mono HO_6.out (fun _ hk => ⟨hk.2, hk.1⟩)) hg hat); have n2_ := Aside0.mk (IsS126.grown (show IsS126 w0 _ g s0_0 t225 t226 from qI126 HI0) hg (IsS126.own_ne HI0.out HO_8.out (by decide))); have n3_ := Aside0.mk (Kd.R_after (ok := (fun k_ => some k_ ≠ (u6 : Value).ownBlock)) (by exact uR (Kd.R_mono HO223.out (fun _ hk => ⟨hk.1.2, hk.2⟩))) hg hat); have n4_ := Aside0.mk (below_weaken (qV126 HB) HL.out hb); have n5_ := Aside0.mk (KeepBut.trans (qP HK) (KeepBut.of_grown hg g) (Kd.R_base2 HO_8.out)); have n6_ := Aside0.mk (ho); clear HO_5; clear HO_6; clear HI0; clear HO223; clear HB; clear HK; clear HO_8; have HO_5 := n0_; have HO_6 := n1_; have HI0 := n2_; have HO223 := n3_; have HB := n4_; have HK := n5_; have HO229 := n6_; clear n0_ n1_ n2_ n3_ n4_ n5_ n6_; clear ho hb hg hat))
          go_roundg k3
          case measure => have := HJ3.out; have := HK2.out; have := HK3.out; omega
          case rel => exact ⟨(y227), (t225), (t226), H', ⟨by have := HJ3.out; have := HK2.out; have := HK3.out; omega⟩, ⟨by exact uS (Kd.S_mono HO_5.out (fun _ hk => ⟨hk.1.1, hk.2⟩))⟩, ⟨by (with_reducible repeat (first | apply Kd.Q_alloc | apply Kd.Q_drewN | apply Kd.Q_drew)); exact Kd.Q_mono HO_6.out (fun _ hk => hk.2)⟩, ⟨by exact uR (Kd.R_mono HO229.out (fun _ hk => hk.1))⟩, ⟨qI126 HI0⟩, ⟨qP HK⟩, ⟨qV126 HB⟩⟩
         ·rw [if_neg c17] at H
          exact absurd H (by simp)
        ·rw [if_neg c15] at H
         have c15b0 : decide ((x8_3.length : Int) < 7) = false := decide_eq_false c15
         have c15b1 : decide (x8_3.length < 7) = false := decide_eq_false (by omega)
         clear c15
         by_cases c24 : x5_2.length < 5864062014805
         ·rw [if_pos c24] at H
          have LMc24 := Aside0.mk c24
          clear c24
          obtain ⟨y230, hy230⟩ : ∃ y_ : List (List Int), y_ = (x5_2 ++ [x8_3]) := ⟨_, rfl⟩
          replace H : ((spec_l1Cur_pick.f s0_0 x1001_3 x1002_3 100).bind fun bt233 => ((spec_l1Cur_among.f s0_0 bt233.2.1 bt233.2.2 (([0, 5, 10, 10, bt233.1, 10000] : List Int))).bind fun bt239 => (if x6_2.length < 17592186044416 then (spec_l1Cur_kits.l0 k3 y230 (x6_2 ++ [bt239.1]) x7_3 s0_0 bt239.2.1 bt239.2.2) else (none)))) = some (r1, r2, r3, r4, r5) := by first | (rw [hy230]; with_reducible exact H) | (have H2_ := (Option.bind_some _ _).symm.trans H; rw [hy230]; with_reducible exact H2_) | (have H2_ := (Option.bind_some _ _).symm.trans H; with_reducible exact H2_) | with_reducible exact H | (rw [hy230]; exact H) | exact H
          have Ny230 := Aside0.mk hy230
          clear hy230
          replace H := Option.bind_eq_some_iff.mp H
          obtain ⟨⟨t233, t234, t235⟩, A250, H⟩ := H
          replace H : ((spec_l1Cur_among.f s0_0 t234 t235 (([0, 5, 10, 10, t233, 10000] : List Int))).bind fun bt239 => (if x6_2.length < 17592186044416 then (spec_l1Cur_kits.l0 k3 y230 (x6_2 ++ [bt239.1]) x7_3 s0_0 bt239.2.1 bt239.2.2) else (none))) = some (r1, r2, r3, r4, r5) := H
          have A25 := Aside0.mk A250
          clear A250
          obtain ⟨y236, hy236⟩ : ∃ y_ : List Int, y_ = (([0, 5, 10, 10, t233, 10000] : List Int)) := ⟨_, rfl⟩
          replace H : ((spec_l1Cur_among.f s0_0 t234 t235 y236).bind fun bt239 => (if x6_2.length < 17592186044416 then (spec_l1Cur_kits.l0 k3 y230 (x6_2 ++ [bt239.1]) x7_3 s0_0 bt239.2.1 bt239.2.2) else (none))) = some (r1, r2, r3, r4, r5) := by first | (rw [hy236]; with_reducible exact H) | (have H2_ := (Option.bind_some _ _).symm.trans H; rw [hy236]; with_reducible exact H2_) | (have H2_ := (Option.bind_some _ _).symm.trans H; with_reducible exact H2_) | with_reducible exact H | (rw [hy236]; exact H) | exact H
          have Ny236 := Aside0.mk hy236
          clear hy236
          replace H := Option.bind_eq_some_iff.mp H
          obtain ⟨⟨t239, t240, t241⟩, A260, H⟩ := H
          replace H : (if x6_2.length < 17592186044416 then (spec_l1Cur_kits.l0 k3 y230 (x6_2 ++ [t239]) x7_3 s0_0 t240 t241) else (none)) = some (r1, r2, r3, r4, r5) := H
          have A26 := Aside0.mk A260
          clear A260
          by_cases c27 : x6_2.length < 17592186044416
          ·rw [if_pos c27] at H
           have LMc27 := Aside0.mk c27
           clear c27
           obtain ⟨y242, hy242⟩ : ∃ y_ : List Int, y_ = (x6_2 ++ [t239]) := ⟨_, rfl⟩
           replace H : (spec_l1Cur_kits.l0 k3 y230 y242 x7_3 s0_0 t240 t241) = some (r1, r2, r3, r4, r5) := by first | (rw [hy242]; with_reducible exact H) | (have H2_ := (Option.bind_some _ _).symm.trans H; rw [hy242]; with_reducible exact H2_) | (have H2_ := (Option.bind_some _ _).symm.trans H; with_reducible exact H2_) | with_reducible exact H | (rw [hy242]; exact H) | exact H
           have Ny242 := Aside0.mk hy242
           clear hy242
           have H' := Aside0.mk H
           clear H
           obtain ⟨Ao28, co28, eo28⟩ := Kd.R_slice HO_8.out
           subst eo28
           go_wp2_with (first | ((with_reducible refine gate_builtin (b := .append) (xs := #[.tmp 31, .tmp 33]) rfl ?_); at_builtin; refine Kd.S_append (Kd.slice 3 (Kd.int .i64)) w.heap.size rfl (.tmp 31) (.tmp 33) 89 23 (.slice none 0 0) 24 rfl Try.underlying89 info23 rfl (by decide) (by omega) (.slice Ao14 x5_2.length co14) x5_2 x8_3 [.slice Ao28 x8_3.length co28] (fun k_ => some k_ ≠ (u6 : Value).ownBlock) (fun k_ => some k_ = (.slice Ao28 x8_3.length co28 : Value).ownBlock) rfl rfl ?aP (fun k_ hk_ => ((Kd.R_mono (ok' := fun k_ => ((fun k_ => some k_ ≠ (u6 : Value).ownBlock)) k_ ∧ some k_ ≠ (.slice Ao14 x5_2.length co14 : Value).ownBlock) (Kd.R_apart' (HO_8.out) (Kd.S_typed HO_5.out) (by decide)) (fun k_ hk => ⟨hk.1, hk.2⟩))).1 k_ hk_.symm) ?aF ?aO (Below.refl _ _) ?aS ?aL ?_; (case aP => exact Kd.M_row (Kd.R_mono (Kd.R_tight rfl (Kd.R_mono (ok' := fun k_ => ((fun k_ => some k_ ≠ (u6 : Value).ownBlock)) k_ ∧ some k_ ≠ (.slice Ao14 x5_2.length co14 : Value).ownBlock) (Kd.R_apart' (HO_8.out) (Kd.S_typed HO_5.out) (by decide)) (fun k_ hk => ⟨hk.1, hk.2⟩))) (fun _ h_ => h_))); (case aF => exact (fun k_ hk => Kd.fresh' (Kd.Q_lt (by (with_reducible repeat (first | apply Kd.Q_alloc | apply Kd.Q_drewN | apply Kd.Q_drew)); exact HO_6.out)) k_ hk)); (case aO => exact (by exact uS (Kd.S_mono HO_5.out (fun k_ hk => ⟨hk.1, fun e_ => hk.2 e_⟩)))); (case aS => exact (keep_size (w := w) (g := g) (row := none) (qP HK))); (case aL => have := LMc24.out; omega); intro v231 w29 ho hb hg hat; rw [← Ny230.out] at ho; have n0_ := Aside0.mk (Kd.Q_over' (by (with_reducible repeat (first | apply Kd.Q_alloc | apply Kd.Q_drewN | apply Kd.Q_drew)); exact HO_6.out) (Kd.S_typed (qS HO_5)) (by decide) hg); have n1_ := Aside0.mk (IsS126.grown (show IsS126 w0 _ g s0_0 x1001_3 x1002_3 from qI126 HI0) hg (IsS126.own_neS HI0.out HO_5.out (by decide))); have n2_ := Aside0.mk (below_weaken (qV126 HB) HL.out hb); have n3_ := Aside0.mk (KeepBut.trans (qP HK) (KeepBut.of_grown hg g) (Kd.S_base2 HO_5.out)); have n4_ := Aside0.mk (ho); clear HO_6; clear HI0; clear HB; clear HK; clear HO_5; clear HO_8; have HO_6 := n0_; have HI0 := n1_; have HB := n2_; have HK := n3_; have HO232 := n4_; clear n0_ n1_ n2_ n3_ n4_; clear ho hb hg hat) | ((with_reducible refine gate_callee (f := 102) rfl ?_); refine goesL_ (some 38) rfl rfl Try.func102 (by kernel_rfl) rfl #[.pointer (some ⟨g, 0, none⟩), .int .i64 100] rfl qA ?_; (with_reducible refine (spec_l1Cur_pick.calls g s0_0 x1001_3 x1002_3 100 t233 t234 t235 w0 _ ?side1 ?side2 A25.out).mono ?_); (case side1 => exact qI126 HI0); (case side2 => exact qV126 HB); rintro e w30 ⟨rfl, hi, hb, hk⟩; refine ⟨_, rfl, ?_⟩; have n0_ := Aside0.mk (Kd.Q_mono (Kd.Q_keep (IsS126.apartQ (show IsS126 w0 _ g s0_0 x1001_3 x1002_3 from qI126 HI0) (by (with_reducible repeat (first | apply Kd.Q_alloc | apply Kd.Q_drewN | apply Kd.Q_drew)); exact HO_6.out) (by decide)) hk (fun _ h => h.2)) (fun _ h => h.1)); have n1_ := Aside0.mk (Kd.S_mono (Kd.S_keep (IsS126.apartS (show IsS126 w0 _ g s0_0 x1001_3 x1002_3 from qI126 HI0) (qS HO232) (by decide)) hk (fun _ h => h.2)) (fun _ h => h.1)); have n2_ := Aside0.mk (KeepBut.trans (qP HK) hk (.inl rfl)); have n3_ := Aside0.mk (hb); have n4_ := Aside0.mk (hi); clear HO_6; clear HO232; clear HK; clear HB; clear HI0; have HO_6 := n0_; have HO232 := n1_; have HK := n2_; have HB := n3_; have HI0 := n4_; clear n0_ n1_ n2_ n3_ n4_; (try clear hb); (try clear hb2); (try clear hk); (try clear hi)) | ((with_reducible refine gate_dst (N := 39) rfl ?_); refine Kd.R_lit (Kd.int .i64) _ 3 ?hg (N := 39) ?hd (xs := ([0, 5, 10, 10, t233, 10000] : List Int)) (inner := [.int .i64 0, .int .i64 5, .int .i64 10, .int .i64 10, .int .i64 t233, .int .i64 10000]) (ok := fun _ => True) (okp := fun _ => True) ?hr ?hp (fun _ hk => hk) trivial (Below.refl _ _) (Nat.le_refl _) (by simp) ?_; (case hd => rfl); (case hg => rfl); (case hr => first | (go_simp; done) | (go_simp; rfl)); (case hp => exact (Reps.one (show Kd.M (Kd.int .i64) _ _ _ 0 [.int .i64 0] from rfl) (Reps.one (show Kd.M (Kd.int .i64) _ _ _ 5 [.int .i64 5] from rfl) (Reps.one (show Kd.M (Kd.int .i64) _ _ _ 10 [.int .i64 10] from rfl) (Reps.one (show Kd.M (Kd.int .i64) _ _ _ 10 [.int .i64 10] from rfl) (Reps.one (show Kd.M (Kd.int .i64) _ _ _ t233 [.int .i64 t233] from rfl) (Reps.one (show Kd.M (Kd.int .i64) _ _ _ 10000 [.int .i64 10000] from rfl) (Reps.none _ _)))))))); intro v237 w31 ho32 hb hg_ hnew_; clear hg_ hnew_; (first | rw [← Ny236.out] at ho32 | (simp only [Int.reduceToNat] at ho32; rw [← Ny236.out] at ho32)); have n0_ := Aside0.mk (Kd.Q_elder' (by (with_reducible repeat (first | apply Kd.Q_alloc | apply Kd.Q_drewN | apply Kd.Q_drew)); exact HO_6.out) (Kd.R_base ho32) hb); have n1_ := Aside0.mk (Kd.S_elder' (qS HO232) (Kd.R_base ho32) hb); have n2_ := Aside0.mk (Kd.R_lower (Kd.R_new' ho32 (Kd.Q_lt (by (with_reducible repeat (first | apply Kd.Q_alloc | apply Kd.Q_drewN | apply Kd.Q_drew)); exact HO_6.out))) (keep_size (w := w) (g := g) (row := none) (qP HK))); have n3_ := Aside0.mk (IsS126.below (qI126 HI0) hb); have n4_ := Aside0.mk (KeepBut.trans (qP HK) (KeepBut.of_below hb g none) (.inl rfl)); have n5_ := Aside0.mk (below_step (qV126 HB) hb); clear HO_6; clear HO232; clear HI0; clear HK; clear HB; have HO_6 := n0_; have HO232 := n1_; have HO238 := n2_; have HI0 := n3_; have HK := n4_; have HB := n5_; clear n0_ n1_ n2_ n3_ n4_ n5_; clear hb ho32; obtain ⟨Ao33, co33, eo33⟩ := Kd.R_slice HO238.out; subst eo33) | ((with_reducible refine gate_callee (f := 116) rfl ?_); refine goesL_ (some 40) rfl rfl Try.func116 (by kernel_rfl) rfl #[.pointer (some ⟨g, 0, none⟩), .slice Ao33 y236.length co33] rfl qA ?_; (with_reducible refine (spec_l1Cur_among.calls g s0_0 t234 t235 _ _ y236 t239 t240 t241 w0 _ ?side1 ?side2 ?side3 ?side4 ?side5 A26.out).mono ?_); (case side1 => exact qI126 HI0); (case side2 => exact qV126 HB); (case side3 => exact uC (Kd.R_reads' HO238.out).2.2); (case side4 => exact (Kd.R_reads' HO238.out).2.1); (case side5 => exact far_slice (IsS126.own_ne HI0.out HO238.out (by decide))); rintro e w34 ⟨rfl, hi, hb, hk⟩; refine ⟨_, rfl, ?_⟩; have n0_ := Aside0.mk (Kd.Q_mono (Kd.Q_keep (IsS126.apartQ (show IsS126 w0 _ g s0_0 t234 t235 from qI126 HI0) (by (with_reducible repeat (first | apply Kd.Q_alloc | apply Kd.Q_drewN | apply Kd.Q_drew)); exact HO_6.out) (by decide)) hk (fun _ h => h.2)) (fun _ h => h.1)); have n1_ := Aside0.mk (Kd.S_mono (Kd.S_keep (IsS126.apartS (show IsS126 w0 _ g s0_0 t234 t235 from qI126 HI0) (qS HO232) (by decide)) hk (fun _ h => h.2)) (fun _ h => h.1)); have n2_ := Aside0.mk (Kd.R_mono (Kd.R_keep (IsS126.apart (show IsS126 w0 _ g s0_0 t234 t235 from qI126 HI0) (qR HO238) (by decide)) hk (fun _ h => h.2)) (fun _ h => h.1)); have n3_ := Aside0.mk (KeepBut.trans (qP HK) hk (.inl rfl)); have n4_ := Aside0.mk (hb); have n5_ := Aside0.mk (hi); clear HO_6; clear HO232; clear HO238; clear HK; clear HB; clear HI0; have HO_6 := n0_; have HO232 := n1_; have HO238 := n2_; have HK := n3_; have HB := n4_; have HI0 := n5_; clear n0_ n1_ n2_ n3_ n4_ n5_; (try clear hb); (try clear hb2); (try clear hk); (try clear hi)) | ((with_reducible refine gate_builtin (b := .append) (xs := #[.tmp 35, .tmp 41]) rfl ?_); at_builtin; refine Kd.Q_append (Kd.int .i64) w.heap.size rfl (.tmp 35) (.tmp 41) 23 3 (.int .i64 0) 8 rfl Try.underlying23 info3 rfl (by decide) (by omega) u6 x6_2 t239 [.int .i64 t239] (fun k_ => some k_ ≠ (.slice Ao33 y236.length co33 : Value).ownBlock) (fun _ => False) rfl rfl ?aP (fun _ hk => hk.elim) ?aF ?aO (Below.refl _ _) ?aS ?aL ?_; (case aP => exact rfl); (case aF => exact (fun k_ hk => Kd.fresh' (Kd.R_lt (qR HO238)) k_ hk)); (case aO => exact (by (with_reducible repeat (first | apply Kd.Q_alloc | apply Kd.Q_drewN | apply Kd.Q_drew)); exact Kd.Q_mono HO_6.out (fun _ hk => hk.2))); (case aS => exact (keep_size (w := w) (g := g) (row := none) (qP HK))); (case aL => have := LMc27.out; omega); intro v243 w35 ho hb hg hat; rw [← Ny242.out] at ho; have n0_ := Aside0.mk (IsS126.grown (show IsS126 w0 _ g s0_0 t240 t241 from qI126 HI0) hg (IsS126.own_neQ HI0.out HO_6.out (by decide))); have n1_ := Aside0.mk (Kd.S_after (ok := (fun k_ => some k_ ≠ (.slice Ao33 y236.length co33 : Value).ownBlock)) (by exact uS (Kd.S_mono HO232.out (fun _ hk => ⟨hk.2, hk.1⟩))) hg hat); have n2_ := Aside0.mk (Kd.R_after (ok := (fun _ => True)) (qR HO238) hg hat); have n3_ := Aside0.mk (below_weaken (qV126 HB) HL.out hb); have n4_ := Aside0.mk (KeepBut.trans (qP HK) (KeepBut.of_grown hg g) (Kd.Q_base2 HO_6.out)); have n5_ := Aside0.mk (ho); clear HI0; clear HO232; clear HO238; clear HB; clear HK; clear HO_6; have HI0 := n0_; have HO232 := n1_; have HO238 := n2_; have HB := n3_; have HK := n4_; have HO244 := n5_; clear n0_ n1_ n2_ n3_ n4_ n5_; clear ho hb hg hat))
           go_roundg k3
           case measure => have := HJ3.out; have := HK2.out; have := HK3.out; omega
           case rel => exact ⟨(y230), (y242), (t240), (t241), H', ⟨by have := HJ3.out; have := HK2.out; have := HK3.out; omega⟩, ⟨by exact uS (Kd.S_mono HO232.out (fun _ hk => hk.2))⟩, ⟨by (with_reducible repeat (first | apply Kd.Q_alloc | apply Kd.Q_drewN | apply Kd.Q_drew)); exact Kd.Q_mono HO244.out (fun _ hk => trivial)⟩, ⟨qI126 HI0⟩, ⟨qP HK⟩, ⟨qV126 HB⟩⟩
          ·rw [if_neg c27] at H
           exact absurd H (by simp)
         ·rw [if_neg c24] at H
          exact absurd H (by simp)
     ·rw [if_neg c13] at H
      have c13b0 : decide ((x5_2.length : Int) < x7_3) = false := decide_eq_false c13
      clear c13
      have H' := Aside0.mk H
      clear H
      obtain ⟨Ao36, co36, eo36⟩ := Kd.S_slice HO_5.out
      subst eo36
      go_wp2
      go_loopg [9] k2 (fun kq v9 w' => ∃ (x9_3 : List Int) (x1001_3 : Int) (x1002_3 : Int), Aside0 (spec_l1Cur_kits.l2 kq x5_2 x6_2 x7_3 x9_3 s0_0 x1001_3 x1002_3 = some (r1, r2, r3, r4, r5)) ∧ Aside0 (kq ≤ k2) ∧ Aside0 (Kd.S (Kd.slice 3 (Kd.int .i64)) 23 w' w.heap.size (fun k_ => some k_ ≠ (u6 : Value).ownBlock ∧ some k_ ≠ (v9 : Value).ownBlock) (.slice Ao36 x5_2.length co36) x5_2) ∧ Aside0 (Kd.Q (Kd.int .i64) 3 w' w.heap.size (fun k_ => some k_ ≠ (v9 : Value).ownBlock) u6 x6_2) ∧ Aside0 (Kd.R (Kd.int .i64) 3 w' w.heap.size (fun k_ => some k_ ≠ (u6 : Value).ownBlock) v9 x9_3) ∧ Aside0 (IsS126 w0 w' g s0_0 x1001_3 x1002_3) ∧ Aside0 (KeepBut w w' g none) ∧ Aside0 (Below w0.heap.size w0 w'))
      case atStart => exact ⟨(([] : List Int)), (x1001_2), (x1002_2), H', ⟨Nat.le_refl _⟩, ⟨by exact uS (Kd.S_mono HO_5.out (fun _ hk => ⟨hk, (by simp [Value.ownBlock])⟩))⟩, ⟨by (with_reducible repeat (first | apply Kd.Q_alloc | apply Kd.Q_drewN | apply Kd.Q_drew)); exact Kd.Q_mono HO_6.out (fun _ hk => (by simp [Value.ownBlock]))⟩, ⟨by first | exact Kd.R_nil _ _ _ _ _ | exact Kd.N_nil _ _ _ _ _ | exact Kd.V_nil _ _ _ _ _ | exact Kd.Q_nil _ _ _ _ _ | exact Kd.S_nil _ _ _ _ _⟩, ⟨qI126 HI0⟩, ⟨qP HK⟩, ⟨qV126 HB⟩⟩
      case round =>
       clear H'
       try clear c1
       try clear c2
       try clear p2
       try clear p6
       try clear c7
       try clear c10
       try clear c11
       try clear c13
       try clear c13b0
       try clear c15
       try clear c15b0
       try clear c15b1
       try clear c16
       try clear c17
       try clear c24
       try clear c27
       try clear p2
       try clear p6
       obtain ⟨x9_3, x1001_3, x1002_3, HA, HK3, HO_5, HO_6, HO_9, HI0, HK, HB⟩ := hrel
       cases gk with
       | zero => exact absurd HA.out (by simp [spec_l1Cur_kits.l2])
       | succ k3 =>
        have H := HA.out
        clear HA
        simp only [spec_l1Cur_kits.l2] at H
        by_cases c37 : (x9_3.length : Int) < 7
        ·rw [if_pos c37] at H
         have c37b0 : decide ((x9_3.length : Int) < 7) = true := decide_eq_true c37
         have c37b1 : decide (x9_3.length < 7) = true := decide_eq_true (by omega)
         clear c37
         obtain ⟨y245, hy245⟩ : ∃ y_ : List Int, y_ = (([0, 0, 0, 1, 2] : List Int)) := ⟨_, rfl⟩
         replace H : ((spec_l1Cur_among.f s0_0 x1001_3 x1002_3 y245).bind fun bt248 => (if x9_3.length < 17592186044416 then (spec_l1Cur_kits.l2 k3 x5_2 x6_2 x7_3 (x9_3 ++ [bt248.1]) s0_0 bt248.2.1 bt248.2.2) else (none))) = some (r1, r2, r3, r4, r5) := by first | (rw [hy245]; with_reducible exact H) | (have H2_ := (Option.bind_some _ _).symm.trans H; rw [hy245]; with_reducible exact H2_) | (have H2_ := (Option.bind_some _ _).symm.trans H; with_reducible exact H2_) | with_reducible exact H | (rw [hy245]; exact H) | exact H
         have Ny245 := Aside0.mk hy245
         clear hy245
         replace H := Option.bind_eq_some_iff.mp H
         obtain ⟨⟨t248, t249, t250⟩, A380, H⟩ := H
         replace H : (if x9_3.length < 17592186044416 then (spec_l1Cur_kits.l2 k3 x5_2 x6_2 x7_3 (x9_3 ++ [t248]) s0_0 t249 t250) else (none)) = some (r1, r2, r3, r4, r5) := H
         have A38 := Aside0.mk A380
         clear A380
         by_cases c39 : x9_3.length < 17592186044416
         ·rw [if_pos c39] at H
          have LMc39 := Aside0.mk c39
          clear c39
          obtain ⟨y251, hy251⟩ : ∃ y_ : List Int, y_ = (x9_3 ++ [t248]) := ⟨_, rfl⟩
          replace H : (spec_l1Cur_kits.l2 k3 x5_2 x6_2 x7_3 y251 s0_0 t249 t250) = some (r1, r2, r3, r4, r5) := by first | (rw [hy251]; with_reducible exact H) | (have H2_ := (Option.bind_some _ _).symm.trans H; rw [hy251]; with_reducible exact H2_) | (have H2_ := (Option.bind_some _ _).symm.trans H; with_reducible exact H2_) | with_reducible exact H | (rw [hy251]; exact H) | exact H
          have Ny251 := Aside0.mk hy251
          clear hy251
          have H' := Aside0.mk H
          clear H
          obtain ⟨Ao40, co40, eo40⟩ := Kd.R_slice HO_9.out
          subst eo40
          go_wp2_with (first | ((with_reducible refine gate_dst (N := 48) rfl ?_); refine Kd.R_lit (Kd.int .i64) _ 3 ?hg (N := 48) ?hd (xs := ([0, 0, 0, 1, 2] : List Int)) (inner := [.int .i64 0, .int .i64 0, .int .i64 0, .int .i64 1, .int .i64 2]) (ok := fun _ => True) (okp := fun _ => True) ?hr ?hp (fun _ hk => hk) trivial (Below.refl _ _) (Nat.le_refl _) (by simp) ?_; (case hd => rfl); (case hg => rfl); (case hr => first | (go_simp; done) | (go_simp; rfl)); (case hp => exact (Reps.one (show Kd.M (Kd.int .i64) _ _ _ 0 [.int .i64 0] from rfl) (Reps.one (show Kd.M (Kd.int .i64) _ _ _ 0 [.int .i64 0] from rfl) (Reps.one (show Kd.M (Kd.int .i64) _ _ _ 0 [.int .i64 0] from rfl) (Reps.one (show Kd.M (Kd.int .i64) _ _ _ 1 [.int .i64 1] from rfl) (Reps.one (show Kd.M (Kd.int .i64) _ _ _ 2 [.int .i64 2] from rfl) (Reps.none _ _))))))); intro v246 w41 ho42 hb hg_ hnew_; clear hg_ hnew_; (first | rw [← Ny245.out] at ho42 | (simp only [Int.reduceToNat] at ho42; rw [← Ny245.out] at ho42)); have n0_ := Aside0.mk (Kd.S_elder' (qS HO_5) (Kd.R_base ho42) hb); have n1_ := Aside0.mk (Kd.Q_elder' (by (with_reducible repeat (first | apply Kd.Q_alloc | apply Kd.Q_drewN | apply Kd.Q_drew)); exact HO_6.out) (Kd.R_base ho42) hb); have n2_ := Aside0.mk (Kd.R_elder' (qR HO_9) (Kd.R_base ho42) hb); have n3_ := Aside0.mk (Kd.R_lower (Kd.R_new' (Kd.R_new' ho42 (Kd.Q_lt (by (with_reducible repeat (first | apply Kd.Q_alloc | apply Kd.Q_drewN | apply Kd.Q_drew)); exact HO_6.out))) (Kd.R_lt (qR HO_9))) (keep_size (w := w) (g := g) (row := none) (qP HK))); have n4_ := Aside0.mk (IsS126.below (qI126 HI0) hb); have n5_ := Aside0.mk (KeepBut.trans (qP HK) (KeepBut.of_below hb g none) (.inl rfl)); have n6_ := Aside0.mk (below_step (qV126 HB) hb); clear HO_5; clear HO_6; clear HO_9; clear HI0; clear HK; clear HB; have HO_5 := n0_; have HO_6 := n1_; have HO_9 := n2_; have HO247 := n3_; have HI0 := n4_; have HK := n5_; have HB := n6_; clear n0_ n1_ n2_ n3_ n4_ n5_ n6_; clear hb ho42; obtain ⟨Ao43, co43, eo43⟩ := Kd.R_slice HO247.out; subst eo43) | ((with_reducible refine gate_callee (f := 116) rfl ?_); refine goesL_ (some 49) rfl rfl Try.func116 (by kernel_rfl) rfl #[.pointer (some ⟨g, 0, none⟩), .slice Ao43 y245.length co43] rfl qA ?_; (with_reducible refine (spec_l1Cur_among.calls g s0_0 x1001_3 x1002_3 _ _ y245 t248 t249 t250 w0 _ ?side1 ?side2 ?side3 ?side4 ?side5 A38.out).mono ?_); (case side1 => exact qI126 HI0); (case side2 => exact qV126 HB); (case side3 => exact uC (Kd.R_reads' HO247.out).2.2); (case side4 => exact (Kd.R_reads' HO247.out).2.1); (case side5 => exact far_slice (IsS126.own_ne HI0.out HO247.out (by decide))); rintro e w44 ⟨rfl, hi, hb, hk⟩; refine ⟨_, rfl, ?_⟩; have n0_ := Aside0.mk (Kd.S_mono (Kd.S_keep (IsS126.apartS (show IsS126 w0 _ g s0_0 x1001_3 x1002_3 from qI126 HI0) (qS HO_5) (by decide)) hk (fun _ h => h.2)) (fun _ h => h.1)); have n1_ := Aside0.mk (Kd.Q_mono (Kd.Q_keep (IsS126.apartQ (show IsS126 w0 _ g s0_0 x1001_3 x1002_3 from qI126 HI0) (by (with_reducible repeat (first | apply Kd.Q_alloc | apply Kd.Q_drewN | apply Kd.Q_drew)); exact HO_6.out) (by decide)) hk (fun _ h => h.2)) (fun _ h => h.1)); have n2_ := Aside0.mk (Kd.R_mono (Kd.R_keep (IsS126.apart (show IsS126 w0 _ g s0_0 x1001_3 x1002_3 from qI126 HI0) (qR HO_9) (by decide)) hk (fun _ h => h.2)) (fun _ h => h.1)); have n3_ := Aside0.mk (Kd.R_mono (Kd.R_keep (IsS126.apart (show IsS126 w0 _ g s0_0 x1001_3 x1002_3 from qI126 HI0) (qR HO247) (by decide)) hk (fun _ h => h.2)) (fun _ h => h.1)); have n4_ := Aside0.mk (KeepBut.trans (qP HK) hk (.inl rfl)); have n5_ := Aside0.mk (hb); have n6_ := Aside0.mk (hi); clear HO_5; clear HO_6; clear HO_9; clear HO247; clear HK; clear HB; clear HI0; have HO_5 := n0_; have HO_6 := n1_; have HO_9 := n2_; have HO247 := n3_; have HK := n4_; have HB := n5_; have HI0 := n6_; clear n0_ n1_ n2_ n3_ n4_ n5_ n6_; (try clear hb); (try clear hb2); (try clear hk); (try clear hi)) | ((with_reducible refine gate_builtin (b := .append) (xs := #[.tmp 46, .tmp 50]) rfl ?_); at_builtin; refine Kd.R_append (Kd.int .i64) w.heap.size rfl (.tmp 46) (.tmp 50) 23 3 (.int .i64 0) 8 rfl Try.underlying23 info3 rfl (by decide) (by omega) (.slice Ao40 x9_3.length co40) x9_3 t248 [.int .i64 t248] (fun k_ => some k_ ≠ (u6 : Value).ownBlock ∧ some k_ ≠ (.slice Ao43 y245.length co43 : Value).ownBlock) (fun _ => False) rfl rfl ?aP (fun _ hk => hk.elim) ?aF ?aO (Below.refl _ _) ?aS ?aL ?_; (case aP => exact rfl); (case aF => exact (fun k_ hk => ⟨Kd.fresh' (Kd.Q_lt (by (with_reducible repeat (first | apply Kd.Q_alloc | apply Kd.Q_drewN | apply Kd.Q_drew)); exact HO_6.out)) k_ hk, Kd.fresh' (Kd.R_lt (qR HO247)) k_ hk⟩)); (case aO => exact (qR HO_9)); (case aS => exact (keep_size (w := w) (g := g) (row := none) (qP HK))); (case aL => have := LMc39.out; omega); intro v252 w45 ho hb hg hat; rw [← Ny251.out] at ho; have n0_ := Aside0.mk (Kd.S_after (ok := (fun k_ => some k_ ≠ (u6 : Value).ownBlock ∧ some k_ ≠ (.slice Ao43 y245.length co43 : Value).ownBlock)) (by exact uS (Kd.S_mono HO_5.out (fun _ hk => ⟨⟨hk.1.1, hk.2⟩, hk.1.2⟩))) hg hat); have n1_ := Aside0.mk (Kd.Q_after (ok := (fun k_ => some k_ ≠ (.slice Ao43 y245.length co43 : Value).ownBlock)) (by (with_reducible repeat (first | apply Kd.Q_alloc | apply Kd.Q_drewN | apply Kd.Q_drew)); exact Kd.Q_mono HO_6.out (fun _ hk => ⟨hk.2, hk.1⟩)) hg hat); have n2_ := Aside0.mk (IsS126.grown (show IsS126 w0 _ g s0_0 t249 t250 from qI126 HI0) hg (IsS126.own_ne HI0.out HO_9.out (by decide))); have n3_ := Aside0.mk (Kd.R_after (ok := (fun k_ => some k_ ≠ (u6 : Value).ownBlock)) (by exact uR (Kd.R_mono HO247.out (fun _ hk => ⟨hk.1.2, hk.2⟩))) hg hat); have n4_ := Aside0.mk (below_weaken (qV126 HB) HL.out hb); have n5_ := Aside0.mk (KeepBut.trans (qP HK) (KeepBut.of_grown hg g) (Kd.R_base2 HO_9.out)); have n6_ := Aside0.mk (ho); clear HO_5; clear HO_6; clear HI0; clear HO247; clear HB; clear HK; clear HO_9; have HO_5 := n0_; have HO_6 := n1_; have HI0 := n2_; have HO247 := n3_; have HB := n4_; have HK := n5_; have HO253 := n6_; clear n0_ n1_ n2_ n3_ n4_ n5_ n6_; clear ho hb hg hat))
          go_roundg k3
          case measure => have := HJ3.out; have := HK2.out; have := HK3.out; omega
          case rel => exact ⟨(y251), (t249), (t250), H', ⟨by have := HJ3.out; have := HK2.out; have := HK3.out; omega⟩, ⟨by exact uS (Kd.S_mono HO_5.out (fun _ hk => ⟨hk.1.1, hk.2⟩))⟩, ⟨by (with_reducible repeat (first | apply Kd.Q_alloc | apply Kd.Q_drewN | apply Kd.Q_drew)); exact Kd.Q_mono HO_6.out (fun _ hk => hk.2)⟩, ⟨by exact uR (Kd.R_mono HO253.out (fun _ hk => hk.1))⟩, ⟨qI126 HI0⟩, ⟨qP HK⟩, ⟨qV126 HB⟩⟩
         ·rw [if_neg c39] at H
          exact absurd H (by simp)
        ·rw [if_neg c37] at H
         have c37b0 : decide ((x9_3.length : Int) < 7) = false := decide_eq_false c37
         have c37b1 : decide (x9_3.length < 7) = false := decide_eq_false (by omega)
         clear c37
         by_cases c46 : x7_3 > 0
         ·rw [if_pos c46] at H
          have c46b0 : decide (0 < x7_3) = true := decide_eq_true c46
          clear c46
          replace H := Option.bind_eq_some_iff.mp H
          obtain ⟨⟨t254, t255, t256⟩, A470, H⟩ := H
          replace H : (if t254 = 0 then ((spec_l1Cur_kit.f k3 s0_0 t255 t256).bind fun bt257 => (if 0 < (x5_2.length : Int) then (some ((x5_2.set (0 : Int).toNat bt257.1), x6_2, x9_3, bt257.2.1, bt257.2.2)) else (none))) else (if t254 = 1 then ((spec_l1Cur_among.f s0_0 t255 t256 (([(-1), 10001] : List Int))).bind fun bt266 => (if 0 < (x6_2.length : Int) then (some (x5_2, (x6_2.set (0 : Int).toNat bt266.1), x9_3, bt266.2.1, bt266.2.2)) else (none))) else (if t254 = 2 then (if 1 ≤ (x6_2.length : Int) then (some (x5_2, (x6_2.drop (1 : Int).toNat), x9_3, t255, t256)) else (none)) else (if t254 = 3 then ((spec_l1Cur_kit.f k3 s0_0 t255 t256).bind fun bt273 => (some (x5_2, x6_2, bt273.1, bt273.2.1, bt273.2.2))) else (some (x5_2, x6_2, x9_3, t255, t256)))))) = some (r1, r2, r3, r4, r5) := H
          have A47 := Aside0.mk A470
          clear A470
          by_cases c48 : t254 = 0
          ·rw [if_pos c48] at H
           have c48b0 : (t254 == 0) = true := beq_iff_eq.mpr c48
           have c48b1 : (t254 != 0) = false := bne_eq_false_iff_eq.mpr c48
           clear c48
           replace H := Option.bind_eq_some_iff.mp H
           obtain ⟨⟨t257, t260, t261⟩, A490, H⟩ := H
           replace H : (if 0 < (x5_2.length : Int) then (some ((x5_2.set (0 : Int).toNat t257), x6_2, x9_3, t260, t261)) else (none)) = some (r1, r2, r3, r4, r5) := H
           have A49 := Aside0.mk A490
           clear A490
           by_cases c50 : 0 < (x5_2.length : Int)
           ·rw [if_pos c50] at H
            have c50b0 : decide (0 < (x5_2.length : Int)) = true := decide_eq_true c50
            have c50b1 : decide (0 < x5_2.length) = true := decide_eq_true (by omega)
            clear c50
            obtain ⟨y262, hy262⟩ : ∃ y_ : List (List Int), y_ = (x5_2.set (0 : Int).toNat t257) := ⟨_, rfl⟩
            replace H : (some (y262, x6_2, x9_3, t260, t261)) = some (r1, r2, r3, r4, r5) := by first | (rw [hy262]; with_reducible exact H) | (have H2_ := (Option.bind_some _ _).symm.trans H; rw [hy262]; with_reducible exact H2_) | (have H2_ := (Option.bind_some _ _).symm.trans H; with_reducible exact H2_) | with_reducible exact H | (rw [hy262]; exact H) | exact H
            have Ny262 := Aside0.mk hy262
            clear hy262
            simp only [Option.some.injEq, Prod.mk.injEq] at H
            obtain ⟨rfl, rfl, rfl, rfl, rfl⟩ := H
            obtain ⟨Ao52, co52, eo52⟩ := Kd.R_slice HO_9.out
            subst eo52
            go_wp2_with (first | ((with_reducible refine gate_callee (f := 102) rfl ?_); refine goesL_ (some 55) rfl rfl Try.func102 (by kernel_rfl) rfl #[.pointer (some ⟨g, 0, none⟩), .int .i64 24] rfl qA ?_; (with_reducible refine (spec_l1Cur_pick.calls g s0_0 x1001_3 x1002_3 24 t254 t255 t256 w0 _ ?side1 ?side2 A47.out).mono ?_); (case side1 => exact qI126 HI0); (case side2 => exact qV126 HB); rintro e w53 ⟨rfl, hi, hb, hk⟩; refine ⟨_, rfl, ?_⟩; have n0_ := Aside0.mk (Kd.S_mono (Kd.S_keep (IsS126.apartS (show IsS126 w0 _ g s0_0 x1001_3 x1002_3 from qI126 HI0) (qS HO_5) (by decide)) hk (fun _ h => h.2)) (fun _ h => h.1)); have n1_ := Aside0.mk (Kd.Q_mono (Kd.Q_keep (IsS126.apartQ (show IsS126 w0 _ g s0_0 x1001_3 x1002_3 from qI126 HI0) (by (with_reducible repeat (first | apply Kd.Q_alloc | apply Kd.Q_drewN | apply Kd.Q_drew)); exact HO_6.out) (by decide)) hk (fun _ h => h.2)) (fun _ h => h.1)); have n2_ := Aside0.mk (Kd.R_mono (Kd.R_keep (IsS126.apart (show IsS126 w0 _ g s0_0 x1001_3 x1002_3 from qI126 HI0) (qR HO_9) (by decide)) hk (fun _ h => h.2)) (fun _ h => h.1)); have n3_ := Aside0.mk (KeepBut.trans (qP HK) hk (.inl rfl)); have n4_ := Aside0.mk (hb); have n5_ := Aside0.mk (hi); clear HO_5; clear HO_6; clear HO_9; clear HK; clear HB; clear HI0; have HO_5 := n0_; have HO_6 := n1_; have HO_9 := n2_; have HK := n3_; have HB := n4_; have HI0 := n5_; clear n0_ n1_ n2_ n3_ n4_ n5_; (try clear hb); (try clear hb2); (try clear hk); (try clear hi)) | ((with_reducible refine gate_callee (f := 171) rfl ?_); refine goesL_ (some 60) rfl rfl Try.func171 (by kernel_rfl) rfl #[.pointer (some ⟨g, 0, none⟩)] rfl qA ?_; (with_reducible refine (spec_l1Cur_kit.calls k3 g s0_0 t255 t256 t257 t260 t261 w0 _ ?side1 ?side2 A49.out).mono ?_); (case side1 => exact qI126 HI0); (case side2 => exact qV126 HB); rintro e w54 ⟨v258, rfl, ho0, hi, hb, hk⟩; refine ⟨_, rfl, ?_⟩; have n0_ := Aside0.mk (Kd.S_mono (Kd.S_told (Kd.S_oldK (IsS126.apartS (show IsS126 w0 _ g s0_0 t255 t256 from qI126 HI0) (qS HO_5) (by decide)) hk) (Kd.R_base ho0)) (fun _ h_ => h_.1)); have n1_ := Aside0.mk (Kd.Q_mono (Kd.Q_told (Kd.Q_oldK (IsS126.apartQ (show IsS126 w0 _ g s0_0 t255 t256 from qI126 HI0) (by (with_reducible repeat (first | apply Kd.Q_alloc | apply Kd.Q_drewN | apply Kd.Q_drew)); exact HO_6.out) (by decide)) hk) (Kd.R_base ho0)) (fun _ h_ => h_.1)); have n2_ := Aside0.mk (Kd.R_mono (Kd.R_told (Kd.R_oldK (IsS126.apart (show IsS126 w0 _ g s0_0 t255 t256 from qI126 HI0) (qR HO_9) (by decide)) hk) (Kd.R_base ho0)) (fun _ h_ => h_.1)); have n3_ := Aside0.mk (Kd.R_lower (Kd.R_new' (Kd.R_new' ho0 (Kd.Q_lt (by (with_reducible repeat (first | apply Kd.Q_alloc | apply Kd.Q_drewN | apply Kd.Q_drew)); exact HO_6.out))) (Kd.R_lt (qR HO_9))) (keep_size (w := w) (g := g) (row := none) (qP HK))); have n4_ := Aside0.mk (KeepBut.trans (qP HK) hk (.inl rfl)); have n5_ := Aside0.mk (hb); have n6_ := Aside0.mk (hi); clear HO_5; clear HO_6; clear HO_9; clear HK; clear HB; clear HI0; have HO_5 := n0_; have HO_6 := n1_; have HO_9 := n2_; have HO259 := n3_; have HK := n4_; have HB := n5_; have HI0 := n6_; clear n0_ n1_ n2_ n3_ n4_ n5_ n6_; (try clear hb); (try clear hb2); (try clear hk); (try clear hi); (try clear ho0); have p51 : 0 ≤ (0 : Int) := (by omega); have q51 : (0 : Int) < ((x5_2.length : Int) : Int) := of_decide_eq_true qa; have qi51 : (0 < x5_2.length) = True := eq_true (by omega); obtain ⟨go51, co51, eo51, gb51, gl51, cl51, HG51⟩ := Kd.S_form HO_5.out (by omega); (first | cases eo51 | (injection eo51 with ea_ en_ ec_; (first | subst ea_ | (injection ea_ with ea_; subst ea_)); subst ec_; clear en_)); have GB51 := Aside0.mk gb51; have GG51 := Aside0.mk HG51; clear gb51 gl51 HG51; obtain ⟨_, ce51, hcl51, hM51, hcc51, hfr51, _, _⟩ := Kd.S_elem HO_5.out [] (0 : Int) p51 q51; obtain ⟨ve51_0, rfl, ge51_0⟩ := hM51; have hx51_0 := hcc51 0 _ rfl; have hf51_0 := hfr51 0; (try simp only [show ((Kd.slice 3 (Kd.int .i64))).sz = 1 from rfl, Nat.mul_one, Nat.add_zero] at hx51_0); (try simp only [show ((Kd.slice 3 (Kd.int .i64))).sz = 1 from rfl, Nat.mul_one, Nat.add_zero] at hf51_0); clear hcl51 hcc51 hfr51; (try clear hM51); (try rw [show ((0 : Int)).toNat = 0 from rfl] at hx51_0); (try simp only [Nat.reduceMul, Nat.zero_mul, Nat.zero_add, Nat.reduceAdd, Nat.add_zero] at hx51_0); (try rw [show ((0 : Int)).toNat = 0 from rfl] at hf51_0); (try simp only [Nat.reduceMul, Nat.zero_mul, Nat.zero_add, Nat.reduceAdd, Nat.add_zero] at hf51_0); replace p51 := eq_true p51; replace q51 := eq_true q51; obtain ⟨Ao57, co57, eo57⟩ := Kd.R_slice HO259.out; subst eo57; have n_ := Aside0.mk (Kd.S_mono (ok' := (fun k_ => some k_ ≠ (u6 : Value).ownBlock ∧ some k_ ≠ (.slice Ao52 x9_3.length co52 : Value).ownBlock ∧ some k_ ≠ (.slice Ao57 t257.length co57 : Value).ownBlock)) HO_5.out (fun k_ hk => ⟨hk.1.1, ⟨hk.1.2, hk.2⟩⟩)); clear HO_5; have HO_5 := n_; clear n_; have HX55 := Aside0.mk (show Kd.S (Kd.slice 3 (Kd.int .i64)) 23 w54 w.heap.size (fun k_ => ((fun k_ => some k_ ≠ (u6 : Value).ownBlock ∧ some k_ ≠ (.slice Ao52 x9_3.length co52 : Value).ownBlock)) k_ ∧ ¬ ((fun k_ => some k_ = (.slice Ao57 t257.length co57 : Value).ownBlock)) k_) (.slice (some ⟨go51, 0, none⟩) x5_2.length co36) x5_2 from (by exact uS (Kd.S_mono HO_5.out (fun k_ hk => ⟨⟨hk.1, hk.2.1⟩, fun e_ => hk.2.2 e_⟩)))); obtain ⟨oki55, ce55, hcl55, hM55, hcc55, hfr55, hoki55, hH55⟩ := Kd.S_elem HX55.out [] (0 : Int) (by omega) (by have h_ : (0 : Int) < ((x5_2.length : Int) : Int) := of_decide_eq_true qa; first | exact h_ | (have e_ := (Kd.S_reads' HO_5.out).1; omega) | simpa using h_); obtain ⟨ve55_0, rfl, ge55_0⟩ := hM55; have HP55 := Kd.S_seg hH55 (by omega) (by have h_ : (0 : Int) < ((x5_2.length : Int) : Int) := of_decide_eq_true qa; first | exact h_ | (have e_ := (Kd.S_reads' HO_5.out).1; omega) | simpa using h_) (seg := [.slice Ao57 t257.length co57]) (j := 0) (show 1 ≤ 1 from by decide) (x' := t257) (Kd.M_row (Kd.R_mono (Kd.R_tight rfl (Kd.R_mono (ok' := fun k_ => ((fun k_ => some k_ ≠ (u6 : Value).ownBlock ∧ some k_ ≠ (.slice Ao52 x9_3.length co52 : Value).ownBlock)) k_ ∧ k_ ≠ go51) (Kd.R_apart' (HO259.out) (Kd.S_typed HO_5.out) (by decide)) (fun k_ hk => ⟨⟨hk.1.1.2, hk.1.2⟩, fun e_ => (hk.2) (by rw [e_]; rfl)⟩))) (fun _ h_ => Or.inr (h_)))) (fun _ hk => hk) (fun k_ hk_ => ((Kd.R_mono (ok' := fun k_ => ((fun k_ => some k_ ≠ (u6 : Value).ownBlock ∧ some k_ ≠ (.slice Ao52 x9_3.length co52 : Value).ownBlock)) k_ ∧ k_ ≠ go51) (Kd.R_apart' (HO259.out) (Kd.S_typed HO_5.out) (by decide)) (fun k_ hk => ⟨⟨hk.1.1.2, hk.1.2⟩, fun e_ => (hk.2) (by rw [e_]; rfl)⟩))).1 k_ hk_.symm); have hx55_0 := hcc55 0 _ rfl; (try simp only [show ((Kd.slice 3 (Kd.int .i64))).sz = 1 from rfl, Nat.mul_one, Nat.add_zero] at hx55_0); (try rw [show ((0 : Int)).toNat = 0 from rfl] at hx55_0); (try simp only [Nat.reduceMul, Nat.zero_mul, Nat.zero_add, Nat.reduceAdd, Nat.add_zero] at hx55_0); have hf55_0 := hfr55 0; (try simp only [show ((Kd.slice 3 (Kd.int .i64))).sz = 1 from rfl, Nat.mul_one, Nat.add_zero] at hf55_0); (try rw [show ((0 : Int)).toNat = 0 from rfl] at hf55_0); (try simp only [Nat.reduceMul, Nat.zero_mul, Nat.zero_add, Nat.reduceAdd, Nat.add_zero] at hf55_0); clear hcl55 hcc55 hfr55 hoki55 hH55; (try clear hM55); (try simp only [show ((Kd.slice 3 (Kd.int .i64))).sz = 1 from rfl, Nat.mul_one, Nat.add_zero] at HP55)) | ((with_reducible refine gate_store (t := 23) (p := 61) rfl ?_); refine store_event (t := 23) (p := 61) (v := ?vo_w56) (w1 := (w54.setCell ⟨go51, 0, none⟩ (.slice Ao57 t257.length co57))) ?hg ?ho ?hn ?hr ?_; (case ho => rfl); (case hg => rfl); (case hn => rfl); (case hr => first | (go_simp; done) | (go_simp; rfl)); intro w56 hw; have hg : w54.grownBy w56 (some go51) := (by rw [hw]; exact HP55.2); have hp_ : Kd.S (Kd.slice 3 (Kd.int .i64)) 23 w56 w.heap.size (fun k_ => some k_ ≠ (u6 : Value).ownBlock ∧ some k_ ≠ (.slice Ao52 x9_3.length co52 : Value).ownBlock) (.slice (some ⟨go51, 0, none⟩) x5_2.length co36) y262 := (by rw [hw, Ny262.out]; exact HP55.1); clear HP55; have n0_ := Aside0.mk (hp_); have n1_ := Aside0.mk (Kd.Q_over' (v := (.slice (some ⟨go51, 0, none⟩) x5_2.length co36)) (by (with_reducible repeat (first | apply Kd.Q_alloc | apply Kd.Q_drewN | apply Kd.Q_drew)); exact HO_6.out) (Kd.S_typed HO_5.out) (by decide) hg); have n2_ := Aside0.mk (Kd.R_over' (v := (.slice (some ⟨go51, 0, none⟩) x5_2.length co36)) (qR HO_9) (Kd.S_typed HO_5.out) (by decide) hg); have n3_ := Aside0.mk (IsS126.grown (qI126 HI0) hg (IsS126.own_neS HI0.out HO_5.out (by decide))); have n4_ := Aside0.mk ((by rw [hw]; exact below_set (HB.out) (Nat.le_trans HL.out GB51.out) : Below w0.heap.size w0 w56)); have n5_ := Aside0.mk (KeepBut.trans (qP HK) (KeepBut.of_grown hg g) (Kd.S_base2 HO_5.out)); clear HO_5; clear HO_6; clear HO_9; clear HI0; clear HB; clear HK; clear HO259; have HO_5 := n0_; have HO_6 := n1_; have HO_9 := n2_; have HI0 := n3_; have HB := n4_; have HK := n5_; clear n0_ n1_ n2_ n3_ n4_ n5_; clear hg hw hp_))
            go_ret3
            exact ⟨_, _, _, qe, qS HO_5, by (with_reducible repeat (first | apply Kd.Q_alloc | apply Kd.Q_drewN | apply Kd.Q_drew)); exact Kd.Q_mono HO_6.out (fun _ hk => hk.1), by exact uR (Kd.R_mono HO_9.out (fun _ hk => hk.1)), qI126 HI0, qV126 HB, qP HK⟩
           ·rw [if_neg c50] at H
            exact absurd H (by simp)
          ·rw [if_neg c48] at H
           have c48b0 : (t254 == 0) = false := beq_eq_false_iff_ne.mpr c48
           have c48b1 : (t254 != 0) = true := bne_iff_ne.mpr c48
           by_cases c58 : t254 = 1
           ·rw [if_pos c58] at H
            have c58b0 : (t254 == 1) = true := beq_iff_eq.mpr c58
            have c58b1 : (t254 != 1) = false := bne_eq_false_iff_eq.mpr c58
            clear c58
            obtain ⟨y263, hy263⟩ : ∃ y_ : List Int, y_ = (([(-1), 10001] : List Int)) := ⟨_, rfl⟩
            replace H : ((spec_l1Cur_among.f s0_0 t255 t256 y263).bind fun bt266 => (if 0 < (x6_2.length : Int) then (some (x5_2, (x6_2.set (0 : Int).toNat bt266.1), x9_3, bt266.2.1, bt266.2.2)) else (none))) = some (r1, r2, r3, r4, r5) := by first | (rw [hy263]; with_reducible exact H) | (have H2_ := (Option.bind_some _ _).symm.trans H; rw [hy263]; with_reducible exact H2_) | (have H2_ := (Option.bind_some _ _).symm.trans H; with_reducible exact H2_) | with_reducible exact H | (rw [hy263]; exact H) | exact H
            have Ny263 := Aside0.mk hy263
            clear hy263
            replace H := Option.bind_eq_some_iff.mp H
            obtain ⟨⟨t266, t267, t268⟩, A590, H⟩ := H
            replace H : (if 0 < (x6_2.length : Int) then (some (x5_2, (x6_2.set (0 : Int).toNat t266), x9_3, t267, t268)) else (none)) = some (r1, r2, r3, r4, r5) := H
            have A59 := Aside0.mk A590
            clear A590
            by_cases c60 : 0 < (x6_2.length : Int)
            ·rw [if_pos c60] at H
             have c60b0 : decide (0 < (x6_2.length : Int)) = true := decide_eq_true c60
             have c60b1 : decide (0 < x6_2.length) = true := decide_eq_true (by omega)
             clear c60
             obtain ⟨y269, hy269⟩ : ∃ y_ : List Int, y_ = (x6_2.set (0 : Int).toNat t266) := ⟨_, rfl⟩
             replace H : (some (x5_2, y269, x9_3, t267, t268)) = some (r1, r2, r3, r4, r5) := by first | (rw [hy269]; with_reducible exact H) | (have H2_ := (Option.bind_some _ _).symm.trans H; rw [hy269]; with_reducible exact H2_) | (have H2_ := (Option.bind_some _ _).symm.trans H; with_reducible exact H2_) | with_reducible exact H | (rw [hy269]; exact H) | exact H
             have Ny269 := Aside0.mk hy269
             clear hy269
             simp only [Option.some.injEq, Prod.mk.injEq] at H
             obtain ⟨rfl, rfl, rfl, rfl, rfl⟩ := H
             obtain ⟨Ao62, co62, eo62⟩ := Kd.R_slice HO_9.out
             subst eo62
             go_wp2_with (first | ((with_reducible refine gate_callee (f := 102) rfl ?_); refine goesL_ (some 55) rfl rfl Try.func102 (by kernel_rfl) rfl #[.pointer (some ⟨g, 0, none⟩), .int .i64 24] rfl qA ?_; (with_reducible refine (spec_l1Cur_pick.calls g s0_0 x1001_3 x1002_3 24 t254 t255 t256 w0 _ ?side1 ?side2 A47.out).mono ?_); (case side1 => exact qI126 HI0); (case side2 => exact qV126 HB); rintro e w63 ⟨rfl, hi, hb, hk⟩; refine ⟨_, rfl, ?_⟩; have n0_ := Aside0.mk (Kd.S_mono (Kd.S_keep (IsS126.apartS (show IsS126 w0 _ g s0_0 x1001_3 x1002_3 from qI126 HI0) (qS HO_5) (by decide)) hk (fun _ h => h.2)) (fun _ h => h.1)); have n1_ := Aside0.mk (Kd.Q_mono (Kd.Q_keep (IsS126.apartQ (show IsS126 w0 _ g s0_0 x1001_3 x1002_3 from qI126 HI0) (by (with_reducible repeat (first | apply Kd.Q_alloc | apply Kd.Q_drewN | apply Kd.Q_drew)); exact HO_6.out) (by decide)) hk (fun _ h => h.2)) (fun _ h => h.1)); have n2_ := Aside0.mk (Kd.R_mono (Kd.R_keep (IsS126.apart (show IsS126 w0 _ g s0_0 x1001_3 x1002_3 from qI126 HI0) (qR HO_9) (by decide)) hk (fun _ h => h.2)) (fun _ h => h.1)); have n3_ := Aside0.mk (KeepBut.trans (qP HK) hk (.inl rfl)); have n4_ := Aside0.mk (hb); have n5_ := Aside0.mk (hi); clear HO_5; clear HO_6; clear HO_9; clear HK; clear HB; clear HI0; have HO_5 := n0_; have HO_6 := n1_; have HO_9 := n2_; have HK := n3_; have HB := n4_; have HI0 := n5_; clear n0_ n1_ n2_ n3_ n4_ n5_; (try clear hb); (try clear hb2); (try clear hk); (try clear hi)) | ((with_reducible refine gate_dst (N := 66) rfl ?_); refine Kd.R_lit (Kd.int .i64) _ 3 ?hg (N := 66) ?hd (xs := ([(-1), 10001] : List Int)) (inner := [.int .i64 (-1), .int .i64 10001]) (ok := fun _ => True) (okp := fun _ => True) ?hr ?hp (fun _ hk => hk) trivial (Below.refl _ _) (Nat.le_refl _) (by simp) ?_; (case hd => rfl); (case hg => rfl); (case hr => first | (go_simp; done) | (go_simp; rfl)); (case hp => exact (Reps.one (show Kd.M (Kd.int .i64) _ _ _ (-1) [.int .i64 (-1)] from rfl) (Reps.one (show Kd.M (Kd.int .i64) _ _ _ 10001 [.int .i64 10001] from rfl) (Reps.none _ _)))); intro v264 w64 ho65 hb hg_ hnew_; clear hg_ hnew_; (first | rw [← Ny263.out] at ho65 | (simp only [Int.reduceToNat] at ho65; rw [← Ny263.out] at ho65)); have n0_ := Aside0.mk (Kd.S_elder' (qS HO_5) (Kd.R_base ho65) hb); have n1_ := Aside0.mk (Kd.Q_elder' (by (with_reducible repeat (first | apply Kd.Q_alloc | apply Kd.Q_drewN | apply Kd.Q_drew)); exact HO_6.out) (Kd.R_base ho65) hb); have n2_ := Aside0.mk (Kd.R_elder' (qR HO_9) (Kd.R_base ho65) hb); have n3_ := Aside0.mk (Kd.R_lower (Kd.R_new' (Kd.R_new' ho65 (Kd.Q_lt (by (with_reducible repeat (first | apply Kd.Q_alloc | apply Kd.Q_drewN | apply Kd.Q_drew)); exact HO_6.out))) (Kd.R_lt (qR HO_9))) (keep_size (w := w) (g := g) (row := none) (qP HK))); have n4_ := Aside0.mk (IsS126.below (qI126 HI0) hb); have n5_ := Aside0.mk (KeepBut.trans (qP HK) (KeepBut.of_below hb g none) (.inl rfl)); have n6_ := Aside0.mk (below_step (qV126 HB) hb); clear HO_5; clear HO_6; clear HO_9; clear HI0; clear HK; clear HB; have HO_5 := n0_; have HO_6 := n1_; have HO_9 := n2_; have HO265 := n3_; have HI0 := n4_; have HK := n5_; have HB := n6_; clear n0_ n1_ n2_ n3_ n4_ n5_ n6_; clear hb ho65; obtain ⟨Ao66, co66, eo66⟩ := Kd.R_slice HO265.out; subst eo66) | ((with_reducible refine gate_callee (f := 116) rfl ?_); refine goesL_ (some 67) rfl rfl Try.func116 (by kernel_rfl) rfl #[.pointer (some ⟨g, 0, none⟩), .slice Ao66 y263.length co66] rfl qA ?_; (with_reducible refine (spec_l1Cur_among.calls g s0_0 t255 t256 _ _ y263 t266 t267 t268 w0 _ ?side1 ?side2 ?side3 ?side4 ?side5 A59.out).mono ?_); (case side1 => exact qI126 HI0); (case side2 => exact qV126 HB); (case side3 => exact uC (Kd.R_reads' HO265.out).2.2); (case side4 => exact (Kd.R_reads' HO265.out).2.1); (case side5 => exact far_slice (IsS126.own_ne HI0.out HO265.out (by decide))); rintro e w67 ⟨rfl, hi, hb, hk⟩; refine ⟨_, rfl, ?_⟩; have n0_ := Aside0.mk (Kd.S_mono (Kd.S_keep (IsS126.apartS (show IsS126 w0 _ g s0_0 t255 t256 from qI126 HI0) (qS HO_5) (by decide)) hk (fun _ h => h.2)) (fun _ h => h.1)); have n1_ := Aside0.mk (Kd.Q_mono (Kd.Q_keep (IsS126.apartQ (show IsS126 w0 _ g s0_0 t255 t256 from qI126 HI0) (by (with_reducible repeat (first | apply Kd.Q_alloc | apply Kd.Q_drewN | apply Kd.Q_drew)); exact HO_6.out) (by decide)) hk (fun _ h => h.2)) (fun _ h => h.1)); have n2_ := Aside0.mk (Kd.R_mono (Kd.R_keep (IsS126.apart (show IsS126 w0 _ g s0_0 t255 t256 from qI126 HI0) (qR HO_9) (by decide)) hk (fun _ h => h.2)) (fun _ h => h.1)); have n3_ := Aside0.mk (Kd.R_mono (Kd.R_keep (IsS126.apart (show IsS126 w0 _ g s0_0 t255 t256 from qI126 HI0) (qR HO265) (by decide)) hk (fun _ h => h.2)) (fun _ h => h.1)); have n4_ := Aside0.mk (KeepBut.trans (qP HK) hk (.inl rfl)); have n5_ := Aside0.mk (hb); have n6_ := Aside0.mk (hi); clear HO_5; clear HO_6; clear HO_9; clear HO265; clear HK; clear HB; clear HI0; have HO_5 := n0_; have HO_6 := n1_; have HO_9 := n2_; have HO265 := n3_; have HK := n4_; have HB := n5_; have HI0 := n6_; clear n0_ n1_ n2_ n3_ n4_ n5_ n6_; (try clear hb); (try clear hb2); (try clear hk); (try clear hi); have p61 : 0 ≤ (0 : Int) := (by omega); have q61 : (0 : Int) < ((x6_2.length : Int) : Int) := of_decide_eq_true qa; have qi61 : (0 < x6_2.length) = True := eq_true (by omega); obtain ⟨go61, oo61, co61, eo61, gb61, gl61, cl61, HG61⟩ := Kd.Q_form HO_6.out (by omega); (first | cases eo61 | (injection eo61 with ea_ en_ ec_; (first | subst ea_ | (injection ea_ with ea_; subst ea_)); subst ec_; clear en_)); have GB61 := Aside0.mk gb61; have GG61 := Aside0.mk HG61; clear gb61 gl61 HG61; obtain ⟨hx61_0, hf61_0⟩ := Kd.Q_cell 0 HO_6.out (0 : Int) p61 q61; (try rw [show ((0 : Int)).toNat = 0 from rfl] at hx61_0); (try simp only [Nat.reduceMul, Nat.zero_mul, Nat.zero_add, Nat.reduceAdd, Nat.add_zero] at hx61_0); (try rw [show ((0 : Int)).toNat = 0 from rfl] at hf61_0); (try simp only [Nat.reduceMul, Nat.zero_mul, Nat.zero_add, Nat.reduceAdd, Nat.add_zero] at hf61_0); replace p61 := eq_true p61; replace q61 := eq_true q61; obtain ⟨hy68_, hz68_⟩ := Kd.Q_cell 0 HO_6.out (0 : Int) (by omega) (of_decide_eq_true qa); (try simp only [Int.reduceToNat, Int.toNat_zero, Int.toNat_ofNat, Nat.reduceMul, Nat.zero_mul, Nat.zero_add, Nat.add_zero] at hy68_ hz68_); (try rw [show ((0 : Int)).toNat = 0 from rfl] at hy68_); (try rw [show ((0 : Int)).toNat = 0 from rfl] at hz68_); have HP68 := Kd.Q_putg HO_6.out (0 : Int) (by omega) (by have h_ : (0 : Int) < ((x6_2.length : Int) : Int) := of_decide_eq_true qa; first | exact h_ | (have e_ := (Kd.Q_reads' HO_6.out).1; omega) | simpa using h_) t266) | ((with_reducible refine gate_store (t := 3) (p := 68) rfl ?_); refine store_event (t := 3) (p := 68) (v := ?vo_w69) (w1 := (w67.setCell ⟨go61, oo61 + (0 : Int).toNat, none⟩ (.int .i64 t266))) ?hg ?ho ?hn ?hr ?_; (case ho => rfl); (case hg => rfl); (case hn => rfl); (case hr => first | (go_simp; done) | (go_simp; rfl)); intro w69 hw; have hg : w67.grownBy w69 (some go61) := (by rw [hw]; exact HP68.2); have hp_ : Kd.Q (Kd.int .i64) 3 w69 w.heap.size (fun k_ => some k_ ≠ (.slice Ao62 x9_3.length co62 : Value).ownBlock ∧ some k_ ≠ (.slice Ao66 y263.length co66 : Value).ownBlock) (.slice (some ⟨go61, oo61, none⟩) x6_2.length co61) y269 := (by rw [hw, Ny269.out]; exact HP68.1); clear HP68; have n0_ := Aside0.mk (Kd.S_after (v := (.slice (some ⟨go61, oo61, none⟩) x6_2.length co61)) (v1 := (.slice (some ⟨go61, oo61, none⟩) x6_2.length co61)) (ok := (fun k_ => some k_ ≠ (.slice Ao62 x9_3.length co62 : Value).ownBlock ∧ some k_ ≠ (.slice Ao66 y263.length co66 : Value).ownBlock)) (by exact uS (Kd.S_mono HO_5.out (fun _ hk => ⟨⟨hk.1.2, hk.2⟩, hk.1.1⟩))) hg (.inl rfl)); have n1_ := Aside0.mk (hp_); have n2_ := Aside0.mk (Kd.R_after (v := (.slice (some ⟨go61, oo61, none⟩) x6_2.length co61)) (v1 := (.slice (some ⟨go61, oo61, none⟩) x6_2.length co61)) (ok := (fun k_ => some k_ ≠ (.slice Ao66 y263.length co66 : Value).ownBlock)) (by exact uR (Kd.R_mono HO_9.out (fun _ hk => ⟨hk.2, hk.1⟩))) hg (.inl rfl)); have n3_ := Aside0.mk (IsS126.grown (qI126 HI0) hg (IsS126.own_neQ HI0.out HO_6.out (by decide))); have n4_ := Aside0.mk (Kd.R_after (v := (.slice (some ⟨go61, oo61, none⟩) x6_2.length co61)) (v1 := (.slice (some ⟨go61, oo61, none⟩) x6_2.length co61)) (ok := (fun k_ => some k_ ≠ (.slice Ao62 x9_3.length co62 : Value).ownBlock)) (by exact uR (Kd.R_mono HO265.out (fun _ hk => ⟨hk.2, hk.1.2⟩))) hg (.inl rfl)); have n5_ := Aside0.mk ((by rw [hw]; exact below_set (HB.out) (Nat.le_trans HL.out GB61.out) : Below w0.heap.size w0 w69)); have n6_ := Aside0.mk (KeepBut.trans (qP HK) (KeepBut.of_grown hg g) (Kd.Q_base2 HO_6.out)); clear HO_5; clear HO_6; clear HO_9; clear HI0; clear HO265; clear HB; clear HK; have HO_5 := n0_; have HO_6 := n1_; have HO_9 := n2_; have HI0 := n3_; have HO265 := n4_; have HB := n5_; have HK := n6_; clear n0_ n1_ n2_ n3_ n4_ n5_ n6_; clear hg hw hp_))
             go_ret3
             exact ⟨_, _, _, qe, by exact uS (Kd.S_mono HO_5.out (fun _ hk => ⟨hk.2, hk.1.1⟩)), by (with_reducible repeat (first | apply Kd.Q_alloc | apply Kd.Q_drewN | apply Kd.Q_drew)); exact Kd.Q_mono HO_6.out (fun _ hk => hk.1), by exact uR (Kd.R_mono HO_9.out (fun _ hk => hk.2)), qI126 HI0, qV126 HB, qP HK⟩
            ·rw [if_neg c60] at H
             exact absurd H (by simp)
           ·rw [if_neg c58] at H
            have c58b0 : (t254 == 1) = false := beq_eq_false_iff_ne.mpr c58
            have c58b1 : (t254 != 1) = true := bne_iff_ne.mpr c58
            by_cases c70 : t254 = 2
            ·rw [if_pos c70] at H
             have c70b0 : (t254 == 2) = true := beq_iff_eq.mpr c70
             have c70b1 : (t254 != 2) = false := bne_eq_false_iff_eq.mpr c70
             clear c70
             by_cases c71 : 1 ≤ (x6_2.length : Int)
             ·rw [if_pos c71] at H
              have c71b0 := eq_true c71
              have c71b1 : decide (1 ≤ (x6_2.length : Int)) = true := decide_eq_true c71
              clear c71
              obtain ⟨y270, hy270⟩ : ∃ y_ : List Int, y_ = (x6_2.drop (1 : Int).toNat) := ⟨_, rfl⟩
              replace H : (some (x5_2, y270, x9_3, t255, t256)) = some (r1, r2, r3, r4, r5) := by first | (rw [hy270]; with_reducible exact H) | (have H2_ := (Option.bind_some _ _).symm.trans H; rw [hy270]; with_reducible exact H2_) | (have H2_ := (Option.bind_some _ _).symm.trans H; with_reducible exact H2_) | with_reducible exact H | (rw [hy270]; exact H) | exact H
              have Ny270 := Aside0.mk hy270
              clear hy270
              simp only [Option.some.injEq, Prod.mk.injEq] at H
              obtain ⟨rfl, rfl, rfl, rfl, rfl⟩ := H
              obtain ⟨Ao72, co72, eo72⟩ := Kd.R_slice HO_9.out
              subst eo72
              go_wp2_with (first | ((with_reducible refine gate_callee (f := 102) rfl ?_); refine goesL_ (some 55) rfl rfl Try.func102 (by kernel_rfl) rfl #[.pointer (some ⟨g, 0, none⟩), .int .i64 24] rfl qA ?_; (with_reducible refine (spec_l1Cur_pick.calls g s0_0 x1001_3 x1002_3 24 t254 t255 t256 w0 _ ?side1 ?side2 A47.out).mono ?_); (case side1 => exact qI126 HI0); (case side2 => exact qV126 HB); rintro e w73 ⟨rfl, hi, hb, hk⟩; refine ⟨_, rfl, ?_⟩; have n0_ := Aside0.mk (Kd.S_mono (Kd.S_keep (IsS126.apartS (show IsS126 w0 _ g s0_0 x1001_3 x1002_3 from qI126 HI0) (qS HO_5) (by decide)) hk (fun _ h => h.2)) (fun _ h => h.1)); have n1_ := Aside0.mk (Kd.Q_mono (Kd.Q_keep (IsS126.apartQ (show IsS126 w0 _ g s0_0 x1001_3 x1002_3 from qI126 HI0) (by (with_reducible repeat (first | apply Kd.Q_alloc | apply Kd.Q_drewN | apply Kd.Q_drew)); exact HO_6.out) (by decide)) hk (fun _ h => h.2)) (fun _ h => h.1)); have n2_ := Aside0.mk (Kd.R_mono (Kd.R_keep (IsS126.apart (show IsS126 w0 _ g s0_0 x1001_3 x1002_3 from qI126 HI0) (qR HO_9) (by decide)) hk (fun _ h => h.2)) (fun _ h => h.1)); have n3_ := Aside0.mk (KeepBut.trans (qP HK) hk (.inl rfl)); have n4_ := Aside0.mk (hb); have n5_ := Aside0.mk (hi); clear HO_5; clear HO_6; clear HO_9; clear HK; clear HB; clear HI0; have HO_5 := n0_; have HO_6 := n1_; have HO_9 := n2_; have HK := n3_; have HB := n4_; have HI0 := n5_; clear n0_ n1_ n2_ n3_ n4_ n5_; (try clear hb); (try clear hb2); (try clear hk); (try clear hi); obtain ⟨Ao74, co74, eo74, _⟩ := Kd.Q_slice HO_6.out; subst eo74; have q75 : (1 : Int) ≤ ((x6_2.length : Int) : Int) := of_decide_eq_true qa; obtain ⟨i075, hi075, _, hsz75, _⟩ := info_parts info3; have hcut75 := cut_from (P := Try.prog) 23 3 .i64 Try.underlying23 hi075 1 hsz75 Ao74 x6_2.length co74 1 (by omega) q75; have hr75 := Kd.Q_drop (k := (1 : Int).toNat) HO_6.out (by omega); obtain ⟨A75, hA75⟩ : ∃ A1, A1 = (if co74 = (1 : Int).toNat then Ao74 else (Ao74 : Option Addr).map (·.add ((1 : Int).toNat * 1))) := ⟨_, rfl⟩; obtain ⟨c75, hc75⟩ : ∃ c1, c1 = co74 - (1 : Int).toNat := ⟨_, rfl⟩; have hy75 : y270.length = x6_2.length - (1 : Int).toNat := (by rw [Ny270.out, List.length_drop]); rw [← Ny270.out] at hr75; rw [← hy75, ← hA75, ← hc75] at hcut75; replace hr75 : Kd.Q (Kd.int .i64) 3 w73 w.heap.size (fun k_ => some k_ ≠ (.slice Ao72 x9_3.length co72 : Value).ownBlock) (.slice A75 y270.length c75) y270 := (by rw [hA75, hc75, hy75]; exact hr75); have HE75 : Aside0 ((Value.slice A75 y270.length c75).ownBlock = (.slice Ao74 x6_2.length co74 : Value).ownBlock) := ⟨by rw [hA75]; split <;> (cases (Ao74 : Option Addr) <;> rfl)⟩; clear hy75 hi075 hsz75 HO_6 hA75 hc75; have HO272 := Aside0.mk hr75; clear hr75; replace q75 := eq_true q75; have n_ := Aside0.mk (Kd.S_mono (ok' := fun k_ => (some k_ ≠ (.slice A75 y270.length c75 : Value).ownBlock ∧ some k_ ≠ (.slice Ao72 x9_3.length co72 : Value).ownBlock)) HO_5.out (fun k_ hk => ⟨(by rw [HE75.out]; exact hk.1), hk.2⟩)); clear HO_5; have HO_5 := n_; clear n_; have n_ := Aside0.mk (Kd.R_mono (ok' := fun k_ => some k_ ≠ (.slice A75 y270.length c75 : Value).ownBlock) HO_9.out (fun k_ hk => (by rw [HE75.out]; exact hk))); clear HO_9; have HO_9 := n_; clear n_))
              go_ret3
              exact ⟨_, _, _, qe, qS HO_5, by (with_reducible repeat (first | apply Kd.Q_alloc | apply Kd.Q_drewN | apply Kd.Q_drew)); exact HO272.out, qR HO_9, qI126 HI0, qV126 HB, qP HK⟩
             ·rw [if_neg c71] at H
              exact absurd H (by simp)
            ·rw [if_neg c70] at H
             have c70b0 : (t254 == 2) = false := beq_eq_false_iff_ne.mpr c70
             have c70b1 : (t254 != 2) = true := bne_iff_ne.mpr c70
             by_cases c76 : t254 = 3
             ·rw [if_pos c76] at H
              have c76b0 : (t254 == 3) = true := beq_iff_eq.mpr c76
              have c76b1 : (t254 != 3) = false := bne_eq_false_iff_eq.mpr c76
              clear c76
              replace H := Option.bind_eq_some_iff.mp H
              obtain ⟨⟨t273, t276, t277⟩, A770, H⟩ := H
              replace H : (some (x5_2, x6_2, t273, t276, t277)) = some (r1, r2, r3, r4, r5) := H
              have A77 := Aside0.mk A770
              clear A770
              simp only [Option.some.injEq, Prod.mk.injEq] at H
              obtain ⟨rfl, rfl, rfl, rfl, rfl⟩ := H
              obtain ⟨Ao78, co78, eo78⟩ := Kd.R_slice HO_9.out
              subst eo78
              go_wp2_with (first | ((with_reducible refine gate_callee (f := 102) rfl ?_); refine goesL_ (some 55) rfl rfl Try.func102 (by kernel_rfl) rfl #[.pointer (some ⟨g, 0, none⟩), .int .i64 24] rfl qA ?_; (with_reducible refine (spec_l1Cur_pick.calls g s0_0 x1001_3 x1002_3 24 t254 t255 t256 w0 _ ?side1 ?side2 A47.out).mono ?_); (case side1 => exact qI126 HI0); (case side2 => exact qV126 HB); rintro e w79 ⟨rfl, hi, hb, hk⟩; refine ⟨_, rfl, ?_⟩; have n0_ := Aside0.mk (Kd.S_mono (Kd.S_keep (IsS126.apartS (show IsS126 w0 _ g s0_0 x1001_3 x1002_3 from qI126 HI0) (qS HO_5) (by decide)) hk (fun _ h => h.2)) (fun _ h => h.1)); have n1_ := Aside0.mk (Kd.Q_mono (Kd.Q_keep (IsS126.apartQ (show IsS126 w0 _ g s0_0 x1001_3 x1002_3 from qI126 HI0) (by (with_reducible repeat (first | apply Kd.Q_alloc | apply Kd.Q_drewN | apply Kd.Q_drew)); exact HO_6.out) (by decide)) hk (fun _ h => h.2)) (fun _ h => h.1)); have n2_ := Aside0.mk (Kd.R_mono (Kd.R_keep (IsS126.apart (show IsS126 w0 _ g s0_0 x1001_3 x1002_3 from qI126 HI0) (qR HO_9) (by decide)) hk (fun _ h => h.2)) (fun _ h => h.1)); have n3_ := Aside0.mk (KeepBut.trans (qP HK) hk (.inl rfl)); have n4_ := Aside0.mk (hb); have n5_ := Aside0.mk (hi); clear HO_5; clear HO_6; clear HO_9; clear HK; clear HB; clear HI0; have HO_5 := n0_; have HO_6 := n1_; have HO_9 := n2_; have HK := n3_; have HB := n4_; have HI0 := n5_; clear n0_ n1_ n2_ n3_ n4_ n5_; (try clear hb); (try clear hb2); (try clear hk); (try clear hi)) | ((with_reducible refine gate_callee (f := 171) rfl ?_); refine goesL_ (some 76) rfl rfl Try.func171 (by kernel_rfl) rfl #[.pointer (some ⟨g, 0, none⟩)] rfl qA ?_; (with_reducible refine (spec_l1Cur_kit.calls k3 g s0_0 t255 t256 t273 t276 t277 w0 _ ?side1 ?side2 A77.out).mono ?_); (case side1 => exact qI126 HI0); (case side2 => exact qV126 HB); rintro e w80 ⟨v274, rfl, ho0, hi, hb, hk⟩; refine ⟨_, rfl, ?_⟩; have n0_ := Aside0.mk (Kd.S_mono (Kd.S_told (Kd.S_oldK (IsS126.apartS (show IsS126 w0 _ g s0_0 t255 t256 from qI126 HI0) (qS HO_5) (by decide)) hk) (Kd.R_base ho0)) (fun _ h_ => h_.1)); have n1_ := Aside0.mk (Kd.Q_mono (Kd.Q_told (Kd.Q_oldK (IsS126.apartQ (show IsS126 w0 _ g s0_0 t255 t256 from qI126 HI0) (by (with_reducible repeat (first | apply Kd.Q_alloc | apply Kd.Q_drewN | apply Kd.Q_drew)); exact HO_6.out) (by decide)) hk) (Kd.R_base ho0)) (fun _ h_ => h_.1)); have n2_ := Aside0.mk (Kd.R_mono (Kd.R_told (Kd.R_oldK (IsS126.apart (show IsS126 w0 _ g s0_0 t255 t256 from qI126 HI0) (qR HO_9) (by decide)) hk) (Kd.R_base ho0)) (fun _ h_ => h_.1)); have n3_ := Aside0.mk (Kd.R_lower (Kd.R_new' (Kd.R_new' ho0 (Kd.Q_lt (by (with_reducible repeat (first | apply Kd.Q_alloc | apply Kd.Q_drewN | apply Kd.Q_drew)); exact HO_6.out))) (Kd.R_lt (qR HO_9))) (keep_size (w := w) (g := g) (row := none) (qP HK))); have n4_ := Aside0.mk (KeepBut.trans (qP HK) hk (.inl rfl)); have n5_ := Aside0.mk (hb); have n6_ := Aside0.mk (hi); clear HO_5; clear HO_6; clear HO_9; clear HK; clear HB; clear HI0; have HO_5 := n0_; have HO_6 := n1_; have HO_9 := n2_; have HO275 := n3_; have HK := n4_; have HB := n5_; have HI0 := n6_; clear n0_ n1_ n2_ n3_ n4_ n5_ n6_; (try clear hb); (try clear hb2); (try clear hk); (try clear hi); (try clear ho0)))
              go_ret3
              exact ⟨_, _, _, qe, by exact uS (Kd.S_mono HO_5.out (fun _ hk => ⟨hk.1.1, hk.2⟩)), by (with_reducible repeat (first | apply Kd.Q_alloc | apply Kd.Q_drewN | apply Kd.Q_drew)); exact Kd.Q_mono HO_6.out (fun _ hk => hk.2), by exact uR (Kd.R_mono HO275.out (fun _ hk => hk.1.2)), qI126 HI0, qV126 HB, qP HK⟩
             ·rw [if_neg c76] at H
              have c76b0 : (t254 == 3) = false := beq_eq_false_iff_ne.mpr c76
              have c76b1 : (t254 != 3) = true := bne_iff_ne.mpr c76
              simp only [Option.some.injEq, Prod.mk.injEq] at H
              obtain ⟨rfl, rfl, rfl, rfl, rfl⟩ := H
              obtain ⟨Ao81, co81, eo81⟩ := Kd.R_slice HO_9.out
              subst eo81
              go_wp2_with (first | ((with_reducible refine gate_callee (f := 102) rfl ?_); refine goesL_ (some 55) rfl rfl Try.func102 (by kernel_rfl) rfl #[.pointer (some ⟨g, 0, none⟩), .int .i64 24] rfl qA ?_; (with_reducible refine (spec_l1Cur_pick.calls g s0_0 x1001_3 x1002_3 24 t254 t255 t256 w0 _ ?side1 ?side2 A47.out).mono ?_); (case side1 => exact qI126 HI0); (case side2 => exact qV126 HB); rintro e w82 ⟨rfl, hi, hb, hk⟩; refine ⟨_, rfl, ?_⟩; have n0_ := Aside0.mk (Kd.S_mono (Kd.S_keep (IsS126.apartS (show IsS126 w0 _ g s0_0 x1001_3 x1002_3 from qI126 HI0) (qS HO_5) (by decide)) hk (fun _ h => h.2)) (fun _ h => h.1)); have n1_ := Aside0.mk (Kd.Q_mono (Kd.Q_keep (IsS126.apartQ (show IsS126 w0 _ g s0_0 x1001_3 x1002_3 from qI126 HI0) (by (with_reducible repeat (first | apply Kd.Q_alloc | apply Kd.Q_drewN | apply Kd.Q_drew)); exact HO_6.out) (by decide)) hk (fun _ h => h.2)) (fun _ h => h.1)); have n2_ := Aside0.mk (Kd.R_mono (Kd.R_keep (IsS126.apart (show IsS126 w0 _ g s0_0 x1001_3 x1002_3 from qI126 HI0) (qR HO_9) (by decide)) hk (fun _ h => h.2)) (fun _ h => h.1)); have n3_ := Aside0.mk (KeepBut.trans (qP HK) hk (.inl rfl)); have n4_ := Aside0.mk (hb); have n5_ := Aside0.mk (hi); clear HO_5; clear HO_6; clear HO_9; clear HK; clear HB; clear HI0; have HO_5 := n0_; have HO_6 := n1_; have HO_9 := n2_; have HK := n3_; have HB := n4_; have HI0 := n5_; clear n0_ n1_ n2_ n3_ n4_ n5_; (try clear hb); (try clear hb2); (try clear hk); (try clear hi)))
              go_ret3
              exact ⟨_, _, _, qe, qS HO_5, by (with_reducible repeat (first | apply Kd.Q_alloc | apply Kd.Q_drewN | apply Kd.Q_drew)); exact HO_6.out, qR HO_9, qI126 HI0, qV126 HB, qP HK⟩
         ·rw [if_neg c46] at H
          have c46b0 : decide (0 < x7_3) = false := decide_eq_false c46
          clear c46
          simp only [Option.some.injEq, Prod.mk.injEq] at H
          obtain ⟨rfl, rfl, rfl, rfl, rfl⟩ := H
          obtain ⟨Ao83, co83, eo83⟩ := Kd.R_slice HO_9.out
          subst eo83
          go_wp2
          go_ret3
          exact ⟨_, _, _, qe, qS HO_5, by (with_reducible repeat (first | apply Kd.Q_alloc | apply Kd.Q_drewN | apply Kd.Q_drew)); exact HO_6.out, qR HO_9, qI126 HI0, qV126 HB, qP HK⟩

/-! ### spec_DrawCheapestKits: function 74 -/
def spec_DrawCheapestKits.f (k : Nat) (l0 : List Int) : Option ((List (List Int)) × List Int × List Int) := (spec_l1Cur_kits.f k l0 0 0).bind fun bt279 => (some (bt279.1, bt279.2.1, bt279.2.2.1))
theorem spec_DrawCheapestKits.mono : ∀ a0 k, LeO (spec_DrawCheapestKits.f k a0) (spec_DrawCheapestKits.f (k + 1) a0) := by
 intro a0 k
 unfold spec_DrawCheapestKits.f
 repeat' first | (with_reducible first | exact spec_l1Cur_kits.mono _ _ _ _ | exact LeO.refl _ | exact LeO.none _ | refine LeO.ite ?_ ?_ | refine LeO.bind ?_ (fun _ => ?_)) | exact spec_l1Cur_kits.mono _ _ _ _ | exact LeO.none _ | refine LeO.ite ?_ ?_ | refine LeO.bind ?_ (fun _ => ?_)
set_option maxHeartbeats 8000000 in
set_option maxRecDepth 100000 in
theorem spec_DrawCheapestKits.calls (k : Nat) (A0 : Option Addr) (c0 : Nat) (l0 : List Int) (r1 : List (List Int)) (r2 : List Int) (r3 : List Int) (w : World) (hr0 : Kd.C (Kd.int .u8) w A0 l0.length l0) (hc0 : l0.length ≤ c0) (h : spec_DrawCheapestKits.f k l0 = some (r1, r2, r3)) :
  Calls Try.prog 74 #[.slice A0 l0.length c0] w fun e w' => ∃ v0_ v1_ v2_ : Value, e = .returned (.tuple #[v0_, v1_, v2_]) ∧ Kd.S (Kd.slice 3 (Kd.int .i64)) 23 w' w.heap.size (fun k_ => some k_ ≠ (v1_ : Value).ownBlock ∧ some k_ ≠ (v2_ : Value).ownBlock) v0_ r1 ∧ Kd.Q (Kd.int .i64) 3 w' w.heap.size (fun k_ => some k_ ≠ (v2_ : Value).ownBlock) v1_ r2 ∧ Kd.R (Kd.int .i64) 3 w' w.heap.size (fun k_ => some k_ ≠ (v1_ : Value).ownBlock) v2_ r3 ∧ Below w.heap.size w w' := by
 have hu126 := Try.underlying126
 have HR0 := Aside0.mk hr0
 have HC0 := Aside0.mk hc0
 clear hr0 hc0
 have HB := Aside0.mk (Below.refl w.heap.size w)
 have H : ((spec_l1Cur_kits.f k l0 0 0).bind fun bt279 => (some (bt279.1, bt279.2.1, bt279.2.2.1))) = some (r1, r2, r3) := h
 clear h
 replace H := Option.bind_eq_some_iff.mp H
 obtain ⟨⟨t279, t282, t285, t288, t289⟩, A20, H⟩ := H
 replace H : (some (t279, t282, t285)) = some (r1, r2, r3) := H
 have A2 := Aside0.mk A20
 clear A20
 simp only [Option.some.injEq, Prod.mk.injEq] at H
 obtain ⟨rfl, rfl, rfl⟩ := H
 go_enter Try.func74, Try.ntmps74
 go_wp2_with (first | ((with_reducible refine gate_dst (N := 8) rfl ?_); refine box_event ?hg (N := 8) ?hd (cs := #[.slice A0 l0.length c0, .int .i64 0, .int .u64 0]) (t := 126) ?hr ?_; (case hd => rfl); (case hg => rfl); (case hr => first | (go_simp; done) | (go_simp; rfl)); intro gb278 hg w3 hbox hb; have n0_ := Aside0.mk (below_step (qB HB) hb); have n1_ := Aside0.mk (hbox); have n2_ := Aside0.mk ((by rw [hg]; exact (below_size (qB HB)) : w.heap.size ≤ gb278)); have n3_ := Aside0.mk ((by rw [hg]; exact (below_size (qB HB)) : w.heap.size ≤ gb278)); clear HB; have HB := n0_; have BK278 := n1_; have GW278 := n2_; have GE278 := n3_; clear n0_ n1_ n2_ n3_; clear hb hbox hg; have HI278 := Aside0.mk (show IsS126 w _ gb278 l0 0 0 from ⟨_, _, by (with_reducible repeat (first | refine blk_drewN ?_ _ | refine blk_drew ?_ | refine blk_alloc ?_ _)); exact BK278.out, GE278.out, HR0.out⟩)) | ((with_reducible refine gate_callee (f := 164) rfl ?_); refine goesL_ (some 10) rfl rfl Try.func164 (by kernel_rfl) rfl #[.pointer (some ⟨gb278, 0, none⟩)] rfl qA ?_; (with_reducible refine (spec_l1Cur_kits.calls k gb278 l0 0 0 t279 t282 t285 t288 t289 w _ ?side1 ?side2 A2.out).mono ?_); (case side1 => exact qI126 HI278); (case side2 => exact qV126 HB); rintro e w4 ⟨v280, v283, v286, rfl, ho0, ho1, ho2, hi, hb, hk⟩; refine ⟨_, rfl, ?_⟩; have n0_ := Aside0.mk (Kd.S_lower ho0 (below_size (qV126 HB))); have n1_ := Aside0.mk (Kd.Q_lower ho1 (below_size (qV126 HB))); have n2_ := Aside0.mk (Kd.R_lower ho2 (below_size (qV126 HB))); have n3_ := Aside0.mk (hb); have n4_ := Aside0.mk (hi); clear HB; clear HI278; have HO281 := n0_; have HO284 := n1_; have HO287 := n2_; have HB := n3_; have HI278 := n4_; clear n0_ n1_ n2_ n3_ n4_; (try clear hb); (try clear hb2); (try clear hk); (try clear hi); (try clear ho0); (try clear ho1); (try clear ho2)))
 go_ret3
 exact ⟨_, _, _, qe, qS HO281, by (with_reducible repeat (first | apply Kd.Q_alloc | apply Kd.Q_drewN | apply Kd.Q_drew)); exact HO284.out, qR HO287, qV126 HB⟩

end Go.Proofs.Ytgblcbgkkfipoaa.XFnPurchases
