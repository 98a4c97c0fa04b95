/- Written by xprint.py, a program of this session, out of the translation: what Go functions compute, as Lean functions, proved over the program. -/
import Derived.Test.YtgblcbgkkfipoaaXFnCutsx0
import Derived.Test.YtgblcbgkkfipoaaXFnCutsx7
import Derived.Test.YtgblcbgkkfipoaaXFnCutsx10
import Derived.Test.YtgblcbgkkfipoaaWQuick
namespace Go.Proofs.Ytgblcbgkkfipoaa.XFnCuts
open Go.RowKit Go.Proofs.YtgblcbgkkfipoaaW.PrintWords Go.Proofs.YtgblcbgkkfipoaaW.PrintLast Go.Proofs.YtgblcbgkkfipoaaW.PrintMore
attribute [local go_sem] max2_int min2_int max_two min_two max_three min_three max_four min_four   -- for this text's walks alone
set_option linter.unusedVariables false
set_option linter.unusedSimpArgs false

/-! ### impl_committedPart: function 162 -/
def impl_committedPart.l0 : Nat → List (S61) → Int → Option ((List (S61)))
 | 0, _, _ => none
 | k + 1, x0, x3 => if x3 > 0 then (if 0 ≤ (wrap64 (x3 - 1)) then (if (wrap64 (x3 - 1)) < (x0.length : Int) then (if ((rd_T61 x0 (wrap64 (x3 - 1))).f0) = 2 then ((some (([] : List (S61)) : List (S61))).bind fun y421 => (if 0 ≤ x3 then (if x3 ≤ (x0.length : Int) then ((some (x0.take (x3 : Int).toNat : List (S61))).bind fun y424 => (if y421.length + y424.length < 5864062014805 then (some (y421 ++ y424)) else (none))) else (none)) else (none))) else (impl_committedPart.l0 k x0 (wrap64 (x3 - 1)))) else (none)) else (none)) else ((some (([] : List (S61)) : List (S61))).bind fun y431 => (if 0 ≤ x3 then (if x3 ≤ (x0.length : Int) then ((some (x0.take (x3 : Int).toNat : List (S61))).bind fun y434 => (if y431.length + y434.length < 5864062014805 then (some (y431 ++ y434)) else (none))) else (none)) else (none)))
def impl_committedPart.f (k : Nat) (l0 : List (S61)) : Option ((List (S61))) := impl_committedPart.l0 k l0 (l0.length : Int)
theorem impl_committedPart.mono_l : ∀ k, (∀ y0 y1, LeO (impl_committedPart.l0 k y0 y1) (impl_committedPart.l0 (k + 1) y0 y1))
 | 0 => fun _ _ r h => by simp [impl_committedPart.l0] at h
 | k + 1 => by
  have ih0 := impl_committedPart.mono_l k
  ·intro y0 y1
   unfold impl_committedPart.l0
   repeat' first | (with_reducible first | exact ih0 _ _ | exact LeO.refl _ | exact LeO.none _ | refine LeO.ite ?_ ?_ | refine LeO.bind ?_ (fun _ => ?_)) | exact ih0 _ _ | exact LeO.none _ | refine LeO.ite ?_ ?_ | refine LeO.bind ?_ (fun _ => ?_)
theorem impl_committedPart.mono : ∀ a0 k, LeO (impl_committedPart.f k a0) (impl_committedPart.f (k + 1) a0) := by
 intro a0 k
 have ih0 := impl_committedPart.mono_l k
 unfold impl_committedPart.f
 repeat' first | (with_reducible first | exact ih0 _ _ | exact LeO.refl _ | exact LeO.none _ | refine LeO.ite ?_ ?_ | refine LeO.bind ?_ (fun _ => ?_)) | exact ih0 _ _ | exact LeO.none _ | refine LeO.ite ?_ ?_ | refine LeO.bind ?_ (fun _ => ?_)
set_option maxHeartbeats 8000000 in
set_option maxRecDepth 100000 in
theorem impl_committedPart.calls (k : Nat) (A0 : Option Addr) (c0 : Nat) (l0 : List (S61)) (r : List (S61)) (w : World) (hr0 : Kd.C k61 w A0 l0.length l0) (hc0 : l0.length ≤ c0) (h : impl_committedPart.f k l0 = some r) :
  Calls Try.prog 162 #[.slice A0 l0.length c0] w fun e w' => ∃ v0_ : Value, e = .returned (v0_) ∧ Kd.R k61 61 w' w.heap.size (fun _ => True) v0_ r ∧ Below w.heap.size w w' := by
 have HR0 := Aside0.mk hr0
 have HC0 := Aside0.mk hc0
 clear hr0 hc0
 have HB := Aside0.mk (Below.refl w.heap.size w)
 have H : (impl_committedPart.l0 k l0 (l0.length : Int)) = some r := h
 clear h
 have H' := Aside0.mk H
 clear H
 go_enter Try.func162, Try.ntmps162
 go_wp2
 go_loopg [3] k (fun kq v3 w' => ∃ (x3_1 : Int), v3 = .int .i64 x3_1 ∧ Aside0 (impl_committedPart.l0 kq l0 x3_1 = some r) ∧ Aside0 (kq ≤ k) ∧ Aside0 (Below w.heap.size w w'))
 case atStart => exact ⟨((l0.length : Int)), qs, H', ⟨Nat.le_refl _⟩, ⟨qB HB⟩⟩
 case round =>
  clear H'
  try clear c1
  obtain ⟨x3_1, rfl, HA, HK1, HB⟩ := hrel
  cases gk with
  | zero => exact absurd HA.out (by simp [impl_committedPart.l0])
  | succ k1 =>
   have H := HA.out
   clear HA
   simp only [impl_committedPart.l0] at H
   by_cases c2 : x3_1 > 0
   ·rw [if_pos c2] at H
    have c2b0 : decide (0 < x3_1) = true := decide_eq_true c2
    clear c2
    obtain ⟨ji3, hji3⟩ : ∃ j_ : Int, (wrap64 (x3_1 - 1)) = j_ := ⟨_, rfl⟩
    replace H : (if 0 ≤ (ji3) then (if (ji3) < (l0.length : Int) then (if ((rd_T61 l0 (ji3)).f0) = 2 then ((some (([] : List (S61)) : List (S61))).bind fun y421 => (if 0 ≤ x3_1 then (if x3_1 ≤ (l0.length : Int) then ((some (l0.take (x3_1 : Int).toNat : List (S61))).bind fun y424 => (if y421.length + y424.length < 5864062014805 then (some (y421 ++ y424)) else (none))) else (none)) else (none))) else (impl_committedPart.l0 k1 l0 ji3)) else (none)) else (none)) = some r := by first | (rw [hji3] at H; exact H) | (simp only [hji3] at H ⊢; exact H)
    have hji3w : (IntKind.i64.wrap (x3_1 - 1)) = ji3 := (i64_w _).trans hji3
    by_cases c4 : 0 ≤ (ji3)
    ·rw [if_pos c4] at H
     have c4b0 : decide (0 ≤ (ji3)) = true := decide_eq_true c4
     clear c4
     by_cases c5 : (ji3) < (l0.length : Int)
     ·rw [if_pos c5] at H
      have c5b0 : decide ((ji3) < (l0.length : Int)) = true := decide_eq_true c5
      clear c5
      by_cases c6 : ((rd_T61 l0 (ji3)).f0) = 2
      ·rw [if_pos c6] at H
       have c6b0 : (((rd_T61 l0 (ji3)).f0) == 2) = true := beq_iff_eq.mpr c6
       have c6b1 : (((rd_T61 l0 (ji3)).f0) != 2) = false := bne_eq_false_iff_eq.mpr c6
       clear c6
       obtain ⟨y421, hy421⟩ : ∃ y_ : List (S61), y_ = (([] : List (S61))) := ⟨_, rfl⟩
       replace H : (if 0 ≤ x3_1 then (if x3_1 ≤ (l0.length : Int) then ((some (l0.take (x3_1 : Int).toNat : List (S61))).bind fun y424 => (if y421.length + y424.length < 5864062014805 then (some (y421 ++ y424)) else (none))) else (none)) else (none)) = some r := by first | (rw [hy421]; with_reducible exact H) | (have H2_ := (Option.bind_some _ _).symm.trans H; rw [hy421]; with_reducible exact H2_) | (have H2_ := (Option.bind_some _ _).symm.trans H; with_reducible exact H2_) | with_reducible exact H | (rw [hy421]; exact H) | exact H
       have Ny421 := Aside0.mk hy421
       clear hy421
       by_cases c7 : 0 ≤ x3_1
       ·rw [if_pos c7] at H
        have c7b0 := eq_true c7
        have c7b1 : decide (0 ≤ x3_1) = true := decide_eq_true c7
        clear c7
        by_cases c8 : x3_1 ≤ (l0.length : Int)
        ·rw [if_pos c8] at H
         have c8b0 := eq_true c8
         have c8b1 : decide (x3_1 ≤ (l0.length : Int)) = true := decide_eq_true c8
         clear c8
         obtain ⟨y424, hy424⟩ : ∃ y_ : List (S61), y_ = (l0.take (x3_1 : Int).toNat) := ⟨_, rfl⟩
         replace H : (if y421.length + y424.length < 5864062014805 then (some (y421 ++ y424)) else (none)) = some r := by first | (rw [hy424]; with_reducible exact H) | (have H2_ := (Option.bind_some _ _).symm.trans H; rw [hy424]; with_reducible exact H2_) | (have H2_ := (Option.bind_some _ _).symm.trans H; with_reducible exact H2_) | with_reducible exact H | (rw [hy424]; exact H) | exact H
         have Ny424 := Aside0.mk hy424
         clear hy424
         by_cases c9 : y421.length + y424.length < 5864062014805
         ·rw [if_pos c9] at H
          have LMc9 := Aside0.mk c9
          clear c9
          obtain ⟨y428, hy428⟩ : ∃ y_ : List (S61), y_ = (y421 ++ y424) := ⟨_, rfl⟩
          replace H : (some y428) = some r := by first | (rw [hy428]; with_reducible exact H) | (have H2_ := (Option.bind_some _ _).symm.trans H; rw [hy428]; with_reducible exact H2_) | (have H2_ := (Option.bind_some _ _).symm.trans H; with_reducible exact H2_) | with_reducible exact H | (rw [hy428]; exact H) | exact H
          have Ny428 := Aside0.mk hy428
          clear hy428
          obtain rfl := Option.some.inj H
          have p420 : 0 ≤ ((ji3) : Int) := of_decide_eq_true qa
          have q420 : (ji3) < (l0.length : Int) := of_decide_eq_true qa
          obtain ⟨ad420, e420, hx420_0, hx420_1, hx420_2⟩ := at_T61 HR0.out (ji3) p420 q420
          cases e420
          replace hx420_0 := (HB.out.cell (World.block_lt_of_cell? w _ hx420_0)).trans hx420_0
          replace hx420_1 := (HB.out.cell (World.block_lt_of_cell? w _ hx420_1)).trans hx420_1
          replace hx420_2 := (HB.out.cell (World.block_lt_of_cell? w _ hx420_2)).trans hx420_2
          replace p420 := eq_true p420
          replace q420 := eq_true q420
          go_wp2_with (first | ((with_reducible refine gate_dst (N := 19) rfl ?_); refine Kd.R_lit k61 _ 61 ?hg (N := 19) ?hd (xs := ([] : List (S61))) (inner := []) (ok := fun _ => True) (okp := fun _ => True) ?hr ?hp (fun _ hk => hk) trivial (Below.refl _ _) (Nat.le_refl _) (by simp) ?_; (case hd => rfl); (case hg => rfl); (case hr => first | (go_simp; done) | (go_simp; rfl)); (case hp => exact (Reps.none _ _)); intro v422 w10 ho11 hb hg_ hnew_; clear hg_ hnew_; (first | rw [← Ny421.out] at ho11 | (simp only [Int.reduceToNat] at ho11; rw [← Ny421.out] at ho11)); have n0_ := Aside0.mk (Kd.R_lower ho11 (below_size (qB HB))); have n1_ := Aside0.mk (below_step (qB HB) hb); clear HB; have HO423 := n0_; have HB := n1_; clear n0_ n1_; clear hb ho11; have q12 : (x3_1 : Int) ≤ ((l0.length : Int) : Int) := of_decide_eq_true qa; obtain ⟨i012, hi012, _, hsz12, _⟩ := info_parts info61; have hroom12 : l0.length ≤ c0 := HC0.out; have hC12 : Kd.C k61 _ (some ad420) l0.length l0 := HR0.out; have hcut12 := cut_to (P := Try.prog) 49 61 .i64 Try.underlying49 hi012 (some ad420) l0.length c0 x3_1 (of_decide_eq_true qa) q12 hroom12; have hr12 := Kd.C_take (m := (x3_1 : Int).toNat) hC12 (by omega); have hy12 : y424.length = (x3_1 : Int).toNat := (by rw [Ny424.out, List.length_take]; omega); rw [← Ny424.out] at hr12; rw [← hy12] at hcut12; have HR427 := Aside0.mk hr12; have HC427 := Aside0.mk (show y424.length ≤ c0 from by omega); clear hr12 hC12 hroom12 hi012 hsz12; have KY12 := Aside0.mk hy12; clear hy12; replace q12 := eq_true q12) | ((with_reducible refine gate_builtin (b := .append) (xs := #[.tmp 19, .tmp 22]) rfl ?_); at_builtin; refine Kd.R_append_rows k61 (w0 := w) w.heap.size rfl (.tmp 19) (.tmp 22) 49 61 (.agg #[(.int .i64 0), (.int .i64 0), (.int .i64 0)]) 24 rfl Try.underlying49 info61 rfl (by decide) (by omega) v422 y421 y424 _ _ _ (fun _ => True) (fun _ => False) rfl rfl ?aO ?aR (fun _ _ h => h) (fun _ h => h.elim) ?aF ?aB ?aS ?aL ?_; (case aR => exact uC (Kd.C_below HR427.out HB.out)); (case aB => exact (qB HB)); (case aF => exact (fun _ _ => trivial)); (case aO => exact (qR HO423)); (case aS => exact (below_size (qB HB))); (case aL => have := LMc9.out; omega); intro v429 w13 ho hb hg hat; rw [← Ny428.out] at ho; have n0_ := Aside0.mk (hb); have n1_ := Aside0.mk (ho); clear HB; clear HO423; have HB := n0_; have HO430 := n1_; clear n0_ n1_; clear ho hb hg hat))
          go_ret
          exact ⟨_, by first | rfl | (simp [errW_none, errW_some] <;> rfl) | (simp only [← hji3]; first | rfl | (simp [errW_none, errW_some] <;> rfl)) | (simp [*, errW_none, errW_some] <;> rfl), qR HO430, qB HB⟩
         ·rw [if_neg c9] at H
          exact absurd H (by simp)
        ·rw [if_neg c8] at H
         exact absurd H (by simp)
       ·rw [if_neg c7] at H
        exact absurd H (by simp)
      ·rw [if_neg c6] at H
       have c6b0 : (((rd_T61 l0 (ji3)).f0) == 2) = false := beq_eq_false_iff_ne.mpr c6
       have c6b1 : (((rd_T61 l0 (ji3)).f0) != 2) = true := bne_iff_ne.mpr c6
       have H' := Aside0.mk H
       clear H
       have p420 : 0 ≤ ((ji3) : Int) := of_decide_eq_true qa
       have q420 : (ji3) < (l0.length : Int) := of_decide_eq_true qa
       obtain ⟨ad420, e420, hx420_0, hx420_1, hx420_2⟩ := at_T61 HR0.out (ji3) p420 q420
       cases e420
       replace hx420_0 := (HB.out.cell (World.block_lt_of_cell? w _ hx420_0)).trans hx420_0
       replace hx420_1 := (HB.out.cell (World.block_lt_of_cell? w _ hx420_1)).trans hx420_1
       replace hx420_2 := (HB.out.cell (World.block_lt_of_cell? w _ hx420_2)).trans hx420_2
       replace p420 := eq_true p420
       replace q420 := eq_true q420
       go_wp2
       go_roundg k1
       case measure => have := HK1.out; omega
       case rel => exact ⟨(ji3), (by first | rfl | (simp; done) | (simp only [← hji3] <;> (first | rfl | simp)) | (simp [*]; done)), H', ⟨by have := HK1.out; omega⟩, ⟨qB HB⟩⟩
     ·rw [if_neg c5] at H
      exact absurd H (by simp)
    ·rw [if_neg c4] at H
     exact absurd H (by simp)
   ·rw [if_neg c2] at H
    have c2b0 : decide (0 < x3_1) = false := decide_eq_false c2
    clear c2
    obtain ⟨y431, hy431⟩ : ∃ y_ : List (S61), y_ = (([] : List (S61))) := ⟨_, rfl⟩
    replace H : (if 0 ≤ x3_1 then (if x3_1 ≤ (l0.length : Int) then ((some (l0.take (x3_1 : Int).toNat : List (S61))).bind fun y434 => (if y431.length + y434.length < 5864062014805 then (some (y431 ++ y434)) else (none))) else (none)) else (none)) = some r := by first | (rw [hy431]; with_reducible exact H) | (have H2_ := (Option.bind_some _ _).symm.trans H; rw [hy431]; with_reducible exact H2_) | (have H2_ := (Option.bind_some _ _).symm.trans H; with_reducible exact H2_) | with_reducible exact H | (rw [hy431]; exact H) | exact H
    have Ny431 := Aside0.mk hy431
    clear hy431
    by_cases c14 : 0 ≤ x3_1
    ·rw [if_pos c14] at H
     have c14b0 := eq_true c14
     have c14b1 : decide (0 ≤ x3_1) = true := decide_eq_true c14
     clear c14
     by_cases c15 : x3_1 ≤ (l0.length : Int)
     ·rw [if_pos c15] at H
      have c15b0 := eq_true c15
      have c15b1 : decide (x3_1 ≤ (l0.length : Int)) = true := decide_eq_true c15
      clear c15
      obtain ⟨y434, hy434⟩ : ∃ y_ : List (S61), y_ = (l0.take (x3_1 : Int).toNat) := ⟨_, rfl⟩
      replace H : (if y431.length + y434.length < 5864062014805 then (some (y431 ++ y434)) else (none)) = some r := by first | (rw [hy434]; with_reducible exact H) | (have H2_ := (Option.bind_some _ _).symm.trans H; rw [hy434]; with_reducible exact H2_) | (have H2_ := (Option.bind_some _ _).symm.trans H; with_reducible exact H2_) | with_reducible exact H | (rw [hy434]; exact H) | exact H
      have Ny434 := Aside0.mk hy434
      clear hy434
      by_cases c16 : y431.length + y434.length < 5864062014805
      ·rw [if_pos c16] at H
       have LMc16 := Aside0.mk c16
       clear c16
       obtain ⟨y438, hy438⟩ : ∃ y_ : List (S61), y_ = (y431 ++ y434) := ⟨_, rfl⟩
       replace H : (some y438) = some r := by first | (rw [hy438]; with_reducible exact H) | (have H2_ := (Option.bind_some _ _).symm.trans H; rw [hy438]; with_reducible exact H2_) | (have H2_ := (Option.bind_some _ _).symm.trans H; with_reducible exact H2_) | with_reducible exact H | (rw [hy438]; exact H) | exact H
       have Ny438 := Aside0.mk hy438
       clear hy438
       obtain rfl := Option.some.inj H
       go_wp2_with (first | ((with_reducible refine gate_dst (N := 19) rfl ?_); refine Kd.R_lit k61 _ 61 ?hg (N := 19) ?hd (xs := ([] : List (S61))) (inner := []) (ok := fun _ => True) (okp := fun _ => True) ?hr ?hp (fun _ hk => hk) trivial (Below.refl _ _) (Nat.le_refl _) (by simp) ?_; (case hd => rfl); (case hg => rfl); (case hr => first | (go_simp; done) | (go_simp; rfl)); (case hp => exact (Reps.none _ _)); intro v432 w17 ho18 hb hg_ hnew_; clear hg_ hnew_; (first | rw [← Ny431.out] at ho18 | (simp only [Int.reduceToNat] at ho18; rw [← Ny431.out] at ho18)); have n0_ := Aside0.mk (Kd.R_lower ho18 (below_size (qB HB))); have n1_ := Aside0.mk (below_step (qB HB) hb); clear HB; have HO433 := n0_; have HB := n1_; clear n0_ n1_; clear hb ho18; have q19 : (x3_1 : Int) ≤ ((l0.length : Int) : Int) := of_decide_eq_true qa; obtain ⟨i019, hi019, _, hsz19, _⟩ := info_parts info61; have hroom19 : l0.length ≤ c0 := HC0.out; have hC19 : Kd.C k61 _ A0 l0.length l0 := HR0.out; have hcut19 := cut_to (P := Try.prog) 49 61 .i64 Try.underlying49 hi019 A0 l0.length c0 x3_1 (of_decide_eq_true qa) q19 hroom19; have hr19 := Kd.C_take (m := (x3_1 : Int).toNat) hC19 (by omega); have hy19 : y434.length = (x3_1 : Int).toNat := (by rw [Ny434.out, List.length_take]; omega); rw [← Ny434.out] at hr19; rw [← hy19] at hcut19; have HR437 := Aside0.mk hr19; have HC437 := Aside0.mk (show y434.length ≤ c0 from by omega); clear hr19 hC19 hroom19 hi019 hsz19; have KY19 := Aside0.mk hy19; clear hy19; replace q19 := eq_true q19) | ((with_reducible refine gate_builtin (b := .append) (xs := #[.tmp 19, .tmp 22]) rfl ?_); at_builtin; refine Kd.R_append_rows k61 (w0 := w) w.heap.size rfl (.tmp 19) (.tmp 22) 49 61 (.agg #[(.int .i64 0), (.int .i64 0), (.int .i64 0)]) 24 rfl Try.underlying49 info61 rfl (by decide) (by omega) v432 y431 y434 _ _ _ (fun _ => True) (fun _ => False) rfl rfl ?aO ?aR (fun _ _ h => h) (fun _ h => h.elim) ?aF ?aB ?aS ?aL ?_; (case aR => exact uC (Kd.C_below HR437.out HB.out)); (case aB => exact (qB HB)); (case aF => exact (fun _ _ => trivial)); (case aO => exact (qR HO433)); (case aS => exact (below_size (qB HB))); (case aL => have := LMc16.out; omega); intro v439 w20 ho hb hg hat; rw [← Ny438.out] at ho; have n0_ := Aside0.mk (hb); have n1_ := Aside0.mk (ho); clear HB; clear HO433; have HB := n0_; have HO440 := n1_; clear n0_ n1_; clear ho hb hg hat))
       go_ret
       exact ⟨_, qe, qR HO440, qB HB⟩
      ·rw [if_neg c16] at H
       exact absurd H (by simp)
     ·rw [if_neg c15] at H
      exact absurd H (by simp)
    ·rw [if_neg c14] at H
     exact absurd H (by simp)

/-! ### impl_committedValues: function 139 -/
mutual
def impl_committedValues.l0 : Nat → List (S61) → List Int → Int → Int → Option (List Int)
 | 0, _, _, _, _ => none
 | k + 1, x0, x3, x9, x10 => if x10 < x9 then (if 0 ≤ x10 then (if x10 < (x3.length : Int) then (impl_committedValues.l0 k x0 (x3.set (x10 : Int).toNat (-1)) x9 (wrap64 (x10 + 1))) else (none)) else (none)) else ((impl_committedPart.f k x0).bind fun t445 => (impl_committedValues.l1 k x3 t445 (t445.length : Int) 0))
def impl_committedValues.l1 : Nat → List Int → List (S61) → Int → Int → Option (List Int)
 | 0, _, _, _, _ => none
 | k + 1, x3, x18, x19, x20 => if x20 < x19 then (if 0 ≤ x20 then (if x20 < (x18.length : Int) then (if ((rd_T61 x18 x20).f0) = 1 then (if 0 ≤ ((rd_T61 x18 x20).f1) then (if ((rd_T61 x18 x20).f1) < (x3.length : Int) then (impl_committedValues.l1 k (x3.set (((rd_T61 x18 x20).f1) : Int).toNat ((rd_T61 x18 x20).f2)) x18 x19 (wrap64 (x20 + 1))) else (none)) else (none)) else (impl_committedValues.l1 k x3 x18 x19 (wrap64 (x20 + 1)))) else (none)) else (none)) else (some x3)
end
def impl_committedValues.f (k : Nat) (l0 : List (S61)) : Option (List Int) := if 8 ≤ 35184372088832 then ((some (List.replicate 8 0 : List Int)).bind fun y441 => (impl_committedValues.l0 k l0 y441 (y441.length : Int) 0)) else (none)
theorem impl_committedValues.mono_l : ∀ k, (∀ y0 y1 y2 y3, LeO (impl_committedValues.l0 k y0 y1 y2 y3) (impl_committedValues.l0 (k + 1) y0 y1 y2 y3)) ∧ (∀ y0 y1 y2 y3, LeO (impl_committedValues.l1 k y0 y1 y2 y3) (impl_committedValues.l1 (k + 1) y0 y1 y2 y3))
 | 0 => ⟨fun _ _ _ _ r h => by simp [impl_committedValues.l0] at h, fun _ _ _ _ r h => by simp [impl_committedValues.l1] at h⟩
 | k + 1 => by
  obtain ⟨ih0, ih1⟩ := impl_committedValues.mono_l k
  refine ⟨?_, ?_⟩
  ·intro y0 y1 y2 y3
   unfold impl_committedValues.l0
   repeat' first | (with_reducible first | exact ih0 _ _ _ _ | exact ih1 _ _ _ _ | exact impl_committedPart.mono _ _ | exact LeO.refl _ | exact LeO.none _ | refine LeO.ite ?_ ?_ | refine LeO.bind ?_ (fun _ => ?_)) | exact ih0 _ _ _ _ | exact ih1 _ _ _ _ | exact impl_committedPart.mono _ _ | exact LeO.none _ | refine LeO.ite ?_ ?_ | refine LeO.bind ?_ (fun _ => ?_)
  ·intro y0 y1 y2 y3
   unfold impl_committedValues.l1
   repeat' first | (with_reducible first | exact ih0 _ _ _ _ | exact ih1 _ _ _ _ | exact impl_committedPart.mono _ _ | exact LeO.refl _ | exact LeO.none _ | refine LeO.ite ?_ ?_ | refine LeO.bind ?_ (fun _ => ?_)) | exact ih0 _ _ _ _ | exact ih1 _ _ _ _ | exact impl_committedPart.mono _ _ | exact LeO.none _ | refine LeO.ite ?_ ?_ | refine LeO.bind ?_ (fun _ => ?_)
theorem impl_committedValues.mono : ∀ a0 k, LeO (impl_committedValues.f k a0) (impl_committedValues.f (k + 1) a0) := by
 intro a0 k
 obtain ⟨ih0, ih1⟩ := impl_committedValues.mono_l k
 unfold impl_committedValues.f
 repeat' first | (with_reducible first | exact ih0 _ _ _ _ | exact ih1 _ _ _ _ | exact impl_committedPart.mono _ _ | exact LeO.refl _ | exact LeO.none _ | refine LeO.ite ?_ ?_ | refine LeO.bind ?_ (fun _ => ?_)) | exact ih0 _ _ _ _ | exact ih1 _ _ _ _ | exact impl_committedPart.mono _ _ | exact LeO.none _ | refine LeO.ite ?_ ?_ | refine LeO.bind ?_ (fun _ => ?_)
set_option maxHeartbeats 8000000 in
set_option maxRecDepth 100000 in
theorem impl_committedValues.calls (k : Nat) (A0 : Option Addr) (c0 : Nat) (l0 : List (S61)) (r : List Int) (w : World) (hr0 : Kd.C k61 w A0 l0.length l0) (hc0 : l0.length ≤ c0) (h : impl_committedValues.f k l0 = some r) :
  Calls Try.prog 139 #[.slice A0 l0.length c0] w fun e w' => ∃ v0_ : Value, e = .returned (v0_) ∧ Kd.R (Kd.int .i64) 3 w' w.heap.size (fun _ => True) v0_ r ∧ Below w.heap.size w w' := by
 have hu61 := Try.underlying61
 have HR0 := Aside0.mk hr0
 have HC0 := Aside0.mk hc0
 clear hr0 hc0
 have HB := Aside0.mk (Below.refl w.heap.size w)
 have H : (if 8 ≤ 35184372088832 then ((some (List.replicate 8 0 : List Int)).bind fun y441 => (impl_committedValues.l0 k l0 y441 (y441.length : Int) 0)) else (none)) = some r := h
 clear h
 by_cases c2 : 8 ≤ 35184372088832
 ·rw [if_pos c2] at H
  have c2b0 := eq_true c2
  have c2b1 : decide (8 ≤ 35184372088832) = true := decide_eq_true c2
  clear c2
  obtain ⟨y441, hy441⟩ : ∃ y_ : List Int, y_ = (List.replicate 8 0) := ⟨_, rfl⟩
  replace H : (impl_committedValues.l0 k l0 y441 (y441.length : Int) 0) = some r := by first | (rw [hy441]; with_reducible exact H) | (have H2_ := (Option.bind_some _ _).symm.trans H; rw [hy441]; with_reducible exact H2_) | (have H2_ := (Option.bind_some _ _).symm.trans H; with_reducible exact H2_) | with_reducible exact H | (rw [hy441]; exact H) | exact H
  have Ny441 := Aside0.mk hy441
  clear hy441
  have H' := Aside0.mk H
  clear H
  go_enter Try.func139, Try.ntmps139
  go_wp2_with (first | ((with_reducible refine gate_dst (N := 7) rfl ?_); refine Kd.R_make (Kd.int .i64) _ 3 rfl (N := 7) rfl 23 _ _ rfl 8 rfl rfl Try.underlying23 (.int .i64 0) 8 info3 rfl (by decide) (by omega) 0 (ok := fun _ => True) (okp := fun _ => True) rfl (fun _ hk => hk) trivial (by omega) (by omega) (Below.refl _ _) (Nat.le_refl _) ?_; intro v442 w3 ho4 hb hg_ hnew_; clear hg_ hnew_; (first | rw [← Ny441.out] at ho4 | (simp only [Int.reduceToNat] at ho4; rw [← Ny441.out] at ho4)); have n0_ := Aside0.mk (Kd.R_lower ho4 (below_size (qB HB))); have n1_ := Aside0.mk (below_step (qB HB) hb); clear HB; have HO443 := n0_; have HB := n1_; clear n0_ n1_; clear hb ho4; obtain ⟨Ao5, co5, eo5⟩ := Kd.R_slice HO443.out; subst eo5))
  go_loopg [10] k (fun kq v10 w' => ∃ (x3_1 : List Int) (x10_1 : Int), v10 = .int .i64 x10_1 ∧ Aside0 (impl_committedValues.l0 kq l0 x3_1 (y441.length : Int) x10_1 = some r) ∧ Aside0 (kq ≤ k) ∧ Aside0 (Kd.R (Kd.int .i64) 3 w' w.heap.size (fun _ => True) (.slice Ao5 y441.length co5) x3_1) ∧ Aside0 (Below w.heap.size w w'))
  case atStart => exact ⟨(y441), (0), qs, H', ⟨Nat.le_refl _⟩, ⟨qR HO443⟩, ⟨qB HB⟩⟩
  case round =>
   clear H'
   try clear c1
   try clear c2
   try clear c2b0
   try clear c2b1
   try clear p2
   obtain ⟨x3_1, x10_1, rfl, HA, HK1, HO_3, HB⟩ := hrel
   have hl3_1 := (Kd.R_reads' HO_3.out).1
   rw [hl3_1] at HO_3
   (try simp only [hl3_1])
   cases gk with
   | zero => exact absurd HA.out (by simp [impl_committedValues.l0])
   | succ k1 =>
    have H := HA.out
    clear HA
    simp only [impl_committedValues.l0] at H
    by_cases c6 : x10_1 < (y441.length : Int)
    ·rw [if_pos c6] at H
     have c6b0 : decide (x10_1 < (y441.length : Int)) = true := decide_eq_true c6
     have c6b0h := c6b0
     (try simp only [hl3_1] at c6b0h)
     clear c6
     by_cases c7 : 0 ≤ x10_1
     ·rw [if_pos c7] at H
      have c7b0 : decide (0 ≤ x10_1) = true := decide_eq_true c7
      clear c7
      by_cases c8 : x10_1 < (x3_1.length : Int)
      ·rw [if_pos c8] at H
       have c8b0 : decide (x10_1 < (x3_1.length : Int)) = true := decide_eq_true c8
       clear c8
       obtain ⟨y444, hy444⟩ : ∃ y_ : List Int, y_ = (x3_1.set (x10_1 : Int).toNat (-1)) := ⟨_, rfl⟩
       replace H : (impl_committedValues.l0 k1 l0 y444 (y441.length : Int) (wrap64 (x10_1 + 1))) = some r := by first | (rw [hy444]; with_reducible exact H) | (have H2_ := (Option.bind_some _ _).symm.trans H; rw [hy444]; with_reducible exact H2_) | (have H2_ := (Option.bind_some _ _).symm.trans H; with_reducible exact H2_) | with_reducible exact H | (rw [hy444]; exact H) | exact H
       have Ny444 := Aside0.mk hy444
       clear hy444
       have H' := Aside0.mk H
       clear H
       have p9 : 0 ≤ (x10_1 : Int) := of_decide_eq_true qa
       have q9 : (x10_1 : Int) < ((x3_1.length : Int) : Int) := of_decide_eq_true qa
       obtain ⟨go9, co9, eo9, gb9, gl9, cl9, HG9⟩ := Kd.R_form HO_3.out (by omega)
       (first | cases eo9 | (injection eo9 with ea_ en_ ec_; (first | subst ea_ | (injection ea_ with ea_; subst ea_)); subst ec_; clear en_))
       have GB9 := Aside0.mk gb9
       have GG9 := Aside0.mk HG9
       clear gb9 gl9 HG9
       obtain ⟨hx9_0, hf9_0⟩ := Kd.R_celln 0 HO_3.out (x10_1 : Int) p9 q9
       replace p9 := eq_true p9
       replace q9 := eq_true q9
       have HP10 := Kd.R_putg HO_3.out (x10_1 : Int) (-1)
       go_wp2_with (first | ((with_reducible refine gate_store (t := 3) (p := 15) rfl ?_); refine store_event (t := 3) (p := 15) (v := ?vo_w11) (w1 := (wr.setCell ⟨go9, (x10_1 : Int).toNat, none⟩ (.int .i64 (-1)))) ?hg ?ho ?hn ?hr ?_; (case ho => rfl); (case hg => rfl); (case hn => rfl); (case hr => first | (go_simp; done) | (go_simp; rfl)); intro w11 hw; have hg : wr.grownBy w11 (some go9) := (by rw [hw]; exact HP10.2); have hp_ : Kd.R (Kd.int .i64) 3 w11 w.heap.size (fun _ => True) (.slice (some ⟨go9, 0, none⟩) x3_1.length co5) y444 := (by rw [hw, Ny444.out]; exact HP10.1); clear HP10; have n0_ := Aside0.mk (hp_); have n1_ := Aside0.mk ((by rw [hw]; exact below_set (HB.out) GB9.out : Below w.heap.size w w11)); clear HO_3; clear HB; have HO_3 := n0_; have HB := n1_; clear n0_ n1_; clear hg hw hp_))
       (try simp only [← hl3_1])
       go_roundg k1
       case measure => have := HK1.out; omega
       case rel => exact ⟨(y444), (wrap64 (x10_1 + 1)), qs, H', ⟨by have := HK1.out; omega⟩, ⟨by (try simp only [hl3_1]); exact uR (HO_3.out)⟩, ⟨qB HB⟩⟩
      ·rw [if_neg c8] at H
       exact absurd H (by simp)
     ·rw [if_neg c7] at H
      exact absurd H (by simp)
    ·rw [if_neg c6] at H
     have c6b0 : decide (x10_1 < (y441.length : Int)) = false := decide_eq_false c6
     have c6b0h := c6b0
     (try simp only [hl3_1] at c6b0h)
     clear c6
     replace H := Option.bind_eq_some_iff.mp H
     obtain ⟨t445, A120, H⟩ := H
     replace H : (impl_committedValues.l1 k1 x3_1 t445 (t445.length : Int) 0) = some r := H
     have A12 := Aside0.mk A120
     clear A120
     have H' := Aside0.mk H
     clear H
     go_wp2_with (first | ((with_reducible refine gate_callee (f := 162) rfl ?_); refine goesL_ (some 18) rfl rfl Try.func162 (by kernel_rfl) rfl #[.slice A0 l0.length c0] rfl qA ?_; (with_reducible refine (impl_committedPart.calls k1 _ _ l0 t445 _ ?side1 ?side2 A12.out).mono ?_); (case side1 => exact uC (Kd.C_below HR0.out HB.out)); (case side2 => exact HC0.out); rintro e w13 ⟨v446, rfl, ho0, hb⟩; refine ⟨_, rfl, ?_⟩; have n0_ := Aside0.mk (Kd.R_below (qR HO_3) hb); have n1_ := Aside0.mk (Kd.R_lower ho0 (below_size (qB HB))); have n2_ := Aside0.mk (below_step (qB HB) hb); clear HO_3; clear HB; have HO_3 := n0_; have HO447 := n1_; have HB := n2_; clear n0_ n1_ n2_; (try clear hb); (try clear hb2); (try clear hk); (try clear hi); (try clear ho0); obtain ⟨Ao14, co14, eo14⟩ := Kd.R_slice HO447.out; subst eo14))
     go_loopg [20] k1 (fun kq v20 w' => ∃ (x3_2 : List Int) (x20_2 : Int), v20 = .int .i64 x20_2 ∧ Aside0 (impl_committedValues.l1 kq x3_2 t445 (t445.length : Int) x20_2 = some r) ∧ Aside0 (kq ≤ k1) ∧ Aside0 (Kd.R (Kd.int .i64) 3 w' w.heap.size (fun _ => True) (.slice Ao5 x3_1.length co5) x3_2) ∧ Aside0 (Kd.R k61 61 w' w.heap.size (fun _ => True) (.slice Ao14 t445.length co14) t445) ∧ Aside0 (Below w.heap.size w w'))
     case atStart => exact ⟨(x3_1), (0), qs, H', ⟨Nat.le_refl _⟩, ⟨by (try simp only [hl3_1]); exact uR (HO_3.out)⟩, ⟨by (try simp only [hl3_1]); exact uR (HO447.out)⟩, ⟨qB HB⟩⟩
     case round =>
      clear H'
      try clear c1
      try clear c2
      try clear c2b0
      try clear c2b1
      try clear p2
      try clear c6
      try clear c6b0
      try clear p6
      try clear c7
      try clear c7b0
      try clear c8
      try clear c8b0
      try clear p9
      try clear q9
      try clear hx9
      try clear hf9
      try clear c13
      try clear hx9_0
      try clear p2
      try clear p9
      try clear q9
      obtain ⟨x3_2, x20_2, rfl, HA, HK2, HO_3, HO_18, HB⟩ := hrel
      have hl3_2 := (Kd.R_reads' HO_3.out).1
      rw [hl3_2] at HO_3
      (try simp only [hl3_2])
      (try simp only [hl3_2] at HO_18)
      cases gk with
      | zero => exact absurd HA.out (by simp [impl_committedValues.l1])
      | succ k2 =>
       have H := HA.out
       clear HA
       simp only [impl_committedValues.l1] at H
       by_cases c15 : x20_2 < (t445.length : Int)
       ·rw [if_pos c15] at H
        have c15b0 : decide (x20_2 < (t445.length : Int)) = true := decide_eq_true c15
        clear c15
        by_cases c16 : 0 ≤ x20_2
        ·rw [if_pos c16] at H
         have c16b0 : decide (0 ≤ x20_2) = true := decide_eq_true c16
         clear c16
         by_cases c17 : x20_2 < (t445.length : Int)
         ·rw [if_pos c17] at H
          have c17b0 : decide (x20_2 < (t445.length : Int)) = true := decide_eq_true c17
          clear c17
          by_cases c18 : ((rd_T61 t445 x20_2).f0) = 1
          ·rw [if_pos c18] at H
           have c18b0 : (((rd_T61 t445 x20_2).f0) == 1) = true := beq_iff_eq.mpr c18
           have c18b1 : (((rd_T61 t445 x20_2).f0) != 1) = false := bne_eq_false_iff_eq.mpr c18
           clear c18
           by_cases c19 : 0 ≤ ((rd_T61 t445 x20_2).f1)
           ·rw [if_pos c19] at H
            have c19b0 : decide (0 ≤ ((rd_T61 t445 x20_2).f1)) = true := decide_eq_true c19
            clear c19
            by_cases c20 : ((rd_T61 t445 x20_2).f1) < (x3_2.length : Int)
            ·rw [if_pos c20] at H
             have c20b0 : decide (((rd_T61 t445 x20_2).f1) < (x3_2.length : Int)) = true := decide_eq_true c20
             clear c20
             obtain ⟨y450, hy450⟩ : ∃ y_ : List Int, y_ = (x3_2.set (((rd_T61 t445 x20_2).f1) : Int).toNat ((rd_T61 t445 x20_2).f2)) := ⟨_, rfl⟩
             replace H : (impl_committedValues.l1 k2 y450 t445 (t445.length : Int) (wrap64 (x20_2 + 1))) = some r := by first | (rw [hy450]; with_reducible exact H) | (have H2_ := (Option.bind_some _ _).symm.trans H; rw [hy450]; with_reducible exact H2_) | (have H2_ := (Option.bind_some _ _).symm.trans H; with_reducible exact H2_) | with_reducible exact H | (rw [hy450]; exact H) | exact H
             have Ny450 := Aside0.mk hy450
             clear hy450
             have H' := Aside0.mk H
             clear H
             have p448 : 0 ≤ (x20_2 : Int) := of_decide_eq_true qa
             have q448 : x20_2 < (t445.length : Int) := of_decide_eq_true qa
             obtain ⟨ad448, e448, hx448_0, hx448_1, hx448_2⟩ := at_T61 (Kd.R_reads' HO_18.out).2.2 x20_2 p448 q448
             cases e448
             replace p448 := eq_true p448
             replace q448 := eq_true q448
             go_wp2_with (first | ((with_reducible refine gate_dst (N := 6) rfl ?_); refine box_event ?hg (N := 6) ?hd (cs := #[.int .i64 0, .int .i64 0, .int .i64 0]) (t := 61) ?hr ?_; (case hd => rfl); (case hg => rfl); (case hr => first | (go_simp; done) | (go_simp; rfl)); intro gb449 hg w22 hbox hb; have n0_ := Aside0.mk (Kd.R_below (qR HO_3) hb); have n1_ := Aside0.mk (Kd.R_below (Kd.R_elderB (qR HO_18) gb449 (Nat.le_of_eq hg.symm)) hb); have n2_ := Aside0.mk (below_step (qB HB) hb); have n3_ := Aside0.mk (hbox); have n4_ := Aside0.mk ((by rw [hg]; exact (below_size (qB HB)) : w.heap.size ≤ gb449)); have n5_ := Aside0.mk ((by rw [hg]; exact (below_size (qB HB)) : w.heap.size ≤ gb449)); clear HO_3; clear HO_18; clear HB; have HO_3 := n0_; have HO_18 := n1_; have HB := n2_; have BK449 := n3_; have GW449 := n4_; have GE449 := n5_; clear n0_ n1_ n2_ n3_ n4_ n5_; clear hb hbox hg; have hcz23_0 : w22.cell? ⟨gb449, 0, none⟩ = some (.int .i64 0) := (blk_cell BK449.out 0).trans rfl; have hcz23_1 : w22.cell? ⟨gb449, 1, none⟩ = some (.int .i64 0) := (blk_cell BK449.out 1).trans rfl; have hcz23_2 : w22.cell? ⟨gb449, 2, none⟩ = some (.int .i64 0) := (blk_cell BK449.out 2).trans rfl; have hfz23_0 := blk_frozen BK449.out 0; have hfz23_1 := blk_frozen BK449.out 1; have hfz23_2 := blk_frozen BK449.out 2) | ((with_reducible refine gate_store (t := 61) (p := 6) rfl ?_); refine store_event (t := 61) (p := 6) (v := ?vo_w24) (w1 := (((w22.setCell ⟨gb449, 0, none⟩ (.int .i64 ((rd_T61 t445 x20_2).f0))).setCell ⟨gb449, 1, none⟩ (.int .i64 ((rd_T61 t445 x20_2).f1))).setCell ⟨gb449, 2, none⟩ (.int .i64 ((rd_T61 t445 x20_2).f2)))) ?hg ?ho ?hn ?hr ?_; (case ho => rfl); (case hg => rfl); (case hn => rfl); (case hr => first | (go_simp; done) | (go_simp; rfl)); intro w24 hw; have n0_ : Aside0 (Kd.R (Kd.int .i64) 3 w24 w.heap.size (fun _ => True) (.slice Ao5 x3_2.length co5) x3_2) := ⟨(by rw [hw]; exact (by exact uR (Kd.R_mono (Kd.R_far (p := ⟨gb449, 2, none⟩) (Kd.R_far (p := ⟨gb449, 1, none⟩) (Kd.R_far (p := ⟨gb449, 0, none⟩) (Kd.R_types HO_3.out BK449.out (by decide)) (fun _ hk => hk.2) (.int .i64 ((rd_T61 t445 x20_2).f0))) (fun _ hk => hk.2) (.int .i64 ((rd_T61 t445 x20_2).f1))) (fun _ hk => hk.2) (.int .i64 ((rd_T61 t445 x20_2).f2))) (fun _ hk => trivial))))⟩; have n1_ : Aside0 (Kd.R k61 61 w24 w.heap.size (fun k_ => k_ ≠ gb449) (.slice (some ad448) t445.length co14) t445) := ⟨(by rw [hw]; exact (by exact uR (Kd.R_mono (Kd.R_far (p := ⟨gb449, 2, none⟩) (Kd.R_far (p := ⟨gb449, 1, none⟩) (Kd.R_far (p := ⟨gb449, 0, none⟩) (Kd.R_mono HO_18.out (fun k_ hk => (⟨hk, hk.2⟩ : _ ∧ k_ ≠ gb449))) (fun _ hk => hk.2) (.int .i64 ((rd_T61 t445 x20_2).f0))) (fun _ hk => hk.2) (.int .i64 ((rd_T61 t445 x20_2).f1))) (fun _ hk => hk.2) (.int .i64 ((rd_T61 t445 x20_2).f2))) (fun _ hk => hk.1.2))))⟩; have n2_ : Aside0 (w24.heap[gb449]? = some (.cells #[.int .i64 ((rd_T61 t445 x20_2).f0), .int .i64 ((rd_T61 t445 x20_2).f1), .int .i64 ((rd_T61 t445 x20_2).f2)] 61 (0, 0))) := ⟨(by rw [hw]; exact (by (with_reducible repeat (first | refine blk_drewN ?_ _ | refine blk_drew ?_ | refine blk_alloc ?_ _)); refine blk_put (cs := #[.int .i64 ((rd_T61 t445 x20_2).f0), .int .i64 ((rd_T61 t445 x20_2).f1), .int .i64 0]) ?_ 2 _ rfl; (with_reducible repeat (first | refine blk_drewN ?_ _ | refine blk_drew ?_ | refine blk_alloc ?_ _)); refine blk_put (cs := #[.int .i64 ((rd_T61 t445 x20_2).f0), .int .i64 0, .int .i64 0]) ?_ 1 _ rfl; (with_reducible repeat (first | refine blk_drewN ?_ _ | refine blk_drew ?_ | refine blk_alloc ?_ _)); refine blk_put (cs := #[.int .i64 0, .int .i64 0, .int .i64 0]) ?_ 0 _ rfl; (with_reducible repeat (first | refine blk_drewN ?_ _ | refine blk_drew ?_ | refine blk_alloc ?_ _)); exact BK449.out))⟩; have n3_ : Aside0 (Below w.heap.size w w24) := ⟨(by rw [hw]; exact (qT HB GE449))⟩; clear hw; clear HO_3; clear HO_18; clear BK449; clear HB; have HO_3 := n0_; have HO_18 := n1_; have BK449 := n2_; have HB := n3_; clear n0_ n1_ n2_ n3_; have hcz25_0 : w24.cell? ⟨gb449, 0, none⟩ = some (.int .i64 ((rd_T61 t445 x20_2).f0)) := (blk_cell BK449.out 0).trans rfl; have hcz25_1 : w24.cell? ⟨gb449, 1, none⟩ = some (.int .i64 ((rd_T61 t445 x20_2).f1)) := (blk_cell BK449.out 1).trans rfl; have hcz25_2 : w24.cell? ⟨gb449, 2, none⟩ = some (.int .i64 ((rd_T61 t445 x20_2).f2)) := (blk_cell BK449.out 2).trans rfl; have hfz25_0 := blk_frozen BK449.out 0; have hfz25_1 := blk_frozen BK449.out 1; have hfz25_2 := blk_frozen BK449.out 2; have p21 : 0 ≤ (((rd_T61 t445 x20_2).f1) : Int) := of_decide_eq_true qa; have q21 : (((rd_T61 t445 x20_2).f1) : Int) < ((x3_2.length : Int) : Int) := of_decide_eq_true qa; obtain ⟨go21, co21, eo21, gb21, gl21, cl21, HG21⟩ := Kd.R_form HO_3.out (by omega); (first | cases eo21 | (injection eo21 with ea_ en_ ec_; (first | subst ea_ | (injection ea_ with ea_; subst ea_)); subst ec_; clear en_)); have GB21 := Aside0.mk gb21; have GG21 := Aside0.mk HG21; clear gb21 gl21 HG21; obtain ⟨hx21_0, hf21_0⟩ := Kd.R_celln 0 HO_3.out (((rd_T61 t445 x20_2).f1) : Int) p21 q21; replace p21 := eq_true p21; replace q21 := eq_true q21; obtain ⟨hy26_, hz26_⟩ := Kd.R_celln 0 HO_3.out (((rd_T61 t445 x20_2).f1) : Int) (of_decide_eq_true qa) (of_decide_eq_true qa); have HP26 := Kd.R_putg HO_3.out (((rd_T61 t445 x20_2).f1) : Int) ((rd_T61 t445 x20_2).f2)) | ((with_reducible refine gate_store (t := 3) (p := 32) rfl ?_); refine store_event (t := 3) (p := 32) (v := ?vo_w27) (w1 := (w24.setCell ⟨go21, (((rd_T61 t445 x20_2).f1) : Int).toNat, none⟩ (.int .i64 ((rd_T61 t445 x20_2).f2)))) ?hg ?ho ?hn ?hr ?_; (case ho => rfl); (case hg => rfl); (case hn => rfl); (case hr => first | (go_simp; done) | (go_simp; rfl)); intro w27 hw; have hg : w24.grownBy w27 (some go21) := (by rw [hw]; exact HP26.2); have hp_ : Kd.R (Kd.int .i64) 3 w27 w.heap.size (fun _ => True) (.slice (some ⟨go21, 0, none⟩) x3_2.length co5) y450 := (by rw [hw, Ny450.out]; exact HP26.1); clear HP26; have n0_ := Aside0.mk (hp_); have n1_ := Aside0.mk (Kd.R_over' (v := (.slice (some ⟨go21, 0, none⟩) x3_2.length co5)) (qR HO_18) (Kd.R_typed HO_3.out) (by decide) hg); have n2_ := Aside0.mk (blk_grown (g := gb449) (o := .cells #[.int .i64 ((rd_T61 t445 x20_2).f0), .int .i64 ((rd_T61 t445 x20_2).f1), .int .i64 ((rd_T61 t445 x20_2).f2)] 61 (0, 0)) (qK BK449) hg (Kd.R_ne HO_3.out BK449.out (by decide))); have n3_ := Aside0.mk ((by rw [hw]; exact below_set (HB.out) GB21.out : Below w.heap.size w w27)); clear HO_3; clear HO_18; clear BK449; clear HB; have HO_3 := n0_; have HO_18 := n1_; have BK449 := n2_; have HB := n3_; clear n0_ n1_ n2_ n3_; clear hg hw hp_))
             (try simp only [← hl3_2])
             go_roundg k2
             case measure => have := HK1.out; have := HK2.out; omega
             case rel => exact ⟨(y450), (wrap64 (x20_2 + 1)), qs, H', ⟨by have := HK1.out; have := HK2.out; omega⟩, ⟨by (try simp only [hl3_1]); (try simp only [hl3_2]); exact uR (HO_3.out)⟩, ⟨by (try simp only [hl3_1]); (try simp only [hl3_2]); exact uR (Kd.R_mono HO_18.out (fun _ hk => trivial))⟩, ⟨qT HB GE449⟩⟩
            ·rw [if_neg c20] at H
             exact absurd H (by simp)
           ·rw [if_neg c19] at H
            exact absurd H (by simp)
          ·rw [if_neg c18] at H
           have c18b0 : (((rd_T61 t445 x20_2).f0) == 1) = false := beq_eq_false_iff_ne.mpr c18
           have c18b1 : (((rd_T61 t445 x20_2).f0) != 1) = true := bne_iff_ne.mpr c18
           have H' := Aside0.mk H
           clear H
           have p448 : 0 ≤ (x20_2 : Int) := of_decide_eq_true qa
           have q448 : x20_2 < (t445.length : Int) := of_decide_eq_true qa
           obtain ⟨ad448, e448, hx448_0, hx448_1, hx448_2⟩ := at_T61 (Kd.R_reads' HO_18.out).2.2 x20_2 p448 q448
           cases e448
           replace p448 := eq_true p448
           replace q448 := eq_true q448
           go_wp2_with (first | ((with_reducible refine gate_dst (N := 6) rfl ?_); refine box_event ?hg (N := 6) ?hd (cs := #[.int .i64 0, .int .i64 0, .int .i64 0]) (t := 61) ?hr ?_; (case hd => rfl); (case hg => rfl); (case hr => first | (go_simp; done) | (go_simp; rfl)); intro gb449 hg w28 hbox hb; have n0_ := Aside0.mk (Kd.R_below (qR HO_3) hb); have n1_ := Aside0.mk (Kd.R_below (Kd.R_elderB (qR HO_18) gb449 (Nat.le_of_eq hg.symm)) hb); have n2_ := Aside0.mk (below_step (qB HB) hb); have n3_ := Aside0.mk (hbox); have n4_ := Aside0.mk ((by rw [hg]; exact (below_size (qB HB)) : w.heap.size ≤ gb449)); have n5_ := Aside0.mk ((by rw [hg]; exact (below_size (qB HB)) : w.heap.size ≤ gb449)); clear HO_3; clear HO_18; clear HB; have HO_3 := n0_; have HO_18 := n1_; have HB := n2_; have BK449 := n3_; have GW449 := n4_; have GE449 := n5_; clear n0_ n1_ n2_ n3_ n4_ n5_; clear hb hbox hg; have hcz29_0 : w28.cell? ⟨gb449, 0, none⟩ = some (.int .i64 0) := (blk_cell BK449.out 0).trans rfl; have hcz29_1 : w28.cell? ⟨gb449, 1, none⟩ = some (.int .i64 0) := (blk_cell BK449.out 1).trans rfl; have hcz29_2 : w28.cell? ⟨gb449, 2, none⟩ = some (.int .i64 0) := (blk_cell BK449.out 2).trans rfl; have hfz29_0 := blk_frozen BK449.out 0; have hfz29_1 := blk_frozen BK449.out 1; have hfz29_2 := blk_frozen BK449.out 2))
           (try simp only [← hl3_2])
           go_roundg k2
           case measure => have := HK1.out; have := HK2.out; omega
           case rel => exact ⟨(x3_2), (wrap64 (x20_2 + 1)), qs, H', ⟨by have := HK1.out; have := HK2.out; omega⟩, ⟨by (try simp only [hl3_1]); (try simp only [hl3_2]); exact uR (Kd.R_mono (Kd.R_far (p := ⟨gb449, 2, none⟩) (Kd.R_far (p := ⟨gb449, 1, none⟩) (Kd.R_far (p := ⟨gb449, 0, none⟩) (Kd.R_types HO_3.out BK449.out (by decide)) (fun _ hk => hk.2) (.int .i64 ((rd_T61 t445 x20_2).f0))) (fun _ hk => hk.2) (.int .i64 ((rd_T61 t445 x20_2).f1))) (fun _ hk => hk.2) (.int .i64 ((rd_T61 t445 x20_2).f2))) (fun _ hk => trivial))⟩, ⟨by (try simp only [hl3_1]); (try simp only [hl3_2]); exact uR (Kd.R_mono (Kd.R_far (p := ⟨gb449, 2, none⟩) (Kd.R_far (p := ⟨gb449, 1, none⟩) (Kd.R_far (p := ⟨gb449, 0, none⟩) (Kd.R_mono HO_18.out (fun k_ hk => (⟨hk, hk.2⟩ : _ ∧ k_ ≠ gb449))) (fun _ hk => hk.2) (.int .i64 ((rd_T61 t445 x20_2).f0))) (fun _ hk => hk.2) (.int .i64 ((rd_T61 t445 x20_2).f1))) (fun _ hk => hk.2) (.int .i64 ((rd_T61 t445 x20_2).f2))) (fun _ hk => trivial))⟩, ⟨qT HB GE449⟩⟩
         ·rw [if_neg c17] at H
          exact absurd H (by simp)
        ·rw [if_neg c16] at H
         exact absurd H (by simp)
       ·rw [if_neg c15] at H
        have c15b0 : decide (x20_2 < (t445.length : Int)) = false := decide_eq_false c15
        clear c15
        obtain rfl := Option.some.inj H
        go_wp2
        go_ret
        exact ⟨_, qe, qR HO_3, qB HB⟩
 ·rw [if_neg c2] at H
  exact absurd H (by simp)

/-! ### impl_LostAfterCut: function 36 -/
mutual
def impl_LostAfterCut.j0 : Nat → List (S61) → Int → Bool → Option (Int × Bool)
 | 0, _, _, _ => none
 | k + 1, x0, x1, x21 => if x21 = true then (some (0, false)) else ((impl_journalNumbers.f k x0).bind fun t452 => ((impl_committedValues.f k x0).bind fun t455 => (if 0 ≤ (mn x1 (t452.length : Int)) then (if (mn x1 (t452.length : Int)) ≤ (t452.length : Int) then ((impl_recovered.f k (t452.take ((mn x1 (t452.length : Int)) : Int).toNat)).bind fun t462 => ((impl_committedValues.f k t462).bind fun t465 => (impl_LostAfterCut.l0 k t455 0 t465 (t465.length : Int) 0))) else (none)) else (none))))
def impl_LostAfterCut.l0 : Nat → List Int → Int → List Int → Int → Int → Option (Int × Bool)
 | 0, _, _, _, _, _ => none
 | k + 1, x7, x8, x33, x34, x35 => if x35 < x34 then (if 0 ≤ x35 then (if x35 < (x33.length : Int) then (if x35 < (x7.length : Int) then (if (rd x33 x35) = (rd x7 x35) then (impl_LostAfterCut.l0 k x7 x8 x33 x34 (wrap64 (x35 + 1))) else (impl_LostAfterCut.l0 k x7 (wrap64 (x8 + 1)) x33 x34 (wrap64 (x35 + 1)))) else (none)) else (none)) else (none)) else (some (x8, true))
end
def impl_LostAfterCut.f (k : Nat) (l0 : List (S61)) (a1 : Int) : Option (Int × Bool) := (impl_areRecords.f k l0).bind fun t451 => (if t451 = true then (if a1 < 0 then (impl_LostAfterCut.j0 k l0 a1 true) else (impl_LostAfterCut.j0 k l0 a1 (decide (a1 > 200)))) else (impl_LostAfterCut.j0 k l0 a1 true))
theorem impl_LostAfterCut.mono_l : ∀ k, (∀ y0 y1 y2, LeO (impl_LostAfterCut.j0 k y0 y1 y2) (impl_LostAfterCut.j0 (k + 1) y0 y1 y2)) ∧ (∀ y0 y1 y2 y3 y4, LeO (impl_LostAfterCut.l0 k y0 y1 y2 y3 y4) (impl_LostAfterCut.l0 (k + 1) y0 y1 y2 y3 y4))
 | 0 => ⟨fun _ _ _ r h => by simp [impl_LostAfterCut.j0] at h, fun _ _ _ _ _ r h => by simp [impl_LostAfterCut.l0] at h⟩
 | k + 1 => by
  obtain ⟨ih0, ih1⟩ := impl_LostAfterCut.mono_l k
  refine ⟨?_, ?_⟩
  ·intro y0 y1 y2
   unfold impl_LostAfterCut.j0
   repeat' first | (with_reducible first | exact ih0 _ _ _ | exact ih1 _ _ _ _ _ | exact impl_areRecords.mono _ _ | exact impl_committedValues.mono _ _ | exact impl_journalNumbers.mono _ _ | exact impl_recovered.mono _ _ | exact LeO.refl _ | exact LeO.none _ | refine LeO.ite ?_ ?_ | refine LeO.bind ?_ (fun _ => ?_)) | exact ih0 _ _ _ | exact ih1 _ _ _ _ _ | exact impl_areRecords.mono _ _ | exact impl_committedValues.mono _ _ | exact impl_journalNumbers.mono _ _ | exact impl_recovered.mono _ _ | exact LeO.none _ | refine LeO.ite ?_ ?_ | refine LeO.bind ?_ (fun _ => ?_)
  ·intro y0 y1 y2 y3 y4
   unfold impl_LostAfterCut.l0
   repeat' first | (with_reducible first | exact ih0 _ _ _ | exact ih1 _ _ _ _ _ | exact impl_areRecords.mono _ _ | exact impl_committedValues.mono _ _ | exact impl_journalNumbers.mono _ _ | exact impl_recovered.mono _ _ | exact LeO.refl _ | exact LeO.none _ | refine LeO.ite ?_ ?_ | refine LeO.bind ?_ (fun _ => ?_)) | exact ih0 _ _ _ | exact ih1 _ _ _ _ _ | exact impl_areRecords.mono _ _ | exact impl_committedValues.mono _ _ | exact impl_journalNumbers.mono _ _ | exact impl_recovered.mono _ _ | exact LeO.none _ | refine LeO.ite ?_ ?_ | refine LeO.bind ?_ (fun _ => ?_)
theorem impl_LostAfterCut.mono : ∀ a0 a1 k, LeO (impl_LostAfterCut.f k a0 a1) (impl_LostAfterCut.f (k + 1) a0 a1) := by
 intro a0 a1 k
 obtain ⟨ih0, ih1⟩ := impl_LostAfterCut.mono_l k
 unfold impl_LostAfterCut.f
 repeat' first | (with_reducible first | exact ih0 _ _ _ | exact ih1 _ _ _ _ _ | exact impl_areRecords.mono _ _ | exact impl_committedValues.mono _ _ | exact impl_journalNumbers.mono _ _ | exact impl_recovered.mono _ _ | exact LeO.refl _ | exact LeO.none _ | refine LeO.ite ?_ ?_ | refine LeO.bind ?_ (fun _ => ?_)) | exact ih0 _ _ _ | exact ih1 _ _ _ _ _ | exact impl_areRecords.mono _ _ | exact impl_committedValues.mono _ _ | exact impl_journalNumbers.mono _ _ | exact impl_recovered.mono _ _ | exact LeO.none _ | refine LeO.ite ?_ ?_ | refine LeO.bind ?_ (fun _ => ?_)
set_option maxHeartbeats 8000000 in
set_option maxRecDepth 100000 in
theorem impl_LostAfterCut.calls (k : Nat) (A0 : Option Addr) (c0 : Nat) (l0 : List (S61)) (a1 : Int) (r1 : Int) (r2 : Bool) (w : World) (hr0 : Kd.C k61 w A0 l0.length l0) (hc0 : l0.length ≤ c0) (h : impl_LostAfterCut.f k l0 a1 = some (r1, r2)) :
  Calls Try.prog 36 #[.slice A0 l0.length c0, .int .i64 a1] w fun e w' => e = .returned (.tuple #[.int .i64 r1, .bool r2]) ∧ Below w.heap.size w w' := by
 have HR0 := Aside0.mk hr0
 have HC0 := Aside0.mk hc0
 clear hr0 hc0
 have HB := Aside0.mk (Below.refl w.heap.size w)
 have H : ((impl_areRecords.f k l0).bind fun t451 => (if t451 = true then (if a1 < 0 then (impl_LostAfterCut.j0 k l0 a1 true) else (impl_LostAfterCut.j0 k l0 a1 (decide (a1 > 200)))) else (impl_LostAfterCut.j0 k l0 a1 true))) = some (r1, r2) := h
 clear h
 have HC3 := Aside0.mk H
 clear H
 go_enter Try.func36, Try.ntmps36
 go_upto_region 1 with (fail)
 go_cut [21] (fun v21 wc => ∃ (kq : Nat) (x21_2 : Bool), v21 = .bool x21_2 ∧ Aside0 (impl_LostAfterCut.j0 kq l0 a1 x21_2 = some (r1, r2)) ∧ Aside0 (kq ≤ k) ∧ Aside0 (Below w.heap.size w wc))
 case first =>
  have H := HC3.out
  clear HC3
  replace H := Option.bind_eq_some_iff.mp H
  obtain ⟨t451, A40, H⟩ := H
  replace H : (if t451 = true then (if a1 < 0 then (impl_LostAfterCut.j0 k l0 a1 true) else (impl_LostAfterCut.j0 k l0 a1 (decide (a1 > 200)))) else (impl_LostAfterCut.j0 k l0 a1 true)) = some (r1, r2) := H
  have A4 := Aside0.mk A40
  clear A40
  by_cases c5 : t451 = true
  ·subst c5
   rw [if_pos rfl] at H
   by_cases c6 : a1 < 0
   ·rw [if_pos c6] at H
    have c6b0 : decide (a1 < 0) = true := decide_eq_true c6
    clear c6
    (first | rw [c6b0] | (simp only [i64_w, i32_w]; rw [c6b0]) | skip)
    have H' := Aside0.mk H
    clear H
    go_wp2_with (first | ((with_reducible refine gate_callee (f := 137) rfl ?_); refine goesL_ (some 12) rfl rfl Try.func137 (by kernel_rfl) rfl #[.slice A0 l0.length c0] rfl qA ?_; (with_reducible refine (impl_areRecords.calls k _ _ l0 true _ ?side1 ?side2 A4.out).mono ?_); (case side1 => exact uC (Kd.C_below HR0.out HB.out)); (case side2 => exact HC0.out); rintro e w7 ⟨rfl, hb⟩; refine ⟨_, rfl, ?_⟩; have n0_ := Aside0.mk (below_step (qB HB) hb); clear HB; have HB := n0_; clear n0_; (try clear hb); (try clear hb2); (try clear hk); (try clear hi)))
    go_meet
    case rel => exact ⟨_, (true), qs, H', ⟨by first | omega | exact Nat.le_refl _⟩, ⟨qB HB⟩⟩
   ·rw [if_neg c6] at H
    have c6b0 : decide (a1 < 0) = false := decide_eq_false c6
    clear c6
    (first | rw [c6b0] | (simp only [i64_w, i32_w]; rw [c6b0]) | skip)
    have H' := Aside0.mk H
    clear H
    go_wp2_with (first | ((with_reducible refine gate_callee (f := 137) rfl ?_); refine goesL_ (some 12) rfl rfl Try.func137 (by kernel_rfl) rfl #[.slice A0 l0.length c0] rfl qA ?_; (with_reducible refine (impl_areRecords.calls k _ _ l0 true _ ?side1 ?side2 A4.out).mono ?_); (case side1 => exact uC (Kd.C_below HR0.out HB.out)); (case side2 => exact HC0.out); rintro e w8 ⟨rfl, hb⟩; refine ⟨_, rfl, ?_⟩; have n0_ := Aside0.mk (below_step (qB HB) hb); clear HB; have HB := n0_; clear n0_; (try clear hb); (try clear hb2); (try clear hk); (try clear hi)))
    go_meet
    case rel => exact ⟨_, (decide (a1 > 200)), qs, H', ⟨by first | omega | exact Nat.le_refl _⟩, ⟨qB HB⟩⟩
  ·replace c5 := Bool.eq_false_iff.mpr c5
   subst c5
   rw [if_neg (show ¬ (false = true) by decide)] at H
   have H' := Aside0.mk H
   clear H
   go_wp2_with (first | ((with_reducible refine gate_callee (f := 137) rfl ?_); refine goesL_ (some 12) rfl rfl Try.func137 (by kernel_rfl) rfl #[.slice A0 l0.length c0] rfl qA ?_; (with_reducible refine (impl_areRecords.calls k _ _ l0 false _ ?side1 ?side2 A4.out).mono ?_); (case side1 => exact uC (Kd.C_below HR0.out HB.out)); (case side2 => exact HC0.out); rintro e w9 ⟨rfl, hb⟩; refine ⟨_, rfl, ?_⟩; have n0_ := Aside0.mk (below_step (qB HB) hb); clear HB; have HB := n0_; clear n0_; (try clear hb); (try clear hb2); (try clear hk); (try clear hi)))
   go_meet
   case rel => exact ⟨_, (true), qs, H', ⟨by first | omega | exact Nat.le_refl _⟩, ⟨qB HB⟩⟩
 case rest =>
  clear HC3
  try clear c1
  try clear p2
  try clear c3
  try clear c5
  try clear c6
  try clear c6b0
  obtain ⟨kq, x21_2, rfl, HA, HJ2, HB⟩ := hcut
  cases kq with
  | zero => exact absurd HA.out (by simp [impl_LostAfterCut.j0])
  | succ kj2 =>
   have H := HA.out
   clear HA
   simp only [impl_LostAfterCut.j0] at H
   by_cases c10 : x21_2 = true
   ·subst c10
    rw [if_pos rfl] at H
    simp only [Option.some.injEq, Prod.mk.injEq] at H
    obtain ⟨rfl, rfl⟩ := H
    go_wp2
    go_ret2
    exact ⟨qe, qB HB⟩
   ·replace c10 := Bool.eq_false_iff.mpr c10
    subst c10
    rw [if_neg (show ¬ (false = true) by decide)] at H
    replace H := Option.bind_eq_some_iff.mp H
    obtain ⟨t452, A110, H⟩ := H
    replace H : ((impl_committedValues.f kj2 l0).bind fun t455 => (if 0 ≤ (mn a1 (t452.length : Int)) then (if (mn a1 (t452.length : Int)) ≤ (t452.length : Int) then ((impl_recovered.f kj2 (t452.take ((mn a1 (t452.length : Int)) : Int).toNat)).bind fun t462 => ((impl_committedValues.f kj2 t462).bind fun t465 => (impl_LostAfterCut.l0 kj2 t455 0 t465 (t465.length : Int) 0))) else (none)) else (none))) = some (r1, r2) := H
    have A11 := Aside0.mk A110
    clear A110
    replace H := Option.bind_eq_some_iff.mp H
    obtain ⟨t455, A120, H⟩ := H
    replace H : (if 0 ≤ (mn a1 (t452.length : Int)) then (if (mn a1 (t452.length : Int)) ≤ (t452.length : Int) then ((impl_recovered.f kj2 (t452.take ((mn a1 (t452.length : Int)) : Int).toNat)).bind fun t462 => ((impl_committedValues.f kj2 t462).bind fun t465 => (impl_LostAfterCut.l0 kj2 t455 0 t465 (t465.length : Int) 0))) else (none)) else (none)) = some (r1, r2) := H
    have A12 := Aside0.mk A120
    clear A120
    obtain ⟨ji13, hji13⟩ : ∃ j_ : Int, (mn a1 (t452.length : Int)) = j_ := ⟨_, rfl⟩
    replace H : (if 0 ≤ (ji13) then (if (ji13) ≤ (t452.length : Int) then ((impl_recovered.f kj2 (t452.take ((ji13) : Int).toNat)).bind fun t462 => ((impl_committedValues.f kj2 t462).bind fun t465 => (impl_LostAfterCut.l0 kj2 t455 0 t465 (t465.length : Int) 0))) else (none)) else (none)) = some (r1, r2) := by first | (rw [hji13] at H; exact H) | (simp only [hji13] at H ⊢; exact H)
    (try rw [hji13] at A11)
    (try rw [hji13] at A12)
    have hji13_ : (if (t452.length : Int) < a1 then (t452.length : Int) else a1) = ji13 := hji13
    by_cases c14 : 0 ≤ (ji13)
    ·rw [if_pos c14] at H
     have c14b0 := eq_true c14
     have c14b1 : decide (0 ≤ (ji13)) = true := decide_eq_true c14
     clear c14
     by_cases c15 : (ji13) ≤ (t452.length : Int)
     ·rw [if_pos c15] at H
      have c15b0 := eq_true c15
      have c15b1 : decide ((ji13) ≤ (t452.length : Int)) = true := decide_eq_true c15
      clear c15
      obtain ⟨y458, hy458⟩ : ∃ y_ : List Int, y_ = (t452.take ((ji13) : Int).toNat) := ⟨_, rfl⟩
      replace H : ((impl_recovered.f kj2 y458).bind fun t462 => ((impl_committedValues.f kj2 t462).bind fun t465 => (impl_LostAfterCut.l0 kj2 t455 0 t465 (t465.length : Int) 0))) = some (r1, r2) := by first | (rw [hy458]; with_reducible exact H) | (have H2_ := (Option.bind_some _ _).symm.trans H; rw [hy458]; with_reducible exact H2_) | (have H2_ := (Option.bind_some _ _).symm.trans H; with_reducible exact H2_) | with_reducible exact H | (rw [hy458]; exact H) | exact H
      have Ny458 := Aside0.mk hy458
      clear hy458
      replace H := Option.bind_eq_some_iff.mp H
      obtain ⟨t462, A160, H⟩ := H
      replace H : ((impl_committedValues.f kj2 t462).bind fun t465 => (impl_LostAfterCut.l0 kj2 t455 0 t465 (t465.length : Int) 0)) = some (r1, r2) := H
      have A16 := Aside0.mk A160
      clear A160
      replace H := Option.bind_eq_some_iff.mp H
      obtain ⟨t465, A170, H⟩ := H
      replace H : (impl_LostAfterCut.l0 kj2 t455 0 t465 (t465.length : Int) 0) = some (r1, r2) := H
      have A17 := Aside0.mk A170
      clear A170
      have H' := Aside0.mk H
      clear H
      go_wp2_with (first | ((with_reducible refine gate_callee (f := 138) rfl ?_); refine goesL_ (some 23) rfl rfl Try.func138 (by kernel_rfl) rfl #[.slice A0 l0.length c0] rfl qA ?_; (with_reducible refine (impl_journalNumbers.calls kj2 _ _ l0 t452 _ ?side1 ?side2 A11.out).mono ?_); (case side1 => exact uC (Kd.C_below HR0.out HB.out)); (case side2 => exact HC0.out); rintro e w18 ⟨v453, rfl, ho0, hb⟩; refine ⟨_, rfl, ?_⟩; have n0_ := Aside0.mk (Kd.R_lower ho0 (below_size (qB HB))); have n1_ := Aside0.mk (below_step (qB HB) hb); clear HB; have HO454 := n0_; have HB := n1_; clear n0_ n1_; (try clear hb); (try clear hb2); (try clear hk); (try clear hi); (try clear ho0)) | ((with_reducible refine gate_callee (f := 139) rfl ?_); refine goesL_ (some 25) rfl rfl Try.func139 (by kernel_rfl) rfl #[.slice A0 l0.length c0] rfl qA ?_; (with_reducible refine (impl_committedValues.calls kj2 _ _ l0 t455 _ ?side1 ?side2 A12.out).mono ?_); (case side1 => exact uC (Kd.C_below HR0.out HB.out)); (case side2 => exact HC0.out); rintro e w19 ⟨v456, rfl, ho0, hb⟩; refine ⟨_, rfl, ?_⟩; have n0_ := Aside0.mk (Kd.R_elder' (qR HO454) (Kd.R_base ho0) hb); have n1_ := Aside0.mk (Kd.R_lower (Kd.R_new' ho0 (Kd.R_lt (qR HO454))) (below_size (qB HB))); have n2_ := Aside0.mk (below_step (qB HB) hb); clear HO454; clear HB; have HO454 := n0_; have HO457 := n1_; have HB := n2_; clear n0_ n1_ n2_; (try clear hb); (try clear hb2); (try clear hk); (try clear hi); (try clear ho0); obtain ⟨Ao20, co20, eo20⟩ := Kd.R_slice HO454.out; subst eo20; have q21 : ((ji13) : Int) ≤ ((t452.length : Int) : Int) := of_decide_eq_true qa; obtain ⟨i021, hi021, _, hsz21, _⟩ := info_parts info3; have hroom21 : t452.length ≤ co20 := (Kd.R_reads' HO454.out).2.1; have hC21 : Kd.C (Kd.int .i64) _ Ao20 t452.length t452 := (Kd.R_reads' HO454.out).2.2; have hcut21 := cut_to (P := Try.prog) 23 3 .i64 Try.underlying23 hi021 Ao20 t452.length co20 (ji13) (of_decide_eq_true qa) q21 hroom21; have hr21 := Kd.C_take (m := ((ji13) : Int).toNat) hC21 (by omega); have hy21 : y458.length = ((ji13) : Int).toNat := (by rw [Ny458.out, List.length_take]; omega); rw [← Ny458.out] at hr21; rw [← hy21] at hcut21; have HR461 := Aside0.mk hr21; have HC461 := Aside0.mk (show y458.length ≤ co20 from by omega); clear hr21 hC21 hroom21 hi021 hsz21; have KY21 := Aside0.mk hy21; clear hy21; have KL21 := Aside0.mk (show ((ji13) : Int).toNat ≤ t452.length from by omega); replace q21 := eq_true q21) | ((with_reducible refine gate_callee (f := 133) rfl ?_); refine goesL_ (some 32) rfl rfl Try.func133 (by kernel_rfl) rfl #[.slice Ao20 y458.length co20] rfl qA ?_; (with_reducible refine (impl_recovered.calls kj2 _ _ y458 t462 _ ?side1 ?side2 A16.out).mono ?_); (case side1 => repeat (first | exact (by repeat (first | (with_reducible exact HR461.out) | (with_reducible refine Kd.C_alloc ?_ _) | (with_reducible refine Kd.C_drewN ?_ _) | (with_reducible refine Kd.C_drew ?_) | exact HR461.out)) | (with_reducible refine Kd.C_alloc ?_ _) | (with_reducible refine Kd.C_drewN ?_ _) | (with_reducible refine Kd.C_drew ?_))); (case side2 => exact HC461.out); rintro e w22 ⟨v463, rfl, ho0, hb⟩; refine ⟨_, rfl, ?_⟩; have n0_ := Aside0.mk (Kd.R_below (qR HO454) hb); have n1_ := Aside0.mk (Kd.R_below (qR HO457) hb); have n2_ := Aside0.mk (Kd.R_lower ho0 (below_size (qB HB))); have n3_ := Aside0.mk (Kd.C_below (by repeat (first | (with_reducible exact HR461.out) | (with_reducible refine Kd.C_alloc ?_ _) | (with_reducible refine Kd.C_drewN ?_ _) | (with_reducible refine Kd.C_drew ?_) | exact HR461.out)) hb); have n4_ := Aside0.mk (below_step (qB HB) hb); clear HO454; clear HO457; clear HR461; clear HB; have HO454 := n0_; have HO457 := n1_; have HO464 := n2_; have HR461 := n3_; have HB := n4_; clear n0_ n1_ n2_ n3_ n4_; (try clear hb); (try clear hb2); (try clear hk); (try clear hi); (try clear ho0); obtain ⟨Ao23, co23, eo23⟩ := Kd.R_slice HO464.out; subst eo23) | ((with_reducible refine gate_callee (f := 139) rfl ?_); refine goesL_ (some 33) rfl rfl Try.func139 (by kernel_rfl) rfl #[.slice Ao23 t462.length co23] rfl qA ?_; (with_reducible refine (impl_committedValues.calls kj2 _ _ t462 t465 _ ?side1 ?side2 A17.out).mono ?_); (case side1 => exact uC (Kd.R_reads' HO464.out).2.2); (case side2 => exact (Kd.R_reads' HO464.out).2.1); rintro e w24 ⟨v466, rfl, ho0, hb⟩; refine ⟨_, rfl, ?_⟩; have n0_ := Aside0.mk (Kd.R_elder' (qR HO454) (Kd.R_base ho0) hb); have n1_ := Aside0.mk (Kd.R_elder' (qR HO457) (Kd.R_base ho0) hb); have n2_ := Aside0.mk (Kd.R_below (qR HO464) hb); have n3_ := Aside0.mk (Kd.R_lower (Kd.R_new' (Kd.R_new' ho0 (Kd.R_lt (qR HO454))) (Kd.R_lt (qR HO457))) (below_size (qB HB))); have n4_ := Aside0.mk (Kd.C_below (by repeat (first | (with_reducible exact HR461.out) | (with_reducible refine Kd.C_alloc ?_ _) | (with_reducible refine Kd.C_drewN ?_ _) | (with_reducible refine Kd.C_drew ?_) | exact HR461.out)) hb); have n5_ := Aside0.mk (below_step (qB HB) hb); clear HO454; clear HO457; clear HO464; clear HR461; clear HB; have HO454 := n0_; have HO457 := n1_; have HO464 := n2_; have HO467 := n3_; have HR461 := n4_; have HB := n5_; clear n0_ n1_ n2_ n3_ n4_ n5_; (try clear hb); (try clear hb2); (try clear hk); (try clear hi); (try clear ho0); obtain ⟨Ao25, co25, eo25⟩ := Kd.R_slice HO467.out; subst eo25))
      go_loopg [8, 35] kj2 (fun kq v8 v35 w' => ∃ (x8_2 : Int) (x35_2 : Int), v8 = .int .i64 x8_2 ∧ v35 = .int .i64 x35_2 ∧ Aside0 (impl_LostAfterCut.l0 kq t455 x8_2 t465 (t465.length : Int) x35_2 = some (r1, r2)) ∧ Aside0 (kq ≤ kj2) ∧ Aside0 (Kd.R (Kd.int .i64) 3 w' w.heap.size (fun k_ => some k_ ≠ ((.slice Ao25 t465.length co25) : Value).ownBlock) v456 t455) ∧ Aside0 (Kd.R (Kd.int .i64) 3 w' w.heap.size (fun k_ => some k_ ≠ (v456 : Value).ownBlock) (.slice Ao25 t465.length co25) t465) ∧ Aside0 (Kd.C (Kd.int .i64) w' Ao20 y458.length y458) ∧ Aside0 (Below w.heap.size w w'))
      case atStart => exact ⟨(0), (0), qs, qs, H', ⟨Nat.le_refl _⟩, ⟨by exact uR (Kd.R_mono HO457.out (fun _ hk => hk.2))⟩, ⟨by exact uR (Kd.R_mono HO467.out (fun _ hk => hk.2))⟩, ⟨by repeat (first | (with_reducible exact HR461.out) | (with_reducible refine Kd.C_alloc ?_ _) | (with_reducible refine Kd.C_drewN ?_ _) | (with_reducible refine Kd.C_drew ?_) | exact HR461.out)⟩, ⟨qB HB⟩⟩
      case round =>
       clear H'
       try clear c1
       try clear p2
       try clear q2
       try clear c3
       try clear c5
       try clear c6
       try clear c6b0
       try clear c10
       try clear c13
       try clear c14
       try clear c14b0
       try clear c14b1
       try clear c15
       try clear c15b0
       try clear c15b1
       try clear q21
       try clear p2
       try clear q21
       obtain ⟨x8_2, x35_2, rfl, rfl, HA, HK2, HO_7, HO_33, HR461, HB⟩ := hrel
       cases gk with
       | zero => exact absurd HA.out (by simp [impl_LostAfterCut.l0])
       | succ k2 =>
        have H := HA.out
        clear HA
        simp only [impl_LostAfterCut.l0] at H
        by_cases c26 : x35_2 < (t465.length : Int)
        ·rw [if_pos c26] at H
         have c26b0 : decide (x35_2 < (t465.length : Int)) = true := decide_eq_true c26
         clear c26
         by_cases c27 : 0 ≤ x35_2
         ·rw [if_pos c27] at H
          have c27b0 : decide (0 ≤ x35_2) = true := decide_eq_true c27
          clear c27
          by_cases c28 : x35_2 < (t465.length : Int)
          ·rw [if_pos c28] at H
           have c28b0 : decide (x35_2 < (t465.length : Int)) = true := decide_eq_true c28
           clear c28
           by_cases c29 : x35_2 < (t455.length : Int)
           ·rw [if_pos c29] at H
            have c29b0 : decide (x35_2 < (t455.length : Int)) = true := decide_eq_true c29
            clear c29
            by_cases c30 : (rd t465 x35_2) = (rd t455 x35_2)
            ·rw [if_pos c30] at H
             have c30b0 : ((rd t465 x35_2) == (rd t455 x35_2)) = true := beq_iff_eq.mpr c30
             have c30b1 : ((rd t465 x35_2) != (rd t455 x35_2)) = false := bne_eq_false_iff_eq.mpr c30
             clear c30
             have H' := Aside0.mk H
             clear H
             have p468 : 0 ≤ (x35_2 : Int) := of_decide_eq_true qa
             have q468 : x35_2 < (t465.length : Int) := of_decide_eq_true qa
             obtain ⟨ad468, e468, hx468_0⟩ := Kd.at_int (Kd.R_reads' HO_33.out).2.2 x35_2 p468 q468
             cases e468
             replace p468 := eq_true p468
             replace q468 := eq_true q468
             obtain ⟨Ao31, co31, eo31⟩ := Kd.R_slice HO_7.out
             subst eo31
             have p469 : 0 ≤ (x35_2 : Int) := of_decide_eq_true qa
             have q469 : x35_2 < (t455.length : Int) := of_decide_eq_true qa
             obtain ⟨ad469, e469, hx469_0⟩ := Kd.at_int (Kd.R_reads' HO_7.out).2.2 x35_2 p469 q469
             cases e469
             replace p469 := eq_true p469
             replace q469 := eq_true q469
             go_wp2
             go_roundg k2
             case measure => have := HJ2.out; have := HK2.out; omega
             case rel => exact ⟨(x8_2), (wrap64 (x35_2 + 1)), qs, qs, H', ⟨by have := HJ2.out; have := HK2.out; omega⟩, ⟨qR HO_7⟩, ⟨qR HO_33⟩, ⟨by repeat (first | (with_reducible exact HR461.out) | (with_reducible refine Kd.C_alloc ?_ _) | (with_reducible refine Kd.C_drewN ?_ _) | (with_reducible refine Kd.C_drew ?_) | exact HR461.out)⟩, ⟨qB HB⟩⟩
            ·rw [if_neg c30] at H
             have c30b0 : ((rd t465 x35_2) == (rd t455 x35_2)) = false := beq_eq_false_iff_ne.mpr c30
             have c30b1 : ((rd t465 x35_2) != (rd t455 x35_2)) = true := bne_iff_ne.mpr c30
             have H' := Aside0.mk H
             clear H
             have p468 : 0 ≤ (x35_2 : Int) := of_decide_eq_true qa
             have q468 : x35_2 < (t465.length : Int) := of_decide_eq_true qa
             obtain ⟨ad468, e468, hx468_0⟩ := Kd.at_int (Kd.R_reads' HO_33.out).2.2 x35_2 p468 q468
             cases e468
             replace p468 := eq_true p468
             replace q468 := eq_true q468
             obtain ⟨Ao32, co32, eo32⟩ := Kd.R_slice HO_7.out
             subst eo32
             have p469 : 0 ≤ (x35_2 : Int) := of_decide_eq_true qa
             have q469 : x35_2 < (t455.length : Int) := of_decide_eq_true qa
             obtain ⟨ad469, e469, hx469_0⟩ := Kd.at_int (Kd.R_reads' HO_7.out).2.2 x35_2 p469 q469
             cases e469
             replace p469 := eq_true p469
             replace q469 := eq_true q469
             go_wp2
             go_roundg k2
             case measure => have := HJ2.out; have := HK2.out; omega
             case rel => exact ⟨(wrap64 (x8_2 + 1)), (wrap64 (x35_2 + 1)), qs, qs, H', ⟨by have := HJ2.out; have := HK2.out; omega⟩, ⟨qR HO_7⟩, ⟨qR HO_33⟩, ⟨by repeat (first | (with_reducible exact HR461.out) | (with_reducible refine Kd.C_alloc ?_ _) | (with_reducible refine Kd.C_drewN ?_ _) | (with_reducible refine Kd.C_drew ?_) | exact HR461.out)⟩, ⟨qB HB⟩⟩
           ·rw [if_neg c29] at H
            exact absurd H (by simp)
          ·rw [if_neg c28] at H
           exact absurd H (by simp)
         ·rw [if_neg c27] at H
          exact absurd H (by simp)
        ·rw [if_neg c26] at H
         have c26b0 : decide (x35_2 < (t465.length : Int)) = false := decide_eq_false c26
         clear c26
         simp only [Option.some.injEq, Prod.mk.injEq] at H
         obtain ⟨rfl, rfl⟩ := H
         go_wp2
         go_ret2
         exact ⟨by first | rfl | (simp [errW_none, errW_some] <;> rfl) | (simp only [← hji13]; first | rfl | (simp [errW_none, errW_some] <;> rfl)) | (simp [*, errW_none, errW_some] <;> rfl), qB HB⟩
     ·rw [if_neg c15] at H
      exact absurd H (by simp)
    ·rw [if_neg c14] at H
     exact absurd H (by simp)

end Go.Proofs.Ytgblcbgkkfipoaa.XFnCuts
