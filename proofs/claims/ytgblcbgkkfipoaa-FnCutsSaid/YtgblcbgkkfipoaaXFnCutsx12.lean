/- Written by xprint.py, a program of this session, out of the translation: what Go functions compute, as Lean functions, proved over the program. -/
import Derived.Test.YtgblcbgkkfipoaaXFnCutsx0
import Derived.Test.YtgblcbgkkfipoaaXFnCutsx2
import Derived.Test.YtgblcbgkkfipoaaXFnCutsx3
import Derived.Test.YtgblcbgkkfipoaaXFnCutsx5
import Derived.Test.YtgblcbgkkfipoaaXFnCutsx9
import Derived.Test.YtgblcbgkkfipoaaWQuick
namespace Go.Proofs.Ytgblcbgkkfipoaa.XFnCuts
open Go.RowKit Go.Proofs.YtgblcbgkkfipoaaW.PrintWords Go.Proofs.YtgblcbgkkfipoaaW.PrintLast Go.Proofs.YtgblcbgkkfipoaaW.PrintMore
attribute [local go_sem] max2_int min2_int max_two min_two max_three min_three max_four min_four   -- for this text's walks alone
set_option linter.unusedVariables false
set_option linter.unusedSimpArgs false

/-! ### spec_jrCommitted: function 163 -/
def spec_jrCommitted.l0 : Nat → List (S61) → Int → List (S61) → Int → Int → Option ((List (S61)))
 | 0, _, _, _, _, _ => none
 | k + 1, x0, x3, x6, x7, x8 => if x8 < x7 then (if 0 ≤ x8 then (if x8 < (x6.length : Int) then (if ((rd_T61 x6 x8).f0) = 2 then (spec_jrCommitted.l0 k x0 (wrap64 (x8 + 1)) x6 x7 (wrap64 (x8 + 1))) else (spec_jrCommitted.l0 k x0 x3 x6 x7 (wrap64 (x8 + 1)))) else (none)) else (none)) else ((some (([] : List (S61)) : List (S61))).bind fun y472 => (if 0 ≤ x3 then (if x3 ≤ (x0.length : Int) then ((some (x0.take (x3 : Int).toNat : List (S61))).bind fun y475 => (if y472.length + y475.length < 5864062014805 then (some (y472 ++ y475)) else (none))) else (none)) else (none)))
def spec_jrCommitted.f (k : Nat) (l0 : List (S61)) : Option ((List (S61))) := spec_jrCommitted.l0 k l0 0 l0 (l0.length : Int) 0
theorem spec_jrCommitted.mono_l : ∀ k, (∀ y0 y1 y2 y3 y4, LeO (spec_jrCommitted.l0 k y0 y1 y2 y3 y4) (spec_jrCommitted.l0 (k + 1) y0 y1 y2 y3 y4))
 | 0 => fun _ _ _ _ _ r h => by simp [spec_jrCommitted.l0] at h
 | k + 1 => by
  have ih0 := spec_jrCommitted.mono_l k
  ·intro y0 y1 y2 y3 y4
   unfold spec_jrCommitted.l0
   repeat' first | (with_reducible first | exact ih0 _ _ _ _ _ | exact LeO.refl _ | exact LeO.none _ | refine LeO.ite ?_ ?_ | refine LeO.bind ?_ (fun _ => ?_)) | exact ih0 _ _ _ _ _ | exact LeO.none _ | refine LeO.ite ?_ ?_ | refine LeO.bind ?_ (fun _ => ?_)
theorem spec_jrCommitted.mono : ∀ a0 k, LeO (spec_jrCommitted.f k a0) (spec_jrCommitted.f (k + 1) a0) := by
 intro a0 k
 have ih0 := spec_jrCommitted.mono_l k
 unfold spec_jrCommitted.f
 repeat' first | (with_reducible first | exact ih0 _ _ _ _ _ | exact LeO.refl _ | exact LeO.none _ | refine LeO.ite ?_ ?_ | refine LeO.bind ?_ (fun _ => ?_)) | exact ih0 _ _ _ _ _ | exact LeO.none _ | refine LeO.ite ?_ ?_ | refine LeO.bind ?_ (fun _ => ?_)
set_option maxHeartbeats 8000000 in
set_option maxRecDepth 100000 in
theorem spec_jrCommitted.calls (k : Nat) (A0 : Option Addr) (c0 : Nat) (l0 : List (S61)) (r : List (S61)) (w : World) (hr0 : Kd.C k61 w A0 l0.length l0) (hc0 : l0.length ≤ c0) (h : spec_jrCommitted.f k l0 = some r) :
  Calls Try.prog 163 #[.slice A0 l0.length c0] w fun e w' => ∃ v0_ : Value, e = .returned (v0_) ∧ Kd.R k61 61 w' w.heap.size (fun _ => True) v0_ r ∧ Below w.heap.size w w' := by
 have hu61 := Try.underlying61
 have HR0 := Aside0.mk hr0
 have HC0 := Aside0.mk hc0
 clear hr0 hc0
 have HB := Aside0.mk (Below.refl w.heap.size w)
 have H : (spec_jrCommitted.l0 k l0 0 l0 (l0.length : Int) 0) = some r := h
 clear h
 have H' := Aside0.mk H
 clear H
 go_enter Try.func163, Try.ntmps163
 go_wp2
 go_loopg [3, 8] k (fun kq v3 v8 w' => ∃ (x3_1 : Int) (x8_1 : Int), v3 = .int .i64 x3_1 ∧ v8 = .int .i64 x8_1 ∧ Aside0 (spec_jrCommitted.l0 kq l0 x3_1 l0 (l0.length : Int) x8_1 = some r) ∧ Aside0 (kq ≤ k) ∧ Aside0 (Below w.heap.size w w'))
 case atStart => exact ⟨(0), (0), qs, qs, H', ⟨Nat.le_refl _⟩, ⟨qB HB⟩⟩
 case round =>
  clear H'
  try clear c1
  obtain ⟨x3_1, x8_1, rfl, rfl, HA, HK1, HB⟩ := hrel
  cases gk with
  | zero => exact absurd HA.out (by simp [spec_jrCommitted.l0])
  | succ k1 =>
   have H := HA.out
   clear HA
   simp only [spec_jrCommitted.l0] at H
   by_cases c2 : x8_1 < (l0.length : Int)
   ·rw [if_pos c2] at H
    have c2b0 : decide (x8_1 < (l0.length : Int)) = true := decide_eq_true c2
    clear c2
    by_cases c3 : 0 ≤ x8_1
    ·rw [if_pos c3] at H
     have c3b0 : decide (0 ≤ x8_1) = true := decide_eq_true c3
     clear c3
     by_cases c4 : x8_1 < (l0.length : Int)
     ·rw [if_pos c4] at H
      have c4b0 : decide (x8_1 < (l0.length : Int)) = true := decide_eq_true c4
      clear c4
      by_cases c5 : ((rd_T61 l0 x8_1).f0) = 2
      ·rw [if_pos c5] at H
       have c5b0 : (((rd_T61 l0 x8_1).f0) == 2) = true := beq_iff_eq.mpr c5
       have c5b1 : (((rd_T61 l0 x8_1).f0) != 2) = false := bne_eq_false_iff_eq.mpr c5
       clear c5
       have H' := Aside0.mk H
       clear H
       have p470 : 0 ≤ (x8_1 : Int) := of_decide_eq_true qa
       have q470 : x8_1 < (l0.length : Int) := of_decide_eq_true qa
       obtain ⟨ad470, e470, hx470_0, hx470_1, hx470_2⟩ := at_T61 HR0.out x8_1 p470 q470
       cases e470
       replace hx470_0 := (HB.out.cell (World.block_lt_of_cell? w _ hx470_0)).trans hx470_0
       replace hx470_1 := (HB.out.cell (World.block_lt_of_cell? w _ hx470_1)).trans hx470_1
       replace hx470_2 := (HB.out.cell (World.block_lt_of_cell? w _ hx470_2)).trans hx470_2
       replace p470 := eq_true p470
       replace q470 := eq_true q470
       go_wp2_with (first | ((with_reducible refine gate_dst (N := 5) rfl ?_); refine box_event ?hg (N := 5) ?hd (cs := #[.int .i64 0, .int .i64 0, .int .i64 0]) (t := 61) ?hr ?_; (case hd => rfl); (case hg => rfl); (case hr => first | (go_simp; done) | (go_simp; rfl)); intro gb471 hg w6 hbox hb; have n0_ := Aside0.mk (below_step (qB HB) hb); have n1_ := Aside0.mk (hbox); have n2_ := Aside0.mk ((by rw [hg]; exact (below_size (qB HB)) : w.heap.size ≤ gb471)); have n3_ := Aside0.mk ((by rw [hg]; exact (below_size (qB HB)) : w.heap.size ≤ gb471)); clear HB; have HB := n0_; have BK471 := n1_; have GW471 := n2_; have GE471 := n3_; clear n0_ n1_ n2_ n3_; clear hb hbox hg; have hcz7_0 : w6.cell? ⟨gb471, 0, none⟩ = some (.int .i64 0) := (blk_cell BK471.out 0).trans rfl; have hcz7_1 : w6.cell? ⟨gb471, 1, none⟩ = some (.int .i64 0) := (blk_cell BK471.out 1).trans rfl; have hcz7_2 : w6.cell? ⟨gb471, 2, none⟩ = some (.int .i64 0) := (blk_cell BK471.out 2).trans rfl; have hfz7_0 := blk_frozen BK471.out 0; have hfz7_1 := blk_frozen BK471.out 1; have hfz7_2 := blk_frozen BK471.out 2))
       go_roundg k1
       case measure => have := HK1.out; omega
       case rel => exact ⟨(wrap64 (x8_1 + 1)), (wrap64 (x8_1 + 1)), qs, qs, H', ⟨by have := HK1.out; omega⟩, ⟨qT HB GE471⟩⟩
      ·rw [if_neg c5] at H
       have c5b0 : (((rd_T61 l0 x8_1).f0) == 2) = false := beq_eq_false_iff_ne.mpr c5
       have c5b1 : (((rd_T61 l0 x8_1).f0) != 2) = true := bne_iff_ne.mpr c5
       have H' := Aside0.mk H
       clear H
       have p470 : 0 ≤ (x8_1 : Int) := of_decide_eq_true qa
       have q470 : x8_1 < (l0.length : Int) := of_decide_eq_true qa
       obtain ⟨ad470, e470, hx470_0, hx470_1, hx470_2⟩ := at_T61 HR0.out x8_1 p470 q470
       cases e470
       replace hx470_0 := (HB.out.cell (World.block_lt_of_cell? w _ hx470_0)).trans hx470_0
       replace hx470_1 := (HB.out.cell (World.block_lt_of_cell? w _ hx470_1)).trans hx470_1
       replace hx470_2 := (HB.out.cell (World.block_lt_of_cell? w _ hx470_2)).trans hx470_2
       replace p470 := eq_true p470
       replace q470 := eq_true q470
       go_wp2_with (first | ((with_reducible refine gate_dst (N := 5) rfl ?_); refine box_event ?hg (N := 5) ?hd (cs := #[.int .i64 0, .int .i64 0, .int .i64 0]) (t := 61) ?hr ?_; (case hd => rfl); (case hg => rfl); (case hr => first | (go_simp; done) | (go_simp; rfl)); intro gb471 hg w8 hbox hb; have n0_ := Aside0.mk (below_step (qB HB) hb); have n1_ := Aside0.mk (hbox); have n2_ := Aside0.mk ((by rw [hg]; exact (below_size (qB HB)) : w.heap.size ≤ gb471)); have n3_ := Aside0.mk ((by rw [hg]; exact (below_size (qB HB)) : w.heap.size ≤ gb471)); clear HB; have HB := n0_; have BK471 := n1_; have GW471 := n2_; have GE471 := n3_; clear n0_ n1_ n2_ n3_; clear hb hbox hg; have hcz9_0 : w8.cell? ⟨gb471, 0, none⟩ = some (.int .i64 0) := (blk_cell BK471.out 0).trans rfl; have hcz9_1 : w8.cell? ⟨gb471, 1, none⟩ = some (.int .i64 0) := (blk_cell BK471.out 1).trans rfl; have hcz9_2 : w8.cell? ⟨gb471, 2, none⟩ = some (.int .i64 0) := (blk_cell BK471.out 2).trans rfl; have hfz9_0 := blk_frozen BK471.out 0; have hfz9_1 := blk_frozen BK471.out 1; have hfz9_2 := blk_frozen BK471.out 2))
       go_roundg k1
       case measure => have := HK1.out; omega
       case rel => exact ⟨(x3_1), (wrap64 (x8_1 + 1)), qs, qs, H', ⟨by have := HK1.out; omega⟩, ⟨qT HB GE471⟩⟩
     ·rw [if_neg c4] at H
      exact absurd H (by simp)
    ·rw [if_neg c3] at H
     exact absurd H (by simp)
   ·rw [if_neg c2] at H
    have c2b0 : decide (x8_1 < (l0.length : Int)) = false := decide_eq_false c2
    clear c2
    obtain ⟨y472, hy472⟩ : ∃ y_ : List (S61), y_ = (([] : List (S61))) := ⟨_, rfl⟩
    replace H : (if 0 ≤ x3_1 then (if x3_1 ≤ (l0.length : Int) then ((some (l0.take (x3_1 : Int).toNat : List (S61))).bind fun y475 => (if y472.length + y475.length < 5864062014805 then (some (y472 ++ y475)) else (none))) else (none)) else (none)) = some r := by first | (rw [hy472]; with_reducible exact H) | (have H2_ := (Option.bind_some _ _).symm.trans H; rw [hy472]; with_reducible exact H2_) | (have H2_ := (Option.bind_some _ _).symm.trans H; with_reducible exact H2_) | with_reducible exact H | (rw [hy472]; exact H) | exact H
    have Ny472 := Aside0.mk hy472
    clear hy472
    by_cases c10 : 0 ≤ x3_1
    ·rw [if_pos c10] at H
     have c10b0 := eq_true c10
     have c10b1 : decide (0 ≤ x3_1) = true := decide_eq_true c10
     clear c10
     by_cases c11 : x3_1 ≤ (l0.length : Int)
     ·rw [if_pos c11] at H
      have c11b0 := eq_true c11
      have c11b1 : decide (x3_1 ≤ (l0.length : Int)) = true := decide_eq_true c11
      clear c11
      obtain ⟨y475, hy475⟩ : ∃ y_ : List (S61), y_ = (l0.take (x3_1 : Int).toNat) := ⟨_, rfl⟩
      replace H : (if y472.length + y475.length < 5864062014805 then (some (y472 ++ y475)) else (none)) = some r := by first | (rw [hy475]; with_reducible exact H) | (have H2_ := (Option.bind_some _ _).symm.trans H; rw [hy475]; with_reducible exact H2_) | (have H2_ := (Option.bind_some _ _).symm.trans H; with_reducible exact H2_) | with_reducible exact H | (rw [hy475]; exact H) | exact H
      have Ny475 := Aside0.mk hy475
      clear hy475
      by_cases c12 : y472.length + y475.length < 5864062014805
      ·rw [if_pos c12] at H
       have LMc12 := Aside0.mk c12
       clear c12
       obtain ⟨y479, hy479⟩ : ∃ y_ : List (S61), y_ = (y472 ++ y475) := ⟨_, rfl⟩
       replace H : (some y479) = some r := by first | (rw [hy479]; with_reducible exact H) | (have H2_ := (Option.bind_some _ _).symm.trans H; rw [hy479]; with_reducible exact H2_) | (have H2_ := (Option.bind_some _ _).symm.trans H; with_reducible exact H2_) | with_reducible exact H | (rw [hy479]; exact H) | exact H
       have Ny479 := Aside0.mk hy479
       clear hy479
       obtain rfl := Option.some.inj H
       go_wp2_with (first | ((with_reducible refine gate_dst (N := 19) rfl ?_); refine Kd.R_lit k61 _ 61 ?hg (N := 19) ?hd (xs := ([] : List (S61))) (inner := []) (ok := fun _ => True) (okp := fun _ => True) ?hr ?hp (fun _ hk => hk) trivial (Below.refl _ _) (Nat.le_refl _) (by simp) ?_; (case hd => rfl); (case hg => rfl); (case hr => first | (go_simp; done) | (go_simp; rfl)); (case hp => exact (Reps.none _ _)); intro v473 w13 ho14 hb hg_ hnew_; clear hg_ hnew_; (first | rw [← Ny472.out] at ho14 | (simp only [Int.reduceToNat] at ho14; rw [← Ny472.out] at ho14)); have n0_ := Aside0.mk (Kd.R_lower ho14 (below_size (qB HB))); have n1_ := Aside0.mk (below_step (qB HB) hb); clear HB; have HO474 := n0_; have HB := n1_; clear n0_ n1_; clear hb ho14; have q15 : (x3_1 : Int) ≤ ((l0.length : Int) : Int) := of_decide_eq_true qa; obtain ⟨i015, hi015, _, hsz15, _⟩ := info_parts info61; have hroom15 : l0.length ≤ c0 := HC0.out; have hC15 : Kd.C k61 _ A0 l0.length l0 := HR0.out; have hcut15 := cut_to (P := Try.prog) 49 61 .i64 Try.underlying49 hi015 A0 l0.length c0 x3_1 (of_decide_eq_true qa) q15 hroom15; have hr15 := Kd.C_take (m := (x3_1 : Int).toNat) hC15 (by omega); have hy15 : y475.length = (x3_1 : Int).toNat := (by rw [Ny475.out, List.length_take]; omega); rw [← Ny475.out] at hr15; rw [← hy15] at hcut15; have HR478 := Aside0.mk hr15; have HC478 := Aside0.mk (show y475.length ≤ c0 from by omega); clear hr15 hC15 hroom15 hi015 hsz15; have KY15 := Aside0.mk hy15; clear hy15; replace q15 := eq_true q15) | ((with_reducible refine gate_builtin (b := .append) (xs := #[.tmp 19, .tmp 22]) rfl ?_); at_builtin; refine Kd.R_append_rows k61 (w0 := w) w.heap.size rfl (.tmp 19) (.tmp 22) 49 61 (.agg #[(.int .i64 0), (.int .i64 0), (.int .i64 0)]) 24 rfl Try.underlying49 info61 rfl (by decide) (by omega) v473 y472 y475 _ _ _ (fun _ => True) (fun _ => False) rfl rfl ?aO ?aR (fun _ _ h => h) (fun _ h => h.elim) ?aF ?aB ?aS ?aL ?_; (case aR => exact uC (Kd.C_below HR478.out HB.out)); (case aB => exact (qB HB)); (case aF => exact (fun _ _ => trivial)); (case aO => exact (qR HO474)); (case aS => exact (below_size (qB HB))); (case aL => have := LMc12.out; omega); intro v480 w16 ho hb hg hat; rw [← Ny479.out] at ho; have n0_ := Aside0.mk (hb); have n1_ := Aside0.mk (ho); clear HB; clear HO474; have HB := n0_; have HO481 := n1_; clear n0_ n1_; clear ho hb hg hat))
       go_ret
       exact ⟨_, qe, qR HO481, qB HB⟩
      ·rw [if_neg c12] at H
       exact absurd H (by simp)
     ·rw [if_neg c11] at H
      exact absurd H (by simp)
    ·rw [if_neg c10] at H
     exact absurd H (by simp)

/-! ### spec_jrValues: function 142 -/
mutual
def spec_jrValues.l0 : Nat → List (S61) → List Int → Option (List Int)
 | 0, _, _ => none
 | k + 1, x0, x3 => if (x3.length : Int) < 8 then (if x3.length < 17592186044416 then (spec_jrValues.l0 k x0 (x3 ++ [(-1)])) else (none)) else ((spec_jrCommitted.f k x0).bind fun t485 => (spec_jrValues.l1 k x3 t485 (t485.length : Int) 0))
def spec_jrValues.l1 : Nat → List Int → List (S61) → Int → Int → Option (List Int)
 | 0, _, _, _, _ => none
 | k + 1, x3, x13, x14, x15 => if x15 < x14 then (if 0 ≤ x15 then (if x15 < (x13.length : Int) then (if ((rd_T61 x13 x15).f0) = 1 then (if 0 ≤ ((rd_T61 x13 x15).f1) then (if ((rd_T61 x13 x15).f1) < (x3.length : Int) then (spec_jrValues.l1 k (x3.set (((rd_T61 x13 x15).f1) : Int).toNat ((rd_T61 x13 x15).f2)) x13 x14 (wrap64 (x15 + 1))) else (none)) else (none)) else (spec_jrValues.l1 k x3 x13 x14 (wrap64 (x15 + 1)))) else (none)) else (none)) else (some x3)
end
def spec_jrValues.f (k : Nat) (l0 : List (S61)) : Option (List Int) := spec_jrValues.l0 k l0 ([] : List Int)
theorem spec_jrValues.mono_l : ∀ k, (∀ y0 y1, LeO (spec_jrValues.l0 k y0 y1) (spec_jrValues.l0 (k + 1) y0 y1)) ∧ (∀ y0 y1 y2 y3, LeO (spec_jrValues.l1 k y0 y1 y2 y3) (spec_jrValues.l1 (k + 1) y0 y1 y2 y3))
 | 0 => ⟨fun _ _ r h => by simp [spec_jrValues.l0] at h, fun _ _ _ _ r h => by simp [spec_jrValues.l1] at h⟩
 | k + 1 => by
  obtain ⟨ih0, ih1⟩ := spec_jrValues.mono_l k
  refine ⟨?_, ?_⟩
  ·intro y0 y1
   unfold spec_jrValues.l0
   repeat' first | (with_reducible first | exact ih0 _ _ | exact ih1 _ _ _ _ | exact spec_jrCommitted.mono _ _ | exact LeO.refl _ | exact LeO.none _ | refine LeO.ite ?_ ?_ | refine LeO.bind ?_ (fun _ => ?_)) | exact ih0 _ _ | exact ih1 _ _ _ _ | exact spec_jrCommitted.mono _ _ | exact LeO.none _ | refine LeO.ite ?_ ?_ | refine LeO.bind ?_ (fun _ => ?_)
  ·intro y0 y1 y2 y3
   unfold spec_jrValues.l1
   repeat' first | (with_reducible first | exact ih0 _ _ | exact ih1 _ _ _ _ | exact spec_jrCommitted.mono _ _ | exact LeO.refl _ | exact LeO.none _ | refine LeO.ite ?_ ?_ | refine LeO.bind ?_ (fun _ => ?_)) | exact ih0 _ _ | exact ih1 _ _ _ _ | exact spec_jrCommitted.mono _ _ | exact LeO.none _ | refine LeO.ite ?_ ?_ | refine LeO.bind ?_ (fun _ => ?_)
theorem spec_jrValues.mono : ∀ a0 k, LeO (spec_jrValues.f k a0) (spec_jrValues.f (k + 1) a0) := by
 intro a0 k
 obtain ⟨ih0, ih1⟩ := spec_jrValues.mono_l k
 unfold spec_jrValues.f
 repeat' first | (with_reducible first | exact ih0 _ _ | exact ih1 _ _ _ _ | exact spec_jrCommitted.mono _ _ | exact LeO.refl _ | exact LeO.none _ | refine LeO.ite ?_ ?_ | refine LeO.bind ?_ (fun _ => ?_)) | exact ih0 _ _ | exact ih1 _ _ _ _ | exact spec_jrCommitted.mono _ _ | exact LeO.none _ | refine LeO.ite ?_ ?_ | refine LeO.bind ?_ (fun _ => ?_)
set_option maxHeartbeats 8000000 in
set_option maxRecDepth 100000 in
theorem spec_jrValues.calls (k : Nat) (A0 : Option Addr) (c0 : Nat) (l0 : List (S61)) (r : List Int) (w : World) (hr0 : Kd.C k61 w A0 l0.length l0) (hc0 : l0.length ≤ c0) (h : spec_jrValues.f k l0 = some r) :
  Calls Try.prog 142 #[.slice A0 l0.length c0] w fun e w' => ∃ v0_ : Value, e = .returned (v0_) ∧ Kd.R (Kd.int .i64) 3 w' w.heap.size (fun _ => True) v0_ r ∧ Below w.heap.size w w' := by
 have hu61 := Try.underlying61
 have HR0 := Aside0.mk hr0
 have HC0 := Aside0.mk hc0
 clear hr0 hc0
 have HB := Aside0.mk (Below.refl w.heap.size w)
 have H : (spec_jrValues.l0 k l0 ([] : List Int)) = some r := h
 clear h
 have H' := Aside0.mk H
 clear H
 go_enter Try.func142, Try.ntmps142
 go_wp2
 go_loopg [3] k (fun kq v3 w' => ∃ (x3_1 : List Int), Aside0 (spec_jrValues.l0 kq l0 x3_1 = some r) ∧ Aside0 (kq ≤ k) ∧ Aside0 (Kd.R (Kd.int .i64) 3 w' w.heap.size (fun _ => True) v3 x3_1) ∧ Aside0 (Below w.heap.size w w'))
 case atStart => exact ⟨(([] : List Int)), H', ⟨Nat.le_refl _⟩, ⟨by first | exact Kd.R_nil _ _ _ _ _ | exact Kd.N_nil _ _ _ _ _ | exact Kd.V_nil _ _ _ _ _ | exact Kd.Q_nil _ _ _ _ _ | exact Kd.S_nil _ _ _ _ _⟩, ⟨qB HB⟩⟩
 case round =>
  clear H'
  try clear c1
  obtain ⟨x3_1, HA, HK1, HO_3, HB⟩ := hrel
  cases gk with
  | zero => exact absurd HA.out (by simp [spec_jrValues.l0])
  | succ k1 =>
   have H := HA.out
   clear HA
   simp only [spec_jrValues.l0] at H
   by_cases c2 : (x3_1.length : Int) < 8
   ·rw [if_pos c2] at H
    have c2b0 : decide ((x3_1.length : Int) < 8) = true := decide_eq_true c2
    have c2b1 : decide (x3_1.length < 8) = true := decide_eq_true (by omega)
    clear c2
    by_cases c3 : x3_1.length < 17592186044416
    ·rw [if_pos c3] at H
     have LMc3 := Aside0.mk c3
     clear c3
     obtain ⟨y482, hy482⟩ : ∃ y_ : List Int, y_ = (x3_1 ++ [(-1)]) := ⟨_, rfl⟩
     replace H : (spec_jrValues.l0 k1 l0 y482) = some r := by first | (rw [hy482]; with_reducible exact H) | (have H2_ := (Option.bind_some _ _).symm.trans H; rw [hy482]; with_reducible exact H2_) | (have H2_ := (Option.bind_some _ _).symm.trans H; with_reducible exact H2_) | with_reducible exact H | (rw [hy482]; exact H) | exact H
     have Ny482 := Aside0.mk hy482
     clear hy482
     have H' := Aside0.mk H
     clear H
     obtain ⟨Ao4, co4, eo4⟩ := Kd.R_slice HO_3.out
     subst eo4
     go_wp2_with (first | ((with_reducible refine gate_builtin (b := .append) (xs := #[.tmp 9, .tmp 10]) rfl ?_); at_builtin; refine Kd.R_append (Kd.int .i64) (w0 := w) w.heap.size rfl (.tmp 9) (.tmp 10) 23 3 (.int .i64 0) 8 rfl Try.underlying23 info3 rfl (by decide) (by omega) (.slice Ao4 x3_1.length co4) x3_1 (-1) [.int .i64 (-1)] (fun _ => True) (fun _ => False) rfl rfl ?aP (fun _ hk => hk.elim) ?aF ?aO ?aB ?aS ?aL ?_; (case aP => exact rfl); (case aB => exact (qB HB)); (case aF => exact (fun _ _ => trivial)); (case aO => exact (qR HO_3)); (case aS => exact (below_size (qB HB))); (case aL => have := LMc3.out; omega); intro v483 w5 ho hb hg hat; rw [← Ny482.out] at ho; have n0_ := Aside0.mk (hb); have n1_ := Aside0.mk (ho); clear HB; clear HO_3; have HB := n0_; have HO484 := n1_; clear n0_ n1_; clear ho hb hg hat))
     go_roundg k1
     case measure => have := HK1.out; omega
     case rel => exact ⟨(y482), H', ⟨by have := HK1.out; omega⟩, ⟨qR HO484⟩, ⟨qB HB⟩⟩
    ·rw [if_neg c3] at H
     exact absurd H (by simp)
   ·rw [if_neg c2] at H
    have c2b0 : decide ((x3_1.length : Int) < 8) = false := decide_eq_false c2
    have c2b1 : decide (x3_1.length < 8) = false := decide_eq_false (by omega)
    clear c2
    replace H := Option.bind_eq_some_iff.mp H
    obtain ⟨t485, A60, H⟩ := H
    replace H : (spec_jrValues.l1 k1 x3_1 t485 (t485.length : Int) 0) = some r := H
    have A6 := Aside0.mk A60
    clear A60
    have H' := Aside0.mk H
    clear H
    obtain ⟨Ao7, co7, eo7⟩ := Kd.R_slice HO_3.out
    subst eo7
    go_wp2_with (first | ((with_reducible refine gate_callee (f := 163) rfl ?_); refine goesL_ (some 13) rfl rfl Try.func163 (by kernel_rfl) rfl #[.slice A0 l0.length c0] rfl qA ?_; (with_reducible refine (spec_jrCommitted.calls k1 _ _ l0 t485 _ ?side1 ?side2 A6.out).mono ?_); (case side1 => exact uC (Kd.C_below HR0.out HB.out)); (case side2 => exact HC0.out); rintro e w8 ⟨v486, rfl, ho0, hb⟩; refine ⟨_, rfl, ?_⟩; have n0_ := Aside0.mk (Kd.R_below (qR HO_3) hb); have n1_ := Aside0.mk (Kd.R_lower ho0 (below_size (qB HB))); have n2_ := Aside0.mk (below_step (qB HB) hb); clear HO_3; clear HB; have HO_3 := n0_; have HO487 := n1_; have HB := n2_; clear n0_ n1_ n2_; (try clear hb); (try clear hb2); (try clear hk); (try clear hi); (try clear ho0); obtain ⟨Ao9, co9, eo9⟩ := Kd.R_slice HO487.out; subst eo9))
    go_loopg [15] k1 (fun kq v15 w' => ∃ (x3_2 : List Int) (x15_2 : Int), v15 = .int .i64 x15_2 ∧ Aside0 (spec_jrValues.l1 kq x3_2 t485 (t485.length : Int) x15_2 = some r) ∧ Aside0 (kq ≤ k1) ∧ Aside0 (Kd.R (Kd.int .i64) 3 w' w.heap.size (fun _ => True) (.slice Ao7 x3_1.length co7) x3_2) ∧ Aside0 (Kd.R k61 61 w' w.heap.size (fun _ => True) (.slice Ao9 t485.length co9) t485) ∧ Aside0 (Below w.heap.size w w'))
    case atStart => exact ⟨(x3_1), (0), qs, H', ⟨Nat.le_refl _⟩, ⟨qR HO_3⟩, ⟨qR HO487⟩, ⟨qB HB⟩⟩
    case round =>
     clear H'
     try clear c1
     try clear c2
     try clear c2b0
     try clear c2b1
     try clear p2
     try clear c3
     obtain ⟨x3_2, x15_2, rfl, HA, HK2, HO_3, HO_13, HB⟩ := hrel
     have hl3_2 := (Kd.R_reads' HO_3.out).1
     rw [hl3_2] at HO_3
     (try simp only [hl3_2])
     (try simp only [hl3_2] at HO_13)
     cases gk with
     | zero => exact absurd HA.out (by simp [spec_jrValues.l1])
     | succ k2 =>
      have H := HA.out
      clear HA
      simp only [spec_jrValues.l1] at H
      by_cases c10 : x15_2 < (t485.length : Int)
      ·rw [if_pos c10] at H
       have c10b0 : decide (x15_2 < (t485.length : Int)) = true := decide_eq_true c10
       clear c10
       by_cases c11 : 0 ≤ x15_2
       ·rw [if_pos c11] at H
        have c11b0 : decide (0 ≤ x15_2) = true := decide_eq_true c11
        clear c11
        by_cases c12 : x15_2 < (t485.length : Int)
        ·rw [if_pos c12] at H
         have c12b0 : decide (x15_2 < (t485.length : Int)) = true := decide_eq_true c12
         clear c12
         by_cases c13 : ((rd_T61 t485 x15_2).f0) = 1
         ·rw [if_pos c13] at H
          have c13b0 : (((rd_T61 t485 x15_2).f0) == 1) = true := beq_iff_eq.mpr c13
          have c13b1 : (((rd_T61 t485 x15_2).f0) != 1) = false := bne_eq_false_iff_eq.mpr c13
          clear c13
          by_cases c14 : 0 ≤ ((rd_T61 t485 x15_2).f1)
          ·rw [if_pos c14] at H
           have c14b0 : decide (0 ≤ ((rd_T61 t485 x15_2).f1)) = true := decide_eq_true c14
           clear c14
           by_cases c15 : ((rd_T61 t485 x15_2).f1) < (x3_2.length : Int)
           ·rw [if_pos c15] at H
            have c15b0 : decide (((rd_T61 t485 x15_2).f1) < (x3_2.length : Int)) = true := decide_eq_true c15
            clear c15
            obtain ⟨y490, hy490⟩ : ∃ y_ : List Int, y_ = (x3_2.set (((rd_T61 t485 x15_2).f1) : Int).toNat ((rd_T61 t485 x15_2).f2)) := ⟨_, rfl⟩
            replace H : (spec_jrValues.l1 k2 y490 t485 (t485.length : Int) (wrap64 (x15_2 + 1))) = some r := by first | (rw [hy490]; with_reducible exact H) | (have H2_ := (Option.bind_some _ _).symm.trans H; rw [hy490]; with_reducible exact H2_) | (have H2_ := (Option.bind_some _ _).symm.trans H; with_reducible exact H2_) | with_reducible exact H | (rw [hy490]; exact H) | exact H
            have Ny490 := Aside0.mk hy490
            clear hy490
            have H' := Aside0.mk H
            clear H
            have p488 : 0 ≤ (x15_2 : Int) := of_decide_eq_true qa
            have q488 : x15_2 < (t485.length : Int) := of_decide_eq_true qa
            obtain ⟨ad488, e488, hx488_0, hx488_1, hx488_2⟩ := at_T61 (Kd.R_reads' HO_13.out).2.2 x15_2 p488 q488
            cases e488
            replace p488 := eq_true p488
            replace q488 := eq_true q488
            go_wp2_with (first | ((with_reducible refine gate_dst (N := 5) rfl ?_); refine box_event ?hg (N := 5) ?hd (cs := #[.int .i64 0, .int .i64 0, .int .i64 0]) (t := 61) ?hr ?_; (case hd => rfl); (case hg => rfl); (case hr => first | (go_simp; done) | (go_simp; rfl)); intro gb489 hg w17 hbox hb; have n0_ := Aside0.mk (Kd.R_below (qR HO_3) hb); have n1_ := Aside0.mk (Kd.R_below (Kd.R_elderB (qR HO_13) gb489 (Nat.le_of_eq hg.symm)) hb); have n2_ := Aside0.mk (below_step (qB HB) hb); have n3_ := Aside0.mk (hbox); have n4_ := Aside0.mk ((by rw [hg]; exact (below_size (qB HB)) : w.heap.size ≤ gb489)); have n5_ := Aside0.mk ((by rw [hg]; exact (below_size (qB HB)) : w.heap.size ≤ gb489)); clear HO_3; clear HO_13; clear HB; have HO_3 := n0_; have HO_13 := n1_; have HB := n2_; have BK489 := n3_; have GW489 := n4_; have GE489 := n5_; clear n0_ n1_ n2_ n3_ n4_ n5_; clear hb hbox hg; have hcz18_0 : w17.cell? ⟨gb489, 0, none⟩ = some (.int .i64 0) := (blk_cell BK489.out 0).trans rfl; have hcz18_1 : w17.cell? ⟨gb489, 1, none⟩ = some (.int .i64 0) := (blk_cell BK489.out 1).trans rfl; have hcz18_2 : w17.cell? ⟨gb489, 2, none⟩ = some (.int .i64 0) := (blk_cell BK489.out 2).trans rfl; have hfz18_0 := blk_frozen BK489.out 0; have hfz18_1 := blk_frozen BK489.out 1; have hfz18_2 := blk_frozen BK489.out 2) | ((with_reducible refine gate_store (t := 61) (p := 5) rfl ?_); refine store_event (t := 61) (p := 5) (v := ?vo_w19) (w1 := (((w17.setCell ⟨gb489, 0, none⟩ (.int .i64 ((rd_T61 t485 x15_2).f0))).setCell ⟨gb489, 1, none⟩ (.int .i64 ((rd_T61 t485 x15_2).f1))).setCell ⟨gb489, 2, none⟩ (.int .i64 ((rd_T61 t485 x15_2).f2)))) ?hg ?ho ?hn ?hr ?_; (case ho => rfl); (case hg => rfl); (case hn => rfl); (case hr => first | (go_simp; done) | (go_simp; rfl)); intro w19 hw; have n0_ : Aside0 (Kd.R (Kd.int .i64) 3 w19 w.heap.size (fun _ => True) (.slice Ao7 x3_2.length co7) x3_2) := ⟨(by rw [hw]; exact (by exact uR (Kd.R_mono (Kd.R_far (p := ⟨gb489, 2, none⟩) (Kd.R_far (p := ⟨gb489, 1, none⟩) (Kd.R_far (p := ⟨gb489, 0, none⟩) (Kd.R_types HO_3.out BK489.out (by decide)) (fun _ hk => hk.2) (.int .i64 ((rd_T61 t485 x15_2).f0))) (fun _ hk => hk.2) (.int .i64 ((rd_T61 t485 x15_2).f1))) (fun _ hk => hk.2) (.int .i64 ((rd_T61 t485 x15_2).f2))) (fun _ hk => trivial))))⟩; have n1_ : Aside0 (Kd.R k61 61 w19 w.heap.size (fun k_ => k_ ≠ gb489) (.slice (some ad488) t485.length co9) t485) := ⟨(by rw [hw]; exact (by exact uR (Kd.R_mono (Kd.R_far (p := ⟨gb489, 2, none⟩) (Kd.R_far (p := ⟨gb489, 1, none⟩) (Kd.R_far (p := ⟨gb489, 0, none⟩) (Kd.R_mono HO_13.out (fun k_ hk => (⟨hk, hk.2⟩ : _ ∧ k_ ≠ gb489))) (fun _ hk => hk.2) (.int .i64 ((rd_T61 t485 x15_2).f0))) (fun _ hk => hk.2) (.int .i64 ((rd_T61 t485 x15_2).f1))) (fun _ hk => hk.2) (.int .i64 ((rd_T61 t485 x15_2).f2))) (fun _ hk => hk.1.2))))⟩; have n2_ : Aside0 (w19.heap[gb489]? = some (.cells #[.int .i64 ((rd_T61 t485 x15_2).f0), .int .i64 ((rd_T61 t485 x15_2).f1), .int .i64 ((rd_T61 t485 x15_2).f2)] 61 (0, 0))) := ⟨(by rw [hw]; exact (by (with_reducible repeat (first | refine blk_drewN ?_ _ | refine blk_drew ?_ | refine blk_alloc ?_ _)); refine blk_put (cs := #[.int .i64 ((rd_T61 t485 x15_2).f0), .int .i64 ((rd_T61 t485 x15_2).f1), .int .i64 0]) ?_ 2 _ rfl; (with_reducible repeat (first | refine blk_drewN ?_ _ | refine blk_drew ?_ | refine blk_alloc ?_ _)); refine blk_put (cs := #[.int .i64 ((rd_T61 t485 x15_2).f0), .int .i64 0, .int .i64 0]) ?_ 1 _ rfl; (with_reducible repeat (first | refine blk_drewN ?_ _ | refine blk_drew ?_ | refine blk_alloc ?_ _)); refine blk_put (cs := #[.int .i64 0, .int .i64 0, .int .i64 0]) ?_ 0 _ rfl; (with_reducible repeat (first | refine blk_drewN ?_ _ | refine blk_drew ?_ | refine blk_alloc ?_ _)); exact BK489.out))⟩; have n3_ : Aside0 (Below w.heap.size w w19) := ⟨(by rw [hw]; exact (qT HB GE489))⟩; clear hw; clear HO_3; clear HO_13; clear BK489; clear HB; have HO_3 := n0_; have HO_13 := n1_; have BK489 := n2_; have HB := n3_; clear n0_ n1_ n2_ n3_; have hcz20_0 : w19.cell? ⟨gb489, 0, none⟩ = some (.int .i64 ((rd_T61 t485 x15_2).f0)) := (blk_cell BK489.out 0).trans rfl; have hcz20_1 : w19.cell? ⟨gb489, 1, none⟩ = some (.int .i64 ((rd_T61 t485 x15_2).f1)) := (blk_cell BK489.out 1).trans rfl; have hcz20_2 : w19.cell? ⟨gb489, 2, none⟩ = some (.int .i64 ((rd_T61 t485 x15_2).f2)) := (blk_cell BK489.out 2).trans rfl; have hfz20_0 := blk_frozen BK489.out 0; have hfz20_1 := blk_frozen BK489.out 1; have hfz20_2 := blk_frozen BK489.out 2; have p16 : 0 ≤ (((rd_T61 t485 x15_2).f1) : Int) := of_decide_eq_true qa; have q16 : (((rd_T61 t485 x15_2).f1) : Int) < ((x3_2.length : Int) : Int) := of_decide_eq_true qa; obtain ⟨go16, co16, eo16, gb16, gl16, cl16, HG16⟩ := Kd.R_form HO_3.out (by omega); (first | cases eo16 | (injection eo16 with ea_ en_ ec_; (first | subst ea_ | (injection ea_ with ea_; subst ea_)); subst ec_; clear en_)); have GB16 := Aside0.mk gb16; have GG16 := Aside0.mk HG16; clear gb16 gl16 HG16; obtain ⟨hx16_0, hf16_0⟩ := Kd.R_celln 0 HO_3.out (((rd_T61 t485 x15_2).f1) : Int) p16 q16; replace p16 := eq_true p16; replace q16 := eq_true q16; obtain ⟨hy21_, hz21_⟩ := Kd.R_celln 0 HO_3.out (((rd_T61 t485 x15_2).f1) : Int) (of_decide_eq_true qa) (of_decide_eq_true qa); have HP21 := Kd.R_putg HO_3.out (((rd_T61 t485 x15_2).f1) : Int) ((rd_T61 t485 x15_2).f2)) | ((with_reducible refine gate_store (t := 3) (p := 27) rfl ?_); refine store_event (t := 3) (p := 27) (v := ?vo_w22) (w1 := (w19.setCell ⟨go16, (((rd_T61 t485 x15_2).f1) : Int).toNat, none⟩ (.int .i64 ((rd_T61 t485 x15_2).f2)))) ?hg ?ho ?hn ?hr ?_; (case ho => rfl); (case hg => rfl); (case hn => rfl); (case hr => first | (go_simp; done) | (go_simp; rfl)); intro w22 hw; have hg : w19.grownBy w22 (some go16) := (by rw [hw]; exact HP21.2); have hp_ : Kd.R (Kd.int .i64) 3 w22 w.heap.size (fun _ => True) (.slice (some ⟨go16, 0, none⟩) x3_2.length co7) y490 := (by rw [hw, Ny490.out]; exact HP21.1); clear HP21; have n0_ := Aside0.mk (hp_); have n1_ := Aside0.mk (Kd.R_over' (v := (.slice (some ⟨go16, 0, none⟩) x3_2.length co7)) (qR HO_13) (Kd.R_typed HO_3.out) (by decide) hg); have n2_ := Aside0.mk (blk_grown (g := gb489) (o := .cells #[.int .i64 ((rd_T61 t485 x15_2).f0), .int .i64 ((rd_T61 t485 x15_2).f1), .int .i64 ((rd_T61 t485 x15_2).f2)] 61 (0, 0)) (qK BK489) hg (Kd.R_ne HO_3.out BK489.out (by decide))); have n3_ := Aside0.mk ((by rw [hw]; exact below_set (HB.out) GB16.out : Below w.heap.size w w22)); clear HO_3; clear HO_13; clear BK489; clear HB; have HO_3 := n0_; have HO_13 := n1_; have BK489 := n2_; have HB := n3_; clear n0_ n1_ n2_ n3_; clear hg hw hp_))
            (try simp only [← hl3_2])
            go_roundg k2
            case measure => have := HK1.out; have := HK2.out; omega
            case rel => exact ⟨(y490), (wrap64 (x15_2 + 1)), qs, H', ⟨by have := HK1.out; have := HK2.out; omega⟩, ⟨by (try simp only [hl3_2]); exact uR (HO_3.out)⟩, ⟨by (try simp only [hl3_2]); exact uR (Kd.R_mono HO_13.out (fun _ hk => trivial))⟩, ⟨qT HB GE489⟩⟩
           ·rw [if_neg c15] at H
            exact absurd H (by simp)
          ·rw [if_neg c14] at H
           exact absurd H (by simp)
         ·rw [if_neg c13] at H
          have c13b0 : (((rd_T61 t485 x15_2).f0) == 1) = false := beq_eq_false_iff_ne.mpr c13
          have c13b1 : (((rd_T61 t485 x15_2).f0) != 1) = true := bne_iff_ne.mpr c13
          have H' := Aside0.mk H
          clear H
          have p488 : 0 ≤ (x15_2 : Int) := of_decide_eq_true qa
          have q488 : x15_2 < (t485.length : Int) := of_decide_eq_true qa
          obtain ⟨ad488, e488, hx488_0, hx488_1, hx488_2⟩ := at_T61 (Kd.R_reads' HO_13.out).2.2 x15_2 p488 q488
          cases e488
          replace p488 := eq_true p488
          replace q488 := eq_true q488
          go_wp2_with (first | ((with_reducible refine gate_dst (N := 5) rfl ?_); refine box_event ?hg (N := 5) ?hd (cs := #[.int .i64 0, .int .i64 0, .int .i64 0]) (t := 61) ?hr ?_; (case hd => rfl); (case hg => rfl); (case hr => first | (go_simp; done) | (go_simp; rfl)); intro gb489 hg w23 hbox hb; have n0_ := Aside0.mk (Kd.R_below (qR HO_3) hb); have n1_ := Aside0.mk (Kd.R_below (Kd.R_elderB (qR HO_13) gb489 (Nat.le_of_eq hg.symm)) hb); have n2_ := Aside0.mk (below_step (qB HB) hb); have n3_ := Aside0.mk (hbox); have n4_ := Aside0.mk ((by rw [hg]; exact (below_size (qB HB)) : w.heap.size ≤ gb489)); have n5_ := Aside0.mk ((by rw [hg]; exact (below_size (qB HB)) : w.heap.size ≤ gb489)); clear HO_3; clear HO_13; clear HB; have HO_3 := n0_; have HO_13 := n1_; have HB := n2_; have BK489 := n3_; have GW489 := n4_; have GE489 := n5_; clear n0_ n1_ n2_ n3_ n4_ n5_; clear hb hbox hg; have hcz24_0 : w23.cell? ⟨gb489, 0, none⟩ = some (.int .i64 0) := (blk_cell BK489.out 0).trans rfl; have hcz24_1 : w23.cell? ⟨gb489, 1, none⟩ = some (.int .i64 0) := (blk_cell BK489.out 1).trans rfl; have hcz24_2 : w23.cell? ⟨gb489, 2, none⟩ = some (.int .i64 0) := (blk_cell BK489.out 2).trans rfl; have hfz24_0 := blk_frozen BK489.out 0; have hfz24_1 := blk_frozen BK489.out 1; have hfz24_2 := blk_frozen BK489.out 2))
          (try simp only [← hl3_2])
          go_roundg k2
          case measure => have := HK1.out; have := HK2.out; omega
          case rel => exact ⟨(x3_2), (wrap64 (x15_2 + 1)), qs, H', ⟨by have := HK1.out; have := HK2.out; omega⟩, ⟨by (try simp only [hl3_2]); exact uR (Kd.R_mono (Kd.R_far (p := ⟨gb489, 2, none⟩) (Kd.R_far (p := ⟨gb489, 1, none⟩) (Kd.R_far (p := ⟨gb489, 0, none⟩) (Kd.R_types HO_3.out BK489.out (by decide)) (fun _ hk => hk.2) (.int .i64 ((rd_T61 t485 x15_2).f0))) (fun _ hk => hk.2) (.int .i64 ((rd_T61 t485 x15_2).f1))) (fun _ hk => hk.2) (.int .i64 ((rd_T61 t485 x15_2).f2))) (fun _ hk => trivial))⟩, ⟨by (try simp only [hl3_2]); exact uR (Kd.R_mono (Kd.R_far (p := ⟨gb489, 2, none⟩) (Kd.R_far (p := ⟨gb489, 1, none⟩) (Kd.R_far (p := ⟨gb489, 0, none⟩) (Kd.R_mono HO_13.out (fun k_ hk => (⟨hk, hk.2⟩ : _ ∧ k_ ≠ gb489))) (fun _ hk => hk.2) (.int .i64 ((rd_T61 t485 x15_2).f0))) (fun _ hk => hk.2) (.int .i64 ((rd_T61 t485 x15_2).f1))) (fun _ hk => hk.2) (.int .i64 ((rd_T61 t485 x15_2).f2))) (fun _ hk => trivial))⟩, ⟨qT HB GE489⟩⟩
        ·rw [if_neg c12] at H
         exact absurd H (by simp)
       ·rw [if_neg c11] at H
        exact absurd H (by simp)
      ·rw [if_neg c10] at H
       have c10b0 : decide (x15_2 < (t485.length : Int)) = false := decide_eq_false c10
       clear c10
       obtain rfl := Option.some.inj H
       go_wp2
       go_ret
       exact ⟨_, qe, qR HO_3, qB HB⟩

/-! ### spec_LostAfterCut: function 37 -/
mutual
def spec_LostAfterCut.j0 : Nat → List (S61) → Int → Bool → Option (Int × Bool)
 | 0, _, _, _ => none
 | k + 1, x0, x1, x18 => if x18 = true then (some (0, false)) else ((spec_jrAll.f k x0).bind fun t493 => ((spec_l1Least.f x1 (t493.length : Int)).bind fun t496 => (if 0 ≤ t496 then (if t496 ≤ (t493.length : Int) then ((spec_jrRecover.f k (t493.take (t496 : Int).toNat)).bind fun t501 => ((spec_jrValues.f k t501).bind fun t504 => ((spec_jrValues.f k x0).bind fun t507 => (spec_LostAfterCut.l0 k t504 0 t507 (t507.length : Int) 0)))) else (none)) else (none))))
def spec_LostAfterCut.l0 : Nat → List Int → Int → List Int → Int → Int → Option (Int × Bool)
 | 0, _, _, _, _, _ => none
 | k + 1, x7, x8, x30, x31, x32 => if x32 < x31 then (if 0 ≤ x32 then (if x32 < (x30.length : Int) then (if x32 < (x7.length : Int) then (if (rd x7 x32) = (rd x30 x32) then (spec_LostAfterCut.l0 k x7 x8 x30 x31 (wrap64 (x32 + 1))) else (spec_LostAfterCut.l0 k x7 (wrap64 (x8 + 1)) x30 x31 (wrap64 (x32 + 1)))) else (none)) else (none)) else (none)) else (some (x8, true))
end
def spec_LostAfterCut.f (k : Nat) (l0 : List (S61)) (a1 : Int) : Option (Int × Bool) := (spec_jrGood.f k l0).bind fun t491 => (if t491 = true then ((spec_jrCount.f a1).bind fun t492 => (spec_LostAfterCut.j0 k l0 a1 (!t492))) else (spec_LostAfterCut.j0 k l0 a1 true))
theorem spec_LostAfterCut.mono_l : ∀ k, (∀ y0 y1 y2, LeO (spec_LostAfterCut.j0 k y0 y1 y2) (spec_LostAfterCut.j0 (k + 1) y0 y1 y2)) ∧ (∀ y0 y1 y2 y3 y4, LeO (spec_LostAfterCut.l0 k y0 y1 y2 y3 y4) (spec_LostAfterCut.l0 (k + 1) y0 y1 y2 y3 y4))
 | 0 => ⟨fun _ _ _ r h => by simp [spec_LostAfterCut.j0] at h, fun _ _ _ _ _ r h => by simp [spec_LostAfterCut.l0] at h⟩
 | k + 1 => by
  obtain ⟨ih0, ih1⟩ := spec_LostAfterCut.mono_l k
  refine ⟨?_, ?_⟩
  ·intro y0 y1 y2
   unfold spec_LostAfterCut.j0
   repeat' first | (with_reducible first | exact ih0 _ _ _ | exact ih1 _ _ _ _ _ | exact spec_jrAll.mono _ _ | exact spec_jrGood.mono _ _ | exact spec_jrRecover.mono _ _ | exact spec_jrValues.mono _ _ | exact LeO.refl _ | exact LeO.none _ | refine LeO.ite ?_ ?_ | refine LeO.bind ?_ (fun _ => ?_)) | exact ih0 _ _ _ | exact ih1 _ _ _ _ _ | exact spec_jrAll.mono _ _ | exact spec_jrGood.mono _ _ | exact spec_jrRecover.mono _ _ | exact spec_jrValues.mono _ _ | exact LeO.none _ | refine LeO.ite ?_ ?_ | refine LeO.bind ?_ (fun _ => ?_)
  ·intro y0 y1 y2 y3 y4
   unfold spec_LostAfterCut.l0
   repeat' first | (with_reducible first | exact ih0 _ _ _ | exact ih1 _ _ _ _ _ | exact spec_jrAll.mono _ _ | exact spec_jrGood.mono _ _ | exact spec_jrRecover.mono _ _ | exact spec_jrValues.mono _ _ | exact LeO.refl _ | exact LeO.none _ | refine LeO.ite ?_ ?_ | refine LeO.bind ?_ (fun _ => ?_)) | exact ih0 _ _ _ | exact ih1 _ _ _ _ _ | exact spec_jrAll.mono _ _ | exact spec_jrGood.mono _ _ | exact spec_jrRecover.mono _ _ | exact spec_jrValues.mono _ _ | exact LeO.none _ | refine LeO.ite ?_ ?_ | refine LeO.bind ?_ (fun _ => ?_)
theorem spec_LostAfterCut.mono : ∀ a0 a1 k, LeO (spec_LostAfterCut.f k a0 a1) (spec_LostAfterCut.f (k + 1) a0 a1) := by
 intro a0 a1 k
 obtain ⟨ih0, ih1⟩ := spec_LostAfterCut.mono_l k
 unfold spec_LostAfterCut.f
 repeat' first | (with_reducible first | exact ih0 _ _ _ | exact ih1 _ _ _ _ _ | exact spec_jrAll.mono _ _ | exact spec_jrGood.mono _ _ | exact spec_jrRecover.mono _ _ | exact spec_jrValues.mono _ _ | exact LeO.refl _ | exact LeO.none _ | refine LeO.ite ?_ ?_ | refine LeO.bind ?_ (fun _ => ?_)) | exact ih0 _ _ _ | exact ih1 _ _ _ _ _ | exact spec_jrAll.mono _ _ | exact spec_jrGood.mono _ _ | exact spec_jrRecover.mono _ _ | exact spec_jrValues.mono _ _ | exact LeO.none _ | refine LeO.ite ?_ ?_ | refine LeO.bind ?_ (fun _ => ?_)
set_option maxHeartbeats 8000000 in
set_option maxRecDepth 100000 in
theorem spec_LostAfterCut.calls (k : Nat) (A0 : Option Addr) (c0 : Nat) (l0 : List (S61)) (a1 : Int) (r1 : Int) (r2 : Bool) (w : World) (hr0 : Kd.C k61 w A0 l0.length l0) (hc0 : l0.length ≤ c0) (h : spec_LostAfterCut.f k l0 a1 = some (r1, r2)) :
  Calls Try.prog 37 #[.slice A0 l0.length c0, .int .i64 a1] w fun e w' => e = .returned (.tuple #[.int .i64 r1, .bool r2]) ∧ Below w.heap.size w w' := by
 have HR0 := Aside0.mk hr0
 have HC0 := Aside0.mk hc0
 clear hr0 hc0
 have HB := Aside0.mk (Below.refl w.heap.size w)
 have H : ((spec_jrGood.f k l0).bind fun t491 => (if t491 = true then ((spec_jrCount.f a1).bind fun t492 => (spec_LostAfterCut.j0 k l0 a1 (!t492))) else (spec_LostAfterCut.j0 k l0 a1 true))) = some (r1, r2) := h
 clear h
 have HC3 := Aside0.mk H
 clear H
 go_enter Try.func37, Try.ntmps37
 go_upto_region 1 with (fail)
 go_cut [18] (fun v18 wc => ∃ (kq : Nat) (x18_2 : Bool), v18 = .bool x18_2 ∧ Aside0 (spec_LostAfterCut.j0 kq l0 a1 x18_2 = some (r1, r2)) ∧ Aside0 (kq ≤ k) ∧ Aside0 (Below w.heap.size w wc))
 case first =>
  have H := HC3.out
  clear HC3
  replace H := Option.bind_eq_some_iff.mp H
  obtain ⟨t491, A40, H⟩ := H
  replace H : (if t491 = true then ((spec_jrCount.f a1).bind fun t492 => (spec_LostAfterCut.j0 k l0 a1 (!t492))) else (spec_LostAfterCut.j0 k l0 a1 true)) = some (r1, r2) := H
  have A4 := Aside0.mk A40
  clear A40
  by_cases c5 : t491 = true
  ·subst c5
   rw [if_pos rfl] at H
   replace H := Option.bind_eq_some_iff.mp H
   obtain ⟨t492, A60, H⟩ := H
   replace H : (spec_LostAfterCut.j0 k l0 a1 (!t492)) = some (r1, r2) := H
   have A6 := Aside0.mk A60
   clear A60
   have H' := Aside0.mk H
   clear H
   go_wp2_with (first | ((with_reducible refine gate_callee (f := 140) rfl ?_); refine goesL_ (some 12) rfl rfl Try.func140 (by kernel_rfl) rfl #[.slice A0 l0.length c0] rfl qA ?_; (with_reducible refine (spec_jrGood.calls k _ _ l0 true _ ?side1 ?side2 A4.out).mono ?_); (case side1 => exact uC (Kd.C_below HR0.out HB.out)); (case side2 => exact HC0.out); rintro e w7 ⟨rfl, hb⟩; refine ⟨_, rfl, ?_⟩; have n0_ := Aside0.mk (below_step (qB HB) hb); clear HB; have HB := n0_; clear n0_; (try clear hb); (try clear hb2); (try clear hk); (try clear hi)) | (go_at_call 131; (with_reducible refine (spec_jrCount.calls a1 t492 _ A6.out).mono ?_); rintro e w' ⟨rfl, ⟨nd, rfl⟩⟩))
   go_meet
   case rel => exact ⟨_, (!t492), qs, H', ⟨by first | omega | exact Nat.le_refl _⟩, ⟨qB HB⟩⟩
  ·replace c5 := Bool.eq_false_iff.mpr c5
   subst c5
   rw [if_neg (show ¬ (false = true) by decide)] at H
   have H' := Aside0.mk H
   clear H
   go_wp2_with (first | ((with_reducible refine gate_callee (f := 140) rfl ?_); refine goesL_ (some 12) rfl rfl Try.func140 (by kernel_rfl) rfl #[.slice A0 l0.length c0] rfl qA ?_; (with_reducible refine (spec_jrGood.calls k _ _ l0 false _ ?side1 ?side2 A4.out).mono ?_); (case side1 => exact uC (Kd.C_below HR0.out HB.out)); (case side2 => exact HC0.out); rintro e w8 ⟨rfl, hb⟩; refine ⟨_, rfl, ?_⟩; have n0_ := Aside0.mk (below_step (qB HB) hb); clear HB; have HB := n0_; clear n0_; (try clear hb); (try clear hb2); (try clear hk); (try clear hi)))
   go_meet
   case rel => exact ⟨_, (true), qs, H', ⟨by first | omega | exact Nat.le_refl _⟩, ⟨qB HB⟩⟩
 case rest =>
  clear HC3
  try clear c1
  try clear p2
  try clear c3
  try clear c5
  obtain ⟨kq, x18_2, rfl, HA, HJ2, HB⟩ := hcut
  cases kq with
  | zero => exact absurd HA.out (by simp [spec_LostAfterCut.j0])
  | succ kj2 =>
   have H := HA.out
   clear HA
   simp only [spec_LostAfterCut.j0] at H
   by_cases c9 : x18_2 = true
   ·subst c9
    rw [if_pos rfl] at H
    simp only [Option.some.injEq, Prod.mk.injEq] at H
    obtain ⟨rfl, rfl⟩ := H
    go_wp2
    go_ret2
    exact ⟨qe, qB HB⟩
   ·replace c9 := Bool.eq_false_iff.mpr c9
    subst c9
    rw [if_neg (show ¬ (false = true) by decide)] at H
    replace H := Option.bind_eq_some_iff.mp H
    obtain ⟨t493, A100, H⟩ := H
    replace H : ((spec_l1Least.f a1 (t493.length : Int)).bind fun t496 => (if 0 ≤ t496 then (if t496 ≤ (t493.length : Int) then ((spec_jrRecover.f kj2 (t493.take (t496 : Int).toNat)).bind fun t501 => ((spec_jrValues.f kj2 t501).bind fun t504 => ((spec_jrValues.f kj2 l0).bind fun t507 => (spec_LostAfterCut.l0 kj2 t504 0 t507 (t507.length : Int) 0)))) else (none)) else (none))) = some (r1, r2) := H
    have A10 := Aside0.mk A100
    clear A100
    replace H := Option.bind_eq_some_iff.mp H
    obtain ⟨t496, A110, H⟩ := H
    replace H : (if 0 ≤ t496 then (if t496 ≤ (t493.length : Int) then ((spec_jrRecover.f kj2 (t493.take (t496 : Int).toNat)).bind fun t501 => ((spec_jrValues.f kj2 t501).bind fun t504 => ((spec_jrValues.f kj2 l0).bind fun t507 => (spec_LostAfterCut.l0 kj2 t504 0 t507 (t507.length : Int) 0)))) else (none)) else (none)) = some (r1, r2) := H
    have A11 := Aside0.mk A110
    clear A110
    by_cases c12 : 0 ≤ t496
    ·rw [if_pos c12] at H
     have c12b0 := eq_true c12
     have c12b1 : decide (0 ≤ t496) = true := decide_eq_true c12
     clear c12
     by_cases c13 : t496 ≤ (t493.length : Int)
     ·rw [if_pos c13] at H
      have c13b0 := eq_true c13
      have c13b1 : decide (t496 ≤ (t493.length : Int)) = true := decide_eq_true c13
      clear c13
      obtain ⟨y497, hy497⟩ : ∃ y_ : List Int, y_ = (t493.take (t496 : Int).toNat) := ⟨_, rfl⟩
      replace H : ((spec_jrRecover.f kj2 y497).bind fun t501 => ((spec_jrValues.f kj2 t501).bind fun t504 => ((spec_jrValues.f kj2 l0).bind fun t507 => (spec_LostAfterCut.l0 kj2 t504 0 t507 (t507.length : Int) 0)))) = some (r1, r2) := by first | (rw [hy497]; with_reducible exact H) | (have H2_ := (Option.bind_some _ _).symm.trans H; rw [hy497]; with_reducible exact H2_) | (have H2_ := (Option.bind_some _ _).symm.trans H; with_reducible exact H2_) | with_reducible exact H | (rw [hy497]; exact H) | exact H
      have Ny497 := Aside0.mk hy497
      clear hy497
      replace H := Option.bind_eq_some_iff.mp H
      obtain ⟨t501, A140, H⟩ := H
      replace H : ((spec_jrValues.f kj2 t501).bind fun t504 => ((spec_jrValues.f kj2 l0).bind fun t507 => (spec_LostAfterCut.l0 kj2 t504 0 t507 (t507.length : Int) 0))) = some (r1, r2) := H
      have A14 := Aside0.mk A140
      clear A140
      replace H := Option.bind_eq_some_iff.mp H
      obtain ⟨t504, A150, H⟩ := H
      replace H : ((spec_jrValues.f kj2 l0).bind fun t507 => (spec_LostAfterCut.l0 kj2 t504 0 t507 (t507.length : Int) 0)) = some (r1, r2) := H
      have A15 := Aside0.mk A150
      clear A150
      replace H := Option.bind_eq_some_iff.mp H
      obtain ⟨t507, A160, H⟩ := H
      replace H : (spec_LostAfterCut.l0 kj2 t504 0 t507 (t507.length : Int) 0) = some (r1, r2) := H
      have A16 := Aside0.mk A160
      clear A160
      have H' := Aside0.mk H
      clear H
      go_wp2_with (first | ((with_reducible refine gate_callee (f := 141) rfl ?_); refine goesL_ (some 20) rfl rfl Try.func141 (by kernel_rfl) rfl #[.slice A0 l0.length c0] rfl qA ?_; (with_reducible refine (spec_jrAll.calls kj2 _ _ l0 t493 _ ?side1 ?side2 A10.out).mono ?_); (case side1 => exact uC (Kd.C_below HR0.out HB.out)); (case side2 => exact HC0.out); rintro e w17 ⟨v494, rfl, ho0, hb⟩; refine ⟨_, rfl, ?_⟩; have n0_ := Aside0.mk (Kd.R_lower ho0 (below_size (qB HB))); have n1_ := Aside0.mk (below_step (qB HB) hb); clear HB; have HO495 := n0_; have HB := n1_; clear n0_ n1_; (try clear hb); (try clear hb2); (try clear hk); (try clear hi); (try clear ho0); obtain ⟨Ao18, co18, eo18⟩ := Kd.R_slice HO495.out; subst eo18) | ((with_reducible refine gate_callee (f := 122) rfl ?_); refine goesL_ (some 25) rfl rfl Try.func122 (by kernel_rfl) rfl #[.int .i64 a1, .int .i64 (t493.length : Int)] rfl qA ?_; (with_reducible refine (spec_l1Least.calls a1 (t493.length : Int) t496 _ A11.out).mono ?_); rintro e w' ⟨rfl, ⟨nd, rfl⟩⟩; refine ⟨_, rfl, ?_⟩; have q19 : (t496 : Int) ≤ ((t493.length : Int) : Int) := of_decide_eq_true qa; obtain ⟨i019, hi019, _, hsz19, _⟩ := info_parts info3; have hroom19 : t493.length ≤ co18 := (Kd.R_reads' HO495.out).2.1; have hC19 : Kd.C (Kd.int .i64) _ Ao18 t493.length t493 := (Kd.R_reads' HO495.out).2.2; have hcut19 := cut_to (P := Try.prog) 23 3 .i64 Try.underlying23 hi019 Ao18 t493.length co18 t496 (of_decide_eq_true qa) q19 hroom19; have hr19 := Kd.C_take (m := (t496 : Int).toNat) hC19 (by omega); have hy19 : y497.length = (t496 : Int).toNat := (by rw [Ny497.out, List.length_take]; omega); rw [← Ny497.out] at hr19; rw [← hy19] at hcut19; have HR500 := Aside0.mk hr19; have HC500 := Aside0.mk (show y497.length ≤ co18 from by omega); clear hr19 hC19 hroom19 hi019 hsz19; have KY19 := Aside0.mk hy19; clear hy19; have KL19 := Aside0.mk (show (t496 : Int).toNat ≤ t493.length from by omega); replace q19 := eq_true q19) | ((with_reducible refine gate_callee (f := 134) rfl ?_); refine goesL_ (some 27) rfl rfl Try.func134 (by kernel_rfl) rfl #[.slice Ao18 y497.length co18] rfl qA ?_; (with_reducible refine (spec_jrRecover.calls kj2 _ _ y497 t501 _ ?side1 ?side2 A14.out).mono ?_); (case side1 => repeat (first | exact (by repeat (first | (with_reducible exact HR500.out) | (with_reducible refine Kd.C_alloc ?_ _) | (with_reducible refine Kd.C_drewN ?_ _) | (with_reducible refine Kd.C_drew ?_) | exact HR500.out)) | (with_reducible refine Kd.C_alloc ?_ _) | (with_reducible refine Kd.C_drewN ?_ _) | (with_reducible refine Kd.C_drew ?_))); (case side2 => exact HC500.out); rintro e w20 ⟨v502, rfl, ho0, hb⟩; refine ⟨_, rfl, ?_⟩; have n0_ := Aside0.mk (Kd.R_below (qR HO495) hb); have n1_ := Aside0.mk (Kd.R_lower ho0 (below_size (qB HB))); have n2_ := Aside0.mk (Kd.C_below (by repeat (first | (with_reducible exact HR500.out) | (with_reducible refine Kd.C_alloc ?_ _) | (with_reducible refine Kd.C_drewN ?_ _) | (with_reducible refine Kd.C_drew ?_) | exact HR500.out)) hb); have n3_ := Aside0.mk (below_step (qB HB) hb); clear HO495; clear HR500; clear HB; have HO495 := n0_; have HO503 := n1_; have HR500 := n2_; have HB := n3_; clear n0_ n1_ n2_ n3_; (try clear hb); (try clear hb2); (try clear hk); (try clear hi); (try clear ho0); obtain ⟨Ao21, co21, eo21⟩ := Kd.R_slice HO503.out; subst eo21) | ((with_reducible refine gate_callee (f := 142) rfl ?_); refine goesL_ (some 28) rfl rfl Try.func142 (by kernel_rfl) rfl #[.slice Ao21 t501.length co21] rfl qA ?_; (with_reducible refine (spec_jrValues.calls kj2 _ _ t501 t504 _ ?side1 ?side2 A15.out).mono ?_); (case side1 => exact uC (Kd.R_reads' HO503.out).2.2); (case side2 => exact (Kd.R_reads' HO503.out).2.1); rintro e w22 ⟨v505, rfl, ho0, hb⟩; refine ⟨_, rfl, ?_⟩; have n0_ := Aside0.mk (Kd.R_elder' (qR HO495) (Kd.R_base ho0) hb); have n1_ := Aside0.mk (Kd.R_below (qR HO503) hb); have n2_ := Aside0.mk (Kd.R_lower (Kd.R_new' ho0 (Kd.R_lt (qR HO495))) (below_size (qB HB))); have n3_ := Aside0.mk (Kd.C_below (by repeat (first | (with_reducible exact HR500.out) | (with_reducible refine Kd.C_alloc ?_ _) | (with_reducible refine Kd.C_drewN ?_ _) | (with_reducible refine Kd.C_drew ?_) | exact HR500.out)) hb); have n4_ := Aside0.mk (below_step (qB HB) hb); clear HO495; clear HO503; clear HR500; clear HB; have HO495 := n0_; have HO503 := n1_; have HO506 := n2_; have HR500 := n3_; have HB := n4_; clear n0_ n1_ n2_ n3_ n4_; (try clear hb); (try clear hb2); (try clear hk); (try clear hi); (try clear ho0)) | ((with_reducible refine gate_callee (f := 142) rfl ?_); refine goesL_ (some 30) rfl rfl Try.func142 (by kernel_rfl) rfl #[.slice A0 l0.length c0] rfl qA ?_; (with_reducible refine (spec_jrValues.calls kj2 _ _ l0 t507 _ ?side1 ?side2 A16.out).mono ?_); (case side1 => exact uC (Kd.C_below HR0.out HB.out)); (case side2 => exact HC0.out); rintro e w23 ⟨v508, rfl, ho0, hb⟩; refine ⟨_, rfl, ?_⟩; have n0_ := Aside0.mk (Kd.R_elder' (qR HO495) (Kd.R_base ho0) hb); have n1_ := Aside0.mk (Kd.R_below (qR HO503) hb); have n2_ := Aside0.mk (Kd.R_elder' (qR HO506) (Kd.R_base ho0) hb); have n3_ := Aside0.mk (Kd.R_lower (Kd.R_new' (Kd.R_new' ho0 (Kd.R_lt (qR HO495))) (Kd.R_lt (qR HO506))) (below_size (qB HB))); have n4_ := Aside0.mk (Kd.C_below (by repeat (first | (with_reducible exact HR500.out) | (with_reducible refine Kd.C_alloc ?_ _) | (with_reducible refine Kd.C_drewN ?_ _) | (with_reducible refine Kd.C_drew ?_) | exact HR500.out)) hb); have n5_ := Aside0.mk (below_step (qB HB) hb); clear HO495; clear HO503; clear HO506; clear HR500; clear HB; have HO495 := n0_; have HO503 := n1_; have HO506 := n2_; have HO509 := n3_; have HR500 := n4_; have HB := n5_; clear n0_ n1_ n2_ n3_ n4_ n5_; (try clear hb); (try clear hb2); (try clear hk); (try clear hi); (try clear ho0); obtain ⟨Ao24, co24, eo24⟩ := Kd.R_slice HO509.out; subst eo24))
      go_loopg [8, 32] kj2 (fun kq v8 v32 w' => ∃ (x8_2 : Int) (x32_2 : Int), v8 = .int .i64 x8_2 ∧ v32 = .int .i64 x32_2 ∧ Aside0 (spec_LostAfterCut.l0 kq t504 x8_2 t507 (t507.length : Int) x32_2 = some (r1, r2)) ∧ Aside0 (kq ≤ kj2) ∧ Aside0 (Kd.R (Kd.int .i64) 3 w' w.heap.size (fun k_ => some k_ ≠ ((.slice Ao24 t507.length co24) : Value).ownBlock) v505 t504) ∧ Aside0 (Kd.R (Kd.int .i64) 3 w' w.heap.size (fun k_ => some k_ ≠ (v505 : Value).ownBlock) (.slice Ao24 t507.length co24) t507) ∧ Aside0 (Kd.C (Kd.int .i64) w' Ao18 y497.length y497) ∧ Aside0 (Below w.heap.size w w'))
      case atStart => exact ⟨(0), (0), qs, qs, H', ⟨Nat.le_refl _⟩, ⟨by exact uR (Kd.R_mono HO506.out (fun _ hk => hk.2))⟩, ⟨by exact uR (Kd.R_mono HO509.out (fun _ hk => hk.2))⟩, ⟨by repeat (first | (with_reducible exact HR500.out) | (with_reducible refine Kd.C_alloc ?_ _) | (with_reducible refine Kd.C_drewN ?_ _) | (with_reducible refine Kd.C_drew ?_) | exact HR500.out)⟩, ⟨qB HB⟩⟩
      case round =>
       clear H'
       try clear c1
       try clear q1
       try clear p2
       try clear c3
       try clear c5
       try clear c9
       try clear c12
       try clear c12b0
       try clear c12b1
       try clear c13
       try clear c13b0
       try clear c13b1
       try clear c14
       try clear q19
       try clear p2
       try clear q19
       obtain ⟨x8_2, x32_2, rfl, rfl, HA, HK2, HO_7, HO_30, HR500, HB⟩ := hrel
       cases gk with
       | zero => exact absurd HA.out (by simp [spec_LostAfterCut.l0])
       | succ k2 =>
        have H := HA.out
        clear HA
        simp only [spec_LostAfterCut.l0] at H
        by_cases c25 : x32_2 < (t507.length : Int)
        ·rw [if_pos c25] at H
         have c25b0 : decide (x32_2 < (t507.length : Int)) = true := decide_eq_true c25
         clear c25
         by_cases c26 : 0 ≤ x32_2
         ·rw [if_pos c26] at H
          have c26b0 : decide (0 ≤ x32_2) = true := decide_eq_true c26
          clear c26
          by_cases c27 : x32_2 < (t507.length : Int)
          ·rw [if_pos c27] at H
           have c27b0 : decide (x32_2 < (t507.length : Int)) = true := decide_eq_true c27
           clear c27
           by_cases c28 : x32_2 < (t504.length : Int)
           ·rw [if_pos c28] at H
            have c28b0 : decide (x32_2 < (t504.length : Int)) = true := decide_eq_true c28
            clear c28
            by_cases c29 : (rd t504 x32_2) = (rd t507 x32_2)
            ·rw [if_pos c29] at H
             have c29b0 : ((rd t504 x32_2) == (rd t507 x32_2)) = true := beq_iff_eq.mpr c29
             have c29b1 : ((rd t504 x32_2) != (rd t507 x32_2)) = false := bne_eq_false_iff_eq.mpr c29
             clear c29
             have H' := Aside0.mk H
             clear H
             have p510 : 0 ≤ (x32_2 : Int) := of_decide_eq_true qa
             have q510 : x32_2 < (t507.length : Int) := of_decide_eq_true qa
             obtain ⟨ad510, e510, hx510_0⟩ := Kd.at_int (Kd.R_reads' HO_30.out).2.2 x32_2 p510 q510
             cases e510
             replace p510 := eq_true p510
             replace q510 := eq_true q510
             obtain ⟨Ao30, co30, eo30⟩ := Kd.R_slice HO_7.out
             subst eo30
             have p511 : 0 ≤ (x32_2 : Int) := of_decide_eq_true qa
             have q511 : x32_2 < (t504.length : Int) := of_decide_eq_true qa
             obtain ⟨ad511, e511, hx511_0⟩ := Kd.at_int (Kd.R_reads' HO_7.out).2.2 x32_2 p511 q511
             cases e511
             replace p511 := eq_true p511
             replace q511 := eq_true q511
             go_wp2
             go_roundg k2
             case measure => have := HJ2.out; have := HK2.out; omega
             case rel => exact ⟨(x8_2), (wrap64 (x32_2 + 1)), qs, qs, H', ⟨by have := HJ2.out; have := HK2.out; omega⟩, ⟨qR HO_7⟩, ⟨qR HO_30⟩, ⟨by repeat (first | (with_reducible exact HR500.out) | (with_reducible refine Kd.C_alloc ?_ _) | (with_reducible refine Kd.C_drewN ?_ _) | (with_reducible refine Kd.C_drew ?_) | exact HR500.out)⟩, ⟨qB HB⟩⟩
            ·rw [if_neg c29] at H
             have c29b0 : ((rd t504 x32_2) == (rd t507 x32_2)) = false := beq_eq_false_iff_ne.mpr c29
             have c29b1 : ((rd t504 x32_2) != (rd t507 x32_2)) = true := bne_iff_ne.mpr c29
             have H' := Aside0.mk H
             clear H
             have p510 : 0 ≤ (x32_2 : Int) := of_decide_eq_true qa
             have q510 : x32_2 < (t507.length : Int) := of_decide_eq_true qa
             obtain ⟨ad510, e510, hx510_0⟩ := Kd.at_int (Kd.R_reads' HO_30.out).2.2 x32_2 p510 q510
             cases e510
             replace p510 := eq_true p510
             replace q510 := eq_true q510
             obtain ⟨Ao31, co31, eo31⟩ := Kd.R_slice HO_7.out
             subst eo31
             have p511 : 0 ≤ (x32_2 : Int) := of_decide_eq_true qa
             have q511 : x32_2 < (t504.length : Int) := of_decide_eq_true qa
             obtain ⟨ad511, e511, hx511_0⟩ := Kd.at_int (Kd.R_reads' HO_7.out).2.2 x32_2 p511 q511
             cases e511
             replace p511 := eq_true p511
             replace q511 := eq_true q511
             go_wp2
             go_roundg k2
             case measure => have := HJ2.out; have := HK2.out; omega
             case rel => exact ⟨(wrap64 (x8_2 + 1)), (wrap64 (x32_2 + 1)), qs, qs, H', ⟨by have := HJ2.out; have := HK2.out; omega⟩, ⟨qR HO_7⟩, ⟨qR HO_30⟩, ⟨by repeat (first | (with_reducible exact HR500.out) | (with_reducible refine Kd.C_alloc ?_ _) | (with_reducible refine Kd.C_drewN ?_ _) | (with_reducible refine Kd.C_drew ?_) | exact HR500.out)⟩, ⟨qB HB⟩⟩
           ·rw [if_neg c28] at H
            exact absurd H (by simp)
          ·rw [if_neg c27] at H
           exact absurd H (by simp)
         ·rw [if_neg c26] at H
          exact absurd H (by simp)
        ·rw [if_neg c25] at H
         have c25b0 : decide (x32_2 < (t507.length : Int)) = false := decide_eq_false c25
         clear c25
         simp only [Option.some.injEq, Prod.mk.injEq] at H
         obtain ⟨rfl, rfl⟩ := H
         go_wp2
         go_ret2
         exact ⟨qe, qB HB⟩
     ·rw [if_neg c13] at H
      exact absurd H (by simp)
    ·rw [if_neg c12] at H
     exact absurd H (by simp)

/-! ### spec_DrawRecordNumbers: function 38 -/
def spec_DrawRecordNumbers.f (k : Nat) (l0 : List Int) : Option (Int × Int × Int × Int) := (spec_l1Cur_journalRecord.f k l0 0 0).bind fun bt514 => ((spec_l1Cur_among.f l0 bt514.2.2.2.1 bt514.2.2.2.2 (([40, (-1)] : List Int))).bind fun bt522 => ((spec_l1Cur_among.f l0 bt522.2.1 bt522.2.2 (([0, 1, 7, 39, bt522.1] : List Int))).bind fun bt528 => (some (bt514.1, bt514.2.1, bt514.2.2.1, bt528.1))))
theorem spec_DrawRecordNumbers.mono : ∀ a0 k, LeO (spec_DrawRecordNumbers.f k a0) (spec_DrawRecordNumbers.f (k + 1) a0) := by
 intro a0 k
 unfold spec_DrawRecordNumbers.f
 repeat' first | (with_reducible first | exact spec_l1Cur_journalRecord.mono _ _ _ _ | exact LeO.refl _ | exact LeO.none _ | refine LeO.ite ?_ ?_ | refine LeO.bind ?_ (fun _ => ?_)) | exact spec_l1Cur_journalRecord.mono _ _ _ _ | exact LeO.none _ | refine LeO.ite ?_ ?_ | refine LeO.bind ?_ (fun _ => ?_)
set_option maxHeartbeats 8000000 in
set_option maxRecDepth 100000 in
theorem spec_DrawRecordNumbers.calls (k : Nat) (A0 : Option Addr) (c0 : Nat) (l0 : List Int) (r1 : Int) (r2 : Int) (r3 : Int) (r4 : Int) (w : World) (hr0 : Kd.C (Kd.int .u8) w A0 l0.length l0) (hc0 : l0.length ≤ c0) (h : spec_DrawRecordNumbers.f k l0 = some (r1, r2, r3, r4)) :
  Calls Try.prog 38 #[.slice A0 l0.length c0] w fun e w' => e = .returned (.tuple #[.agg #[.int .i64 r1, .int .i64 r2, .int .i64 r3], .int .i64 r4]) ∧ Below w.heap.size w w' := by
 have hu61 := Try.underlying61
 have hu126 := Try.underlying126
 have HR0 := Aside0.mk hr0
 have HC0 := Aside0.mk hc0
 clear hr0 hc0
 have HB := Aside0.mk (Below.refl w.heap.size w)
 have H : ((spec_l1Cur_journalRecord.f k l0 0 0).bind fun bt514 => ((spec_l1Cur_among.f l0 bt514.2.2.2.1 bt514.2.2.2.2 (([40, (-1)] : List Int))).bind fun bt522 => ((spec_l1Cur_among.f l0 bt522.2.1 bt522.2.2 (([0, 1, 7, 39, bt522.1] : List Int))).bind fun bt528 => (some (bt514.1, bt514.2.1, bt514.2.2.1, bt528.1))))) = some (r1, r2, r3, r4) := h
 clear h
 replace H := Option.bind_eq_some_iff.mp H
 obtain ⟨⟨t514, t515, t516, t517, t518⟩, A20, H⟩ := H
 replace H : ((spec_l1Cur_among.f l0 t517 t518 (([40, (-1)] : List Int))).bind fun bt522 => ((spec_l1Cur_among.f l0 bt522.2.1 bt522.2.2 (([0, 1, 7, 39, bt522.1] : List Int))).bind fun bt528 => (some (t514, t515, t516, bt528.1)))) = some (r1, r2, r3, r4) := H
 have A2 := Aside0.mk A20
 clear A20
 obtain ⟨y519, hy519⟩ : ∃ y_ : List Int, y_ = (([40, (-1)] : List Int)) := ⟨_, rfl⟩
 replace H : ((spec_l1Cur_among.f l0 t517 t518 y519).bind fun bt522 => ((spec_l1Cur_among.f l0 bt522.2.1 bt522.2.2 (([0, 1, 7, 39, bt522.1] : List Int))).bind fun bt528 => (some (t514, t515, t516, bt528.1)))) = some (r1, r2, r3, r4) := by first | (rw [hy519]; with_reducible exact H) | (have H2_ := (Option.bind_some _ _).symm.trans H; rw [hy519]; with_reducible exact H2_) | (have H2_ := (Option.bind_some _ _).symm.trans H; with_reducible exact H2_) | with_reducible exact H | (rw [hy519]; exact H) | exact H
 have Ny519 := Aside0.mk hy519
 clear hy519
 replace H := Option.bind_eq_some_iff.mp H
 obtain ⟨⟨t522, t523, t524⟩, A30, H⟩ := H
 replace H : ((spec_l1Cur_among.f l0 t523 t524 (([0, 1, 7, 39, t522] : List Int))).bind fun bt528 => (some (t514, t515, t516, bt528.1))) = some (r1, r2, r3, r4) := H
 have A3 := Aside0.mk A30
 clear A30
 obtain ⟨y525, hy525⟩ : ∃ y_ : List Int, y_ = (([0, 1, 7, 39, t522] : List Int)) := ⟨_, rfl⟩
 replace H : ((spec_l1Cur_among.f l0 t523 t524 y525).bind fun bt528 => (some (t514, t515, t516, bt528.1))) = some (r1, r2, r3, r4) := by first | (rw [hy525]; with_reducible exact H) | (have H2_ := (Option.bind_some _ _).symm.trans H; rw [hy525]; with_reducible exact H2_) | (have H2_ := (Option.bind_some _ _).symm.trans H; with_reducible exact H2_) | with_reducible exact H | (rw [hy525]; exact H) | exact H
 have Ny525 := Aside0.mk hy525
 clear hy525
 replace H := Option.bind_eq_some_iff.mp H
 obtain ⟨⟨t528, t529, t530⟩, A40, H⟩ := H
 replace H : (some (t514, t515, t516, t528)) = some (r1, r2, r3, r4) := H
 have A4 := Aside0.mk A40
 clear A40
 simp only [Option.some.injEq, Prod.mk.injEq] at H
 obtain ⟨rfl, rfl, rfl, rfl⟩ := H
 go_enter Try.func38, Try.ntmps38
 go_wp2_with (first | ((with_reducible refine gate_dst (N := 2) rfl ?_); refine box_event ?hg (N := 2) ?hd (cs := #[.int .i64 0, .int .i64 0, .int .i64 0]) (t := 61) ?hr ?_; (case hd => rfl); (case hg => rfl); (case hr => first | (go_simp; done) | (go_simp; rfl)); intro gb512 hg w5 hbox hb; have n0_ := Aside0.mk (below_step (qB HB) hb); have n1_ := Aside0.mk (hbox); have n2_ := Aside0.mk ((by rw [hg]; exact (below_size (qB HB)) : w.heap.size ≤ gb512)); have n3_ := Aside0.mk ((by rw [hg]; exact (below_size (qB HB)) : w.heap.size ≤ gb512)); clear HB; have HB := n0_; have BK512 := n1_; have GW512 := n2_; have GE512 := n3_; clear n0_ n1_ n2_ n3_; clear hb hbox hg) | ((with_reducible refine gate_dst (N := 7) rfl ?_); refine box_event ?hg (N := 7) ?hd (cs := #[.slice A0 l0.length c0, .int .i64 0, .int .u64 0]) (t := 126) ?hr ?_; (case hd => rfl); (case hg => rfl); (case hr => first | (go_simp; done) | (go_simp; rfl)); intro gb513 hg w6 hbox hb; have n0_ := Aside0.mk (blk_below (g := gb512) (o := .cells #[.int .i64 0, .int .i64 0, .int .i64 0] 61 (0, 0)) (qK BK512) hb); have n1_ := Aside0.mk (below_step (qT HB GE512) hb); have n2_ := Aside0.mk (hbox); have n3_ := Aside0.mk ((by rw [hg]; exact (below_size (qT HB GE512)) : w.heap.size ≤ gb513)); have n4_ := Aside0.mk ((by rw [hg]; exact (below_size (qT HB GE512)) : w.heap.size ≤ gb513)); have n5_ := Aside0.mk ((by rw [hg]; exact Nat.ne_of_lt (blk_lt (g := gb512) (o := .cells #[.int .i64 0, .int .i64 0, .int .i64 0] 61 (0, 0)) (qK BK512)) : gb512 ≠ gb513)); have n6_ := Aside0.mk ((by rw [hg]; exact Nat.ne_of_gt (blk_lt (g := gb512) (o := .cells #[.int .i64 0, .int .i64 0, .int .i64 0] 61 (0, 0)) (qK BK512)) : gb513 ≠ gb512)); clear BK512; clear HB; have BK512 := n0_; have HB := n1_; have BK513 := n2_; have GW513 := n3_; have GE513 := n4_; have NB512_513 := n5_; have NB513_512 := n6_; clear n0_ n1_ n2_ n3_ n4_ n5_ n6_; clear hb hbox hg; have HI513 := Aside0.mk (show IsS126 w _ gb513 l0 0 0 from ⟨_, _, by (with_reducible repeat (first | refine blk_drewN ?_ _ | refine blk_drew ?_ | refine blk_alloc ?_ _)); exact BK513.out, GE513.out, HR0.out⟩)) | ((with_reducible refine gate_callee (f := 143) rfl ?_); refine goesL_ (some 9) rfl rfl Try.func143 (by kernel_rfl) rfl #[.pointer (some ⟨gb513, 0, none⟩)] rfl qA ?_; (with_reducible refine (spec_l1Cur_journalRecord.calls k gb513 l0 0 0 t514 t515 t516 t517 t518 w _ ?side1 ?side2 A2.out).mono ?_); (case side1 => exact qI126 HI513); (case side2 => exact qV126 HB); rintro e w7 ⟨rfl, hi, hb, hk⟩; refine ⟨_, rfl, ?_⟩; have n0_ := Aside0.mk (KeepBut.blk hk (g' := gb512) (o := .cells #[.int .i64 0, .int .i64 0, .int .i64 0] 61 (0, 0)) (qK BK512) NB512_513.out (by simp)); have n1_ := Aside0.mk (hb); have n2_ := Aside0.mk (hi); clear BK512; clear HB; clear HI513; have BK512 := n0_; have HB := n1_; have HI513 := n2_; clear n0_ n1_ n2_; (try clear hb); (try clear hb2); (try clear hk); (try clear hi)) | ((with_reducible refine gate_dst (N := 12) rfl ?_); refine Kd.R_lit (Kd.int .i64) _ 3 ?hg (N := 12) ?hd (xs := ([40, (-1)] : List Int)) (inner := [.int .i64 40, .int .i64 (-1)]) (ok := fun _ => True) (okp := fun _ => True) ?hr ?hp (fun _ hk => hk) trivial (Below.refl _ _) (Nat.le_refl _) (by simp) ?_; (case hd => rfl); (case hg => rfl); (case hr => first | (go_simp; done) | (go_simp; rfl)); (case hp => exact (Reps.one (show Kd.M (Kd.int .i64) _ _ _ 40 [.int .i64 40] from rfl) (Reps.one (show Kd.M (Kd.int .i64) _ _ _ (-1) [.int .i64 (-1)] from rfl) (Reps.none _ _)))); intro v520 w8 ho9 hb hg_ hnew_; clear hg_ hnew_; (first | rw [← Ny519.out] at ho9 | (simp only [Int.reduceToNat] at ho9; rw [← Ny519.out] at ho9)); have n0_ := Aside0.mk (Kd.R_lower ho9 (below_size (qV126 HB))); have n1_ := Aside0.mk (blk_below (g := gb512) (o := .cells #[.int .i64 0, .int .i64 0, .int .i64 0] 61 (0, 0)) (qK BK512) hb); have n2_ := Aside0.mk (IsS126.below (qI126 HI513) hb); have n3_ := Aside0.mk (below_step (qV126 HB) hb); clear BK512; clear HI513; clear HB; have HO521 := n0_; have BK512 := n1_; have HI513 := n2_; have HB := n3_; clear n0_ n1_ n2_ n3_; clear hb ho9; obtain ⟨Ao10, co10, eo10⟩ := Kd.R_slice HO521.out; subst eo10) | ((with_reducible refine gate_callee (f := 116) rfl ?_); refine goesL_ (some 13) rfl rfl Try.func116 (by kernel_rfl) rfl #[.pointer (some ⟨gb513, 0, none⟩), .slice Ao10 y519.length co10] rfl qA ?_; (with_reducible refine (spec_l1Cur_among.calls gb513 l0 t517 t518 _ _ y519 t522 t523 t524 w _ ?side1 ?side2 ?side3 ?side4 ?side5 A3.out).mono ?_); (case side1 => exact qI126 HI513); (case side2 => exact qV126 HB); (case side3 => exact uC (Kd.R_reads' HO521.out).2.2); (case side4 => exact (Kd.R_reads' HO521.out).2.1); (case side5 => exact far_slice (IsS126.own_ne HI513.out HO521.out (by decide))); rintro e w11 ⟨rfl, hi, hb, hk⟩; refine ⟨_, rfl, ?_⟩; have n0_ := Aside0.mk (KeepBut.blk hk (g' := gb512) (o := .cells #[.int .i64 0, .int .i64 0, .int .i64 0] 61 (0, 0)) (qK BK512) NB512_513.out (by simp)); have n1_ := Aside0.mk (Kd.R_mono (Kd.R_keep (IsS126.apart (show IsS126 w _ gb513 l0 t517 t518 from qI126 HI513) (qR HO521) (by decide)) hk (fun _ h => h.2)) (fun _ h => h.1)); have n2_ := Aside0.mk (hb); have n3_ := Aside0.mk (hi); clear BK512; clear HO521; clear HB; clear HI513; have BK512 := n0_; have HO521 := n1_; have HB := n2_; have HI513 := n3_; clear n0_ n1_ n2_ n3_; (try clear hb); (try clear hb2); (try clear hk); (try clear hi)) | ((with_reducible refine gate_dst (N := 14) rfl ?_); refine Kd.R_lit (Kd.int .i64) _ 3 ?hg (N := 14) ?hd (xs := ([0, 1, 7, 39, t522] : List Int)) (inner := [.int .i64 0, .int .i64 1, .int .i64 7, .int .i64 39, .int .i64 t522]) (ok := fun _ => True) (okp := fun _ => True) ?hr ?hp (fun _ hk => hk) trivial (Below.refl _ _) (Nat.le_refl _) (by simp) ?_; (case hd => rfl); (case hg => rfl); (case hr => first | (go_simp; done) | (go_simp; rfl)); (case hp => exact (Reps.one (show Kd.M (Kd.int .i64) _ _ _ 0 [.int .i64 0] from rfl) (Reps.one (show Kd.M (Kd.int .i64) _ _ _ 1 [.int .i64 1] from rfl) (Reps.one (show Kd.M (Kd.int .i64) _ _ _ 7 [.int .i64 7] from rfl) (Reps.one (show Kd.M (Kd.int .i64) _ _ _ 39 [.int .i64 39] from rfl) (Reps.one (show Kd.M (Kd.int .i64) _ _ _ t522 [.int .i64 t522] from rfl) (Reps.none _ _))))))); intro v526 w12 ho13 hb hg_ hnew_; clear hg_ hnew_; (first | rw [← Ny525.out] at ho13 | (simp only [Int.reduceToNat] at ho13; rw [← Ny525.out] at ho13)); have n0_ := Aside0.mk (Kd.R_elder' (qR HO521) (Kd.R_base ho13) hb); have n1_ := Aside0.mk (Kd.R_lower (Kd.R_new' ho13 (Kd.R_lt (qR HO521))) (below_size (qV126 HB))); have n2_ := Aside0.mk (blk_below (g := gb512) (o := .cells #[.int .i64 0, .int .i64 0, .int .i64 0] 61 (0, 0)) (qK BK512) hb); have n3_ := Aside0.mk (IsS126.below (qI126 HI513) hb); have n4_ := Aside0.mk (below_step (qV126 HB) hb); clear HO521; clear BK512; clear HI513; clear HB; have HO521 := n0_; have HO527 := n1_; have BK512 := n2_; have HI513 := n3_; have HB := n4_; clear n0_ n1_ n2_ n3_ n4_; clear hb ho13; obtain ⟨Ao14, co14, eo14⟩ := Kd.R_slice HO527.out; subst eo14) | ((with_reducible refine gate_callee (f := 116) rfl ?_); refine goesL_ (some 15) rfl rfl Try.func116 (by kernel_rfl) rfl #[.pointer (some ⟨gb513, 0, none⟩), .slice Ao14 y525.length co14] rfl qA ?_; (with_reducible refine (spec_l1Cur_among.calls gb513 l0 t523 t524 _ _ y525 t528 t529 t530 w _ ?side1 ?side2 ?side3 ?side4 ?side5 A4.out).mono ?_); (case side1 => exact qI126 HI513); (case side2 => exact qV126 HB); (case side3 => exact uC (Kd.R_reads' HO527.out).2.2); (case side4 => exact (Kd.R_reads' HO527.out).2.1); (case side5 => exact far_slice (IsS126.own_ne HI513.out HO527.out (by decide))); rintro e w15 ⟨rfl, hi, hb, hk⟩; refine ⟨_, rfl, ?_⟩; have n0_ := Aside0.mk (KeepBut.blk hk (g' := gb512) (o := .cells #[.int .i64 0, .int .i64 0, .int .i64 0] 61 (0, 0)) (qK BK512) NB512_513.out (by simp)); have n1_ := Aside0.mk (Kd.R_mono (Kd.R_keep (IsS126.apart (show IsS126 w _ gb513 l0 t523 t524 from qI126 HI513) (qR HO521) (by decide)) hk (fun _ h => h.2)) (fun _ h => h.1)); have n2_ := Aside0.mk (Kd.R_mono (Kd.R_keep (IsS126.apart (show IsS126 w _ gb513 l0 t523 t524 from qI126 HI513) (qR HO527) (by decide)) hk (fun _ h => h.2)) (fun _ h => h.1)); have n3_ := Aside0.mk (hb); have n4_ := Aside0.mk (hi); clear BK512; clear HO521; clear HO527; clear HB; clear HI513; have BK512 := n0_; have HO521 := n1_; have HO527 := n2_; have HB := n3_; have HI513 := n4_; clear n0_ n1_ n2_ n3_ n4_; (try clear hb); (try clear hb2); (try clear hk); (try clear hi); have hnb16 := NB512_513.out; have hnc16 := NB513_512.out; have hcz17_0 : w15.cell? ⟨gb512, 0, none⟩ = some (.int .i64 0) := (blk_cell BK512.out 0).trans rfl; have hcz17_1 : w15.cell? ⟨gb512, 1, none⟩ = some (.int .i64 0) := (blk_cell BK512.out 1).trans rfl; have hcz17_2 : w15.cell? ⟨gb512, 2, none⟩ = some (.int .i64 0) := (blk_cell BK512.out 2).trans rfl; have hfz17_0 := blk_frozen BK512.out 0; have hfz17_1 := blk_frozen BK512.out 1; have hfz17_2 := blk_frozen BK512.out 2))
 refine bodyPost_ret (results_ct rfl _ _ gb512 61 #[.int .i64 t514, .int .i64 t515, .int .i64 t516] (0, 0) _ rfl (by (with_reducible repeat (first | refine blk_drewN ?_ _ | refine blk_drew ?_ | refine blk_alloc ?_ _)); refine blk_put (cs := #[.int .i64 t514, .int .i64 t515, .int .i64 0]) ?_ 2 _ rfl; (with_reducible repeat (first | refine blk_drewN ?_ _ | refine blk_drew ?_ | refine blk_alloc ?_ _)); refine blk_put (cs := #[.int .i64 t514, .int .i64 0, .int .i64 0]) ?_ 1 _ rfl; (with_reducible repeat (first | refine blk_drewN ?_ _ | refine blk_drew ?_ | refine blk_alloc ?_ _)); refine blk_put (cs := #[.int .i64 0, .int .i64 0, .int .i64 0]) ?_ 0 _ rfl; (with_reducible repeat (first | refine blk_drewN ?_ _ | refine blk_drew ?_ | refine blk_alloc ?_ _)); exact BK512.out) Try.underlying61 rfl (by kernel_rfl)) rfl ?_
 exact ⟨qe, qV126 HB⟩

/-! ### impl_RecordNumbers: function 39 -/
def impl_RecordNumbers.f (a0_0 : Int) (a0_1 : Int) (a0_2 : Int) (a1 : Int) : Option (List Int × Bool) := (impl_IsJournalRecord.f a0_0 a0_1 a0_2).bind fun t532 => (if t532 = true then (if a1 < 0 then (some (([] : List Int), false)) else (if a1 ≥ 40 then (some (([] : List Int), false)) else ((impl_recordNumbers.f a0_0 a0_1 a0_2 a1).bind fun t533 => (some (t533, true))))) else (some (([] : List Int), false)))
set_option maxHeartbeats 8000000 in
set_option maxRecDepth 100000 in
theorem impl_RecordNumbers.calls (a0_0 : Int) (a0_1 : Int) (a0_2 : Int) (a1 : Int) (r1 : List Int) (r2 : Bool) (w : World) (h : impl_RecordNumbers.f a0_0 a0_1 a0_2 a1 = some (r1, r2)) :
  Calls Try.prog 39 #[.agg #[.int .i64 a0_0, .int .i64 a0_1, .int .i64 a0_2], .int .i64 a1] w fun e w' => ∃ v0_ : Value, e = .returned (.tuple #[v0_, .bool r2]) ∧ Kd.R (Kd.int .i64) 3 w' w.heap.size (fun _ => True) v0_ r1 ∧ Below w.heap.size w w' := by
 have hu61 := Try.underlying61
 have HB := Aside0.mk (Below.refl w.heap.size w)
 have H : ((impl_IsJournalRecord.f a0_0 a0_1 a0_2).bind fun t532 => (if t532 = true then (if a1 < 0 then (some (([] : List Int), false)) else (if a1 ≥ 40 then (some (([] : List Int), false)) else ((impl_recordNumbers.f a0_0 a0_1 a0_2 a1).bind fun t533 => (some (t533, true))))) else (some (([] : List Int), false)))) = some (r1, r2) := h
 clear h
 replace H := Option.bind_eq_some_iff.mp H
 obtain ⟨t532, A30, H⟩ := H
 replace H : (if t532 = true then (if a1 < 0 then (some (([] : List Int), false)) else (if a1 ≥ 40 then (some (([] : List Int), false)) else ((impl_recordNumbers.f a0_0 a0_1 a0_2 a1).bind fun t533 => (some (t533, true))))) else (some (([] : List Int), false))) = some (r1, r2) := H
 have A3 := Aside0.mk A30
 clear A30
 by_cases c4 : t532 = true
 ·subst c4
  rw [if_pos rfl] at H
  by_cases c5 : a1 < 0
  ·rw [if_pos c5] at H
   have c5b0 : decide (a1 < 0) = true := decide_eq_true c5
   clear c5
   simp only [Option.some.injEq, Prod.mk.injEq] at H
   obtain ⟨rfl, rfl⟩ := H
   go_enter Try.func39, Try.ntmps39
   go_wp2_with (first | ((with_reducible refine gate_dst (N := 2) rfl ?_); refine box_event ?hg (N := 2) ?hd (cs := #[.int .i64 a0_0, .int .i64 a0_1, .int .i64 a0_2]) (t := 61) ?hr ?_; (case hd => rfl); (case hg => rfl); (case hr => first | (go_simp; done) | (go_simp; rfl)); intro gb531 hg w6 hbox hb; have n0_ := Aside0.mk (below_step (qB HB) hb); have n1_ := Aside0.mk (hbox); have n2_ := Aside0.mk ((by rw [hg]; exact (below_size (qB HB)) : w.heap.size ≤ gb531)); have n3_ := Aside0.mk ((by rw [hg]; exact (below_size (qB HB)) : w.heap.size ≤ gb531)); clear HB; have HB := n0_; have BK531 := n1_; have GW531 := n2_; have GE531 := n3_; clear n0_ n1_ n2_ n3_; clear hb hbox hg; have hcz7_0 : w6.cell? ⟨gb531, 0, none⟩ = some (.int .i64 a0_0) := (blk_cell BK531.out 0).trans rfl; have hcz7_1 : w6.cell? ⟨gb531, 1, none⟩ = some (.int .i64 a0_1) := (blk_cell BK531.out 1).trans rfl; have hcz7_2 : w6.cell? ⟨gb531, 2, none⟩ = some (.int .i64 a0_2) := (blk_cell BK531.out 2).trans rfl; have hfz7_0 := blk_frozen BK531.out 0; have hfz7_1 := blk_frozen BK531.out 1; have hfz7_2 := blk_frozen BK531.out 2) | ((with_reducible refine gate_callee (f := 43) rfl ?_); refine goesL_ (some 7) rfl rfl Try.func43 (by kernel_rfl) rfl #[.agg #[.int .i64 a0_0, .int .i64 a0_1, .int .i64 a0_2]] rfl qA ?_; (with_reducible refine (impl_IsJournalRecord.calls a0_0 a0_1 a0_2 true _ A3.out).mono ?_); rintro e w8 ⟨rfl, hb⟩; refine ⟨_, rfl, ?_⟩; have n0_ := Aside0.mk (blk_below (g := gb531) (o := .cells #[.int .i64 a0_0, .int .i64 a0_1, .int .i64 a0_2] 61 (0, 0)) (qK BK531) hb); have n1_ := Aside0.mk (below_step (qT HB GE531) hb); clear BK531; clear HB; have BK531 := n0_; have HB := n1_; clear n0_ n1_; (try clear hb); (try clear hb2); (try clear hk); (try clear hi)))
   go_ret2
   exact ⟨_, qe, by first | exact Kd.R_nil _ _ _ _ _ | exact Kd.N_nil _ _ _ _ _ | exact Kd.V_nil _ _ _ _ _ | exact Kd.Q_nil _ _ _ _ _ | exact Kd.S_nil _ _ _ _ _, qT HB GE531⟩
  ·rw [if_neg c5] at H
   have c5b0 : decide (a1 < 0) = false := decide_eq_false c5
   clear c5
   by_cases c9 : a1 ≥ 40
   ·rw [if_pos c9] at H
    have c9b0 : decide (40 ≤ a1) = true := decide_eq_true c9
    clear c9
    simp only [Option.some.injEq, Prod.mk.injEq] at H
    obtain ⟨rfl, rfl⟩ := H
    go_enter Try.func39, Try.ntmps39
    go_wp2_with (first | ((with_reducible refine gate_dst (N := 2) rfl ?_); refine box_event ?hg (N := 2) ?hd (cs := #[.int .i64 a0_0, .int .i64 a0_1, .int .i64 a0_2]) (t := 61) ?hr ?_; (case hd => rfl); (case hg => rfl); (case hr => first | (go_simp; done) | (go_simp; rfl)); intro gb531 hg w10 hbox hb; have n0_ := Aside0.mk (below_step (qB HB) hb); have n1_ := Aside0.mk (hbox); have n2_ := Aside0.mk ((by rw [hg]; exact (below_size (qB HB)) : w.heap.size ≤ gb531)); have n3_ := Aside0.mk ((by rw [hg]; exact (below_size (qB HB)) : w.heap.size ≤ gb531)); clear HB; have HB := n0_; have BK531 := n1_; have GW531 := n2_; have GE531 := n3_; clear n0_ n1_ n2_ n3_; clear hb hbox hg; have hcz11_0 : w10.cell? ⟨gb531, 0, none⟩ = some (.int .i64 a0_0) := (blk_cell BK531.out 0).trans rfl; have hcz11_1 : w10.cell? ⟨gb531, 1, none⟩ = some (.int .i64 a0_1) := (blk_cell BK531.out 1).trans rfl; have hcz11_2 : w10.cell? ⟨gb531, 2, none⟩ = some (.int .i64 a0_2) := (blk_cell BK531.out 2).trans rfl; have hfz11_0 := blk_frozen BK531.out 0; have hfz11_1 := blk_frozen BK531.out 1; have hfz11_2 := blk_frozen BK531.out 2) | ((with_reducible refine gate_callee (f := 43) rfl ?_); refine goesL_ (some 7) rfl rfl Try.func43 (by kernel_rfl) rfl #[.agg #[.int .i64 a0_0, .int .i64 a0_1, .int .i64 a0_2]] rfl qA ?_; (with_reducible refine (impl_IsJournalRecord.calls a0_0 a0_1 a0_2 true _ A3.out).mono ?_); rintro e w12 ⟨rfl, hb⟩; refine ⟨_, rfl, ?_⟩; have n0_ := Aside0.mk (blk_below (g := gb531) (o := .cells #[.int .i64 a0_0, .int .i64 a0_1, .int .i64 a0_2] 61 (0, 0)) (qK BK531) hb); have n1_ := Aside0.mk (below_step (qT HB GE531) hb); clear BK531; clear HB; have BK531 := n0_; have HB := n1_; clear n0_ n1_; (try clear hb); (try clear hb2); (try clear hk); (try clear hi)))
    go_ret2
    exact ⟨_, qe, by first | exact Kd.R_nil _ _ _ _ _ | exact Kd.N_nil _ _ _ _ _ | exact Kd.V_nil _ _ _ _ _ | exact Kd.Q_nil _ _ _ _ _ | exact Kd.S_nil _ _ _ _ _, qT HB GE531⟩
   ·rw [if_neg c9] at H
    have c9b0 : decide (40 ≤ a1) = false := decide_eq_false c9
    clear c9
    replace H := Option.bind_eq_some_iff.mp H
    obtain ⟨t533, A130, H⟩ := H
    replace H : (some (t533, true)) = some (r1, r2) := H
    have A13 := Aside0.mk A130
    clear A130
    simp only [Option.some.injEq, Prod.mk.injEq] at H
    obtain ⟨rfl, rfl⟩ := H
    go_enter Try.func39, Try.ntmps39
    go_wp2_with (first | ((with_reducible refine gate_dst (N := 2) rfl ?_); refine box_event ?hg (N := 2) ?hd (cs := #[.int .i64 a0_0, .int .i64 a0_1, .int .i64 a0_2]) (t := 61) ?hr ?_; (case hd => rfl); (case hg => rfl); (case hr => first | (go_simp; done) | (go_simp; rfl)); intro gb531 hg w14 hbox hb; have n0_ := Aside0.mk (below_step (qB HB) hb); have n1_ := Aside0.mk (hbox); have n2_ := Aside0.mk ((by rw [hg]; exact (below_size (qB HB)) : w.heap.size ≤ gb531)); have n3_ := Aside0.mk ((by rw [hg]; exact (below_size (qB HB)) : w.heap.size ≤ gb531)); clear HB; have HB := n0_; have BK531 := n1_; have GW531 := n2_; have GE531 := n3_; clear n0_ n1_ n2_ n3_; clear hb hbox hg; have hcz15_0 : w14.cell? ⟨gb531, 0, none⟩ = some (.int .i64 a0_0) := (blk_cell BK531.out 0).trans rfl; have hcz15_1 : w14.cell? ⟨gb531, 1, none⟩ = some (.int .i64 a0_1) := (blk_cell BK531.out 1).trans rfl; have hcz15_2 : w14.cell? ⟨gb531, 2, none⟩ = some (.int .i64 a0_2) := (blk_cell BK531.out 2).trans rfl; have hfz15_0 := blk_frozen BK531.out 0; have hfz15_1 := blk_frozen BK531.out 1; have hfz15_2 := blk_frozen BK531.out 2) | ((with_reducible refine gate_callee (f := 43) rfl ?_); refine goesL_ (some 7) rfl rfl Try.func43 (by kernel_rfl) rfl #[.agg #[.int .i64 a0_0, .int .i64 a0_1, .int .i64 a0_2]] rfl qA ?_; (with_reducible refine (impl_IsJournalRecord.calls a0_0 a0_1 a0_2 true _ A3.out).mono ?_); rintro e w16 ⟨rfl, hb⟩; refine ⟨_, rfl, ?_⟩; have n0_ := Aside0.mk (blk_below (g := gb531) (o := .cells #[.int .i64 a0_0, .int .i64 a0_1, .int .i64 a0_2] 61 (0, 0)) (qK BK531) hb); have n1_ := Aside0.mk (below_step (qT HB GE531) hb); clear BK531; clear HB; have BK531 := n0_; have HB := n1_; clear n0_ n1_; (try clear hb); (try clear hb2); (try clear hk); (try clear hi); have hcz17_0 : w16.cell? ⟨gb531, 0, none⟩ = some (.int .i64 a0_0) := (blk_cell BK531.out 0).trans rfl; have hcz17_1 : w16.cell? ⟨gb531, 1, none⟩ = some (.int .i64 a0_1) := (blk_cell BK531.out 1).trans rfl; have hcz17_2 : w16.cell? ⟨gb531, 2, none⟩ = some (.int .i64 a0_2) := (blk_cell BK531.out 2).trans rfl; have hfz17_0 := blk_frozen BK531.out 0; have hfz17_1 := blk_frozen BK531.out 1; have hfz17_2 := blk_frozen BK531.out 2) | ((with_reducible refine gate_callee (f := 144) rfl ?_); refine goesL_ (some 19) rfl rfl Try.func144 (by kernel_rfl) rfl #[.agg #[.int .i64 a0_0, .int .i64 a0_1, .int .i64 a0_2], .int .i64 a1] rfl qA ?_; (with_reducible refine (impl_recordNumbers.calls a0_0 a0_1 a0_2 a1 t533 _ A13.out).mono ?_); rintro e w18 ⟨v534, rfl, ho0, hb⟩; refine ⟨_, rfl, ?_⟩; have n0_ := Aside0.mk (Kd.R_lower ho0 (below_size (qT HB GE531))); have n1_ := Aside0.mk (blk_below (g := gb531) (o := .cells #[.int .i64 a0_0, .int .i64 a0_1, .int .i64 a0_2] 61 (0, 0)) (qK BK531) hb); have n2_ := Aside0.mk (below_step (qT HB GE531) hb); clear BK531; clear HB; have HO535 := n0_; have BK531 := n1_; have HB := n2_; clear n0_ n1_ n2_; (try clear hb); (try clear hb2); (try clear hk); (try clear hi); (try clear ho0)))
    go_ret2
    exact ⟨_, qe, qR HO535, qT HB GE531⟩
 ·replace c4 := Bool.eq_false_iff.mpr c4
  subst c4
  rw [if_neg (show ¬ (false = true) by decide)] at H
  simp only [Option.some.injEq, Prod.mk.injEq] at H
  obtain ⟨rfl, rfl⟩ := H
  go_enter Try.func39, Try.ntmps39
  go_wp2_with (first | ((with_reducible refine gate_dst (N := 2) rfl ?_); refine box_event ?hg (N := 2) ?hd (cs := #[.int .i64 a0_0, .int .i64 a0_1, .int .i64 a0_2]) (t := 61) ?hr ?_; (case hd => rfl); (case hg => rfl); (case hr => first | (go_simp; done) | (go_simp; rfl)); intro gb531 hg w19 hbox hb; have n0_ := Aside0.mk (below_step (qB HB) hb); have n1_ := Aside0.mk (hbox); have n2_ := Aside0.mk ((by rw [hg]; exact (below_size (qB HB)) : w.heap.size ≤ gb531)); have n3_ := Aside0.mk ((by rw [hg]; exact (below_size (qB HB)) : w.heap.size ≤ gb531)); clear HB; have HB := n0_; have BK531 := n1_; have GW531 := n2_; have GE531 := n3_; clear n0_ n1_ n2_ n3_; clear hb hbox hg; have hcz20_0 : w19.cell? ⟨gb531, 0, none⟩ = some (.int .i64 a0_0) := (blk_cell BK531.out 0).trans rfl; have hcz20_1 : w19.cell? ⟨gb531, 1, none⟩ = some (.int .i64 a0_1) := (blk_cell BK531.out 1).trans rfl; have hcz20_2 : w19.cell? ⟨gb531, 2, none⟩ = some (.int .i64 a0_2) := (blk_cell BK531.out 2).trans rfl; have hfz20_0 := blk_frozen BK531.out 0; have hfz20_1 := blk_frozen BK531.out 1; have hfz20_2 := blk_frozen BK531.out 2) | ((with_reducible refine gate_callee (f := 43) rfl ?_); refine goesL_ (some 7) rfl rfl Try.func43 (by kernel_rfl) rfl #[.agg #[.int .i64 a0_0, .int .i64 a0_1, .int .i64 a0_2]] rfl qA ?_; (with_reducible refine (impl_IsJournalRecord.calls a0_0 a0_1 a0_2 false _ A3.out).mono ?_); rintro e w21 ⟨rfl, hb⟩; refine ⟨_, rfl, ?_⟩; have n0_ := Aside0.mk (blk_below (g := gb531) (o := .cells #[.int .i64 a0_0, .int .i64 a0_1, .int .i64 a0_2] 61 (0, 0)) (qK BK531) hb); have n1_ := Aside0.mk (below_step (qT HB GE531) hb); clear BK531; clear HB; have BK531 := n0_; have HB := n1_; clear n0_ n1_; (try clear hb); (try clear hb2); (try clear hk); (try clear hi)))
  go_ret2
  exact ⟨_, qe, by first | exact Kd.R_nil _ _ _ _ _ | exact Kd.N_nil _ _ _ _ _ | exact Kd.V_nil _ _ _ _ _ | exact Kd.Q_nil _ _ _ _ _ | exact Kd.S_nil _ _ _ _ _, qT HB GE531⟩

/-! ### spec_RecordNumbers: function 40 -/
def spec_RecordNumbers.f (a0_0 : Int) (a0_1 : Int) (a0_2 : Int) (a1 : Int) : Option (List Int × Bool) := (spec_jrRecord.f a0_0 a0_1 a0_2).bind fun t537 => (if t537 = true then ((spec_l1In.f a1 0 39).bind fun t538 => (if t538 = true then ((spec_jrOf.f a0_0 a0_1 a0_2 a1).bind fun t539 => (some (t539, true))) else (some (([] : List Int), false)))) else (some (([] : List Int), false)))
set_option maxHeartbeats 8000000 in
set_option maxRecDepth 100000 in
theorem spec_RecordNumbers.calls (a0_0 : Int) (a0_1 : Int) (a0_2 : Int) (a1 : Int) (r1 : List Int) (r2 : Bool) (w : World) (h : spec_RecordNumbers.f a0_0 a0_1 a0_2 a1 = some (r1, r2)) :
  Calls Try.prog 40 #[.agg #[.int .i64 a0_0, .int .i64 a0_1, .int .i64 a0_2], .int .i64 a1] w fun e w' => ∃ v0_ : Value, e = .returned (.tuple #[v0_, .bool r2]) ∧ Kd.R (Kd.int .i64) 3 w' w.heap.size (fun _ => True) v0_ r1 ∧ Below w.heap.size w w' := by
 have hu61 := Try.underlying61
 have HB := Aside0.mk (Below.refl w.heap.size w)
 have H : ((spec_jrRecord.f a0_0 a0_1 a0_2).bind fun t537 => (if t537 = true then ((spec_l1In.f a1 0 39).bind fun t538 => (if t538 = true then ((spec_jrOf.f a0_0 a0_1 a0_2 a1).bind fun t539 => (some (t539, true))) else (some (([] : List Int), false)))) else (some (([] : List Int), false)))) = some (r1, r2) := h
 clear h
 replace H := Option.bind_eq_some_iff.mp H
 obtain ⟨t537, A30, H⟩ := H
 replace H : (if t537 = true then ((spec_l1In.f a1 0 39).bind fun t538 => (if t538 = true then ((spec_jrOf.f a0_0 a0_1 a0_2 a1).bind fun t539 => (some (t539, true))) else (some (([] : List Int), false)))) else (some (([] : List Int), false))) = some (r1, r2) := H
 have A3 := Aside0.mk A30
 clear A30
 by_cases c4 : t537 = true
 ·subst c4
  rw [if_pos rfl] at H
  replace H := Option.bind_eq_some_iff.mp H
  obtain ⟨t538, A50, H⟩ := H
  replace H : (if t538 = true then ((spec_jrOf.f a0_0 a0_1 a0_2 a1).bind fun t539 => (some (t539, true))) else (some (([] : List Int), false))) = some (r1, r2) := H
  have A5 := Aside0.mk A50
  clear A50
  by_cases c6 : t538 = true
  ·subst c6
   rw [if_pos rfl] at H
   replace H := Option.bind_eq_some_iff.mp H
   obtain ⟨t539, A70, H⟩ := H
   replace H : (some (t539, true)) = some (r1, r2) := H
   have A7 := Aside0.mk A70
   clear A70
   simp only [Option.some.injEq, Prod.mk.injEq] at H
   obtain ⟨rfl, rfl⟩ := H
   go_enter Try.func40, Try.ntmps40
   go_wp2_with (first | ((with_reducible refine gate_dst (N := 2) rfl ?_); refine box_event ?hg (N := 2) ?hd (cs := #[.int .i64 a0_0, .int .i64 a0_1, .int .i64 a0_2]) (t := 61) ?hr ?_; (case hd => rfl); (case hg => rfl); (case hr => first | (go_simp; done) | (go_simp; rfl)); intro gb536 hg w8 hbox hb; have n0_ := Aside0.mk (below_step (qB HB) hb); have n1_ := Aside0.mk (hbox); have n2_ := Aside0.mk ((by rw [hg]; exact (below_size (qB HB)) : w.heap.size ≤ gb536)); have n3_ := Aside0.mk ((by rw [hg]; exact (below_size (qB HB)) : w.heap.size ≤ gb536)); clear HB; have HB := n0_; have BK536 := n1_; have GW536 := n2_; have GE536 := n3_; clear n0_ n1_ n2_ n3_; clear hb hbox hg; have hcz9_0 : w8.cell? ⟨gb536, 0, none⟩ = some (.int .i64 a0_0) := (blk_cell BK536.out 0).trans rfl; have hcz9_1 : w8.cell? ⟨gb536, 1, none⟩ = some (.int .i64 a0_1) := (blk_cell BK536.out 1).trans rfl; have hcz9_2 : w8.cell? ⟨gb536, 2, none⟩ = some (.int .i64 a0_2) := (blk_cell BK536.out 2).trans rfl; have hfz9_0 := blk_frozen BK536.out 0; have hfz9_1 := blk_frozen BK536.out 1; have hfz9_2 := blk_frozen BK536.out 2) | ((with_reducible refine gate_callee (f := 145) rfl ?_); refine goesL_ (some 7) rfl rfl Try.func145 (by kernel_rfl) rfl #[.agg #[.int .i64 a0_0, .int .i64 a0_1, .int .i64 a0_2]] rfl qA ?_; (with_reducible refine (spec_jrRecord.calls a0_0 a0_1 a0_2 true _ A3.out).mono ?_); rintro e w10 ⟨rfl, hb⟩; refine ⟨_, rfl, ?_⟩; have n0_ := Aside0.mk (blk_below (g := gb536) (o := .cells #[.int .i64 a0_0, .int .i64 a0_1, .int .i64 a0_2] 61 (0, 0)) (qK BK536) hb); have n1_ := Aside0.mk (below_step (qT HB GE536) hb); clear BK536; clear HB; have BK536 := n0_; have HB := n1_; clear n0_ n1_; (try clear hb); (try clear hb2); (try clear hk); (try clear hi)) | (go_at_call 135; (with_reducible refine (spec_l1In.calls a1 0 39 true _ A5.out).mono ?_); rintro e w' ⟨rfl, ⟨nd, rfl⟩⟩; have hcz11_0 : w10.cell? ⟨gb536, 0, none⟩ = some (.int .i64 a0_0) := (blk_cell BK536.out 0).trans rfl; have hcz11_1 : w10.cell? ⟨gb536, 1, none⟩ = some (.int .i64 a0_1) := (blk_cell BK536.out 1).trans rfl; have hcz11_2 : w10.cell? ⟨gb536, 2, none⟩ = some (.int .i64 a0_2) := (blk_cell BK536.out 2).trans rfl; have hfz11_0 := blk_frozen BK536.out 0; have hfz11_1 := blk_frozen BK536.out 1; have hfz11_2 := blk_frozen BK536.out 2) | ((with_reducible refine gate_callee (f := 146) rfl ?_); refine goesL_ (some 16) rfl rfl Try.func146 (by kernel_rfl) rfl #[.agg #[.int .i64 a0_0, .int .i64 a0_1, .int .i64 a0_2], .int .i64 a1] rfl qA ?_; (with_reducible refine (spec_jrOf.calls a0_0 a0_1 a0_2 a1 t539 _ A7.out).mono ?_); rintro e w12 ⟨v540, rfl, ho0, hb⟩; refine ⟨_, rfl, ?_⟩; have n0_ := Aside0.mk (Kd.R_lower ho0 (below_size (qT HB GE536))); have n1_ := Aside0.mk (blk_below (g := gb536) (o := .cells #[.int .i64 a0_0, .int .i64 a0_1, .int .i64 a0_2] 61 (0, 0)) (qK BK536) hb); have n2_ := Aside0.mk (below_step (qT HB GE536) hb); clear BK536; clear HB; have HO541 := n0_; have BK536 := n1_; have HB := n2_; clear n0_ n1_ n2_; (try clear hb); (try clear hb2); (try clear hk); (try clear hi); (try clear ho0)))
   go_ret2
   exact ⟨_, qe, qR HO541, qT HB GE536⟩
  ·replace c6 := Bool.eq_false_iff.mpr c6
   subst c6
   rw [if_neg (show ¬ (false = true) by decide)] at H
   simp only [Option.some.injEq, Prod.mk.injEq] at H
   obtain ⟨rfl, rfl⟩ := H
   go_enter Try.func40, Try.ntmps40
   go_wp2_with (first | ((with_reducible refine gate_dst (N := 2) rfl ?_); refine box_event ?hg (N := 2) ?hd (cs := #[.int .i64 a0_0, .int .i64 a0_1, .int .i64 a0_2]) (t := 61) ?hr ?_; (case hd => rfl); (case hg => rfl); (case hr => first | (go_simp; done) | (go_simp; rfl)); intro gb536 hg w13 hbox hb; have n0_ := Aside0.mk (below_step (qB HB) hb); have n1_ := Aside0.mk (hbox); have n2_ := Aside0.mk ((by rw [hg]; exact (below_size (qB HB)) : w.heap.size ≤ gb536)); have n3_ := Aside0.mk ((by rw [hg]; exact (below_size (qB HB)) : w.heap.size ≤ gb536)); clear HB; have HB := n0_; have BK536 := n1_; have GW536 := n2_; have GE536 := n3_; clear n0_ n1_ n2_ n3_; clear hb hbox hg; have hcz14_0 : w13.cell? ⟨gb536, 0, none⟩ = some (.int .i64 a0_0) := (blk_cell BK536.out 0).trans rfl; have hcz14_1 : w13.cell? ⟨gb536, 1, none⟩ = some (.int .i64 a0_1) := (blk_cell BK536.out 1).trans rfl; have hcz14_2 : w13.cell? ⟨gb536, 2, none⟩ = some (.int .i64 a0_2) := (blk_cell BK536.out 2).trans rfl; have hfz14_0 := blk_frozen BK536.out 0; have hfz14_1 := blk_frozen BK536.out 1; have hfz14_2 := blk_frozen BK536.out 2) | ((with_reducible refine gate_callee (f := 145) rfl ?_); refine goesL_ (some 7) rfl rfl Try.func145 (by kernel_rfl) rfl #[.agg #[.int .i64 a0_0, .int .i64 a0_1, .int .i64 a0_2]] rfl qA ?_; (with_reducible refine (spec_jrRecord.calls a0_0 a0_1 a0_2 true _ A3.out).mono ?_); rintro e w15 ⟨rfl, hb⟩; refine ⟨_, rfl, ?_⟩; have n0_ := Aside0.mk (blk_below (g := gb536) (o := .cells #[.int .i64 a0_0, .int .i64 a0_1, .int .i64 a0_2] 61 (0, 0)) (qK BK536) hb); have n1_ := Aside0.mk (below_step (qT HB GE536) hb); clear BK536; clear HB; have BK536 := n0_; have HB := n1_; clear n0_ n1_; (try clear hb); (try clear hb2); (try clear hk); (try clear hi)) | (go_at_call 135; (with_reducible refine (spec_l1In.calls a1 0 39 false _ A5.out).mono ?_); rintro e w' ⟨rfl, ⟨nd, rfl⟩⟩))
   go_ret2
   exact ⟨_, qe, by first | exact Kd.R_nil _ _ _ _ _ | exact Kd.N_nil _ _ _ _ _ | exact Kd.V_nil _ _ _ _ _ | exact Kd.Q_nil _ _ _ _ _ | exact Kd.S_nil _ _ _ _ _, qT HB GE536⟩
 ·replace c4 := Bool.eq_false_iff.mpr c4
  subst c4
  rw [if_neg (show ¬ (false = true) by decide)] at H
  simp only [Option.some.injEq, Prod.mk.injEq] at H
  obtain ⟨rfl, rfl⟩ := H
  go_enter Try.func40, Try.ntmps40
  go_wp2_with (first | ((with_reducible refine gate_dst (N := 2) rfl ?_); refine box_event ?hg (N := 2) ?hd (cs := #[.int .i64 a0_0, .int .i64 a0_1, .int .i64 a0_2]) (t := 61) ?hr ?_; (case hd => rfl); (case hg => rfl); (case hr => first | (go_simp; done) | (go_simp; rfl)); intro gb536 hg w16 hbox hb; have n0_ := Aside0.mk (below_step (qB HB) hb); have n1_ := Aside0.mk (hbox); have n2_ := Aside0.mk ((by rw [hg]; exact (below_size (qB HB)) : w.heap.size ≤ gb536)); have n3_ := Aside0.mk ((by rw [hg]; exact (below_size (qB HB)) : w.heap.size ≤ gb536)); clear HB; have HB := n0_; have BK536 := n1_; have GW536 := n2_; have GE536 := n3_; clear n0_ n1_ n2_ n3_; clear hb hbox hg; have hcz17_0 : w16.cell? ⟨gb536, 0, none⟩ = some (.int .i64 a0_0) := (blk_cell BK536.out 0).trans rfl; have hcz17_1 : w16.cell? ⟨gb536, 1, none⟩ = some (.int .i64 a0_1) := (blk_cell BK536.out 1).trans rfl; have hcz17_2 : w16.cell? ⟨gb536, 2, none⟩ = some (.int .i64 a0_2) := (blk_cell BK536.out 2).trans rfl; have hfz17_0 := blk_frozen BK536.out 0; have hfz17_1 := blk_frozen BK536.out 1; have hfz17_2 := blk_frozen BK536.out 2) | ((with_reducible refine gate_callee (f := 145) rfl ?_); refine goesL_ (some 7) rfl rfl Try.func145 (by kernel_rfl) rfl #[.agg #[.int .i64 a0_0, .int .i64 a0_1, .int .i64 a0_2]] rfl qA ?_; (with_reducible refine (spec_jrRecord.calls a0_0 a0_1 a0_2 false _ A3.out).mono ?_); rintro e w18 ⟨rfl, hb⟩; refine ⟨_, rfl, ?_⟩; have n0_ := Aside0.mk (blk_below (g := gb536) (o := .cells #[.int .i64 a0_0, .int .i64 a0_1, .int .i64 a0_2] 61 (0, 0)) (qK BK536) hb); have n1_ := Aside0.mk (below_step (qT HB GE536) hb); clear BK536; clear HB; have BK536 := n0_; have HB := n1_; clear n0_ n1_; (try clear hb); (try clear hb2); (try clear hk); (try clear hi)))
  go_ret2
  exact ⟨_, qe, by first | exact Kd.R_nil _ _ _ _ _ | exact Kd.N_nil _ _ _ _ _ | exact Kd.V_nil _ _ _ _ _ | exact Kd.Q_nil _ _ _ _ _ | exact Kd.S_nil _ _ _ _ _, qT HB GE536⟩

end Go.Proofs.Ytgblcbgkkfipoaa.XFnCuts
