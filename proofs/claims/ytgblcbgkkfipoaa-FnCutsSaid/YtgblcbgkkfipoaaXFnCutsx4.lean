/- Written by xprint.py, a program of this session, out of the translation: what Go functions compute, as Lean functions, proved over the program. -/
import Derived.Test.YtgblcbgkkfipoaaXFnCutsx0
import Derived.Test.YtgblcbgkkfipoaaXFnCutsx2
import Derived.Test.YtgblcbgkkfipoaaXFnCutsx3
import Derived.Test.YtgblcbgkkfipoaaWQuick
namespace Go.Proofs.Ytgblcbgkkfipoaa.XFnCuts
open Go.RowKit Go.Proofs.YtgblcbgkkfipoaaW.PrintWords Go.Proofs.YtgblcbgkkfipoaaW.PrintLast Go.Proofs.YtgblcbgkkfipoaaW.PrintMore
attribute [local go_sem] max2_int min2_int max_two min_two max_three min_three max_four min_four   -- for this text's walks alone
set_option linter.unusedVariables false
set_option linter.unusedSimpArgs false

/-! ### spec_l1Cur_numbers: function 127 -/
mutual
def spec_l1Cur_numbers.j0 : Nat → List (S61) → List Int → Int → Int → Option (List Int × Int × Int)
 | 0, _, _, _, _ => none
 | k + 1, x3, x1000, x1001, x1002 => (spec_jrAll.f k x3).bind fun t206 => ((spec_l1Cur_pick.f x1000 x1001 x1002 6).bind fun bt209 => (if bt209.1 = 0 then (spec_l1Cur_numbers.j1 k t206 bt209.1 (bt209.1 == 0) x1000 bt209.2.1 bt209.2.2) else (spec_l1Cur_numbers.j1 k t206 bt209.1 (bt209.1 == 1) x1000 bt209.2.1 bt209.2.2)))
def spec_l1Cur_numbers.j1 : Nat → List Int → Int → Bool → List Int → Int → Int → Option (List Int × Int × Int)
 | 0, _, _, _, _, _, _ => none
 | k + 1, x4, x16, x17, x1000, x1001, x1002 => if x17 = true then ((spec_l1Cur_pick.f x1000 x1001 x1002 (wrap64 ((x4.length : Int) + 1))).bind fun bt212 => (if 0 ≤ bt212.1 then (if bt212.1 ≤ (x4.length : Int) then (some ((x4.take (bt212.1 : Int).toNat), bt212.2.1, bt212.2.2)) else (none)) else (none))) else (if x16 = 2 then (if (x4.length : Int) > 0 then ((spec_l1Cur_pick.f x1000 x1001 x1002 (x4.length : Int)).bind fun bt218 => ((spec_l1Cur_pick.f x1000 bt218.2.1 bt218.2.2 1000).bind fun bt221 => ((spec_l1Cur_among.f x1000 bt221.2.1 bt221.2.2 (([0, 1, 2, bt221.1, 9999] : List Int))).bind fun bt227 => (if 0 ≤ bt218.1 then (if bt218.1 < (x4.length : Int) then (some ((x4.set (bt218.1 : Int).toNat bt227.1), bt227.2.1, bt227.2.2)) else (none)) else (none))))) else (some (x4, x1001, x1002))) else (if x16 = 3 then (if (x4.length : Int) < 200 then ((spec_l1Cur_pick.f x1000 x1001 x1002 3).bind fun bt231 => (if x4.length < 17592186044416 then (some ((x4 ++ [bt231.1]), bt231.2.1, bt231.2.2)) else (none))) else (some (x4, x1001, x1002))) else (if x16 = 4 then ((spec_l1Cur_pick.f x1000 x1001 x1002 8).bind fun bt237 => (if bt237.1 = 0 then ((spec_l1Cur_pick.f x1000 bt237.2.1 bt237.2.2 2).bind fun bt240 => (spec_l1Cur_numbers.l0 k x4 (wrap64 (200 + bt240.1)) x1000 bt240.2.1 bt240.2.2)) else (if bt237.1 = 1 then ((spec_l1Cur_among.f x1000 bt237.2.1 bt237.2.2 (([(-1), 10000] : List Int))).bind fun bt249 => (if x4.length < 17592186044416 then (some ((x4 ++ [bt249.1]), bt249.2.1, bt249.2.2)) else (none))) else (some (x4, bt237.2.1, bt237.2.2))))) else (some (x4, x1001, x1002)))))
def spec_l1Cur_numbers.l0 : Nat → List Int → Int → List Int → Int → Int → Option (List Int × Int × Int)
 | 0, _, _, _, _, _ => none
 | k + 1, x4, x5, x1000, x1001, x1002 => if (x4.length : Int) < x5 then (if x4.length < 17592186044416 then (spec_l1Cur_numbers.l0 k (x4 ++ [1]) x5 x1000 x1001 x1002) else (none)) else (some (x4, x1001, x1002))
end
def spec_l1Cur_numbers.f (k : Nat) (s0_0 : List Int) (s0_1 : Int) (s0_2 : Int) : Option (List Int × Int × Int) := (spec_l1Cur_journalRecords.f k s0_0 s0_1 s0_2).bind fun bt197 => ((spec_jrGood.f k bt197.1).bind fun t202 => (if t202 = true then (spec_l1Cur_numbers.j0 k bt197.1 s0_0 bt197.2.1 bt197.2.2) else (spec_l1Cur_numbers.j0 k (([(⟨1, 2, 5⟩ : S61)] : List (S61))) s0_0 bt197.2.1 bt197.2.2)))
theorem spec_l1Cur_numbers.mono_l : ∀ k, (∀ y0 y1 y2 y3, LeO (spec_l1Cur_numbers.j0 k y0 y1 y2 y3) (spec_l1Cur_numbers.j0 (k + 1) y0 y1 y2 y3)) ∧ (∀ y0 y1 y2 y3 y4 y5, LeO (spec_l1Cur_numbers.j1 k y0 y1 y2 y3 y4 y5) (spec_l1Cur_numbers.j1 (k + 1) y0 y1 y2 y3 y4 y5)) ∧ (∀ y0 y1 y2 y3 y4, LeO (spec_l1Cur_numbers.l0 k y0 y1 y2 y3 y4) (spec_l1Cur_numbers.l0 (k + 1) y0 y1 y2 y3 y4))
 | 0 => ⟨fun _ _ _ _ r h => by simp [spec_l1Cur_numbers.j0] at h, fun _ _ _ _ _ _ r h => by simp [spec_l1Cur_numbers.j1] at h, fun _ _ _ _ _ r h => by simp [spec_l1Cur_numbers.l0] at h⟩
 | k + 1 => by
  obtain ⟨ih0, ih1, ih2⟩ := spec_l1Cur_numbers.mono_l k
  refine ⟨?_, ?_, ?_⟩
  ·intro y0 y1 y2 y3
   unfold spec_l1Cur_numbers.j0
   repeat' first | (with_reducible first | exact ih0 _ _ _ _ | exact ih1 _ _ _ _ _ _ | exact ih2 _ _ _ _ _ | exact spec_jrAll.mono _ _ | exact spec_jrGood.mono _ _ | exact spec_l1Cur_journalRecords.mono _ _ _ _ | exact LeO.refl _ | exact LeO.none _ | refine LeO.ite ?_ ?_ | refine LeO.bind ?_ (fun _ => ?_)) | exact ih0 _ _ _ _ | exact ih1 _ _ _ _ _ _ | exact ih2 _ _ _ _ _ | exact spec_jrAll.mono _ _ | exact spec_jrGood.mono _ _ | exact spec_l1Cur_journalRecords.mono _ _ _ _ | exact LeO.none _ | refine LeO.ite ?_ ?_ | refine LeO.bind ?_ (fun _ => ?_)
  ·intro y0 y1 y2 y3 y4 y5
   unfold spec_l1Cur_numbers.j1
   repeat' first | (with_reducible first | exact ih0 _ _ _ _ | exact ih1 _ _ _ _ _ _ | exact ih2 _ _ _ _ _ | exact spec_jrAll.mono _ _ | exact spec_jrGood.mono _ _ | exact spec_l1Cur_journalRecords.mono _ _ _ _ | exact LeO.refl _ | exact LeO.none _ | refine LeO.ite ?_ ?_ | refine LeO.bind ?_ (fun _ => ?_)) | exact ih0 _ _ _ _ | exact ih1 _ _ _ _ _ _ | exact ih2 _ _ _ _ _ | exact spec_jrAll.mono _ _ | exact spec_jrGood.mono _ _ | exact spec_l1Cur_journalRecords.mono _ _ _ _ | exact LeO.none _ | refine LeO.ite ?_ ?_ | refine LeO.bind ?_ (fun _ => ?_)
  ·intro y0 y1 y2 y3 y4
   unfold spec_l1Cur_numbers.l0
   repeat' first | (with_reducible first | exact ih0 _ _ _ _ | exact ih1 _ _ _ _ _ _ | exact ih2 _ _ _ _ _ | exact spec_jrAll.mono _ _ | exact spec_jrGood.mono _ _ | exact spec_l1Cur_journalRecords.mono _ _ _ _ | exact LeO.refl _ | exact LeO.none _ | refine LeO.ite ?_ ?_ | refine LeO.bind ?_ (fun _ => ?_)) | exact ih0 _ _ _ _ | exact ih1 _ _ _ _ _ _ | exact ih2 _ _ _ _ _ | exact spec_jrAll.mono _ _ | exact spec_jrGood.mono _ _ | exact spec_l1Cur_journalRecords.mono _ _ _ _ | exact LeO.none _ | refine LeO.ite ?_ ?_ | refine LeO.bind ?_ (fun _ => ?_)
theorem spec_l1Cur_numbers.mono : ∀ a0 a1 a2 k, LeO (spec_l1Cur_numbers.f k a0 a1 a2) (spec_l1Cur_numbers.f (k + 1) a0 a1 a2) := by
 intro a0 a1 a2 k
 obtain ⟨ih0, ih1, ih2⟩ := spec_l1Cur_numbers.mono_l k
 unfold spec_l1Cur_numbers.f
 repeat' first | (with_reducible first | exact ih0 _ _ _ _ | exact ih1 _ _ _ _ _ _ | exact ih2 _ _ _ _ _ | exact spec_jrAll.mono _ _ | exact spec_jrGood.mono _ _ | exact spec_l1Cur_journalRecords.mono _ _ _ _ | exact LeO.refl _ | exact LeO.none _ | refine LeO.ite ?_ ?_ | refine LeO.bind ?_ (fun _ => ?_)) | exact ih0 _ _ _ _ | exact ih1 _ _ _ _ _ _ | exact ih2 _ _ _ _ _ | exact spec_jrAll.mono _ _ | exact spec_jrGood.mono _ _ | exact spec_l1Cur_journalRecords.mono _ _ _ _ | exact LeO.none _ | refine LeO.ite ?_ ?_ | refine LeO.bind ?_ (fun _ => ?_)
set_option maxHeartbeats 8000000 in
set_option maxRecDepth 100000 in
theorem spec_l1Cur_numbers.calls (k : Nat) (g : Nat) (s0_0 : List Int) (s0_1 : Int) (s0_2 : Int) (r1 : List Int) (r2 : Int) (r3 : Int) (w0 w : World) (hI : IsS126 w0 w g s0_0 s0_1 s0_2) (hB : Below w0.heap.size w0 w) (h : spec_l1Cur_numbers.f k s0_0 s0_1 s0_2 = some (r1, r2, r3)) :
  Calls Try.prog 127 #[.pointer (some ⟨g, 0, none⟩)] w fun e w' => ∃ v0_ : Value, e = .returned (v0_) ∧ Kd.R (Kd.int .i64) 3 w' w.heap.size (fun _ => True) v0_ r1 ∧ IsS126 w0 w' g s0_0 r2 r3 ∧ Below w0.heap.size w0 w' ∧ KeepBut w w' g none := by
 have hu61 := Try.underlying61
 have HI0 := Aside0.mk hI
 have HK := Aside0.mk (KeepBut.refl w g none)
 have HL := Aside0.mk hB.size
 clear hI
 have HW0 := Aside0.mk hB.size
 have HB := Aside0.mk hB
 clear hB
 have H : ((spec_l1Cur_journalRecords.f k s0_0 s0_1 s0_2).bind fun bt197 => ((spec_jrGood.f k bt197.1).bind fun t202 => (if t202 = true then (spec_l1Cur_numbers.j0 k bt197.1 s0_0 bt197.2.1 bt197.2.2) else (spec_l1Cur_numbers.j0 k (([(⟨1, 2, 5⟩ : S61)] : List (S61))) s0_0 bt197.2.1 bt197.2.2)))) = some (r1, r2, r3) := h
 clear h
 replace H := Option.bind_eq_some_iff.mp H
 obtain ⟨⟨t197, t200, t201⟩, A20, H⟩ := H
 replace H : ((spec_jrGood.f k t197).bind fun t202 => (if t202 = true then (spec_l1Cur_numbers.j0 k t197 s0_0 t200 t201) else (spec_l1Cur_numbers.j0 k (([(⟨1, 2, 5⟩ : S61)] : List (S61))) s0_0 t200 t201))) = some (r1, r2, r3) := H
 have A2 := Aside0.mk A20
 clear A20
 replace H := Option.bind_eq_some_iff.mp H
 obtain ⟨t202, A30, H⟩ := H
 replace H : (if t202 = true then (spec_l1Cur_numbers.j0 k t197 s0_0 t200 t201) else (spec_l1Cur_numbers.j0 k (([(⟨1, 2, 5⟩ : S61)] : List (S61))) s0_0 t200 t201)) = some (r1, r2, r3) := H
 have A3 := Aside0.mk A30
 clear A30
 have HC4 := Aside0.mk H
 clear H
 go_enter Try.func127, Try.ntmps127
 go_upto_if 10 with (first | ((with_reducible refine gate_callee (f := 136) rfl ?_); refine goesL_ (some 7) rfl rfl Try.func136 (by kernel_rfl) rfl #[.pointer (some ⟨g, 0, none⟩)] rfl qA ?_; (with_reducible refine (spec_l1Cur_journalRecords.calls k g s0_0 s0_1 s0_2 t197 t200 t201 w0 _ ?side1 ?side2 A2.out).mono ?_); (case side1 => exact qI126 HI0); (case side2 => exact qV126 HB); rintro e w5 ⟨v198, rfl, ho0, hi, hb, hk⟩; refine ⟨_, rfl, ?_⟩; have n0_ := Aside0.mk (Kd.R_lower ho0 (keep_size (w := w) (g := g) (row := none) (qP HK))); have n1_ := Aside0.mk (KeepBut.trans (qP HK) hk (.inl rfl)); have n2_ := Aside0.mk (hb); have n3_ := Aside0.mk (hi); clear HK; clear HB; clear HI0; have HO199 := n0_; have HK := n1_; have HB := n2_; have HI0 := n3_; clear n0_ n1_ n2_ n3_; (try clear hb); (try clear hb2); (try clear hk); (try clear hi); (try clear ho0); obtain ⟨Ao6, co6, eo6⟩ := Kd.R_slice HO199.out; subst eo6) | ((with_reducible refine gate_callee (f := 140) rfl ?_); refine goesL_ (some 9) rfl rfl Try.func140 (by kernel_rfl) rfl #[.slice Ao6 t197.length co6] rfl qA ?_; (with_reducible refine (spec_jrGood.calls k _ _ t197 t202 _ ?side1 ?side2 A3.out).mono ?_); (case side1 => exact uC (Kd.R_reads' HO199.out).2.2); (case side2 => exact (Kd.R_reads' HO199.out).2.1); rintro e w7 ⟨rfl, hb⟩; refine ⟨_, rfl, ?_⟩; have n0_ := Aside0.mk (Kd.R_below (qR HO199) hb); have n1_ := Aside0.mk (IsS126.below (qI126 HI0) hb); have n2_ := Aside0.mk (KeepBut.trans (qP HK) (KeepBut.of_below hb g none) (.inl rfl)); have n3_ := Aside0.mk (below_step (qV126 HB) hb); clear HO199; clear HI0; clear HK; clear HB; have HO199 := n0_; have HI0 := n1_; have HK := n2_; have HB := n3_; clear n0_ n1_ n2_ n3_; (try clear hb); (try clear hb2); (try clear hk); (try clear hi)))
 (try simp only [Act.put, List.setIfInBounds_toArray, List.set_cons_zero, List.set_cons_succ])
 go_cut [3] (fun v3 wc => ∃ (kq : Nat) (x3_3 : List (S61)), Aside0 (spec_l1Cur_numbers.j0 kq x3_3 s0_0 t200 t201 = some (r1, r2, r3)) ∧ Aside0 (kq ≤ k) ∧ Aside0 (Kd.R k61 61 wc w.heap.size (fun _ => True) v3 x3_3) ∧ Aside0 (IsS126 w0 wc g s0_0 t200 t201) ∧ Aside0 (KeepBut w wc g none) ∧ Aside0 (Below w0.heap.size w0 wc))
 case first =>
  have H := HC4.out
  clear HC4
  by_cases c8 : t202 = true
  ·subst c8
   rw [if_pos rfl] at H
   have H' := Aside0.mk H
   clear H
   go_wp2
   go_meet
   case rel => exact ⟨_, (t197), H', ⟨by first | omega | exact Nat.le_refl _⟩, ⟨qR HO199⟩, ⟨qI126 HI0⟩, ⟨qP HK⟩, ⟨qV126 HB⟩⟩
  ·replace c8 := Bool.eq_false_iff.mpr c8
   subst c8
   rw [if_neg (show ¬ (false = true) by decide)] at H
   obtain ⟨y203, hy203⟩ : ∃ y_ : List (S61), y_ = (([(⟨1, 2, 5⟩ : S61)] : List (S61))) := ⟨_, rfl⟩
   replace H : (spec_l1Cur_numbers.j0 k y203 s0_0 t200 t201) = some (r1, r2, r3) := by first | (rw [hy203]; with_reducible exact H) | (have H2_ := (Option.bind_some _ _).symm.trans H; rw [hy203]; with_reducible exact H2_) | (have H2_ := (Option.bind_some _ _).symm.trans H; with_reducible exact H2_) | with_reducible exact H | (rw [hy203]; exact H) | exact H
   have Ny203 := Aside0.mk hy203
   clear hy203
   have H' := Aside0.mk H
   clear H
   go_wp2_with (first | ((with_reducible refine gate_dst (N := 12) rfl ?_); refine Kd.R_lit k61 _ 61 ?hg (N := 12) ?hd (xs := ([(⟨1, 2, 5⟩ : S61)] : List (S61))) (inner := [.int .i64 1, .int .i64 2, .int .i64 5]) (ok := fun _ => True) (okp := fun _ => True) ?hr ?hp (fun _ hk => hk) trivial (Below.refl _ _) (Nat.le_refl _) (by simp) ?_; (case hd => rfl); (case hg => rfl); (case hr => first | (go_simp; done) | (go_simp; rfl)); (case hp => exact (Reps.c3 (show Kd.M k61 _ _ _ (⟨1, 2, 5⟩ : S61) [.int .i64 1, .int .i64 2, .int .i64 5] from (k61_mkM _ _ _ (⟨1, 2, 5⟩ : S61) )) (Reps.none _ _))); intro v204 w9 ho10 hb hg_ hnew_; clear hg_ hnew_; (first | rw [← Ny203.out] at ho10 | (simp only [Int.reduceToNat] at ho10; rw [← Ny203.out] at ho10)); have n0_ := Aside0.mk (Kd.R_elder' (qR HO199) (Kd.R_base ho10) hb); have n1_ := Aside0.mk (Kd.R_lower (Kd.R_new' ho10 (Kd.R_lt (qR HO199))) (keep_size (w := w) (g := g) (row := none) (qP HK))); have n2_ := Aside0.mk (IsS126.below (qI126 HI0) hb); have n3_ := Aside0.mk (KeepBut.trans (qP HK) (KeepBut.of_below hb g none) (.inl rfl)); have n4_ := Aside0.mk (below_step (qV126 HB) hb); clear HO199; clear HI0; clear HK; clear HB; have HO199 := n0_; have HO205 := n1_; have HI0 := n2_; have HK := n3_; have HB := n4_; clear n0_ n1_ n2_ n3_ n4_; clear hb ho10))
   go_meet
   case rel => exact ⟨_, (y203), H', ⟨by first | omega | exact Nat.le_refl _⟩, ⟨by exact uR (Kd.R_mono HO205.out (fun _ hk => trivial))⟩, ⟨qI126 HI0⟩, ⟨qP HK⟩, ⟨qV126 HB⟩⟩
 case rest =>
  clear HC4
  try clear c1
  try clear p2
  try clear c3
  try clear c8
  obtain ⟨kq, x3_3, HA, HJ3, HO_3, HI0, HK, HB⟩ := hcut
  cases kq with
  | zero => exact absurd HA.out (by simp [spec_l1Cur_numbers.j0])
  | succ kj3 =>
   have H := HA.out
   clear HA
   simp only [spec_l1Cur_numbers.j0] at H
   replace H := Option.bind_eq_some_iff.mp H
   obtain ⟨t206, A110, H⟩ := H
   replace H : ((spec_l1Cur_pick.f s0_0 t200 t201 6).bind fun bt209 => (if bt209.1 = 0 then (spec_l1Cur_numbers.j1 kj3 t206 bt209.1 (bt209.1 == 0) s0_0 bt209.2.1 bt209.2.2) else (spec_l1Cur_numbers.j1 kj3 t206 bt209.1 (bt209.1 == 1) s0_0 bt209.2.1 bt209.2.2))) = some (r1, r2, r3) := H
   have A11 := Aside0.mk A110
   clear A110
   replace H := Option.bind_eq_some_iff.mp H
   obtain ⟨⟨t209, t210, t211⟩, A120, H⟩ := H
   replace H : (if t209 = 0 then (spec_l1Cur_numbers.j1 kj3 t206 t209 (t209 == 0) s0_0 t210 t211) else (spec_l1Cur_numbers.j1 kj3 t206 t209 (t209 == 1) s0_0 t210 t211)) = some (r1, r2, r3) := H
   have A12 := Aside0.mk A120
   clear A120
   have HC13 := Aside0.mk H
   clear H
   obtain ⟨Ao14, co14, eo14⟩ := Kd.R_slice HO_3.out
   subst eo14
   go_upto_if 17 with (first | ((with_reducible refine gate_callee (f := 141) rfl ?_); refine goesL_ (some 14) rfl rfl Try.func141 (by kernel_rfl) rfl #[.slice Ao14 x3_3.length co14] rfl qA ?_; (with_reducible refine (spec_jrAll.calls kj3 _ _ x3_3 t206 _ ?side1 ?side2 A11.out).mono ?_); (case side1 => exact uC (Kd.R_reads' HO_3.out).2.2); (case side2 => exact (Kd.R_reads' HO_3.out).2.1); rintro e w15 ⟨v207, rfl, ho0, hb⟩; refine ⟨_, rfl, ?_⟩; have n0_ := Aside0.mk (Kd.R_below (qR HO_3) hb); have n1_ := Aside0.mk (Kd.R_lower ho0 (keep_size (w := w) (g := g) (row := none) (qP HK))); have n2_ := Aside0.mk (IsS126.below (qI126 HI0) hb); have n3_ := Aside0.mk (KeepBut.trans (qP HK) (KeepBut.of_below hb g none) (.inl rfl)); have n4_ := Aside0.mk (below_step (qV126 HB) hb); clear HO_3; clear HI0; clear HK; clear HB; have HO_3 := n0_; have HO208 := n1_; have HI0 := n2_; have HK := n3_; have HB := n4_; clear n0_ n1_ n2_ n3_ n4_; (try clear hb); (try clear hb2); (try clear hk); (try clear hi); (try clear ho0)) | ((with_reducible refine gate_callee (f := 102) rfl ?_); refine goesL_ (some 16) rfl rfl Try.func102 (by kernel_rfl) rfl #[.pointer (some ⟨g, 0, none⟩), .int .i64 6] rfl qA ?_; (with_reducible refine (spec_l1Cur_pick.calls g s0_0 t200 t201 6 t209 t210 t211 w0 _ ?side1 ?side2 A12.out).mono ?_); (case side1 => exact qI126 HI0); (case side2 => exact qV126 HB); rintro e w16 ⟨rfl, hi, hb, hk⟩; refine ⟨_, rfl, ?_⟩; have n0_ := Aside0.mk (Kd.R_mono (Kd.R_keep (IsS126.apart (show IsS126 w0 _ g s0_0 t200 t201 from qI126 HI0) (qR HO_3) (by decide)) hk (fun _ h => h.2)) (fun _ h => h.1)); have n1_ := Aside0.mk (Kd.R_mono (Kd.R_keep (IsS126.apart (show IsS126 w0 _ g s0_0 t200 t201 from qI126 HI0) (qR HO208) (by decide)) hk (fun _ h => h.2)) (fun _ h => h.1)); have n2_ := Aside0.mk (KeepBut.trans (qP HK) hk (.inl rfl)); have n3_ := Aside0.mk (hb); have n4_ := Aside0.mk (hi); clear HO_3; clear HO208; clear HK; clear HB; clear HI0; have HO_3 := n0_; have HO208 := n1_; have HK := n2_; have HB := n3_; have HI0 := n4_; clear n0_ n1_ n2_ n3_ n4_; (try clear hb); (try clear hb2); (try clear hk); (try clear hi)))
   (try simp only [Act.put, List.setIfInBounds_toArray, List.set_cons_zero, List.set_cons_succ])
   go_cut [17] (fun v17 wc => ∃ (kq : Nat) (x17_12 : Bool), v17 = .bool x17_12 ∧ Aside0 (spec_l1Cur_numbers.j1 kq t206 t209 x17_12 s0_0 t210 t211 = some (r1, r2, r3)) ∧ Aside0 (kq ≤ kj3) ∧ Aside0 (Kd.R (Kd.int .i64) 3 wc w.heap.size (fun _ => True) v207 t206) ∧ Aside0 (IsS126 w0 wc g s0_0 t210 t211) ∧ Aside0 (KeepBut w wc g none) ∧ Aside0 (Below w0.heap.size w0 wc))
   case first =>
    have H := HC13.out
    clear HC13
    by_cases c17 : t209 = 0
    ·rw [if_pos c17] at H
     have c17b0 : (t209 == 0) = true := beq_iff_eq.mpr c17
     have c17b1 : (t209 != 0) = false := bne_eq_false_iff_eq.mpr c17
     clear c17
     (first | rw [c17b0] | (simp only [i64_w, i32_w]; rw [c17b0]) | skip)
     have H' := Aside0.mk H
     clear H
     go_wp2
     go_meet
     case rel => exact ⟨_, ((t209 == 0)), qs, H', ⟨by have := HJ3.out; first | omega | exact Nat.le_refl _⟩, ⟨qR HO208⟩, ⟨qI126 HI0⟩, ⟨qP HK⟩, ⟨qV126 HB⟩⟩
    ·rw [if_neg c17] at H
     have c17b0 : (t209 == 0) = false := beq_eq_false_iff_ne.mpr c17
     have c17b1 : (t209 != 0) = true := bne_iff_ne.mpr c17
     (first | rw [c17b0] | (simp only [i64_w, i32_w]; rw [c17b0]) | skip)
     have H' := Aside0.mk H
     clear H
     go_wp2
     go_meet
     case rel => exact ⟨_, ((t209 == 1)), qs, H', ⟨by have := HJ3.out; first | omega | exact Nat.le_refl _⟩, ⟨qR HO208⟩, ⟨qI126 HI0⟩, ⟨qP HK⟩, ⟨qV126 HB⟩⟩
   case rest =>
    clear HC13
    try clear c1
    try clear p2
    try clear c3
    try clear c8
    try clear c10
    try clear c12
    try clear c13
    try clear c14
    try clear c17
    try clear c17b0
    try clear c17b1
    try clear p2
    obtain ⟨kq, x17_12, rfl, HA, HJ12, HO_4, HI0, HK, HB⟩ := hcut
    cases kq with
    | zero => exact absurd HA.out (by simp [spec_l1Cur_numbers.j1])
    | succ kj12 =>
     have H := HA.out
     clear HA
     simp only [spec_l1Cur_numbers.j1] at H
     by_cases c18 : x17_12 = true
     ·subst c18
      rw [if_pos rfl] at H
      replace H := Option.bind_eq_some_iff.mp H
      obtain ⟨⟨t212, t213, t214⟩, A190, H⟩ := H
      replace H : (if 0 ≤ t212 then (if t212 ≤ (t206.length : Int) then (some ((t206.take (t212 : Int).toNat), t213, t214)) else (none)) else (none)) = some (r1, r2, r3) := H
      have A19 := Aside0.mk A190
      clear A190
      by_cases c20 : 0 ≤ t212
      ·rw [if_pos c20] at H
       have c20b0 := eq_true c20
       have c20b1 : decide (0 ≤ t212) = true := decide_eq_true c20
       clear c20
       by_cases c21 : t212 ≤ (t206.length : Int)
       ·rw [if_pos c21] at H
        have c21b0 := eq_true c21
        have c21b1 : decide (t212 ≤ (t206.length : Int)) = true := decide_eq_true c21
        clear c21
        obtain ⟨y215, hy215⟩ : ∃ y_ : List Int, y_ = (t206.take (t212 : Int).toNat) := ⟨_, rfl⟩
        replace H : (some (y215, t213, t214)) = some (r1, r2, r3) := by first | (rw [hy215]; with_reducible exact H) | (have H2_ := (Option.bind_some _ _).symm.trans H; rw [hy215]; with_reducible exact H2_) | (have H2_ := (Option.bind_some _ _).symm.trans H; with_reducible exact H2_) | with_reducible exact H | (rw [hy215]; exact H) | exact H
        have Ny215 := Aside0.mk hy215
        clear hy215
        simp only [Option.some.injEq, Prod.mk.injEq] at H
        obtain ⟨rfl, rfl, rfl⟩ := H
        obtain ⟨Ao22, co22, eo22⟩ := Kd.R_slice HO_4.out
        subst eo22
        go_wp2_with (first | ((with_reducible refine gate_callee (f := 102) rfl ?_); refine goesL_ (some 25) rfl rfl Try.func102 (by kernel_rfl) rfl #[.pointer (some ⟨g, 0, none⟩), .int .i64 (wrap64 ((t206.length : Int) + 1))] rfl qA ?_; (with_reducible refine (spec_l1Cur_pick.calls g s0_0 t210 t211 (wrap64 ((t206.length : Int) + 1)) t212 t213 t214 w0 _ ?side1 ?side2 A19.out).mono ?_); (case side1 => exact qI126 HI0); (case side2 => exact qV126 HB); rintro e w23 ⟨rfl, hi, hb, hk⟩; refine ⟨_, rfl, ?_⟩; have n0_ := Aside0.mk (Kd.R_mono (Kd.R_keep (IsS126.apart (show IsS126 w0 _ g s0_0 t210 t211 from qI126 HI0) (qR HO_4) (by decide)) hk (fun _ h => h.2)) (fun _ h => h.1)); have n1_ := Aside0.mk (KeepBut.trans (qP HK) hk (.inl rfl)); have n2_ := Aside0.mk (hb); have n3_ := Aside0.mk (hi); clear HO_4; clear HK; clear HB; clear HI0; have HO_4 := n0_; have HK := n1_; have HB := n2_; have HI0 := n3_; clear n0_ n1_ n2_ n3_; (try clear hb); (try clear hb2); (try clear hk); (try clear hi); have q24 : (t212 : Int) ≤ ((t206.length : Int) : Int) := of_decide_eq_true qa; obtain ⟨i024, hi024, _, hsz24, _⟩ := info_parts info3; have hcut24 := cut_to (P := Try.prog) 23 3 .i64 Try.underlying23 hi024 Ao22 t206.length co22 t212 (of_decide_eq_true qa) q24 (Kd.R_reads' HO_4.out).2.1; have hr24 := Kd.R_take (m := (t212 : Int).toNat) HO_4.out (by omega); have hy24 : y215.length = (t212 : Int).toNat := (by rw [Ny215.out, List.length_take]; omega); rw [← Ny215.out] at hr24; rw [← hy24] at hr24 hcut24; clear hy24 hi024 hsz24 HO_4; have HO217 := Aside0.mk hr24; clear hr24; replace q24 := eq_true q24))
        go_ret
        exact ⟨_, qe, qR HO217, qI126 HI0, qV126 HB, qP HK⟩
       ·rw [if_neg c21] at H
        exact absurd H (by simp)
      ·rw [if_neg c20] at H
       exact absurd H (by simp)
     ·replace c18 := Bool.eq_false_iff.mpr c18
      subst c18
      rw [if_neg (show ¬ (false = true) by decide)] at H
      by_cases c25 : t209 = 2
      ·rw [if_pos c25] at H
       have c25b0 : (t209 == 2) = true := beq_iff_eq.mpr c25
       have c25b1 : (t209 != 2) = false := bne_eq_false_iff_eq.mpr c25
       clear c25
       by_cases c26 : (t206.length : Int) > 0
       ·rw [if_pos c26] at H
        have c26b0 : decide (0 < (t206.length : Int)) = true := decide_eq_true c26
        have c26b1 : decide (0 < t206.length) = true := decide_eq_true (by omega)
        clear c26
        replace H := Option.bind_eq_some_iff.mp H
        obtain ⟨⟨t218, t219, t220⟩, A270, H⟩ := H
        replace H : ((spec_l1Cur_pick.f s0_0 t219 t220 1000).bind fun bt221 => ((spec_l1Cur_among.f s0_0 bt221.2.1 bt221.2.2 (([0, 1, 2, bt221.1, 9999] : List Int))).bind fun bt227 => (if 0 ≤ t218 then (if t218 < (t206.length : Int) then (some ((t206.set (t218 : Int).toNat bt227.1), bt227.2.1, bt227.2.2)) else (none)) else (none)))) = some (r1, r2, r3) := H
        have A27 := Aside0.mk A270
        clear A270
        replace H := Option.bind_eq_some_iff.mp H
        obtain ⟨⟨t221, t222, t223⟩, A280, H⟩ := H
        replace H : ((spec_l1Cur_among.f s0_0 t222 t223 (([0, 1, 2, t221, 9999] : List Int))).bind fun bt227 => (if 0 ≤ t218 then (if t218 < (t206.length : Int) then (some ((t206.set (t218 : Int).toNat bt227.1), bt227.2.1, bt227.2.2)) else (none)) else (none))) = some (r1, r2, r3) := H
        have A28 := Aside0.mk A280
        clear A280
        obtain ⟨y224, hy224⟩ : ∃ y_ : List Int, y_ = (([0, 1, 2, t221, 9999] : List Int)) := ⟨_, rfl⟩
        replace H : ((spec_l1Cur_among.f s0_0 t222 t223 y224).bind fun bt227 => (if 0 ≤ t218 then (if t218 < (t206.length : Int) then (some ((t206.set (t218 : Int).toNat bt227.1), bt227.2.1, bt227.2.2)) else (none)) else (none))) = some (r1, r2, r3) := by first | (rw [hy224]; with_reducible exact H) | (have H2_ := (Option.bind_some _ _).symm.trans H; rw [hy224]; with_reducible exact H2_) | (have H2_ := (Option.bind_some _ _).symm.trans H; with_reducible exact H2_) | with_reducible exact H | (rw [hy224]; exact H) | exact H
        have Ny224 := Aside0.mk hy224
        clear hy224
        replace H := Option.bind_eq_some_iff.mp H
        obtain ⟨⟨t227, t228, t229⟩, A290, H⟩ := H
        replace H : (if 0 ≤ t218 then (if t218 < (t206.length : Int) then (some ((t206.set (t218 : Int).toNat t227), t228, t229)) else (none)) else (none)) = some (r1, r2, r3) := H
        have A29 := Aside0.mk A290
        clear A290
        by_cases c30 : 0 ≤ t218
        ·rw [if_pos c30] at H
         have c30b0 : decide (0 ≤ t218) = true := decide_eq_true c30
         clear c30
         by_cases c31 : t218 < (t206.length : Int)
         ·rw [if_pos c31] at H
          have c31b0 : decide (t218 < (t206.length : Int)) = true := decide_eq_true c31
          clear c31
          obtain ⟨y230, hy230⟩ : ∃ y_ : List Int, y_ = (t206.set (t218 : Int).toNat t227) := ⟨_, rfl⟩
          replace H : (some (y230, t228, t229)) = some (r1, r2, r3) := by first | (rw [hy230]; with_reducible exact H) | (have H2_ := (Option.bind_some _ _).symm.trans H; rw [hy230]; with_reducible exact H2_) | (have H2_ := (Option.bind_some _ _).symm.trans H; with_reducible exact H2_) | with_reducible exact H | (rw [hy230]; exact H) | exact H
          have Ny230 := Aside0.mk hy230
          clear hy230
          simp only [Option.some.injEq, Prod.mk.injEq] at H
          obtain ⟨rfl, rfl, rfl⟩ := H
          obtain ⟨Ao33, co33, eo33⟩ := Kd.R_slice HO_4.out
          subst eo33
          go_wp2_with (first | ((with_reducible refine gate_callee (f := 102) rfl ?_); refine goesL_ (some 36) rfl rfl Try.func102 (by kernel_rfl) rfl #[.pointer (some ⟨g, 0, none⟩), .int .i64 (t206.length : Int)] rfl qA ?_; (with_reducible refine (spec_l1Cur_pick.calls g s0_0 t210 t211 (t206.length : Int) t218 t219 t220 w0 _ ?side1 ?side2 A27.out).mono ?_); (case side1 => exact qI126 HI0); (case side2 => exact qV126 HB); rintro e w34 ⟨rfl, hi, hb, hk⟩; refine ⟨_, rfl, ?_⟩; have n0_ := Aside0.mk (Kd.R_mono (Kd.R_keep (IsS126.apart (show IsS126 w0 _ g s0_0 t210 t211 from qI126 HI0) (qR HO_4) (by decide)) hk (fun _ h => h.2)) (fun _ h => h.1)); have n1_ := Aside0.mk (KeepBut.trans (qP HK) hk (.inl rfl)); have n2_ := Aside0.mk (hb); have n3_ := Aside0.mk (hi); clear HO_4; clear HK; clear HB; clear HI0; have HO_4 := n0_; have HK := n1_; have HB := n2_; have HI0 := n3_; clear n0_ n1_ n2_ n3_; (try clear hb); (try clear hb2); (try clear hk); (try clear hi)) | ((with_reducible refine gate_callee (f := 102) rfl ?_); refine goesL_ (some 39) rfl rfl Try.func102 (by kernel_rfl) rfl #[.pointer (some ⟨g, 0, none⟩), .int .i64 1000] rfl qA ?_; (with_reducible refine (spec_l1Cur_pick.calls g s0_0 t219 t220 1000 t221 t222 t223 w0 _ ?side1 ?side2 A28.out).mono ?_); (case side1 => exact qI126 HI0); (case side2 => exact qV126 HB); rintro e w35 ⟨rfl, hi, hb, hk⟩; refine ⟨_, rfl, ?_⟩; have n0_ := Aside0.mk (Kd.R_mono (Kd.R_keep (IsS126.apart (show IsS126 w0 _ g s0_0 t219 t220 from qI126 HI0) (qR HO_4) (by decide)) hk (fun _ h => h.2)) (fun _ h => h.1)); have n1_ := Aside0.mk (KeepBut.trans (qP HK) hk (.inl rfl)); have n2_ := Aside0.mk (hb); have n3_ := Aside0.mk (hi); clear HO_4; clear HK; clear HB; clear HI0; have HO_4 := n0_; have HK := n1_; have HB := n2_; have HI0 := n3_; clear n0_ n1_ n2_ n3_; (try clear hb); (try clear hb2); (try clear hk); (try clear hi)) | ((with_reducible refine gate_dst (N := 40) rfl ?_); refine Kd.R_lit (Kd.int .i64) _ 3 ?hg (N := 40) ?hd (xs := ([0, 1, 2, t221, 9999] : List Int)) (inner := [.int .i64 0, .int .i64 1, .int .i64 2, .int .i64 t221, .int .i64 9999]) (ok := fun _ => True) (okp := fun _ => True) ?hr ?hp (fun _ hk => hk) trivial (Below.refl _ _) (Nat.le_refl _) (by simp) ?_; (case hd => rfl); (case hg => rfl); (case hr => first | (go_simp; done) | (go_simp; rfl)); (case hp => exact (Reps.one (show Kd.M (Kd.int .i64) _ _ _ 0 [.int .i64 0] from rfl) (Reps.one (show Kd.M (Kd.int .i64) _ _ _ 1 [.int .i64 1] from rfl) (Reps.one (show Kd.M (Kd.int .i64) _ _ _ 2 [.int .i64 2] from rfl) (Reps.one (show Kd.M (Kd.int .i64) _ _ _ t221 [.int .i64 t221] from rfl) (Reps.one (show Kd.M (Kd.int .i64) _ _ _ 9999 [.int .i64 9999] from rfl) (Reps.none _ _))))))); intro v225 w36 ho37 hb hg_ hnew_; clear hg_ hnew_; (first | rw [← Ny224.out] at ho37 | (simp only [Int.reduceToNat] at ho37; rw [← Ny224.out] at ho37)); have n0_ := Aside0.mk (Kd.R_elder' (qR HO_4) (Kd.R_base ho37) hb); have n1_ := Aside0.mk (Kd.R_lower (Kd.R_new' ho37 (Kd.R_lt (qR HO_4))) (keep_size (w := w) (g := g) (row := none) (qP HK))); have n2_ := Aside0.mk (IsS126.below (qI126 HI0) hb); have n3_ := Aside0.mk (KeepBut.trans (qP HK) (KeepBut.of_below hb g none) (.inl rfl)); have n4_ := Aside0.mk (below_step (qV126 HB) hb); clear HO_4; clear HI0; clear HK; clear HB; have HO_4 := n0_; have HO226 := n1_; have HI0 := n2_; have HK := n3_; have HB := n4_; clear n0_ n1_ n2_ n3_ n4_; clear hb ho37; obtain ⟨Ao38, co38, eo38⟩ := Kd.R_slice HO226.out; subst eo38) | ((with_reducible refine gate_callee (f := 116) rfl ?_); refine goesL_ (some 41) rfl rfl Try.func116 (by kernel_rfl) rfl #[.pointer (some ⟨g, 0, none⟩), .slice Ao38 y224.length co38] rfl qA ?_; (with_reducible refine (spec_l1Cur_among.calls g s0_0 t222 t223 _ _ y224 t227 t228 t229 w0 _ ?side1 ?side2 ?side3 ?side4 ?side5 A29.out).mono ?_); (case side1 => exact qI126 HI0); (case side2 => exact qV126 HB); (case side3 => exact uC (Kd.R_reads' HO226.out).2.2); (case side4 => exact (Kd.R_reads' HO226.out).2.1); (case side5 => exact far_slice (IsS126.own_ne HI0.out HO226.out (by decide))); rintro e w39 ⟨rfl, hi, hb, hk⟩; refine ⟨_, rfl, ?_⟩; have n0_ := Aside0.mk (Kd.R_mono (Kd.R_keep (IsS126.apart (show IsS126 w0 _ g s0_0 t222 t223 from qI126 HI0) (qR HO_4) (by decide)) hk (fun _ h => h.2)) (fun _ h => h.1)); have n1_ := Aside0.mk (Kd.R_mono (Kd.R_keep (IsS126.apart (show IsS126 w0 _ g s0_0 t222 t223 from qI126 HI0) (qR HO226) (by decide)) hk (fun _ h => h.2)) (fun _ h => h.1)); have n2_ := Aside0.mk (KeepBut.trans (qP HK) hk (.inl rfl)); have n3_ := Aside0.mk (hb); have n4_ := Aside0.mk (hi); clear HO_4; clear HO226; clear HK; clear HB; clear HI0; have HO_4 := n0_; have HO226 := n1_; have HK := n2_; have HB := n3_; have HI0 := n4_; clear n0_ n1_ n2_ n3_ n4_; (try clear hb); (try clear hb2); (try clear hk); (try clear hi); have p32 : 0 ≤ (t218 : Int) := of_decide_eq_true qa; have q32 : (t218 : Int) < ((t206.length : Int) : Int) := of_decide_eq_true qa; obtain ⟨go32, co32, eo32, gb32, gl32, cl32, HG32⟩ := Kd.R_form HO_4.out (by omega); (first | cases eo32 | (injection eo32 with ea_ en_ ec_; (first | subst ea_ | (injection ea_ with ea_; subst ea_)); subst ec_; clear en_)); have GB32 := Aside0.mk gb32; have GG32 := Aside0.mk HG32; clear gb32 gl32 HG32; obtain ⟨hx32_0, hf32_0⟩ := Kd.R_celln 0 HO_4.out (t218 : Int) p32 q32; replace p32 := eq_true p32; replace q32 := eq_true q32; have n_ := Aside0.mk (Kd.R_mono (ok' := (fun k_ => some k_ ≠ (.slice Ao38 y224.length co38 : Value).ownBlock)) HO_4.out (fun k_ hk => hk.2)); clear HO_4; have HO_4 := n_; clear n_; obtain ⟨hy40_, hz40_⟩ := Kd.R_celln 0 HO_4.out (t218 : Int) (of_decide_eq_true qa) (of_decide_eq_true qa); have HP40 := Kd.R_putg HO_4.out (t218 : Int) t227) | ((with_reducible refine gate_store (t := 3) (p := 42) rfl ?_); refine store_event (t := 3) (p := 42) (v := ?vo_w41) (w1 := (w39.setCell ⟨go32, (t218 : Int).toNat, none⟩ (.int .i64 t227))) ?hg ?ho ?hn ?hr ?_; (case ho => rfl); (case hg => rfl); (case hn => rfl); (case hr => first | (go_simp; done) | (go_simp; rfl)); intro w41 hw; have hg : w39.grownBy w41 (some go32) := (by rw [hw]; exact HP40.2); have hp_ : Kd.R (Kd.int .i64) 3 w41 w.heap.size (fun k_ => some k_ ≠ (.slice Ao38 y224.length co38 : Value).ownBlock) (.slice (some ⟨go32, 0, none⟩) t206.length co33) y230 := (by rw [hw, Ny230.out]; exact HP40.1); clear HP40; have n0_ := Aside0.mk (hp_); have n1_ := Aside0.mk (IsS126.grown (qI126 HI0) hg (IsS126.own_ne HI0.out HO_4.out (by decide))); have n2_ := Aside0.mk (Kd.R_after (v := (.slice (some ⟨go32, 0, none⟩) t206.length co33)) (v1 := (.slice (some ⟨go32, 0, none⟩) t206.length co33)) (ok := (fun _ => True)) (qR HO226) hg (.inl rfl)); have n3_ := Aside0.mk ((by rw [hw]; exact below_set (HB.out) (Nat.le_trans HL.out GB32.out) : Below w0.heap.size w0 w41)); have n4_ := Aside0.mk (KeepBut.trans (qP HK) (KeepBut.of_grown hg g) (Kd.R_base2 HO_4.out)); clear HO_4; clear HI0; clear HO226; clear HB; clear HK; have HO_4 := n0_; have HI0 := n1_; have HO226 := n2_; have HB := n3_; have HK := n4_; clear n0_ n1_ n2_ n3_ n4_; clear hg hw hp_))
          go_ret
          exact ⟨_, qe, by exact uR (Kd.R_mono HO_4.out (fun _ hk => trivial)), qI126 HI0, qV126 HB, qP HK⟩
         ·rw [if_neg c31] at H
          exact absurd H (by simp)
        ·rw [if_neg c30] at H
         exact absurd H (by simp)
       ·rw [if_neg c26] at H
        have c26b0 : decide (0 < (t206.length : Int)) = false := decide_eq_false c26
        have c26b1 : decide (0 < t206.length) = false := decide_eq_false (by omega)
        clear c26
        simp only [Option.some.injEq, Prod.mk.injEq] at H
        obtain ⟨rfl, rfl, rfl⟩ := H
        obtain ⟨Ao42, co42, eo42⟩ := Kd.R_slice HO_4.out
        subst eo42
        go_wp2
        go_ret
        exact ⟨_, qe, qR HO_4, qI126 HI0, qV126 HB, qP HK⟩
      ·rw [if_neg c25] at H
       have c25b0 : (t209 == 2) = false := beq_eq_false_iff_ne.mpr c25
       have c25b1 : (t209 != 2) = true := bne_iff_ne.mpr c25
       by_cases c43 : t209 = 3
       ·rw [if_pos c43] at H
        have c43b0 : (t209 == 3) = true := beq_iff_eq.mpr c43
        have c43b1 : (t209 != 3) = false := bne_eq_false_iff_eq.mpr c43
        clear c43
        by_cases c44 : (t206.length : Int) < 200
        ·rw [if_pos c44] at H
         have c44b0 : decide ((t206.length : Int) < 200) = true := decide_eq_true c44
         have c44b1 : decide (t206.length < 200) = true := decide_eq_true (by omega)
         clear c44
         replace H := Option.bind_eq_some_iff.mp H
         obtain ⟨⟨t231, t232, t233⟩, A450, H⟩ := H
         replace H : (if t206.length < 17592186044416 then (some ((t206 ++ [t231]), t232, t233)) else (none)) = some (r1, r2, r3) := H
         have A45 := Aside0.mk A450
         clear A450
         by_cases c46 : t206.length < 17592186044416
         ·rw [if_pos c46] at H
          have LMc46 := Aside0.mk c46
          clear c46
          obtain ⟨y234, hy234⟩ : ∃ y_ : List Int, y_ = (t206 ++ [t231]) := ⟨_, rfl⟩
          replace H : (some (y234, t232, t233)) = some (r1, r2, r3) := by first | (rw [hy234]; with_reducible exact H) | (have H2_ := (Option.bind_some _ _).symm.trans H; rw [hy234]; with_reducible exact H2_) | (have H2_ := (Option.bind_some _ _).symm.trans H; with_reducible exact H2_) | with_reducible exact H | (rw [hy234]; exact H) | exact H
          have Ny234 := Aside0.mk hy234
          clear hy234
          simp only [Option.some.injEq, Prod.mk.injEq] at H
          obtain ⟨rfl, rfl, rfl⟩ := H
          obtain ⟨Ao47, co47, eo47⟩ := Kd.R_slice HO_4.out
          subst eo47
          go_wp2_with (first | ((with_reducible refine gate_callee (f := 102) rfl ?_); refine goesL_ (some 50) rfl rfl Try.func102 (by kernel_rfl) rfl #[.pointer (some ⟨g, 0, none⟩), .int .i64 3] rfl qA ?_; (with_reducible refine (spec_l1Cur_pick.calls g s0_0 t210 t211 3 t231 t232 t233 w0 _ ?side1 ?side2 A45.out).mono ?_); (case side1 => exact qI126 HI0); (case side2 => exact qV126 HB); rintro e w48 ⟨rfl, hi, hb, hk⟩; refine ⟨_, rfl, ?_⟩; have n0_ := Aside0.mk (Kd.R_mono (Kd.R_keep (IsS126.apart (show IsS126 w0 _ g s0_0 t210 t211 from qI126 HI0) (qR HO_4) (by decide)) hk (fun _ h => h.2)) (fun _ h => h.1)); have n1_ := Aside0.mk (KeepBut.trans (qP HK) hk (.inl rfl)); have n2_ := Aside0.mk (hb); have n3_ := Aside0.mk (hi); clear HO_4; clear HK; clear HB; clear HI0; have HO_4 := n0_; have HK := n1_; have HB := n2_; have HI0 := n3_; clear n0_ n1_ n2_ n3_; (try clear hb); (try clear hb2); (try clear hk); (try clear hi)) | ((with_reducible refine gate_builtin (b := .append) (xs := #[.tmp 48, .tmp 51]) rfl ?_); at_builtin; refine Kd.R_append (Kd.int .i64) w.heap.size rfl (.tmp 48) (.tmp 51) 23 3 (.int .i64 0) 8 rfl Try.underlying23 info3 rfl (by decide) (by omega) (.slice Ao47 t206.length co47) t206 t231 [.int .i64 t231] (fun _ => True) (fun _ => False) rfl rfl ?aP (fun _ hk => hk.elim) ?aF ?aO (Below.refl _ _) ?aS ?aL ?_; (case aP => exact rfl); (case aF => exact (fun _ _ => trivial)); (case aO => exact (qR HO_4)); (case aS => exact (keep_size (w := w) (g := g) (row := none) (qP HK))); (case aL => have := LMc46.out; omega); intro v235 w49 ho hb hg hat; rw [← Ny234.out] at ho; have n0_ := Aside0.mk (IsS126.grown (qI126 HI0) hg (IsS126.own_ne HI0.out HO_4.out (by decide))); have n1_ := Aside0.mk (below_weaken (qV126 HB) HL.out hb); have n2_ := Aside0.mk (KeepBut.trans (qP HK) (KeepBut.of_grown hg g) (Kd.R_base2 HO_4.out)); have n3_ := Aside0.mk (ho); clear HI0; clear HB; clear HK; clear HO_4; have HI0 := n0_; have HB := n1_; have HK := n2_; have HO236 := n3_; clear n0_ n1_ n2_ n3_; clear ho hb hg hat))
          go_ret
          exact ⟨_, qe, qR HO236, qI126 HI0, qV126 HB, qP HK⟩
         ·rw [if_neg c46] at H
          exact absurd H (by simp)
        ·rw [if_neg c44] at H
         have c44b0 : decide ((t206.length : Int) < 200) = false := decide_eq_false c44
         have c44b1 : decide (t206.length < 200) = false := decide_eq_false (by omega)
         clear c44
         simp only [Option.some.injEq, Prod.mk.injEq] at H
         obtain ⟨rfl, rfl, rfl⟩ := H
         obtain ⟨Ao50, co50, eo50⟩ := Kd.R_slice HO_4.out
         subst eo50
         go_wp2
         go_ret
         exact ⟨_, qe, qR HO_4, qI126 HI0, qV126 HB, qP HK⟩
       ·rw [if_neg c43] at H
        have c43b0 : (t209 == 3) = false := beq_eq_false_iff_ne.mpr c43
        have c43b1 : (t209 != 3) = true := bne_iff_ne.mpr c43
        by_cases c51 : t209 = 4
        ·rw [if_pos c51] at H
         have c51b0 : (t209 == 4) = true := beq_iff_eq.mpr c51
         have c51b1 : (t209 != 4) = false := bne_eq_false_iff_eq.mpr c51
         clear c51
         replace H := Option.bind_eq_some_iff.mp H
         obtain ⟨⟨t237, t238, t239⟩, A520, H⟩ := H
         replace H : (if t237 = 0 then ((spec_l1Cur_pick.f s0_0 t238 t239 2).bind fun bt240 => (spec_l1Cur_numbers.l0 kj12 t206 (wrap64 (200 + bt240.1)) s0_0 bt240.2.1 bt240.2.2)) else (if t237 = 1 then ((spec_l1Cur_among.f s0_0 t238 t239 (([(-1), 10000] : List Int))).bind fun bt249 => (if t206.length < 17592186044416 then (some ((t206 ++ [bt249.1]), bt249.2.1, bt249.2.2)) else (none))) else (some (t206, t238, t239)))) = some (r1, r2, r3) := H
         have A52 := Aside0.mk A520
         clear A520
         by_cases c53 : t237 = 0
         ·rw [if_pos c53] at H
          have c53b0 : (t237 == 0) = true := beq_iff_eq.mpr c53
          have c53b1 : (t237 != 0) = false := bne_eq_false_iff_eq.mpr c53
          clear c53
          replace H := Option.bind_eq_some_iff.mp H
          obtain ⟨⟨t240, t241, t242⟩, A540, H⟩ := H
          replace H : (spec_l1Cur_numbers.l0 kj12 t206 (wrap64 (200 + t240)) s0_0 t241 t242) = some (r1, r2, r3) := H
          have A54 := Aside0.mk A540
          clear A540
          have H' := Aside0.mk H
          clear H
          go_wp2_with (first | ((with_reducible refine gate_callee (f := 102) rfl ?_); refine goesL_ (some 56) rfl rfl Try.func102 (by kernel_rfl) rfl #[.pointer (some ⟨g, 0, none⟩), .int .i64 8] rfl qA ?_; (with_reducible refine (spec_l1Cur_pick.calls g s0_0 t210 t211 8 t237 t238 t239 w0 _ ?side1 ?side2 A52.out).mono ?_); (case side1 => exact qI126 HI0); (case side2 => exact qV126 HB); rintro e w55 ⟨rfl, hi, hb, hk⟩; refine ⟨_, rfl, ?_⟩; have n0_ := Aside0.mk (Kd.R_mono (Kd.R_keep (IsS126.apart (show IsS126 w0 _ g s0_0 t210 t211 from qI126 HI0) (qR HO_4) (by decide)) hk (fun _ h => h.2)) (fun _ h => h.1)); have n1_ := Aside0.mk (KeepBut.trans (qP HK) hk (.inl rfl)); have n2_ := Aside0.mk (hb); have n3_ := Aside0.mk (hi); clear HO_4; clear HK; clear HB; clear HI0; have HO_4 := n0_; have HK := n1_; have HB := n2_; have HI0 := n3_; clear n0_ n1_ n2_ n3_; (try clear hb); (try clear hb2); (try clear hk); (try clear hi)) | ((with_reducible refine gate_callee (f := 102) rfl ?_); refine goesL_ (some 60) rfl rfl Try.func102 (by kernel_rfl) rfl #[.pointer (some ⟨g, 0, none⟩), .int .i64 2] rfl qA ?_; (with_reducible refine (spec_l1Cur_pick.calls g s0_0 t238 t239 2 t240 t241 t242 w0 _ ?side1 ?side2 A54.out).mono ?_); (case side1 => exact qI126 HI0); (case side2 => exact qV126 HB); rintro e w56 ⟨rfl, hi, hb, hk⟩; refine ⟨_, rfl, ?_⟩; have n0_ := Aside0.mk (Kd.R_mono (Kd.R_keep (IsS126.apart (show IsS126 w0 _ g s0_0 t238 t239 from qI126 HI0) (qR HO_4) (by decide)) hk (fun _ h => h.2)) (fun _ h => h.1)); have n1_ := Aside0.mk (KeepBut.trans (qP HK) hk (.inl rfl)); have n2_ := Aside0.mk (hb); have n3_ := Aside0.mk (hi); clear HO_4; clear HK; clear HB; clear HI0; have HO_4 := n0_; have HK := n1_; have HB := n2_; have HI0 := n3_; clear n0_ n1_ n2_ n3_; (try clear hb); (try clear hb2); (try clear hk); (try clear hi)))
          go_loopg [4] kj12 (fun kq v4 w' => ∃ (x4_3 : List Int), Aside0 (spec_l1Cur_numbers.l0 kq x4_3 (wrap64 (200 + t240)) s0_0 t241 t242 = some (r1, r2, r3)) ∧ Aside0 (kq ≤ kj12) ∧ Aside0 (Kd.R (Kd.int .i64) 3 w' w.heap.size (fun _ => True) v4 x4_3) ∧ Aside0 (IsS126 w0 w' g s0_0 t241 t242) ∧ Aside0 (KeepBut w w' g none) ∧ Aside0 (Below w0.heap.size w0 w'))
          case atStart => exact ⟨(t206), H', ⟨Nat.le_refl _⟩, ⟨qR HO_4⟩, ⟨qI126 HI0⟩, ⟨qP HK⟩, ⟨qV126 HB⟩⟩
          case round =>
           clear H'
           try clear c1
           try clear c2
           try clear p2
           try clear q2
           try clear c3
           try clear p3
           try clear q3
           try clear hx3
           try clear hf3
           try clear c4
           try clear c5
           try clear p6
           try clear c8
           try clear c10
           try clear c11
           try clear c12
           try clear c13
           try clear c14
           try clear c17
           try clear c17b0
           try clear c17b1
           try clear c18
           try clear c20
           try clear c20b0
           try clear c20b1
           try clear c21
           try clear c21b0
           try clear c21b1
           try clear q24
           try clear c25
           try clear c25b0
           try clear c25b1
           try clear c26
           try clear c26b0
           try clear c26b1
           try clear c30
           try clear c30b0
           try clear c31
           try clear c31b0
           try clear p32
           try clear q32
           try clear hx32
           try clear hf32
           try clear c43
           try clear c43b0
           try clear c43b1
           try clear c44
           try clear c44b0
           try clear c44b1
           try clear c46
           try clear c51
           try clear c51b0
           try clear c51b1
           try clear c53
           try clear c53b0
           try clear c53b1
           try clear hx32_0
           try clear p2
           try clear p32
           try clear q24
           try clear q32
           obtain ⟨x4_3, HA, HK3, HO_4, HI0, HK, HB⟩ := hrel
           cases gk with
           | zero => exact absurd HA.out (by simp [spec_l1Cur_numbers.l0])
           | succ k3 =>
            have H := HA.out
            clear HA
            simp only [spec_l1Cur_numbers.l0] at H
            by_cases c57 : (x4_3.length : Int) < (wrap64 (200 + t240))
            ·rw [if_pos c57] at H
             have c57b0 : decide ((x4_3.length : Int) < (wrap64 (200 + t240))) = true := decide_eq_true c57
             clear c57
             by_cases c58 : x4_3.length < 17592186044416
             ·rw [if_pos c58] at H
              have LMc58 := Aside0.mk c58
              clear c58
              obtain ⟨y243, hy243⟩ : ∃ y_ : List Int, y_ = (x4_3 ++ [1]) := ⟨_, rfl⟩
              replace H : (spec_l1Cur_numbers.l0 k3 y243 (wrap64 (200 + t240)) s0_0 t241 t242) = some (r1, r2, r3) := by first | (rw [hy243]; with_reducible exact H) | (have H2_ := (Option.bind_some _ _).symm.trans H; rw [hy243]; with_reducible exact H2_) | (have H2_ := (Option.bind_some _ _).symm.trans H; with_reducible exact H2_) | with_reducible exact H | (rw [hy243]; exact H) | exact H
              have Ny243 := Aside0.mk hy243
              clear hy243
              have H' := Aside0.mk H
              clear H
              obtain ⟨Ao59, co59, eo59⟩ := Kd.R_slice HO_4.out
              subst eo59
              go_wp2_with (first | ((with_reducible refine gate_builtin (b := .append) (xs := #[.tmp 66, .tmp 67]) rfl ?_); at_builtin; refine Kd.R_append (Kd.int .i64) w.heap.size rfl (.tmp 66) (.tmp 67) 23 3 (.int .i64 0) 8 rfl Try.underlying23 info3 rfl (by decide) (by omega) (.slice Ao59 x4_3.length co59) x4_3 1 [.int .i64 1] (fun _ => True) (fun _ => False) rfl rfl ?aP (fun _ hk => hk.elim) ?aF ?aO (Below.refl _ _) ?aS ?aL ?_; (case aP => exact rfl); (case aF => exact (fun _ _ => trivial)); (case aO => exact (qR HO_4)); (case aS => exact (keep_size (w := w) (g := g) (row := none) (qP HK))); (case aL => have := LMc58.out; omega); intro v244 w60 ho hb hg hat; rw [← Ny243.out] at ho; have n0_ := Aside0.mk (IsS126.grown (qI126 HI0) hg (IsS126.own_ne HI0.out HO_4.out (by decide))); have n1_ := Aside0.mk (below_weaken (qV126 HB) HL.out hb); have n2_ := Aside0.mk (KeepBut.trans (qP HK) (KeepBut.of_grown hg g) (Kd.R_base2 HO_4.out)); have n3_ := Aside0.mk (ho); clear HI0; clear HB; clear HK; clear HO_4; have HI0 := n0_; have HB := n1_; have HK := n2_; have HO245 := n3_; clear n0_ n1_ n2_ n3_; clear ho hb hg hat))
              go_roundg k3
              case measure => have := HJ3.out; have := HJ12.out; have := HK3.out; omega
              case rel => exact ⟨(y243), H', ⟨by have := HJ3.out; have := HJ12.out; have := HK3.out; omega⟩, ⟨qR HO245⟩, ⟨qI126 HI0⟩, ⟨qP HK⟩, ⟨qV126 HB⟩⟩
             ·rw [if_neg c58] at H
              exact absurd H (by simp)
            ·rw [if_neg c57] at H
             have c57b0 : decide ((x4_3.length : Int) < (wrap64 (200 + t240))) = false := decide_eq_false c57
             clear c57
             simp only [Option.some.injEq, Prod.mk.injEq] at H
             obtain ⟨rfl, rfl, rfl⟩ := H
             obtain ⟨Ao61, co61, eo61⟩ := Kd.R_slice HO_4.out
             subst eo61
             go_wp2
             go_ret
             exact ⟨_, qe, qR HO_4, qI126 HI0, qV126 HB, qP HK⟩
         ·rw [if_neg c53] at H
          have c53b0 : (t237 == 0) = false := beq_eq_false_iff_ne.mpr c53
          have c53b1 : (t237 != 0) = true := bne_iff_ne.mpr c53
          by_cases c62 : t237 = 1
          ·rw [if_pos c62] at H
           have c62b0 : (t237 == 1) = true := beq_iff_eq.mpr c62
           have c62b1 : (t237 != 1) = false := bne_eq_false_iff_eq.mpr c62
           clear c62
           obtain ⟨y246, hy246⟩ : ∃ y_ : List Int, y_ = (([(-1), 10000] : List Int)) := ⟨_, rfl⟩
           replace H : ((spec_l1Cur_among.f s0_0 t238 t239 y246).bind fun bt249 => (if t206.length < 17592186044416 then (some ((t206 ++ [bt249.1]), bt249.2.1, bt249.2.2)) else (none))) = some (r1, r2, r3) := by first | (rw [hy246]; with_reducible exact H) | (have H2_ := (Option.bind_some _ _).symm.trans H; rw [hy246]; with_reducible exact H2_) | (have H2_ := (Option.bind_some _ _).symm.trans H; with_reducible exact H2_) | with_reducible exact H | (rw [hy246]; exact H) | exact H
           have Ny246 := Aside0.mk hy246
           clear hy246
           replace H := Option.bind_eq_some_iff.mp H
           obtain ⟨⟨t249, t250, t251⟩, A630, H⟩ := H
           replace H : (if t206.length < 17592186044416 then (some ((t206 ++ [t249]), t250, t251)) else (none)) = some (r1, r2, r3) := H
           have A63 := Aside0.mk A630
           clear A630
           by_cases c64 : t206.length < 17592186044416
           ·rw [if_pos c64] at H
            have LMc64 := Aside0.mk c64
            clear c64
            obtain ⟨y252, hy252⟩ : ∃ y_ : List Int, y_ = (t206 ++ [t249]) := ⟨_, rfl⟩
            replace H : (some (y252, t250, t251)) = some (r1, r2, r3) := by first | (rw [hy252]; with_reducible exact H) | (have H2_ := (Option.bind_some _ _).symm.trans H; rw [hy252]; with_reducible exact H2_) | (have H2_ := (Option.bind_some _ _).symm.trans H; with_reducible exact H2_) | with_reducible exact H | (rw [hy252]; exact H) | exact H
            have Ny252 := Aside0.mk hy252
            clear hy252
            simp only [Option.some.injEq, Prod.mk.injEq] at H
            obtain ⟨rfl, rfl, rfl⟩ := H
            go_wp2_with (first | ((with_reducible refine gate_callee (f := 102) rfl ?_); refine goesL_ (some 56) rfl rfl Try.func102 (by kernel_rfl) rfl #[.pointer (some ⟨g, 0, none⟩), .int .i64 8] rfl qA ?_; (with_reducible refine (spec_l1Cur_pick.calls g s0_0 t210 t211 8 t237 t238 t239 w0 _ ?side1 ?side2 A52.out).mono ?_); (case side1 => exact qI126 HI0); (case side2 => exact qV126 HB); rintro e w65 ⟨rfl, hi, hb, hk⟩; refine ⟨_, rfl, ?_⟩; have n0_ := Aside0.mk (Kd.R_mono (Kd.R_keep (IsS126.apart (show IsS126 w0 _ g s0_0 t210 t211 from qI126 HI0) (qR HO_4) (by decide)) hk (fun _ h => h.2)) (fun _ h => h.1)); have n1_ := Aside0.mk (KeepBut.trans (qP HK) hk (.inl rfl)); have n2_ := Aside0.mk (hb); have n3_ := Aside0.mk (hi); clear HO_4; clear HK; clear HB; clear HI0; have HO_4 := n0_; have HK := n1_; have HB := n2_; have HI0 := n3_; clear n0_ n1_ n2_ n3_; (try clear hb); (try clear hb2); (try clear hk); (try clear hi)) | ((with_reducible refine gate_dst (N := 73) rfl ?_); refine Kd.R_lit (Kd.int .i64) _ 3 ?hg (N := 73) ?hd (xs := ([(-1), 10000] : List Int)) (inner := [.int .i64 (-1), .int .i64 10000]) (ok := fun _ => True) (okp := fun _ => True) ?hr ?hp (fun _ hk => hk) trivial (Below.refl _ _) (Nat.le_refl _) (by simp) ?_; (case hd => rfl); (case hg => rfl); (case hr => first | (go_simp; done) | (go_simp; rfl)); (case hp => exact (Reps.one (show Kd.M (Kd.int .i64) _ _ _ (-1) [.int .i64 (-1)] from rfl) (Reps.one (show Kd.M (Kd.int .i64) _ _ _ 10000 [.int .i64 10000] from rfl) (Reps.none _ _)))); intro v247 w66 ho67 hb hg_ hnew_; clear hg_ hnew_; (first | rw [← Ny246.out] at ho67 | (simp only [Int.reduceToNat] at ho67; rw [← Ny246.out] at ho67)); have n0_ := Aside0.mk (Kd.R_elder' (qR HO_4) (Kd.R_base ho67) hb); have n1_ := Aside0.mk (Kd.R_lower (Kd.R_new' ho67 (Kd.R_lt (qR HO_4))) (keep_size (w := w) (g := g) (row := none) (qP HK))); have n2_ := Aside0.mk (IsS126.below (qI126 HI0) hb); have n3_ := Aside0.mk (KeepBut.trans (qP HK) (KeepBut.of_below hb g none) (.inl rfl)); have n4_ := Aside0.mk (below_step (qV126 HB) hb); clear HO_4; clear HI0; clear HK; clear HB; have HO_4 := n0_; have HO248 := n1_; have HI0 := n2_; have HK := n3_; have HB := n4_; clear n0_ n1_ n2_ n3_ n4_; clear hb ho67; obtain ⟨Ao68, co68, eo68⟩ := Kd.R_slice HO248.out; subst eo68) | ((with_reducible refine gate_callee (f := 116) rfl ?_); refine goesL_ (some 74) rfl rfl Try.func116 (by kernel_rfl) rfl #[.pointer (some ⟨g, 0, none⟩), .slice Ao68 y246.length co68] rfl qA ?_; (with_reducible refine (spec_l1Cur_among.calls g s0_0 t238 t239 _ _ y246 t249 t250 t251 w0 _ ?side1 ?side2 ?side3 ?side4 ?side5 A63.out).mono ?_); (case side1 => exact qI126 HI0); (case side2 => exact qV126 HB); (case side3 => exact uC (Kd.R_reads' HO248.out).2.2); (case side4 => exact (Kd.R_reads' HO248.out).2.1); (case side5 => exact far_slice (IsS126.own_ne HI0.out HO248.out (by decide))); rintro e w69 ⟨rfl, hi, hb, hk⟩; refine ⟨_, rfl, ?_⟩; have n0_ := Aside0.mk (Kd.R_mono (Kd.R_keep (IsS126.apart (show IsS126 w0 _ g s0_0 t238 t239 from qI126 HI0) (qR HO_4) (by decide)) hk (fun _ h => h.2)) (fun _ h => h.1)); have n1_ := Aside0.mk (Kd.R_mono (Kd.R_keep (IsS126.apart (show IsS126 w0 _ g s0_0 t238 t239 from qI126 HI0) (qR HO248) (by decide)) hk (fun _ h => h.2)) (fun _ h => h.1)); have n2_ := Aside0.mk (KeepBut.trans (qP HK) hk (.inl rfl)); have n3_ := Aside0.mk (hb); have n4_ := Aside0.mk (hi); clear HO_4; clear HO248; clear HK; clear HB; clear HI0; have HO_4 := n0_; have HO248 := n1_; have HK := n2_; have HB := n3_; have HI0 := n4_; clear n0_ n1_ n2_ n3_ n4_; (try clear hb); (try clear hb2); (try clear hk); (try clear hi)) | ((with_reducible refine gate_builtin (b := .append) (xs := #[.tmp 71, .tmp 75]) rfl ?_); at_builtin; refine Kd.R_append (Kd.int .i64) w.heap.size rfl (.tmp 71) (.tmp 75) 23 3 (.int .i64 0) 8 rfl Try.underlying23 info3 rfl (by decide) (by omega) v207 t206 t249 [.int .i64 t249] (fun k_ => some k_ ≠ (.slice Ao68 y246.length co68 : Value).ownBlock) (fun _ => False) rfl rfl ?aP (fun _ hk => hk.elim) ?aF ?aO (Below.refl _ _) ?aS ?aL ?_; (case aP => exact rfl); (case aF => exact (fun k_ hk => Kd.fresh' (Kd.R_lt (qR HO248)) k_ hk)); (case aO => exact (by exact uR (Kd.R_mono HO_4.out (fun _ hk => hk.2)))); (case aS => exact (keep_size (w := w) (g := g) (row := none) (qP HK))); (case aL => have := LMc64.out; omega); intro v253 w70 ho hb hg hat; rw [← Ny252.out] at ho; have n0_ := Aside0.mk (IsS126.grown (qI126 HI0) hg (IsS126.own_ne HI0.out HO_4.out (by decide))); have n1_ := Aside0.mk (Kd.R_after (ok := (fun _ => True)) (qR HO248) hg hat); have n2_ := Aside0.mk (below_weaken (qV126 HB) HL.out hb); have n3_ := Aside0.mk (KeepBut.trans (qP HK) (KeepBut.of_grown hg g) (Kd.R_base2 HO_4.out)); have n4_ := Aside0.mk (ho); clear HI0; clear HO248; clear HB; clear HK; clear HO_4; have HI0 := n0_; have HO248 := n1_; have HB := n2_; have HK := n3_; have HO254 := n4_; clear n0_ n1_ n2_ n3_ n4_; clear ho hb hg hat))
            go_ret
            exact ⟨_, qe, by exact uR (Kd.R_mono HO254.out (fun _ hk => trivial)), qI126 HI0, qV126 HB, qP HK⟩
           ·rw [if_neg c64] at H
            exact absurd H (by simp)
          ·rw [if_neg c62] at H
           have c62b0 : (t237 == 1) = false := beq_eq_false_iff_ne.mpr c62
           have c62b1 : (t237 != 1) = true := bne_iff_ne.mpr c62
           simp only [Option.some.injEq, Prod.mk.injEq] at H
           obtain ⟨rfl, rfl, rfl⟩ := H
           go_wp2_with (first | ((with_reducible refine gate_callee (f := 102) rfl ?_); refine goesL_ (some 56) rfl rfl Try.func102 (by kernel_rfl) rfl #[.pointer (some ⟨g, 0, none⟩), .int .i64 8] rfl qA ?_; (with_reducible refine (spec_l1Cur_pick.calls g s0_0 t210 t211 8 t237 t238 t239 w0 _ ?side1 ?side2 A52.out).mono ?_); (case side1 => exact qI126 HI0); (case side2 => exact qV126 HB); rintro e w71 ⟨rfl, hi, hb, hk⟩; refine ⟨_, rfl, ?_⟩; have n0_ := Aside0.mk (Kd.R_mono (Kd.R_keep (IsS126.apart (show IsS126 w0 _ g s0_0 t210 t211 from qI126 HI0) (qR HO_4) (by decide)) hk (fun _ h => h.2)) (fun _ h => h.1)); have n1_ := Aside0.mk (KeepBut.trans (qP HK) hk (.inl rfl)); have n2_ := Aside0.mk (hb); have n3_ := Aside0.mk (hi); clear HO_4; clear HK; clear HB; clear HI0; have HO_4 := n0_; have HK := n1_; have HB := n2_; have HI0 := n3_; clear n0_ n1_ n2_ n3_; (try clear hb); (try clear hb2); (try clear hk); (try clear hi)))
           go_ret
           exact ⟨_, qe, qR HO_4, qI126 HI0, qV126 HB, qP HK⟩
        ·rw [if_neg c51] at H
         have c51b0 : (t209 == 4) = false := beq_eq_false_iff_ne.mpr c51
         have c51b1 : (t209 != 4) = true := bne_iff_ne.mpr c51
         simp only [Option.some.injEq, Prod.mk.injEq] at H
         obtain ⟨rfl, rfl, rfl⟩ := H
         go_wp2
         go_ret
         exact ⟨_, qe, qR HO_4, qI126 HI0, qV126 HB, qP HK⟩

/-! ### spec_l1Cur_cutAt: function 128 -/
def spec_l1Cur_cutAt.f (s0_0 : List Int) (s0_1 : Int) (s0_2 : Int) : Option (Int × Int × Int) := (spec_l1Cur_pick.f s0_0 s0_1 s0_2 60).bind fun bt255 => ((spec_l1Cur_among.f s0_0 bt255.2.1 bt255.2.2 (([201, (-1)] : List Int))).bind fun bt261 => ((spec_l1Cur_among.f s0_0 bt261.2.1 bt261.2.2 (([0, 1, 5, 9, 10, bt255.1, 200, bt261.1] : List Int))).bind fun bt267 => (some (bt267.1, bt267.2.1, bt267.2.2))))
set_option maxHeartbeats 8000000 in
set_option maxRecDepth 100000 in
theorem spec_l1Cur_cutAt.calls (g : Nat) (s0_0 : List Int) (s0_1 : Int) (s0_2 : Int) (r1 : Int) (r2 : Int) (r3 : Int) (w0 w : World) (hI : IsS126 w0 w g s0_0 s0_1 s0_2) (hB : Below w0.heap.size w0 w) (h : spec_l1Cur_cutAt.f s0_0 s0_1 s0_2 = some (r1, r2, r3)) :
  Calls Try.prog 128 #[.pointer (some ⟨g, 0, none⟩)] w fun e w' => e = .returned (.int .i64 r1) ∧ IsS126 w0 w' g s0_0 r2 r3 ∧ Below w0.heap.size w0 w' ∧ KeepBut w w' g none := by
 have HI0 := Aside0.mk hI
 have HK := Aside0.mk (KeepBut.refl w g none)
 have HL := Aside0.mk hB.size
 clear hI
 have HW0 := Aside0.mk hB.size
 have HB := Aside0.mk hB
 clear hB
 have H : ((spec_l1Cur_pick.f s0_0 s0_1 s0_2 60).bind fun bt255 => ((spec_l1Cur_among.f s0_0 bt255.2.1 bt255.2.2 (([201, (-1)] : List Int))).bind fun bt261 => ((spec_l1Cur_among.f s0_0 bt261.2.1 bt261.2.2 (([0, 1, 5, 9, 10, bt255.1, 200, bt261.1] : List Int))).bind fun bt267 => (some (bt267.1, bt267.2.1, bt267.2.2))))) = some (r1, r2, r3) := h
 clear h
 replace H := Option.bind_eq_some_iff.mp H
 obtain ⟨⟨t255, t256, t257⟩, A20, H⟩ := H
 replace H : ((spec_l1Cur_among.f s0_0 t256 t257 (([201, (-1)] : List Int))).bind fun bt261 => ((spec_l1Cur_among.f s0_0 bt261.2.1 bt261.2.2 (([0, 1, 5, 9, 10, t255, 200, bt261.1] : List Int))).bind fun bt267 => (some (bt267.1, bt267.2.1, bt267.2.2)))) = some (r1, r2, r3) := H
 have A2 := Aside0.mk A20
 clear A20
 obtain ⟨y258, hy258⟩ : ∃ y_ : List Int, y_ = (([201, (-1)] : List Int)) := ⟨_, rfl⟩
 replace H : ((spec_l1Cur_among.f s0_0 t256 t257 y258).bind fun bt261 => ((spec_l1Cur_among.f s0_0 bt261.2.1 bt261.2.2 (([0, 1, 5, 9, 10, t255, 200, bt261.1] : List Int))).bind fun bt267 => (some (bt267.1, bt267.2.1, bt267.2.2)))) = some (r1, r2, r3) := by first | (rw [hy258]; with_reducible exact H) | (have H2_ := (Option.bind_some _ _).symm.trans H; rw [hy258]; with_reducible exact H2_) | (have H2_ := (Option.bind_some _ _).symm.trans H; with_reducible exact H2_) | with_reducible exact H | (rw [hy258]; exact H) | exact H
 have Ny258 := Aside0.mk hy258
 clear hy258
 replace H := Option.bind_eq_some_iff.mp H
 obtain ⟨⟨t261, t262, t263⟩, A30, H⟩ := H
 replace H : ((spec_l1Cur_among.f s0_0 t262 t263 (([0, 1, 5, 9, 10, t255, 200, t261] : List Int))).bind fun bt267 => (some (bt267.1, bt267.2.1, bt267.2.2))) = some (r1, r2, r3) := H
 have A3 := Aside0.mk A30
 clear A30
 obtain ⟨y264, hy264⟩ : ∃ y_ : List Int, y_ = (([0, 1, 5, 9, 10, t255, 200, t261] : List Int)) := ⟨_, rfl⟩
 replace H : ((spec_l1Cur_among.f s0_0 t262 t263 y264).bind fun bt267 => (some (bt267.1, bt267.2.1, bt267.2.2))) = some (r1, r2, r3) := by first | (rw [hy264]; with_reducible exact H) | (have H2_ := (Option.bind_some _ _).symm.trans H; rw [hy264]; with_reducible exact H2_) | (have H2_ := (Option.bind_some _ _).symm.trans H; with_reducible exact H2_) | with_reducible exact H | (rw [hy264]; exact H) | exact H
 have Ny264 := Aside0.mk hy264
 clear hy264
 replace H := Option.bind_eq_some_iff.mp H
 obtain ⟨⟨t267, t268, t269⟩, A40, H⟩ := H
 replace H : (some (t267, t268, t269)) = some (r1, r2, r3) := H
 have A4 := Aside0.mk A40
 clear A40
 simp only [Option.some.injEq, Prod.mk.injEq] at H
 obtain ⟨rfl, rfl, rfl⟩ := H
 go_enter Try.func128, Try.ntmps128
 go_wp2_with (first | ((with_reducible refine gate_callee (f := 102) rfl ?_); refine goesL_ (some 5) rfl rfl Try.func102 (by kernel_rfl) rfl #[.pointer (some ⟨g, 0, none⟩), .int .i64 60] rfl qA ?_; (with_reducible refine (spec_l1Cur_pick.calls g s0_0 s0_1 s0_2 60 t255 t256 t257 w0 _ ?side1 ?side2 A2.out).mono ?_); (case side1 => exact qI126 HI0); (case side2 => exact qV126 HB); rintro e w5 ⟨rfl, hi, hb, hk⟩; refine ⟨_, rfl, ?_⟩; have n0_ := Aside0.mk (KeepBut.trans (qP HK) hk (.inl rfl)); have n1_ := Aside0.mk (hb); have n2_ := Aside0.mk (hi); clear HK; clear HB; clear HI0; have HK := n0_; have HB := n1_; have HI0 := n2_; clear n0_ n1_ n2_; (try clear hb); (try clear hb2); (try clear hk); (try clear hi)) | ((with_reducible refine gate_dst (N := 7) rfl ?_); refine Kd.R_lit (Kd.int .i64) _ 3 ?hg (N := 7) ?hd (xs := ([201, (-1)] : List Int)) (inner := [.int .i64 201, .int .i64 (-1)]) (ok := fun _ => True) (okp := fun _ => True) ?hr ?hp (fun _ hk => hk) trivial (Below.refl _ _) (Nat.le_refl _) (by simp) ?_; (case hd => rfl); (case hg => rfl); (case hr => first | (go_simp; done) | (go_simp; rfl)); (case hp => exact (Reps.one (show Kd.M (Kd.int .i64) _ _ _ 201 [.int .i64 201] from rfl) (Reps.one (show Kd.M (Kd.int .i64) _ _ _ (-1) [.int .i64 (-1)] from rfl) (Reps.none _ _)))); intro v259 w6 ho7 hb hg_ hnew_; clear hg_ hnew_; (first | rw [← Ny258.out] at ho7 | (simp only [Int.reduceToNat] at ho7; rw [← Ny258.out] at ho7)); have n0_ := Aside0.mk (Kd.R_lower ho7 (keep_size (w := w) (g := g) (row := none) (qP HK))); have n1_ := Aside0.mk (IsS126.below (qI126 HI0) hb); have n2_ := Aside0.mk (KeepBut.trans (qP HK) (KeepBut.of_below hb g none) (.inl rfl)); have n3_ := Aside0.mk (below_step (qV126 HB) hb); clear HI0; clear HK; clear HB; have HO260 := n0_; have HI0 := n1_; have HK := n2_; have HB := n3_; clear n0_ n1_ n2_ n3_; clear hb ho7; obtain ⟨Ao8, co8, eo8⟩ := Kd.R_slice HO260.out; subst eo8) | ((with_reducible refine gate_callee (f := 116) rfl ?_); refine goesL_ (some 8) rfl rfl Try.func116 (by kernel_rfl) rfl #[.pointer (some ⟨g, 0, none⟩), .slice Ao8 y258.length co8] rfl qA ?_; (with_reducible refine (spec_l1Cur_among.calls g s0_0 t256 t257 _ _ y258 t261 t262 t263 w0 _ ?side1 ?side2 ?side3 ?side4 ?side5 A3.out).mono ?_); (case side1 => exact qI126 HI0); (case side2 => exact qV126 HB); (case side3 => exact uC (Kd.R_reads' HO260.out).2.2); (case side4 => exact (Kd.R_reads' HO260.out).2.1); (case side5 => exact far_slice (IsS126.own_ne HI0.out HO260.out (by decide))); rintro e w9 ⟨rfl, hi, hb, hk⟩; refine ⟨_, rfl, ?_⟩; have n0_ := Aside0.mk (Kd.R_mono (Kd.R_keep (IsS126.apart (show IsS126 w0 _ g s0_0 t256 t257 from qI126 HI0) (qR HO260) (by decide)) hk (fun _ h => h.2)) (fun _ h => h.1)); have n1_ := Aside0.mk (KeepBut.trans (qP HK) hk (.inl rfl)); have n2_ := Aside0.mk (hb); have n3_ := Aside0.mk (hi); clear HO260; clear HK; clear HB; clear HI0; have HO260 := n0_; have HK := n1_; have HB := n2_; have HI0 := n3_; clear n0_ n1_ n2_ n3_; (try clear hb); (try clear hb2); (try clear hk); (try clear hi)) | ((with_reducible refine gate_dst (N := 9) rfl ?_); refine Kd.R_lit (Kd.int .i64) _ 3 ?hg (N := 9) ?hd (xs := ([0, 1, 5, 9, 10, t255, 200, t261] : List Int)) (inner := [.int .i64 0, .int .i64 1, .int .i64 5, .int .i64 9, .int .i64 10, .int .i64 t255, .int .i64 200, .int .i64 t261]) (ok := fun _ => True) (okp := fun _ => True) ?hr ?hp (fun _ hk => hk) trivial (Below.refl _ _) (Nat.le_refl _) (by simp) ?_; (case hd => rfl); (case hg => rfl); (case hr => first | (go_simp; done) | (go_simp; rfl)); (case hp => exact (Reps.one (show Kd.M (Kd.int .i64) _ _ _ 0 [.int .i64 0] from rfl) (Reps.one (show Kd.M (Kd.int .i64) _ _ _ 1 [.int .i64 1] from rfl) (Reps.one (show Kd.M (Kd.int .i64) _ _ _ 5 [.int .i64 5] from rfl) (Reps.one (show Kd.M (Kd.int .i64) _ _ _ 9 [.int .i64 9] from rfl) (Reps.one (show Kd.M (Kd.int .i64) _ _ _ 10 [.int .i64 10] from rfl) (Reps.one (show Kd.M (Kd.int .i64) _ _ _ t255 [.int .i64 t255] from rfl) (Reps.one (show Kd.M (Kd.int .i64) _ _ _ 200 [.int .i64 200] from rfl) (Reps.one (show Kd.M (Kd.int .i64) _ _ _ t261 [.int .i64 t261] from rfl) (Reps.none _ _)))))))))); intro v265 w10 ho11 hb hg_ hnew_; clear hg_ hnew_; (first | rw [← Ny264.out] at ho11 | (simp only [Int.reduceToNat] at ho11; rw [← Ny264.out] at ho11)); have n0_ := Aside0.mk (Kd.R_elder' (qR HO260) (Kd.R_base ho11) hb); have n1_ := Aside0.mk (Kd.R_lower (Kd.R_new' ho11 (Kd.R_lt (qR HO260))) (keep_size (w := w) (g := g) (row := none) (qP HK))); have n2_ := Aside0.mk (IsS126.below (qI126 HI0) hb); have n3_ := Aside0.mk (KeepBut.trans (qP HK) (KeepBut.of_below hb g none) (.inl rfl)); have n4_ := Aside0.mk (below_step (qV126 HB) hb); clear HO260; clear HI0; clear HK; clear HB; have HO260 := n0_; have HO266 := n1_; have HI0 := n2_; have HK := n3_; have HB := n4_; clear n0_ n1_ n2_ n3_ n4_; clear hb ho11; obtain ⟨Ao12, co12, eo12⟩ := Kd.R_slice HO266.out; subst eo12) | ((with_reducible refine gate_callee (f := 116) rfl ?_); refine goesL_ (some 10) rfl rfl Try.func116 (by kernel_rfl) rfl #[.pointer (some ⟨g, 0, none⟩), .slice Ao12 y264.length co12] rfl qA ?_; (with_reducible refine (spec_l1Cur_among.calls g s0_0 t262 t263 _ _ y264 t267 t268 t269 w0 _ ?side1 ?side2 ?side3 ?side4 ?side5 A4.out).mono ?_); (case side1 => exact qI126 HI0); (case side2 => exact qV126 HB); (case side3 => exact uC (Kd.R_reads' HO266.out).2.2); (case side4 => exact (Kd.R_reads' HO266.out).2.1); (case side5 => exact far_slice (IsS126.own_ne HI0.out HO266.out (by decide))); rintro e w13 ⟨rfl, hi, hb, hk⟩; refine ⟨_, rfl, ?_⟩; have n0_ := Aside0.mk (Kd.R_mono (Kd.R_keep (IsS126.apart (show IsS126 w0 _ g s0_0 t262 t263 from qI126 HI0) (qR HO260) (by decide)) hk (fun _ h => h.2)) (fun _ h => h.1)); have n1_ := Aside0.mk (Kd.R_mono (Kd.R_keep (IsS126.apart (show IsS126 w0 _ g s0_0 t262 t263 from qI126 HI0) (qR HO266) (by decide)) hk (fun _ h => h.2)) (fun _ h => h.1)); have n2_ := Aside0.mk (KeepBut.trans (qP HK) hk (.inl rfl)); have n3_ := Aside0.mk (hb); have n4_ := Aside0.mk (hi); clear HO260; clear HO266; clear HK; clear HB; clear HI0; have HO260 := n0_; have HO266 := n1_; have HK := n2_; have HB := n3_; have HI0 := n4_; clear n0_ n1_ n2_ n3_ n4_; (try clear hb); (try clear hb2); (try clear hk); (try clear hi)))
 go_ret
 exact ⟨qe, qI126 HI0, qV126 HB, qP HK⟩

/-! ### spec_DrawCutNumbers: function 25 -/
def spec_DrawCutNumbers.f (k : Nat) (l0 : List Int) : Option (List Int × Int) := (spec_l1Cur_numbers.f k l0 0 0).bind fun bt271 => ((spec_l1Cur_cutAt.f l0 bt271.2.1 bt271.2.2).bind fun bt276 => (some (bt271.1, bt276.1)))
theorem spec_DrawCutNumbers.mono : ∀ a0 k, LeO (spec_DrawCutNumbers.f k a0) (spec_DrawCutNumbers.f (k + 1) a0) := by
 intro a0 k
 unfold spec_DrawCutNumbers.f
 repeat' first | (with_reducible first | exact spec_l1Cur_numbers.mono _ _ _ _ | exact LeO.refl _ | exact LeO.none _ | refine LeO.ite ?_ ?_ | refine LeO.bind ?_ (fun _ => ?_)) | exact spec_l1Cur_numbers.mono _ _ _ _ | exact LeO.none _ | refine LeO.ite ?_ ?_ | refine LeO.bind ?_ (fun _ => ?_)
set_option maxHeartbeats 8000000 in
set_option maxRecDepth 100000 in
theorem spec_DrawCutNumbers.calls (k : Nat) (A0 : Option Addr) (c0 : Nat) (l0 : List Int) (r1 : List Int) (r2 : Int) (w : World) (hr0 : Kd.C (Kd.int .u8) w A0 l0.length l0) (hc0 : l0.length ≤ c0) (h : spec_DrawCutNumbers.f k l0 = some (r1, r2)) :
  Calls Try.prog 25 #[.slice A0 l0.length c0] w fun e w' => ∃ v0_ : Value, e = .returned (.tuple #[v0_, .int .i64 r2]) ∧ Kd.R (Kd.int .i64) 3 w' w.heap.size (fun _ => True) v0_ r1 ∧ Below w.heap.size w w' := by
 have hu126 := Try.underlying126
 have HR0 := Aside0.mk hr0
 have HC0 := Aside0.mk hc0
 clear hr0 hc0
 have HB := Aside0.mk (Below.refl w.heap.size w)
 have H : ((spec_l1Cur_numbers.f k l0 0 0).bind fun bt271 => ((spec_l1Cur_cutAt.f l0 bt271.2.1 bt271.2.2).bind fun bt276 => (some (bt271.1, bt276.1)))) = some (r1, r2) := h
 clear h
 replace H := Option.bind_eq_some_iff.mp H
 obtain ⟨⟨t271, t274, t275⟩, A20, H⟩ := H
 replace H : ((spec_l1Cur_cutAt.f l0 t274 t275).bind fun bt276 => (some (t271, bt276.1))) = some (r1, r2) := H
 have A2 := Aside0.mk A20
 clear A20
 replace H := Option.bind_eq_some_iff.mp H
 obtain ⟨⟨t276, t277, t278⟩, A30, H⟩ := H
 replace H : (some (t271, t276)) = some (r1, r2) := H
 have A3 := Aside0.mk A30
 clear A30
 simp only [Option.some.injEq, Prod.mk.injEq] at H
 obtain ⟨rfl, rfl⟩ := H
 go_enter Try.func25, Try.ntmps25
 go_wp2_with (first | ((with_reducible refine gate_dst (N := 7) rfl ?_); refine box_event ?hg (N := 7) ?hd (cs := #[.slice A0 l0.length c0, .int .i64 0, .int .u64 0]) (t := 126) ?hr ?_; (case hd => rfl); (case hg => rfl); (case hr => first | (go_simp; done) | (go_simp; rfl)); intro gb270 hg w4 hbox hb; have n0_ := Aside0.mk (below_step (qB HB) hb); have n1_ := Aside0.mk (hbox); have n2_ := Aside0.mk ((by rw [hg]; exact (below_size (qB HB)) : w.heap.size ≤ gb270)); have n3_ := Aside0.mk ((by rw [hg]; exact (below_size (qB HB)) : w.heap.size ≤ gb270)); clear HB; have HB := n0_; have BK270 := n1_; have GW270 := n2_; have GE270 := n3_; clear n0_ n1_ n2_ n3_; clear hb hbox hg; have HI270 := Aside0.mk (show IsS126 w _ gb270 l0 0 0 from ⟨_, _, by (with_reducible repeat (first | refine blk_drewN ?_ _ | refine blk_drew ?_ | refine blk_alloc ?_ _)); exact BK270.out, GE270.out, HR0.out⟩)) | ((with_reducible refine gate_callee (f := 127) rfl ?_); refine goesL_ (some 9) rfl rfl Try.func127 (by kernel_rfl) rfl #[.pointer (some ⟨gb270, 0, none⟩)] rfl qA ?_; (with_reducible refine (spec_l1Cur_numbers.calls k gb270 l0 0 0 t271 t274 t275 w _ ?side1 ?side2 A2.out).mono ?_); (case side1 => exact qI126 HI270); (case side2 => exact qV126 HB); rintro e w5 ⟨v272, rfl, ho0, hi, hb, hk⟩; refine ⟨_, rfl, ?_⟩; have n0_ := Aside0.mk (Kd.R_lower ho0 (below_size (qV126 HB))); have n1_ := Aside0.mk (hb); have n2_ := Aside0.mk (hi); clear HB; clear HI270; have HO273 := n0_; have HB := n1_; have HI270 := n2_; clear n0_ n1_ n2_; (try clear hb); (try clear hb2); (try clear hk); (try clear hi); (try clear ho0)) | ((with_reducible refine gate_callee (f := 128) rfl ?_); refine goesL_ (some 11) rfl rfl Try.func128 (by kernel_rfl) rfl #[.pointer (some ⟨gb270, 0, none⟩)] rfl qA ?_; (with_reducible refine (spec_l1Cur_cutAt.calls gb270 l0 t274 t275 t276 t277 t278 w _ ?side1 ?side2 A3.out).mono ?_); (case side1 => exact qI126 HI270); (case side2 => exact qV126 HB); rintro e w6 ⟨rfl, hi, hb, hk⟩; refine ⟨_, rfl, ?_⟩; have n0_ := Aside0.mk (Kd.R_mono (Kd.R_keep (IsS126.apart (show IsS126 w _ gb270 l0 t274 t275 from qI126 HI270) (qR HO273) (by decide)) hk (fun _ h => h.2)) (fun _ h => h.1)); have n1_ := Aside0.mk (hb); have n2_ := Aside0.mk (hi); clear HO273; clear HB; clear HI270; have HO273 := n0_; have HB := n1_; have HI270 := n2_; clear n0_ n1_ n2_; (try clear hb); (try clear hb2); (try clear hk); (try clear hi)))
 go_ret2
 exact ⟨_, qe, qR HO273, qV126 HB⟩

/-! ### impl_areNumbers: function 129 -/
def impl_areNumbers.l0 : Nat → List Int → Int → Int → Option (Bool)
 | 0, _, _, _ => none
 | k + 1, x8, x9, x10 => if x10 < x9 then (if 0 ≤ x10 then (if x10 < (x8.length : Int) then (if (rd x8 x10) < 0 then (some false) else (if (rd x8 x10) > 9999 then (some false) else (impl_areNumbers.l0 k x8 x9 (wrap64 (x10 + 1))))) else (none)) else (none)) else (some true)
def impl_areNumbers.f (k : Nat) (l0 : List Int) : Option (Bool) := if (l0.length : Int) > 200 then (some false) else (impl_areNumbers.l0 k l0 (l0.length : Int) 0)
theorem impl_areNumbers.mono_l : ∀ k, (∀ y0 y1 y2, LeO (impl_areNumbers.l0 k y0 y1 y2) (impl_areNumbers.l0 (k + 1) y0 y1 y2))
 | 0 => fun _ _ _ r h => by simp [impl_areNumbers.l0] at h
 | k + 1 => by
  have ih0 := impl_areNumbers.mono_l k
  ·intro y0 y1 y2
   unfold impl_areNumbers.l0
   repeat' first | (with_reducible first | exact ih0 _ _ _ | exact LeO.refl _ | exact LeO.none _ | refine LeO.ite ?_ ?_ | refine LeO.bind ?_ (fun _ => ?_)) | exact ih0 _ _ _ | exact LeO.none _ | refine LeO.ite ?_ ?_ | refine LeO.bind ?_ (fun _ => ?_)
theorem impl_areNumbers.mono : ∀ a0 k, LeO (impl_areNumbers.f k a0) (impl_areNumbers.f (k + 1) a0) := by
 intro a0 k
 have ih0 := impl_areNumbers.mono_l k
 unfold impl_areNumbers.f
 repeat' first | (with_reducible first | exact ih0 _ _ _ | exact LeO.refl _ | exact LeO.none _ | refine LeO.ite ?_ ?_ | refine LeO.bind ?_ (fun _ => ?_)) | exact ih0 _ _ _ | exact LeO.none _ | refine LeO.ite ?_ ?_ | refine LeO.bind ?_ (fun _ => ?_)
set_option maxHeartbeats 8000000 in
set_option maxRecDepth 100000 in
theorem impl_areNumbers.calls (k : Nat) (A0 : Option Addr) (c0 : Nat) (l0 : List Int) (r : Bool) (w : World) (hr0 : Kd.C (Kd.int .i64) w A0 l0.length l0) (hc0 : l0.length ≤ c0) (h : impl_areNumbers.f k l0 = some r) :
  Calls Try.prog 129 #[.slice A0 l0.length c0] w fun e w' => e = .returned (.bool r) ∧ Drawn0 w w' := by
 have HR0 := Aside0.mk hr0
 have HC0 := Aside0.mk hc0
 clear hr0 hc0
 have H : (if (l0.length : Int) > 200 then (some false) else (impl_areNumbers.l0 k l0 (l0.length : Int) 0)) = some r := h
 clear h
 by_cases c2 : (l0.length : Int) > 200
 ·rw [if_pos c2] at H
  have c2b0 : decide (200 < (l0.length : Int)) = true := decide_eq_true c2
  have c2b1 : decide (200 < l0.length) = true := decide_eq_true (by omega)
  clear c2
  obtain rfl := Option.some.inj H
  go_enter Try.func129, Try.ntmps129
  go_wp2
  go_ret
  exact ⟨qs, by repeat (first | exact Drawn0.refl _ | apply Drawn0.step)⟩
 ·rw [if_neg c2] at H
  have c2b0 : decide (200 < (l0.length : Int)) = false := decide_eq_false c2
  have c2b1 : decide (200 < l0.length) = false := decide_eq_false (by omega)
  clear c2
  have H' := Aside0.mk H
  clear H
  go_enter Try.func129, Try.ntmps129
  go_wp2
  go_loopg [10] k (fun kq v10 w' => ∃ (x10_1 : Int), v10 = .int .i64 x10_1 ∧ Aside0 (impl_areNumbers.l0 kq l0 (l0.length : Int) x10_1 = some r) ∧ Aside0 (kq ≤ k) ∧ Drawn0 w w')
  case atStart => exact ⟨(0), qs, H', ⟨Nat.le_refl _⟩, by repeat (first | exact Drawn0.refl _ | apply Drawn0.step)⟩
  case round =>
   clear H'
   try clear c1
   try clear c2
   try clear c2b0
   try clear c2b1
   try clear p2
   obtain ⟨x10_1, rfl, HA, HK1, ⟨m1, rfl⟩⟩ := hrel
   cases gk with
   | zero => exact absurd HA.out (by simp [impl_areNumbers.l0])
   | succ k1 =>
    have H := HA.out
    clear HA
    simp only [impl_areNumbers.l0] at H
    by_cases c3 : x10_1 < (l0.length : Int)
    ·rw [if_pos c3] at H
     have c3b0 : decide (x10_1 < (l0.length : Int)) = true := decide_eq_true c3
     clear c3
     by_cases c4 : 0 ≤ x10_1
     ·rw [if_pos c4] at H
      have c4b0 : decide (0 ≤ x10_1) = true := decide_eq_true c4
      clear c4
      by_cases c5 : x10_1 < (l0.length : Int)
      ·rw [if_pos c5] at H
       have c5b0 : decide (x10_1 < (l0.length : Int)) = true := decide_eq_true c5
       clear c5
       by_cases c6 : (rd l0 x10_1) < 0
       ·rw [if_pos c6] at H
        have c6b0 : decide ((rd l0 x10_1) < 0) = true := decide_eq_true c6
        clear c6
        obtain rfl := Option.some.inj H
        have p279 : 0 ≤ (x10_1 : Int) := of_decide_eq_true qa
        have q279 : x10_1 < (l0.length : Int) := of_decide_eq_true qa
        obtain ⟨ad279, e279, hx279_0⟩ := Kd.at_int HR0.out x10_1 p279 q279
        cases e279
        replace p279 := eq_true p279
        replace q279 := eq_true q279
        go_wp2
        go_ret
        exact ⟨qs, by repeat (first | exact Drawn0.refl _ | apply Drawn0.step)⟩
       ·rw [if_neg c6] at H
        have c6b0 : decide ((rd l0 x10_1) < 0) = false := decide_eq_false c6
        clear c6
        by_cases c7 : (rd l0 x10_1) > 9999
        ·rw [if_pos c7] at H
         have c7b0 : decide (9999 < (rd l0 x10_1)) = true := decide_eq_true c7
         clear c7
         obtain rfl := Option.some.inj H
         have p279 : 0 ≤ (x10_1 : Int) := of_decide_eq_true qa
         have q279 : x10_1 < (l0.length : Int) := of_decide_eq_true qa
         obtain ⟨ad279, e279, hx279_0⟩ := Kd.at_int HR0.out x10_1 p279 q279
         cases e279
         replace p279 := eq_true p279
         replace q279 := eq_true q279
         go_wp2
         go_ret
         exact ⟨qs, by repeat (first | exact Drawn0.refl _ | apply Drawn0.step)⟩
        ·rw [if_neg c7] at H
         have c7b0 : decide (9999 < (rd l0 x10_1)) = false := decide_eq_false c7
         clear c7
         have H' := Aside0.mk H
         clear H
         have p279 : 0 ≤ (x10_1 : Int) := of_decide_eq_true qa
         have q279 : x10_1 < (l0.length : Int) := of_decide_eq_true qa
         obtain ⟨ad279, e279, hx279_0⟩ := Kd.at_int HR0.out x10_1 p279 q279
         cases e279
         replace p279 := eq_true p279
         replace q279 := eq_true q279
         go_wp2
         go_roundg k1
         case measure => have := HK1.out; omega
         case rel => exact ⟨(wrap64 (x10_1 + 1)), qs, H', ⟨by have := HK1.out; omega⟩, by repeat (first | exact Drawn0.refl _ | apply Drawn0.step)⟩
      ·rw [if_neg c5] at H
       exact absurd H (by simp)
     ·rw [if_neg c4] at H
      exact absurd H (by simp)
    ·rw [if_neg c3] at H
     have c3b0 : decide (x10_1 < (l0.length : Int)) = false := decide_eq_false c3
     clear c3
     obtain rfl := Option.some.inj H
     go_wp2
     go_ret
     exact ⟨qs, by repeat (first | exact Drawn0.refl _ | apply Drawn0.step)⟩

end Go.Proofs.Ytgblcbgkkfipoaa.XFnCuts
