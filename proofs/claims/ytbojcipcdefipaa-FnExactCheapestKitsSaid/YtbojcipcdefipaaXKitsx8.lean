/- Written by xprint.py, a program of this session, out of the translation: what Go functions compute, as Lean functions, proved over the program. -/
import Derived.Test.YtbojcipcdefipaaXKitsx0
import Derived.Test.YtbojcipcdefipaaXKitsx1
import Derived.Test.YtbojcipcdefipaaXKitsx3
import Derived.Test.YtbojcipcdefipaaXKitsx5
import Derived.Test.YtbojcipcdefipaaXKitsx6
import Derived.Test.YtbojcipcdefipaaXKitsx7
namespace Go.Proofs.Ytbojcipcdefipaa.XKits
open Go.RowKit Go.Proofs.YtbojcipcdefipaaW.PrintWords Go.Proofs.YtbojcipcdefipaaW.PrintLast Go.Proofs.YtbojcipcdefipaaW.PrintMore
attribute [local go_sem] max2_int min2_int max_two min_two max_three min_three max_four min_four   -- for this text's walks alone
set_option linter.unusedVariables false
set_option linter.unusedSimpArgs false

/-! ### laws_FnExactCheapestKits: function 4 -/
mutual
def laws_FnExactCheapestKits.j0 : Nat → List (List Int) → List Int → List Int → List Int → Int → Bool → List (List Int) → List Int → List Int → List Int → Int → Bool → Bool → Option (Bool)
  | 0, _, _, _, _, _, _, _, _, _, _, _, _, _ => none
  | k + 1, x0, x1, x2, x8, x9, x10, x11, x12, x13, x14, x15, x16, x72 => if x72 = true then (some false) else ((laws_toIntSS.f k x0).bind fun t265 => ((laws_eqIntSS.f k x11 t265).bind fun t268 => (if t268 = true then ((laws_toIntS.f k x1).bind fun t269 => ((laws_eqIntS.f k x12 t269).bind fun t272 => (if t272 = true then ((laws_toIntS.f k x2).bind fun t273 => ((laws_eqIntS.f k x13 t273).bind fun t276 => (if t276 = true then ((laws_markIntSS.f k x11 1).bind fun t277 => ((laws_markIntS.f k x12 t277).bind fun bt278 => ((laws_markIntS.f k x13 bt278.1).bind fun bt280 => (if bt280.1 < 0 then (laws_FnExactCheapestKits.j1 k x0 x1 x2 x8 x9 x10 x14 true) else ((laws_eqIntS.f k x14 x8).bind fun t282 => (if t282 = true then (if x15 = x9 then (laws_FnExactCheapestKits.j1 k x0 x1 x2 x8 x9 x10 x14 (x16 != x10)) else (laws_FnExactCheapestKits.j1 k x0 x1 x2 x8 x9 x10 x14 true)) else (laws_FnExactCheapestKits.j1 k x0 x1 x2 x8 x9 x10 x14 true))))))) else (some false)))) else (some false)))) else (some false))))
def laws_FnExactCheapestKits.j1 : Nat → List (List Int) → List Int → List Int → List Int → Int → Bool → List Int → Bool → Option (Bool)
  | 0, _, _, _, _, _, _, _, _ => none
  | k + 1, x0, x1, x2, x8, x9, x10, x14, x114 => if x114 = true then (some false) else ((laws_markIntS.f k x14 1).bind fun bt283 => ((laws_heldIntS.f k bt283.2 1).bind fun t285 => (if t285 < 0 then (some false) else (if t285 = bt283.1 then ((laws_toIntSS.f k x0).bind fun t286 => ((laws_toIntS.f k x1).bind fun t289 => ((laws_toIntS.f k x2).bind fun t292 => ((impl_CheapestKits.f k t286 t289 t292).bind fun bt295 => ((laws_eqIntS.f k bt295.1 x8).bind fun t300 => (if t300 = true then (if bt295.2.1 = x9 then (laws_FnExactCheapestKits.j2 k bt283.2 bt283.1 (bt295.2.2 != x10)) else (laws_FnExactCheapestKits.j2 k bt283.2 bt283.1 true)) else (laws_FnExactCheapestKits.j2 k bt283.2 bt283.1 true))))))) else (some false)))))
def laws_FnExactCheapestKits.j2 : Nat → List Int → Int → Bool → Option (Bool)
  | 0, _, _, _ => none
  | k + 1, x14, x18, x150 => if x150 = true then (some false) else ((laws_heldIntS.f k x14 1).bind fun t301 => (if t301 < 0 then (some false) else (if t301 = x18 then (some true) else (some false))))
end
def laws_FnExactCheapestKits.f (k : Nat) (l0 : List (List Int)) (l1 : List Int) (l2 : List Int) : Option (Bool) := if (l1.length : Int) > 1048576 then (some true) else (if (l2.length : Int) > 1048576 then (some true) else ((laws_szIntSS.f k l0 1048576).bind fun t235 => (if t235 < 0 then (some true) else ((laws_toIntSS.f k l0).bind fun t236 => ((laws_toIntS.f k l1).bind fun t239 => ((laws_toIntS.f k l2).bind fun t242 => ((spec_CheapestKits.f k t236 t239 t242).bind fun bt245 => ((laws_toIntSS.f k l0).bind fun t250 => ((laws_toIntS.f k l1).bind fun t253 => ((laws_toIntS.f k l2).bind fun t256 => ((impl_CheapestKits.f k t250 t253 t256).bind fun bt259 => ((laws_eqIntS.f k bt259.1 bt245.1).bind fun t264 => (if t264 = true then (if bt259.2.1 = bt245.2.1 then (laws_FnExactCheapestKits.j0 k l0 l1 l2 bt245.1 bt245.2.1 bt245.2.2 t250 t253 t256 bt259.1 bt259.2.1 bt259.2.2 (bt259.2.2 != bt245.2.2)) else (laws_FnExactCheapestKits.j0 k l0 l1 l2 bt245.1 bt245.2.1 bt245.2.2 t250 t253 t256 bt259.1 bt259.2.1 bt259.2.2 true)) else (laws_FnExactCheapestKits.j0 k l0 l1 l2 bt245.1 bt245.2.1 bt245.2.2 t250 t253 t256 bt259.1 bt259.2.1 bt259.2.2 true))))))))))))))
theorem laws_FnExactCheapestKits.mono_l : ∀ k, (∀ y0 y1 y2 y3 y4 y5 y6 y7 y8 y9 y10 y11 y12, LeO (laws_FnExactCheapestKits.j0 k y0 y1 y2 y3 y4 y5 y6 y7 y8 y9 y10 y11 y12) (laws_FnExactCheapestKits.j0 (k + 1) y0 y1 y2 y3 y4 y5 y6 y7 y8 y9 y10 y11 y12)) ∧ (∀ y0 y1 y2 y3 y4 y5 y6 y7, LeO (laws_FnExactCheapestKits.j1 k y0 y1 y2 y3 y4 y5 y6 y7) (laws_FnExactCheapestKits.j1 (k + 1) y0 y1 y2 y3 y4 y5 y6 y7)) ∧ (∀ y0 y1 y2, LeO (laws_FnExactCheapestKits.j2 k y0 y1 y2) (laws_FnExactCheapestKits.j2 (k + 1) y0 y1 y2))
  | 0 => ⟨fun _ _ _ _ _ _ _ _ _ _ _ _ _ r h => by simp [laws_FnExactCheapestKits.j0] at h, fun _ _ _ _ _ _ _ _ r h => by simp [laws_FnExactCheapestKits.j1] at h, fun _ _ _ r h => by simp [laws_FnExactCheapestKits.j2] at h⟩
  | k + 1 => by
    obtain ⟨ih0, ih1, ih2⟩ := laws_FnExactCheapestKits.mono_l k
    refine ⟨?_, ?_, ?_⟩
    · intro y0 y1 y2 y3 y4 y5 y6 y7 y8 y9 y10 y11 y12
      unfold laws_FnExactCheapestKits.j0
      repeat' first
      | (with_reducible exact ih0 _ _ _ _ _ _ _ _ _ _ _ _ _)
      | (with_reducible exact ih1 _ _ _ _ _ _ _ _)
      | (with_reducible exact ih2 _ _ _)
      | (with_reducible exact impl_CheapestKits.mono _ _ _ _)
      | (with_reducible exact laws_eqIntS.mono _ _ _)
      | (with_reducible exact laws_eqIntSS.mono _ _ _)
      | (with_reducible exact laws_heldIntS.mono _ _ _)
      | (with_reducible exact laws_markIntS.mono _ _ _)
      | (with_reducible exact laws_markIntSS.mono _ _ _)
      | (with_reducible exact laws_szIntSS.mono _ _ _)
      | (with_reducible exact laws_toIntS.mono _ _)
      | (with_reducible exact laws_toIntSS.mono _ _)
      | (with_reducible exact spec_CheapestKits.mono _ _ _ _)
      | (with_reducible exact LeO.refl _)
      | (with_reducible exact LeO.none _)
      | (with_reducible refine LeO.ite ?_ ?_)
      | (with_reducible refine LeO.bind ?_ (fun _ => ?_))
      | exact ih0 _ _ _ _ _ _ _ _ _ _ _ _ _
      | exact ih1 _ _ _ _ _ _ _ _
      | exact ih2 _ _ _
      | exact impl_CheapestKits.mono _ _ _ _
      | exact laws_eqIntS.mono _ _ _
      | exact laws_eqIntSS.mono _ _ _
      | exact laws_heldIntS.mono _ _ _
      | exact laws_markIntS.mono _ _ _
      | exact laws_markIntSS.mono _ _ _
      | exact laws_szIntSS.mono _ _ _
      | exact laws_toIntS.mono _ _
      | exact laws_toIntSS.mono _ _
      | exact spec_CheapestKits.mono _ _ _ _
      | exact LeO.none _
      | refine LeO.ite ?_ ?_
      | refine LeO.bind ?_ (fun _ => ?_)
    · intro y0 y1 y2 y3 y4 y5 y6 y7
      unfold laws_FnExactCheapestKits.j1
      repeat' first
      | (with_reducible exact ih0 _ _ _ _ _ _ _ _ _ _ _ _ _)
      | (with_reducible exact ih1 _ _ _ _ _ _ _ _)
      | (with_reducible exact ih2 _ _ _)
      | (with_reducible exact impl_CheapestKits.mono _ _ _ _)
      | (with_reducible exact laws_eqIntS.mono _ _ _)
      | (with_reducible exact laws_eqIntSS.mono _ _ _)
      | (with_reducible exact laws_heldIntS.mono _ _ _)
      | (with_reducible exact laws_markIntS.mono _ _ _)
      | (with_reducible exact laws_markIntSS.mono _ _ _)
      | (with_reducible exact laws_szIntSS.mono _ _ _)
      | (with_reducible exact laws_toIntS.mono _ _)
      | (with_reducible exact laws_toIntSS.mono _ _)
      | (with_reducible exact spec_CheapestKits.mono _ _ _ _)
      | (with_reducible exact LeO.refl _)
      | (with_reducible exact LeO.none _)
      | (with_reducible refine LeO.ite ?_ ?_)
      | (with_reducible refine LeO.bind ?_ (fun _ => ?_))
      | exact ih0 _ _ _ _ _ _ _ _ _ _ _ _ _
      | exact ih1 _ _ _ _ _ _ _ _
      | exact ih2 _ _ _
      | exact impl_CheapestKits.mono _ _ _ _
      | exact laws_eqIntS.mono _ _ _
      | exact laws_eqIntSS.mono _ _ _
      | exact laws_heldIntS.mono _ _ _
      | exact laws_markIntS.mono _ _ _
      | exact laws_markIntSS.mono _ _ _
      | exact laws_szIntSS.mono _ _ _
      | exact laws_toIntS.mono _ _
      | exact laws_toIntSS.mono _ _
      | exact spec_CheapestKits.mono _ _ _ _
      | exact LeO.none _
      | refine LeO.ite ?_ ?_
      | refine LeO.bind ?_ (fun _ => ?_)
    · intro y0 y1 y2
      unfold laws_FnExactCheapestKits.j2
      repeat' first
      | (with_reducible exact ih0 _ _ _ _ _ _ _ _ _ _ _ _ _)
      | (with_reducible exact ih1 _ _ _ _ _ _ _ _)
      | (with_reducible exact ih2 _ _ _)
      | (with_reducible exact impl_CheapestKits.mono _ _ _ _)
      | (with_reducible exact laws_eqIntS.mono _ _ _)
      | (with_reducible exact laws_eqIntSS.mono _ _ _)
      | (with_reducible exact laws_heldIntS.mono _ _ _)
      | (with_reducible exact laws_markIntS.mono _ _ _)
      | (with_reducible exact laws_markIntSS.mono _ _ _)
      | (with_reducible exact laws_szIntSS.mono _ _ _)
      | (with_reducible exact laws_toIntS.mono _ _)
      | (with_reducible exact laws_toIntSS.mono _ _)
      | (with_reducible exact spec_CheapestKits.mono _ _ _ _)
      | (with_reducible exact LeO.refl _)
      | (with_reducible exact LeO.none _)
      | (with_reducible refine LeO.ite ?_ ?_)
      | (with_reducible refine LeO.bind ?_ (fun _ => ?_))
      | exact ih0 _ _ _ _ _ _ _ _ _ _ _ _ _
      | exact ih1 _ _ _ _ _ _ _ _
      | exact ih2 _ _ _
      | exact impl_CheapestKits.mono _ _ _ _
      | exact laws_eqIntS.mono _ _ _
      | exact laws_eqIntSS.mono _ _ _
      | exact laws_heldIntS.mono _ _ _
      | exact laws_markIntS.mono _ _ _
      | exact laws_markIntSS.mono _ _ _
      | exact laws_szIntSS.mono _ _ _
      | exact laws_toIntS.mono _ _
      | exact laws_toIntSS.mono _ _
      | exact spec_CheapestKits.mono _ _ _ _
      | exact LeO.none _
      | refine LeO.ite ?_ ?_
      | refine LeO.bind ?_ (fun _ => ?_)
theorem laws_FnExactCheapestKits.mono : ∀ a0 a1 a2 k, LeO (laws_FnExactCheapestKits.f k a0 a1 a2) (laws_FnExactCheapestKits.f (k + 1) a0 a1 a2) := by
  intro a0 a1 a2 k
  obtain ⟨ih0, ih1, ih2⟩ := laws_FnExactCheapestKits.mono_l k
  unfold laws_FnExactCheapestKits.f
  repeat' first
      | (with_reducible exact ih0 _ _ _ _ _ _ _ _ _ _ _ _ _)
      | (with_reducible exact ih1 _ _ _ _ _ _ _ _)
      | (with_reducible exact ih2 _ _ _)
      | (with_reducible exact impl_CheapestKits.mono _ _ _ _)
      | (with_reducible exact laws_eqIntS.mono _ _ _)
      | (with_reducible exact laws_eqIntSS.mono _ _ _)
      | (with_reducible exact laws_heldIntS.mono _ _ _)
      | (with_reducible exact laws_markIntS.mono _ _ _)
      | (with_reducible exact laws_markIntSS.mono _ _ _)
      | (with_reducible exact laws_szIntSS.mono _ _ _)
      | (with_reducible exact laws_toIntS.mono _ _)
      | (with_reducible exact laws_toIntSS.mono _ _)
      | (with_reducible exact spec_CheapestKits.mono _ _ _ _)
      | (with_reducible exact LeO.refl _)
      | (with_reducible exact LeO.none _)
      | (with_reducible refine LeO.ite ?_ ?_)
      | (with_reducible refine LeO.bind ?_ (fun _ => ?_))
      | exact ih0 _ _ _ _ _ _ _ _ _ _ _ _ _
      | exact ih1 _ _ _ _ _ _ _ _
      | exact ih2 _ _ _
      | exact impl_CheapestKits.mono _ _ _ _
      | exact laws_eqIntS.mono _ _ _
      | exact laws_eqIntSS.mono _ _ _
      | exact laws_heldIntS.mono _ _ _
      | exact laws_markIntS.mono _ _ _
      | exact laws_markIntSS.mono _ _ _
      | exact laws_szIntSS.mono _ _ _
      | exact laws_toIntS.mono _ _
      | exact laws_toIntSS.mono _ _
      | exact spec_CheapestKits.mono _ _ _ _
      | exact LeO.none _
      | refine LeO.ite ?_ ?_
      | refine LeO.bind ?_ (fun _ => ?_)
set_option maxHeartbeats 8000000 in
set_option maxRecDepth 100000 in
theorem laws_FnExactCheapestKits.calls (k : Nat) (A0 : Option Addr) (c0 : Nat) (l0 : List (List Int)) (A1 : Option Addr) (c1 : Nat) (l1 : List Int) (A2 : Option Addr) (c2 : Nat) (l2 : List Int) (w : World) (hr0 : Kd.C (Kd.slice 3 (Kd.int .i64)) w A0 l0.length l0) (hc0 : l0.length ≤ c0) (hr1 : Kd.C (Kd.int .i64) w A1 l1.length l1) (hc1 : l1.length ≤ c1) (hr2 : Kd.C (Kd.int .i64) w A2 l2.length l2) (hc2 : l2.length ≤ c2) (h : laws_FnExactCheapestKits.f k l0 l1 l2 = some true) :
    Calls Try.prog 4 #[.slice A0 l0.length c0, .slice A1 l1.length c1, .slice A2 l2.length c2] w fun e w' => e = .returned (.bool true) ∧ Below w.heap.size w w' := by
  have HR0 := Aside0.mk hr0
  have HC0 := Aside0.mk hc0
  clear hr0 hc0
  have HR1 := Aside0.mk hr1
  have HC1 := Aside0.mk hc1
  clear hr1 hc1
  have HR2 := Aside0.mk hr2
  have HC2 := Aside0.mk hc2
  clear hr2 hc2
  have HB := Aside0.mk (Below.refl w.heap.size w)
  have H : (if (l1.length : Int) > 1048576 then (some true) else (if (l2.length : Int) > 1048576 then (some true) else ((laws_szIntSS.f k l0 1048576).bind fun t235 => (if t235 < 0 then (some true) else ((laws_toIntSS.f k l0).bind fun t236 => ((laws_toIntS.f k l1).bind fun t239 => ((laws_toIntS.f k l2).bind fun t242 => ((spec_CheapestKits.f k t236 t239 t242).bind fun bt245 => ((laws_toIntSS.f k l0).bind fun t250 => ((laws_toIntS.f k l1).bind fun t253 => ((laws_toIntS.f k l2).bind fun t256 => ((impl_CheapestKits.f k t250 t253 t256).bind fun bt259 => ((laws_eqIntS.f k bt259.1 bt245.1).bind fun t264 => (if t264 = true then (if bt259.2.1 = bt245.2.1 then (laws_FnExactCheapestKits.j0 k l0 l1 l2 bt245.1 bt245.2.1 bt245.2.2 t250 t253 t256 bt259.1 bt259.2.1 bt259.2.2 (bt259.2.2 != bt245.2.2)) else (laws_FnExactCheapestKits.j0 k l0 l1 l2 bt245.1 bt245.2.1 bt245.2.2 t250 t253 t256 bt259.1 bt259.2.1 bt259.2.2 true)) else (laws_FnExactCheapestKits.j0 k l0 l1 l2 bt245.1 bt245.2.1 bt245.2.2 t250 t253 t256 bt259.1 bt259.2.1 bt259.2.2 true))))))))))))))) = some true := h
  clear h
  by_cases c4 : (l1.length : Int) > 1048576
  · rw [if_pos c4] at H
    have c4b0 : decide (1048576 < (l1.length : Int)) = true := decide_eq_true c4
    have c4b1 : decide (1048576 < l1.length) = true := decide_eq_true (by omega)
    clear c4
    have HRT := Option.some.inj H
    clear H
    go_enter Try.func4, Try.ntmps4
    go_wp2
    go_ret
    exact ⟨by first | rfl | (simp [errW_none, errW_some] <;> rfl) | (simp [*, errW_none, errW_some] <;> rfl), by repeat (first | (with_reducible first | exact HB.out | apply below_alloc | apply pw_below_drewN | apply below_drew1) | exact HB.out)⟩
  · rw [if_neg c4] at H
    have c4b0 : decide (1048576 < (l1.length : Int)) = false := decide_eq_false c4
    have c4b1 : decide (1048576 < l1.length) = false := decide_eq_false (by omega)
    clear c4
    by_cases c5 : (l2.length : Int) > 1048576
    · rw [if_pos c5] at H
      have c5b0 : decide (1048576 < (l2.length : Int)) = true := decide_eq_true c5
      have c5b1 : decide (1048576 < l2.length) = true := decide_eq_true (by omega)
      clear c5
      have HRT := Option.some.inj H
      clear H
      go_enter Try.func4, Try.ntmps4
      go_wp2
      go_ret
      exact ⟨by first | rfl | (simp [errW_none, errW_some] <;> rfl) | (simp [*, errW_none, errW_some] <;> rfl), by repeat (first | (with_reducible first | exact HB.out | apply below_alloc | apply pw_below_drewN | apply below_drew1) | exact HB.out)⟩
    · rw [if_neg c5] at H
      have c5b0 : decide (1048576 < (l2.length : Int)) = false := decide_eq_false c5
      have c5b1 : decide (1048576 < l2.length) = false := decide_eq_false (by omega)
      clear c5
      replace H := Option.bind_eq_some_iff.mp H
      obtain ⟨t235, A60, H⟩ := H
      replace H : (if t235 < 0 then (some true) else ((laws_toIntSS.f k l0).bind fun t236 => ((laws_toIntS.f k l1).bind fun t239 => ((laws_toIntS.f k l2).bind fun t242 => ((spec_CheapestKits.f k t236 t239 t242).bind fun bt245 => ((laws_toIntSS.f k l0).bind fun t250 => ((laws_toIntS.f k l1).bind fun t253 => ((laws_toIntS.f k l2).bind fun t256 => ((impl_CheapestKits.f k t250 t253 t256).bind fun bt259 => ((laws_eqIntS.f k bt259.1 bt245.1).bind fun t264 => (if t264 = true then (if bt259.2.1 = bt245.2.1 then (laws_FnExactCheapestKits.j0 k l0 l1 l2 bt245.1 bt245.2.1 bt245.2.2 t250 t253 t256 bt259.1 bt259.2.1 bt259.2.2 (bt259.2.2 != bt245.2.2)) else (laws_FnExactCheapestKits.j0 k l0 l1 l2 bt245.1 bt245.2.1 bt245.2.2 t250 t253 t256 bt259.1 bt259.2.1 bt259.2.2 true)) else (laws_FnExactCheapestKits.j0 k l0 l1 l2 bt245.1 bt245.2.1 bt245.2.2 t250 t253 t256 bt259.1 bt259.2.1 bt259.2.2 true)))))))))))) = some true := H
      have A6 := Aside0.mk A60
      clear A60
      by_cases c7 : t235 < 0
      · rw [if_pos c7] at H
        have c7b0 : decide (t235 < 0) = true := decide_eq_true c7
        clear c7
        have HRT := Option.some.inj H
        clear H
        go_enter Try.func4, Try.ntmps4
        go_wp2_with (first | ((with_reducible refine gate_callee (f := 8) rfl ?_); refine goesL_ (some 31) rfl rfl Try.func8 (by kernel_rfl) rfl #[.slice A0 l0.length c0, .int .i64 1048576] rfl (by (try simp only [List.map_toArray, List.map_cons, List.map_nil]); first | done | rfl | (simp only [List.length_drop, List.length_take]; rfl)) ?_; (with_reducible refine (laws_szIntSS.calls k _ _ l0 1048576 t235 _ ?side1 ?side2 A6.out).mono ?_); (case side1 => repeat (first | exact HR0.out | (with_reducible refine Kd.C_alloc ?_ _) | (with_reducible refine Kd.C_drewN ?_ _) | (with_reducible refine Kd.C_drew ?_))); (case side2 => exact HC0.out); rintro e w' ⟨rfl, ⟨nd, rfl⟩⟩; refine ⟨_, rfl, ?_⟩))
        go_ret
        exact ⟨by first | rfl | (simp [errW_none, errW_some] <;> rfl) | (simp [*, errW_none, errW_some] <;> rfl), by repeat (first | (with_reducible first | exact HB.out | apply below_alloc | apply pw_below_drewN | apply below_drew1) | exact HB.out)⟩
      · rw [if_neg c7] at H
        have c7b0 : decide (t235 < 0) = false := decide_eq_false c7
        clear c7
        replace H := Option.bind_eq_some_iff.mp H
        obtain ⟨t236, A80, H⟩ := H
        replace H : ((laws_toIntS.f k l1).bind fun t239 => ((laws_toIntS.f k l2).bind fun t242 => ((spec_CheapestKits.f k t236 t239 t242).bind fun bt245 => ((laws_toIntSS.f k l0).bind fun t250 => ((laws_toIntS.f k l1).bind fun t253 => ((laws_toIntS.f k l2).bind fun t256 => ((impl_CheapestKits.f k t250 t253 t256).bind fun bt259 => ((laws_eqIntS.f k bt259.1 bt245.1).bind fun t264 => (if t264 = true then (if bt259.2.1 = bt245.2.1 then (laws_FnExactCheapestKits.j0 k l0 l1 l2 bt245.1 bt245.2.1 bt245.2.2 t250 t253 t256 bt259.1 bt259.2.1 bt259.2.2 (bt259.2.2 != bt245.2.2)) else (laws_FnExactCheapestKits.j0 k l0 l1 l2 bt245.1 bt245.2.1 bt245.2.2 t250 t253 t256 bt259.1 bt259.2.1 bt259.2.2 true)) else (laws_FnExactCheapestKits.j0 k l0 l1 l2 bt245.1 bt245.2.1 bt245.2.2 t250 t253 t256 bt259.1 bt259.2.1 bt259.2.2 true)))))))))) = some true := H
        have A8 := Aside0.mk A80
        clear A80
        replace H := Option.bind_eq_some_iff.mp H
        obtain ⟨t239, A90, H⟩ := H
        replace H : ((laws_toIntS.f k l2).bind fun t242 => ((spec_CheapestKits.f k t236 t239 t242).bind fun bt245 => ((laws_toIntSS.f k l0).bind fun t250 => ((laws_toIntS.f k l1).bind fun t253 => ((laws_toIntS.f k l2).bind fun t256 => ((impl_CheapestKits.f k t250 t253 t256).bind fun bt259 => ((laws_eqIntS.f k bt259.1 bt245.1).bind fun t264 => (if t264 = true then (if bt259.2.1 = bt245.2.1 then (laws_FnExactCheapestKits.j0 k l0 l1 l2 bt245.1 bt245.2.1 bt245.2.2 t250 t253 t256 bt259.1 bt259.2.1 bt259.2.2 (bt259.2.2 != bt245.2.2)) else (laws_FnExactCheapestKits.j0 k l0 l1 l2 bt245.1 bt245.2.1 bt245.2.2 t250 t253 t256 bt259.1 bt259.2.1 bt259.2.2 true)) else (laws_FnExactCheapestKits.j0 k l0 l1 l2 bt245.1 bt245.2.1 bt245.2.2 t250 t253 t256 bt259.1 bt259.2.1 bt259.2.2 true))))))))) = some true := H
        have A9 := Aside0.mk A90
        clear A90
        replace H := Option.bind_eq_some_iff.mp H
        obtain ⟨t242, A100, H⟩ := H
        replace H : ((spec_CheapestKits.f k t236 t239 t242).bind fun bt245 => ((laws_toIntSS.f k l0).bind fun t250 => ((laws_toIntS.f k l1).bind fun t253 => ((laws_toIntS.f k l2).bind fun t256 => ((impl_CheapestKits.f k t250 t253 t256).bind fun bt259 => ((laws_eqIntS.f k bt259.1 bt245.1).bind fun t264 => (if t264 = true then (if bt259.2.1 = bt245.2.1 then (laws_FnExactCheapestKits.j0 k l0 l1 l2 bt245.1 bt245.2.1 bt245.2.2 t250 t253 t256 bt259.1 bt259.2.1 bt259.2.2 (bt259.2.2 != bt245.2.2)) else (laws_FnExactCheapestKits.j0 k l0 l1 l2 bt245.1 bt245.2.1 bt245.2.2 t250 t253 t256 bt259.1 bt259.2.1 bt259.2.2 true)) else (laws_FnExactCheapestKits.j0 k l0 l1 l2 bt245.1 bt245.2.1 bt245.2.2 t250 t253 t256 bt259.1 bt259.2.1 bt259.2.2 true)))))))) = some true := H
        have A10 := Aside0.mk A100
        clear A100
        replace H := Option.bind_eq_some_iff.mp H
        obtain ⟨⟨t245, t246, t247⟩, A110, H⟩ := H
        replace H : ((laws_toIntSS.f k l0).bind fun t250 => ((laws_toIntS.f k l1).bind fun t253 => ((laws_toIntS.f k l2).bind fun t256 => ((impl_CheapestKits.f k t250 t253 t256).bind fun bt259 => ((laws_eqIntS.f k bt259.1 t245).bind fun t264 => (if t264 = true then (if bt259.2.1 = t246 then (laws_FnExactCheapestKits.j0 k l0 l1 l2 t245 t246 t247 t250 t253 t256 bt259.1 bt259.2.1 bt259.2.2 (bt259.2.2 != t247)) else (laws_FnExactCheapestKits.j0 k l0 l1 l2 t245 t246 t247 t250 t253 t256 bt259.1 bt259.2.1 bt259.2.2 true)) else (laws_FnExactCheapestKits.j0 k l0 l1 l2 t245 t246 t247 t250 t253 t256 bt259.1 bt259.2.1 bt259.2.2 true))))))) = some true := H
        have A11 := Aside0.mk A110
        clear A110
        replace H := Option.bind_eq_some_iff.mp H
        obtain ⟨t250, A120, H⟩ := H
        replace H : ((laws_toIntS.f k l1).bind fun t253 => ((laws_toIntS.f k l2).bind fun t256 => ((impl_CheapestKits.f k t250 t253 t256).bind fun bt259 => ((laws_eqIntS.f k bt259.1 t245).bind fun t264 => (if t264 = true then (if bt259.2.1 = t246 then (laws_FnExactCheapestKits.j0 k l0 l1 l2 t245 t246 t247 t250 t253 t256 bt259.1 bt259.2.1 bt259.2.2 (bt259.2.2 != t247)) else (laws_FnExactCheapestKits.j0 k l0 l1 l2 t245 t246 t247 t250 t253 t256 bt259.1 bt259.2.1 bt259.2.2 true)) else (laws_FnExactCheapestKits.j0 k l0 l1 l2 t245 t246 t247 t250 t253 t256 bt259.1 bt259.2.1 bt259.2.2 true)))))) = some true := H
        have A12 := Aside0.mk A120
        clear A120
        replace H := Option.bind_eq_some_iff.mp H
        obtain ⟨t253, A130, H⟩ := H
        replace H : ((laws_toIntS.f k l2).bind fun t256 => ((impl_CheapestKits.f k t250 t253 t256).bind fun bt259 => ((laws_eqIntS.f k bt259.1 t245).bind fun t264 => (if t264 = true then (if bt259.2.1 = t246 then (laws_FnExactCheapestKits.j0 k l0 l1 l2 t245 t246 t247 t250 t253 t256 bt259.1 bt259.2.1 bt259.2.2 (bt259.2.2 != t247)) else (laws_FnExactCheapestKits.j0 k l0 l1 l2 t245 t246 t247 t250 t253 t256 bt259.1 bt259.2.1 bt259.2.2 true)) else (laws_FnExactCheapestKits.j0 k l0 l1 l2 t245 t246 t247 t250 t253 t256 bt259.1 bt259.2.1 bt259.2.2 true))))) = some true := H
        have A13 := Aside0.mk A130
        clear A130
        replace H := Option.bind_eq_some_iff.mp H
        obtain ⟨t256, A140, H⟩ := H
        replace H : ((impl_CheapestKits.f k t250 t253 t256).bind fun bt259 => ((laws_eqIntS.f k bt259.1 t245).bind fun t264 => (if t264 = true then (if bt259.2.1 = t246 then (laws_FnExactCheapestKits.j0 k l0 l1 l2 t245 t246 t247 t250 t253 t256 bt259.1 bt259.2.1 bt259.2.2 (bt259.2.2 != t247)) else (laws_FnExactCheapestKits.j0 k l0 l1 l2 t245 t246 t247 t250 t253 t256 bt259.1 bt259.2.1 bt259.2.2 true)) else (laws_FnExactCheapestKits.j0 k l0 l1 l2 t245 t246 t247 t250 t253 t256 bt259.1 bt259.2.1 bt259.2.2 true)))) = some true := H
        have A14 := Aside0.mk A140
        clear A140
        replace H := Option.bind_eq_some_iff.mp H
        obtain ⟨⟨t259, t260, t261⟩, A150, H⟩ := H
        replace H : ((laws_eqIntS.f k t259 t245).bind fun t264 => (if t264 = true then (if t260 = t246 then (laws_FnExactCheapestKits.j0 k l0 l1 l2 t245 t246 t247 t250 t253 t256 t259 t260 t261 (t261 != t247)) else (laws_FnExactCheapestKits.j0 k l0 l1 l2 t245 t246 t247 t250 t253 t256 t259 t260 t261 true)) else (laws_FnExactCheapestKits.j0 k l0 l1 l2 t245 t246 t247 t250 t253 t256 t259 t260 t261 true))) = some true := H
        have A15 := Aside0.mk A150
        clear A150
        have HC16 := Aside0.mk H
        clear H
        go_enter Try.func4, Try.ntmps4
        go_upto_region 14 with (first | ((with_reducible refine gate_callee (f := 8) rfl ?_); refine goesL_ (some 31) rfl rfl Try.func8 (by kernel_rfl) rfl #[.slice A0 l0.length c0, .int .i64 1048576] rfl (by (try simp only [List.map_toArray, List.map_cons, List.map_nil]); first | done | rfl | (simp only [List.length_drop, List.length_take]; rfl)) ?_; (with_reducible refine (laws_szIntSS.calls k _ _ l0 1048576 t235 _ ?side1 ?side2 A6.out).mono ?_); (case side1 => repeat (first | exact HR0.out | (with_reducible refine Kd.C_alloc ?_ _) | (with_reducible refine Kd.C_drewN ?_ _) | (with_reducible refine Kd.C_drew ?_))); (case side2 => exact HC0.out); rintro e w' ⟨rfl, ⟨nd, rfl⟩⟩; refine ⟨_, rfl, ?_⟩) | ((with_reducible refine gate_callee (f := 10) rfl ?_); refine goesL_ (some 36) rfl rfl Try.func10 (by kernel_rfl) rfl #[.slice A0 l0.length c0] rfl (by (try simp only [List.map_toArray, List.map_cons, List.map_nil]); first | done | rfl | (simp only [List.length_drop, List.length_take]; rfl)) ?_; (with_reducible refine (laws_toIntSS.calls k _ _ l0 t236 _ ?side1 ?side2 A8.out).mono ?_); (case side1 => repeat (first | exact HR0.out | (with_reducible refine Kd.C_alloc ?_ _) | (with_reducible refine Kd.C_drewN ?_ _) | (with_reducible refine Kd.C_drew ?_))); (case side2 => exact HC0.out); rintro e w17 ⟨v237, rfl, ho0, hb⟩; refine ⟨_, rfl, ?_⟩; have n0_ := Aside0.mk (Kd.S_lower ho0 (below_size (by repeat (first | (with_reducible first | exact HB.out | apply below_alloc | apply pw_below_drewN | apply below_drew1) | exact HB.out)))); have n1_ := Aside0.mk (below_step (by repeat (first | (with_reducible first | exact HB.out | apply below_alloc | apply pw_below_drewN | apply below_drew1) | exact HB.out)) hb); clear HB; have HO238 := n0_; have HB := n1_; clear n0_ n1_; (try clear hb); (try clear hb2); (try clear hk); (try clear hi); (try clear ho0)) | ((with_reducible refine gate_callee (f := 11) rfl ?_); refine goesL_ (some 38) rfl rfl Try.func11 (by kernel_rfl) rfl #[.slice A1 l1.length c1] rfl (by (try simp only [List.map_toArray, List.map_cons, List.map_nil]); first | done | rfl | (simp only [List.length_drop, List.length_take]; rfl)) ?_; (with_reducible refine (laws_toIntS.calls k _ _ l1 t239 _ ?side1 ?side2 A9.out).mono ?_); (case side1 => repeat (first | exact (Kd.C_below HR1.out HB.out) | (with_reducible refine Kd.C_alloc ?_ _) | (with_reducible refine Kd.C_drewN ?_ _) | (with_reducible refine Kd.C_drew ?_))); (case side2 => exact HC1.out); rintro e w18 ⟨v240, rfl, ho0, hb⟩; refine ⟨_, rfl, ?_⟩; have n0_ := Aside0.mk (Kd.S_elder' (by (with_reducible repeat (first | apply Kd.S_alloc | apply Kd.S_drewN | apply Kd.S_drew)); exact HO238.out) (Kd.R_base ho0) hb); have n1_ := Aside0.mk (Kd.R_lower ho0 (below_size (by repeat (first | (with_reducible first | exact HB.out | apply below_alloc | apply pw_below_drewN | apply below_drew1) | exact HB.out)))); have n2_ := Aside0.mk (below_step (by repeat (first | (with_reducible first | exact HB.out | apply below_alloc | apply pw_below_drewN | apply below_drew1) | exact HB.out)) hb); clear HO238; clear HB; have HO238 := n0_; have HO241 := n1_; have HB := n2_; clear n0_ n1_ n2_; (try clear hb); (try clear hb2); (try clear hk); (try clear hi); (try clear ho0)) | ((with_reducible refine gate_callee (f := 11) rfl ?_); refine goesL_ (some 40) rfl rfl Try.func11 (by kernel_rfl) rfl #[.slice A2 l2.length c2] rfl (by (try simp only [List.map_toArray, List.map_cons, List.map_nil]); first | done | rfl | (simp only [List.length_drop, List.length_take]; rfl)) ?_; (with_reducible refine (laws_toIntS.calls k _ _ l2 t242 _ ?side1 ?side2 A10.out).mono ?_); (case side1 => repeat (first | exact (Kd.C_below HR2.out HB.out) | (with_reducible refine Kd.C_alloc ?_ _) | (with_reducible refine Kd.C_drewN ?_ _) | (with_reducible refine Kd.C_drew ?_))); (case side2 => exact HC2.out); rintro e w19 ⟨v243, rfl, ho0, hb⟩; refine ⟨_, rfl, ?_⟩; have n0_ := Aside0.mk (Kd.S_elder' (by (with_reducible repeat (first | apply Kd.S_alloc | apply Kd.S_drewN | apply Kd.S_drew)); exact HO238.out) (Kd.R_base ho0) hb); have n1_ := Aside0.mk (Kd.R_elder' (by (with_reducible repeat (first | apply Kd.R_alloc | apply Kd.R_drewN | apply Kd.R_drew)); exact HO241.out) (Kd.R_base ho0) hb); have n2_ := Aside0.mk (Kd.R_lower (Kd.R_new' ho0 (Kd.R_lt (by (with_reducible repeat (first | apply Kd.R_alloc | apply Kd.R_drewN | apply Kd.R_drew)); exact HO241.out))) (below_size (by repeat (first | (with_reducible first | exact HB.out | apply below_alloc | apply pw_below_drewN | apply below_drew1) | exact HB.out)))); have n3_ := Aside0.mk (below_step (by repeat (first | (with_reducible first | exact HB.out | apply below_alloc | apply pw_below_drewN | apply below_drew1) | exact HB.out)) hb); clear HO238; clear HO241; clear HB; have HO238 := n0_; have HO241 := n1_; have HO244 := n2_; have HB := n3_; clear n0_ n1_ n2_ n3_; (try clear hb); (try clear hb2); (try clear hk); (try clear hi); (try clear ho0); obtain ⟨Ao20, co20, eo20⟩ := Kd.S_slice HO238.out; subst eo20; obtain ⟨Ao21, co21, eo21⟩ := Kd.R_slice HO241.out; subst eo21; obtain ⟨Ao22, co22, eo22⟩ := Kd.R_slice HO244.out; subst eo22) | ((with_reducible refine gate_callee (f := 18) rfl ?_); refine goesL_ (some 41) rfl rfl Try.func18 (by kernel_rfl) rfl #[.slice Ao20 t236.length co20, .slice Ao21 t239.length co21, .slice Ao22 t242.length co22] rfl (by (try simp only [List.map_toArray, List.map_cons, List.map_nil]); first | done | rfl | (simp only [List.length_drop, List.length_take]; rfl)) ?_; (with_reducible refine (spec_CheapestKits.calls k _ _ t236 _ _ t239 _ _ t242 t245 t246 t247 _ ?side1 ?side2 ?side3 ?side4 ?side5 ?side6 A11.out).mono ?_); (case side1 => repeat (first | exact (Kd.S_reads' HO238.out).2.2 | (with_reducible refine Kd.C_alloc ?_ _) | (with_reducible refine Kd.C_drewN ?_ _) | (with_reducible refine Kd.C_drew ?_))); (case side2 => exact (Kd.S_reads' HO238.out).2.1); (case side3 => repeat (first | exact (Kd.R_reads' HO241.out).2.2 | (with_reducible refine Kd.C_alloc ?_ _) | (with_reducible refine Kd.C_drewN ?_ _) | (with_reducible refine Kd.C_drew ?_))); (case side4 => exact (Kd.R_reads' HO241.out).2.1); (case side5 => repeat (first | exact (Kd.R_reads' HO244.out).2.2 | (with_reducible refine Kd.C_alloc ?_ _) | (with_reducible refine Kd.C_drewN ?_ _) | (with_reducible refine Kd.C_drew ?_))); (case side6 => exact (Kd.R_reads' HO244.out).2.1); rintro e w23 ⟨v248, rfl, ho0, hb⟩; refine ⟨_, rfl, ?_⟩; have n0_ := Aside0.mk (Kd.S_elder' (by (with_reducible repeat (first | apply Kd.S_alloc | apply Kd.S_drewN | apply Kd.S_drew)); exact HO238.out) (Kd.R_base ho0) hb); have n1_ := Aside0.mk (Kd.R_elder' (by (with_reducible repeat (first | apply Kd.R_alloc | apply Kd.R_drewN | apply Kd.R_drew)); exact HO241.out) (Kd.R_base ho0) hb); have n2_ := Aside0.mk (Kd.R_elder' (by (with_reducible repeat (first | apply Kd.R_alloc | apply Kd.R_drewN | apply Kd.R_drew)); exact HO244.out) (Kd.R_base ho0) hb); have n3_ := Aside0.mk (Kd.R_lower (Kd.R_new' (Kd.R_new' ho0 (Kd.R_lt (by (with_reducible repeat (first | apply Kd.R_alloc | apply Kd.R_drewN | apply Kd.R_drew)); exact HO241.out))) (Kd.R_lt (by (with_reducible repeat (first | apply Kd.R_alloc | apply Kd.R_drewN | apply Kd.R_drew)); exact HO244.out))) (below_size (by repeat (first | (with_reducible first | exact HB.out | apply below_alloc | apply pw_below_drewN | apply below_drew1) | exact HB.out)))); have n4_ := Aside0.mk (below_step (by repeat (first | (with_reducible first | exact HB.out | apply below_alloc | apply pw_below_drewN | apply below_drew1) | exact HB.out)) hb); clear HO238; clear HO241; clear HO244; clear HB; have HO238 := n0_; have HO241 := n1_; have HO244 := n2_; have HO249 := n3_; have HB := n4_; clear n0_ n1_ n2_ n3_ n4_; (try clear hb); (try clear hb2); (try clear hk); (try clear hi); (try clear ho0)) | ((with_reducible refine gate_callee (f := 10) rfl ?_); refine goesL_ (some 46) rfl rfl Try.func10 (by kernel_rfl) rfl #[.slice A0 l0.length c0] rfl (by (try simp only [List.map_toArray, List.map_cons, List.map_nil]); first | done | rfl | (simp only [List.length_drop, List.length_take]; rfl)) ?_; (with_reducible refine (laws_toIntSS.calls k _ _ l0 t250 _ ?side1 ?side2 A12.out).mono ?_); (case side1 => repeat (first | exact (Kd.C_below HR0.out HB.out) | (with_reducible refine Kd.C_alloc ?_ _) | (with_reducible refine Kd.C_drewN ?_ _) | (with_reducible refine Kd.C_drew ?_))); (case side2 => exact HC0.out); rintro e w24 ⟨v251, rfl, ho0, hb⟩; refine ⟨_, rfl, ?_⟩; have n0_ := Aside0.mk (Kd.S_elder' (by (with_reducible repeat (first | apply Kd.S_alloc | apply Kd.S_drewN | apply Kd.S_drew)); exact HO238.out) (Kd.S_base ho0) hb); have n1_ := Aside0.mk (Kd.R_below (by (with_reducible repeat (first | apply Kd.R_alloc | apply Kd.R_drewN | apply Kd.R_drew)); exact HO241.out) hb); have n2_ := Aside0.mk (Kd.R_below (by (with_reducible repeat (first | apply Kd.R_alloc | apply Kd.R_drewN | apply Kd.R_drew)); exact HO244.out) hb); have n3_ := Aside0.mk (Kd.R_below (by (with_reducible repeat (first | apply Kd.R_alloc | apply Kd.R_drewN | apply Kd.R_drew)); exact HO249.out) hb); have n4_ := Aside0.mk (Kd.S_lower (Kd.S_new' (Kd.S_new' (Kd.S_new' (Kd.S_new' ho0 (Kd.S_lt (by (with_reducible repeat (first | apply Kd.S_alloc | apply Kd.S_drewN | apply Kd.S_drew)); exact HO238.out))) (Kd.R_lt (by (with_reducible repeat (first | apply Kd.R_alloc | apply Kd.R_drewN | apply Kd.R_drew)); exact HO241.out))) (Kd.R_lt (by (with_reducible repeat (first | apply Kd.R_alloc | apply Kd.R_drewN | apply Kd.R_drew)); exact HO244.out))) (Kd.R_lt (by (with_reducible repeat (first | apply Kd.R_alloc | apply Kd.R_drewN | apply Kd.R_drew)); exact HO249.out))) (below_size (by repeat (first | (with_reducible first | exact HB.out | apply below_alloc | apply pw_below_drewN | apply below_drew1) | exact HB.out)))); have n5_ := Aside0.mk (below_step (by repeat (first | (with_reducible first | exact HB.out | apply below_alloc | apply pw_below_drewN | apply below_drew1) | exact HB.out)) hb); clear HO238; clear HO241; clear HO244; clear HO249; clear HB; have HO238 := n0_; have HO241 := n1_; have HO244 := n2_; have HO249 := n3_; have HO252 := n4_; have HB := n5_; clear n0_ n1_ n2_ n3_ n4_ n5_; (try clear hb); (try clear hb2); (try clear hk); (try clear hi); (try clear ho0)) | ((with_reducible refine gate_callee (f := 11) rfl ?_); refine goesL_ (some 48) rfl rfl Try.func11 (by kernel_rfl) rfl #[.slice A1 l1.length c1] rfl (by (try simp only [List.map_toArray, List.map_cons, List.map_nil]); first | done | rfl | (simp only [List.length_drop, List.length_take]; rfl)) ?_; (with_reducible refine (laws_toIntS.calls k _ _ l1 t253 _ ?side1 ?side2 A13.out).mono ?_); (case side1 => repeat (first | exact (Kd.C_below HR1.out HB.out) | (with_reducible refine Kd.C_alloc ?_ _) | (with_reducible refine Kd.C_drewN ?_ _) | (with_reducible refine Kd.C_drew ?_))); (case side2 => exact HC1.out); rintro e w25 ⟨v254, rfl, ho0, hb⟩; refine ⟨_, rfl, ?_⟩; have n0_ := Aside0.mk (Kd.S_elder' (by (with_reducible repeat (first | apply Kd.S_alloc | apply Kd.S_drewN | apply Kd.S_drew)); exact HO238.out) (Kd.R_base ho0) hb); have n1_ := Aside0.mk (Kd.R_elder' (by (with_reducible repeat (first | apply Kd.R_alloc | apply Kd.R_drewN | apply Kd.R_drew)); exact HO241.out) (Kd.R_base ho0) hb); have n2_ := Aside0.mk (Kd.R_elder' (by (with_reducible repeat (first | apply Kd.R_alloc | apply Kd.R_drewN | apply Kd.R_drew)); exact HO244.out) (Kd.R_base ho0) hb); have n3_ := Aside0.mk (Kd.R_elder' (by (with_reducible repeat (first | apply Kd.R_alloc | apply Kd.R_drewN | apply Kd.R_drew)); exact HO249.out) (Kd.R_base ho0) hb); have n4_ := Aside0.mk (Kd.S_elder' (by (with_reducible repeat (first | apply Kd.S_alloc | apply Kd.S_drewN | apply Kd.S_drew)); exact HO252.out) (Kd.R_base ho0) hb); have n5_ := Aside0.mk (Kd.R_lower (Kd.R_new' (Kd.R_new' (Kd.R_new' ho0 (Kd.R_lt (by (with_reducible repeat (first | apply Kd.R_alloc | apply Kd.R_drewN | apply Kd.R_drew)); exact HO241.out))) (Kd.R_lt (by (with_reducible repeat (first | apply Kd.R_alloc | apply Kd.R_drewN | apply Kd.R_drew)); exact HO244.out))) (Kd.R_lt (by (with_reducible repeat (first | apply Kd.R_alloc | apply Kd.R_drewN | apply Kd.R_drew)); exact HO249.out))) (below_size (by repeat (first | (with_reducible first | exact HB.out | apply below_alloc | apply pw_below_drewN | apply below_drew1) | exact HB.out)))); have n6_ := Aside0.mk (below_step (by repeat (first | (with_reducible first | exact HB.out | apply below_alloc | apply pw_below_drewN | apply below_drew1) | exact HB.out)) hb); clear HO238; clear HO241; clear HO244; clear HO249; clear HO252; clear HB; have HO238 := n0_; have HO241 := n1_; have HO244 := n2_; have HO249 := n3_; have HO252 := n4_; have HO255 := n5_; have HB := n6_; clear n0_ n1_ n2_ n3_ n4_ n5_ n6_; (try clear hb); (try clear hb2); (try clear hk); (try clear hi); (try clear ho0)) | ((with_reducible refine gate_callee (f := 11) rfl ?_); refine goesL_ (some 50) rfl rfl Try.func11 (by kernel_rfl) rfl #[.slice A2 l2.length c2] rfl (by (try simp only [List.map_toArray, List.map_cons, List.map_nil]); first | done | rfl | (simp only [List.length_drop, List.length_take]; rfl)) ?_; (with_reducible refine (laws_toIntS.calls k _ _ l2 t256 _ ?side1 ?side2 A14.out).mono ?_); (case side1 => repeat (first | exact (Kd.C_below HR2.out HB.out) | (with_reducible refine Kd.C_alloc ?_ _) | (with_reducible refine Kd.C_drewN ?_ _) | (with_reducible refine Kd.C_drew ?_))); (case side2 => exact HC2.out); rintro e w26 ⟨v257, rfl, ho0, hb⟩; refine ⟨_, rfl, ?_⟩; have n0_ := Aside0.mk (Kd.S_elder' (by (with_reducible repeat (first | apply Kd.S_alloc | apply Kd.S_drewN | apply Kd.S_drew)); exact HO238.out) (Kd.R_base ho0) hb); have n1_ := Aside0.mk (Kd.R_elder' (by (with_reducible repeat (first | apply Kd.R_alloc | apply Kd.R_drewN | apply Kd.R_drew)); exact HO241.out) (Kd.R_base ho0) hb); have n2_ := Aside0.mk (Kd.R_elder' (by (with_reducible repeat (first | apply Kd.R_alloc | apply Kd.R_drewN | apply Kd.R_drew)); exact HO244.out) (Kd.R_base ho0) hb); have n3_ := Aside0.mk (Kd.R_elder' (by (with_reducible repeat (first | apply Kd.R_alloc | apply Kd.R_drewN | apply Kd.R_drew)); exact HO249.out) (Kd.R_base ho0) hb); have n4_ := Aside0.mk (Kd.S_elder' (by (with_reducible repeat (first | apply Kd.S_alloc | apply Kd.S_drewN | apply Kd.S_drew)); exact HO252.out) (Kd.R_base ho0) hb); have n5_ := Aside0.mk (Kd.R_elder' (by (with_reducible repeat (first | apply Kd.R_alloc | apply Kd.R_drewN | apply Kd.R_drew)); exact HO255.out) (Kd.R_base ho0) hb); have n6_ := Aside0.mk (Kd.R_lower (Kd.R_new' (Kd.R_new' (Kd.R_new' (Kd.R_new' ho0 (Kd.R_lt (by (with_reducible repeat (first | apply Kd.R_alloc | apply Kd.R_drewN | apply Kd.R_drew)); exact HO241.out))) (Kd.R_lt (by (with_reducible repeat (first | apply Kd.R_alloc | apply Kd.R_drewN | apply Kd.R_drew)); exact HO244.out))) (Kd.R_lt (by (with_reducible repeat (first | apply Kd.R_alloc | apply Kd.R_drewN | apply Kd.R_drew)); exact HO249.out))) (Kd.R_lt (by (with_reducible repeat (first | apply Kd.R_alloc | apply Kd.R_drewN | apply Kd.R_drew)); exact HO255.out))) (below_size (by repeat (first | (with_reducible first | exact HB.out | apply below_alloc | apply pw_below_drewN | apply below_drew1) | exact HB.out)))); have n7_ := Aside0.mk (below_step (by repeat (first | (with_reducible first | exact HB.out | apply below_alloc | apply pw_below_drewN | apply below_drew1) | exact HB.out)) hb); clear HO238; clear HO241; clear HO244; clear HO249; clear HO252; clear HO255; clear HB; have HO238 := n0_; have HO241 := n1_; have HO244 := n2_; have HO249 := n3_; have HO252 := n4_; have HO255 := n5_; have HO258 := n6_; have HB := n7_; clear n0_ n1_ n2_ n3_ n4_ n5_ n6_ n7_; (try clear hb); (try clear hb2); (try clear hk); (try clear hi); (try clear ho0); obtain ⟨Ao27, co27, eo27⟩ := Kd.S_slice HO252.out; subst eo27; obtain ⟨Ao28, co28, eo28⟩ := Kd.R_slice HO255.out; subst eo28; obtain ⟨Ao29, co29, eo29⟩ := Kd.R_slice HO258.out; subst eo29) | ((with_reducible refine gate_callee (f := 19) rfl ?_); refine goesL_ (some 55) rfl rfl Try.func19 (by kernel_rfl) rfl #[.slice Ao27 t250.length co27, .slice Ao28 t253.length co28, .slice Ao29 t256.length co29] rfl (by (try simp only [List.map_toArray, List.map_cons, List.map_nil]); first | done | rfl | (simp only [List.length_drop, List.length_take]; rfl)) ?_; (with_reducible refine (impl_CheapestKits.calls k _ _ t250 _ _ t253 _ _ t256 t259 t260 t261 _ ?side1 ?side2 ?side3 ?side4 ?side5 ?side6 A15.out).mono ?_); (case side1 => repeat (first | exact (Kd.S_reads' HO252.out).2.2 | (with_reducible refine Kd.C_alloc ?_ _) | (with_reducible refine Kd.C_drewN ?_ _) | (with_reducible refine Kd.C_drew ?_))); (case side2 => exact (Kd.S_reads' HO252.out).2.1); (case side3 => repeat (first | exact (Kd.R_reads' HO255.out).2.2 | (with_reducible refine Kd.C_alloc ?_ _) | (with_reducible refine Kd.C_drewN ?_ _) | (with_reducible refine Kd.C_drew ?_))); (case side4 => exact (Kd.R_reads' HO255.out).2.1); (case side5 => repeat (first | exact (Kd.R_reads' HO258.out).2.2 | (with_reducible refine Kd.C_alloc ?_ _) | (with_reducible refine Kd.C_drewN ?_ _) | (with_reducible refine Kd.C_drew ?_))); (case side6 => exact (Kd.R_reads' HO258.out).2.1); rintro e w30 ⟨v262, rfl, ho0, hb⟩; refine ⟨_, rfl, ?_⟩; have n0_ := Aside0.mk (Kd.S_elder' (by (with_reducible repeat (first | apply Kd.S_alloc | apply Kd.S_drewN | apply Kd.S_drew)); exact HO238.out) (Kd.R_base ho0) hb); have n1_ := Aside0.mk (Kd.R_elder' (by (with_reducible repeat (first | apply Kd.R_alloc | apply Kd.R_drewN | apply Kd.R_drew)); exact HO241.out) (Kd.R_base ho0) hb); have n2_ := Aside0.mk (Kd.R_elder' (by (with_reducible repeat (first | apply Kd.R_alloc | apply Kd.R_drewN | apply Kd.R_drew)); exact HO244.out) (Kd.R_base ho0) hb); have n3_ := Aside0.mk (Kd.R_elder' (by (with_reducible repeat (first | apply Kd.R_alloc | apply Kd.R_drewN | apply Kd.R_drew)); exact HO249.out) (Kd.R_base ho0) hb); have n4_ := Aside0.mk (Kd.S_elder' (by (with_reducible repeat (first | apply Kd.S_alloc | apply Kd.S_drewN | apply Kd.S_drew)); exact HO252.out) (Kd.R_base ho0) hb); have n5_ := Aside0.mk (Kd.R_elder' (by (with_reducible repeat (first | apply Kd.R_alloc | apply Kd.R_drewN | apply Kd.R_drew)); exact HO255.out) (Kd.R_base ho0) hb); have n6_ := Aside0.mk (Kd.R_elder' (by (with_reducible repeat (first | apply Kd.R_alloc | apply Kd.R_drewN | apply Kd.R_drew)); exact HO258.out) (Kd.R_base ho0) hb); have n7_ := Aside0.mk (Kd.R_lower (Kd.R_new' (Kd.R_new' (Kd.R_new' (Kd.R_new' (Kd.R_new' ho0 (Kd.R_lt (by (with_reducible repeat (first | apply Kd.R_alloc | apply Kd.R_drewN | apply Kd.R_drew)); exact HO241.out))) (Kd.R_lt (by (with_reducible repeat (first | apply Kd.R_alloc | apply Kd.R_drewN | apply Kd.R_drew)); exact HO244.out))) (Kd.R_lt (by (with_reducible repeat (first | apply Kd.R_alloc | apply Kd.R_drewN | apply Kd.R_drew)); exact HO249.out))) (Kd.R_lt (by (with_reducible repeat (first | apply Kd.R_alloc | apply Kd.R_drewN | apply Kd.R_drew)); exact HO255.out))) (Kd.R_lt (by (with_reducible repeat (first | apply Kd.R_alloc | apply Kd.R_drewN | apply Kd.R_drew)); exact HO258.out))) (below_size (by repeat (first | (with_reducible first | exact HB.out | apply below_alloc | apply pw_below_drewN | apply below_drew1) | exact HB.out)))); have n8_ := Aside0.mk (below_step (by repeat (first | (with_reducible first | exact HB.out | apply below_alloc | apply pw_below_drewN | apply below_drew1) | exact HB.out)) hb); clear HO238; clear HO241; clear HO244; clear HO249; clear HO252; clear HO255; clear HO258; clear HB; have HO238 := n0_; have HO241 := n1_; have HO244 := n2_; have HO249 := n3_; have HO252 := n4_; have HO255 := n5_; have HO258 := n6_; have HO263 := n7_; have HB := n8_; clear n0_ n1_ n2_ n3_ n4_ n5_ n6_ n7_ n8_; (try clear hb); (try clear hb2); (try clear hk); (try clear hi); (try clear ho0)))
        (try simp only [Act.put, List.setIfInBounds_toArray, List.set_cons_zero, List.set_cons_succ])
        go_cut [72] (fun v72 wc => ∃ (kq : Nat) (x72_15 : Bool), v72 = .bool x72_15 ∧ Aside0 (laws_FnExactCheapestKits.j0 kq l0 l1 l2 t245 t246 t247 t250 t253 t256 t259 t260 t261 x72_15 = some true) ∧ Aside0 (kq ≤ k) ∧ Aside0 (Kd.R (Kd.int .i64) 3 wc w.heap.size (fun k_ => some k_ ≠ ((.slice Ao28 t253.length co28) : Value).ownBlock ∧ some k_ ≠ ((.slice Ao29 t256.length co29) : Value).ownBlock ∧ some k_ ≠ (v262 : Value).ownBlock) v248 t245) ∧ Aside0 (Kd.S (Kd.slice 3 (Kd.int .i64)) 23 wc w.heap.size (fun k_ => some k_ ≠ (v248 : Value).ownBlock ∧ some k_ ≠ ((.slice Ao28 t253.length co28) : Value).ownBlock ∧ some k_ ≠ ((.slice Ao29 t256.length co29) : Value).ownBlock ∧ some k_ ≠ (v262 : Value).ownBlock) (.slice Ao27 t250.length co27) t250) ∧ Aside0 (Kd.R (Kd.int .i64) 3 wc w.heap.size (fun k_ => some k_ ≠ (v248 : Value).ownBlock ∧ some k_ ≠ ((.slice Ao29 t256.length co29) : Value).ownBlock ∧ some k_ ≠ (v262 : Value).ownBlock) (.slice Ao28 t253.length co28) t253) ∧ Aside0 (Kd.R (Kd.int .i64) 3 wc w.heap.size (fun k_ => some k_ ≠ (v248 : Value).ownBlock ∧ some k_ ≠ ((.slice Ao28 t253.length co28) : Value).ownBlock ∧ some k_ ≠ (v262 : Value).ownBlock) (.slice Ao29 t256.length co29) t256) ∧ Aside0 (Kd.R (Kd.int .i64) 3 wc w.heap.size (fun k_ => some k_ ≠ (v248 : Value).ownBlock ∧ some k_ ≠ ((.slice Ao28 t253.length co28) : Value).ownBlock ∧ some k_ ≠ ((.slice Ao29 t256.length co29) : Value).ownBlock) v262 t259) ∧ Aside0 (Below w.heap.size w wc))
        case first =>
          have H := HC16.out
          clear HC16
          replace H := Option.bind_eq_some_iff.mp H
          obtain ⟨t264, A310, H⟩ := H
          replace H : (if t264 = true then (if t260 = t246 then (laws_FnExactCheapestKits.j0 k l0 l1 l2 t245 t246 t247 t250 t253 t256 t259 t260 t261 (t261 != t247)) else (laws_FnExactCheapestKits.j0 k l0 l1 l2 t245 t246 t247 t250 t253 t256 t259 t260 t261 true)) else (laws_FnExactCheapestKits.j0 k l0 l1 l2 t245 t246 t247 t250 t253 t256 t259 t260 t261 true)) = some true := H
          have A31 := Aside0.mk A310
          clear A310
          by_cases c32 : t264 = true
          · subst c32
            have H1 : (if t260 = t246 then (laws_FnExactCheapestKits.j0 k l0 l1 l2 t245 t246 t247 t250 t253 t256 t259 t260 t261 (t261 != t247)) else (laws_FnExactCheapestKits.j0 k l0 l1 l2 t245 t246 t247 t250 t253 t256 t259 t260 t261 true)) = some true := by rw [if_pos rfl] at H; exact H
            clear H
            have H := H1
            clear H1
            by_cases c33 : t260 = t246
            · rw [if_pos c33] at H
              have c33b0 : (t260 == t246) = true := beq_iff_eq.mpr c33
              have c33b1 : (t260 != t246) = false := bne_eq_false_iff_eq.mpr c33
              clear c33
              (first | rw [c33b0] | (simp only [i64_w, i32_w]; rw [c33b0]) | skip)
              have H' := Aside0.mk H
              clear H
              obtain ⟨Ao34, co34, eo34⟩ := Kd.R_slice HO263.out
              subst eo34
              obtain ⟨Ao35, co35, eo35⟩ := Kd.R_slice HO249.out
              subst eo35
              go_wp2_with (first | ((with_reducible refine gate_callee (f := 13) rfl ?_); refine goesL_ (some 61) rfl rfl Try.func13 (by kernel_rfl) rfl #[.slice Ao34 t259.length co34, .slice Ao35 t245.length co35] rfl (by (try simp only [List.map_toArray, List.map_cons, List.map_nil]); first | done | rfl | (simp only [List.length_drop, List.length_take]; rfl)) ?_; (with_reducible refine (laws_eqIntS.calls k _ _ t259 _ _ t245 true _ ?side1 ?side2 ?side3 ?side4 A31.out).mono ?_); (case side1 => repeat (first | exact (Kd.R_reads' HO263.out).2.2 | (with_reducible refine Kd.C_alloc ?_ _) | (with_reducible refine Kd.C_drewN ?_ _) | (with_reducible refine Kd.C_drew ?_))); (case side2 => exact (Kd.R_reads' HO263.out).2.1); (case side3 => repeat (first | exact (Kd.R_reads' HO249.out).2.2 | (with_reducible refine Kd.C_alloc ?_ _) | (with_reducible refine Kd.C_drewN ?_ _) | (with_reducible refine Kd.C_drew ?_))); (case side4 => exact (Kd.R_reads' HO249.out).2.1); rintro e w' ⟨rfl, ⟨nd, rfl⟩⟩; refine ⟨_, rfl, ?_⟩))
              go_meet
              case rel => exact ⟨_, ((t261 != t247)), (by first | rfl | (simp; done) | (simp [*]; done)), H', ⟨by first | omega | exact Nat.le_refl _⟩, ⟨by (with_reducible repeat (first | apply Kd.R_alloc | apply Kd.R_drewN | apply Kd.R_drew)); exact Kd.R_mono HO249.out (fun _ hk => ⟨hk.1.1.2, ⟨hk.1.2, hk.2⟩⟩)⟩, ⟨by (with_reducible repeat (first | apply Kd.S_alloc | apply Kd.S_drewN | apply Kd.S_drew)); exact Kd.S_mono HO252.out (fun _ hk => ⟨hk.1.1.1.2, ⟨hk.1.1.2, ⟨hk.1.2, hk.2⟩⟩⟩)⟩, ⟨by (with_reducible repeat (first | apply Kd.R_alloc | apply Kd.R_drewN | apply Kd.R_drew)); exact Kd.R_mono HO255.out (fun _ hk => ⟨hk.1.1.2, ⟨hk.1.2, hk.2⟩⟩)⟩, ⟨by (with_reducible repeat (first | apply Kd.R_alloc | apply Kd.R_drewN | apply Kd.R_drew)); exact Kd.R_mono HO258.out (fun _ hk => ⟨hk.1.1.2, ⟨hk.1.2, hk.2⟩⟩)⟩, ⟨by (with_reducible repeat (first | apply Kd.R_alloc | apply Kd.R_drewN | apply Kd.R_drew)); exact Kd.R_mono HO263.out (fun _ hk => ⟨hk.1.1.2, ⟨hk.1.2, hk.2⟩⟩)⟩, ⟨by repeat (first | (with_reducible first | exact HB.out | apply below_alloc | apply pw_below_drewN | apply below_drew1) | exact HB.out)⟩⟩
            · rw [if_neg c33] at H
              have c33b0 : (t260 == t246) = false := beq_eq_false_iff_ne.mpr c33
              have c33b1 : (t260 != t246) = true := bne_iff_ne.mpr c33
              (first | rw [c33b0] | (simp only [i64_w, i32_w]; rw [c33b0]) | skip)
              have H' := Aside0.mk H
              clear H
              obtain ⟨Ao36, co36, eo36⟩ := Kd.R_slice HO263.out
              subst eo36
              obtain ⟨Ao37, co37, eo37⟩ := Kd.R_slice HO249.out
              subst eo37
              go_wp2_with (first | ((with_reducible refine gate_callee (f := 13) rfl ?_); refine goesL_ (some 61) rfl rfl Try.func13 (by kernel_rfl) rfl #[.slice Ao36 t259.length co36, .slice Ao37 t245.length co37] rfl (by (try simp only [List.map_toArray, List.map_cons, List.map_nil]); first | done | rfl | (simp only [List.length_drop, List.length_take]; rfl)) ?_; (with_reducible refine (laws_eqIntS.calls k _ _ t259 _ _ t245 true _ ?side1 ?side2 ?side3 ?side4 A31.out).mono ?_); (case side1 => repeat (first | exact (Kd.R_reads' HO263.out).2.2 | (with_reducible refine Kd.C_alloc ?_ _) | (with_reducible refine Kd.C_drewN ?_ _) | (with_reducible refine Kd.C_drew ?_))); (case side2 => exact (Kd.R_reads' HO263.out).2.1); (case side3 => repeat (first | exact (Kd.R_reads' HO249.out).2.2 | (with_reducible refine Kd.C_alloc ?_ _) | (with_reducible refine Kd.C_drewN ?_ _) | (with_reducible refine Kd.C_drew ?_))); (case side4 => exact (Kd.R_reads' HO249.out).2.1); rintro e w' ⟨rfl, ⟨nd, rfl⟩⟩; refine ⟨_, rfl, ?_⟩))
              go_meet
              case rel => exact ⟨_, (true), (by first | rfl | (simp; done) | (simp [*]; done)), H', ⟨by first | omega | exact Nat.le_refl _⟩, ⟨by (with_reducible repeat (first | apply Kd.R_alloc | apply Kd.R_drewN | apply Kd.R_drew)); exact Kd.R_mono HO249.out (fun _ hk => ⟨hk.1.1.2, ⟨hk.1.2, hk.2⟩⟩)⟩, ⟨by (with_reducible repeat (first | apply Kd.S_alloc | apply Kd.S_drewN | apply Kd.S_drew)); exact Kd.S_mono HO252.out (fun _ hk => ⟨hk.1.1.1.2, ⟨hk.1.1.2, ⟨hk.1.2, hk.2⟩⟩⟩)⟩, ⟨by (with_reducible repeat (first | apply Kd.R_alloc | apply Kd.R_drewN | apply Kd.R_drew)); exact Kd.R_mono HO255.out (fun _ hk => ⟨hk.1.1.2, ⟨hk.1.2, hk.2⟩⟩)⟩, ⟨by (with_reducible repeat (first | apply Kd.R_alloc | apply Kd.R_drewN | apply Kd.R_drew)); exact Kd.R_mono HO258.out (fun _ hk => ⟨hk.1.1.2, ⟨hk.1.2, hk.2⟩⟩)⟩, ⟨by (with_reducible repeat (first | apply Kd.R_alloc | apply Kd.R_drewN | apply Kd.R_drew)); exact Kd.R_mono HO263.out (fun _ hk => ⟨hk.1.1.2, ⟨hk.1.2, hk.2⟩⟩)⟩, ⟨by repeat (first | (with_reducible first | exact HB.out | apply below_alloc | apply pw_below_drewN | apply below_drew1) | exact HB.out)⟩⟩
          · replace c32 := Bool.eq_false_iff.mpr c32
            subst c32
            have H1 : (laws_FnExactCheapestKits.j0 k l0 l1 l2 t245 t246 t247 t250 t253 t256 t259 t260 t261 true) = some true := by rw [if_neg (show ¬ (false = true) by decide)] at H; exact H
            clear H
            have H := H1
            clear H1
            have H' := Aside0.mk H
            clear H
            obtain ⟨Ao38, co38, eo38⟩ := Kd.R_slice HO263.out
            subst eo38
            obtain ⟨Ao39, co39, eo39⟩ := Kd.R_slice HO249.out
            subst eo39
            go_wp2_with (first | ((with_reducible refine gate_callee (f := 13) rfl ?_); refine goesL_ (some 61) rfl rfl Try.func13 (by kernel_rfl) rfl #[.slice Ao38 t259.length co38, .slice Ao39 t245.length co39] rfl (by (try simp only [List.map_toArray, List.map_cons, List.map_nil]); first | done | rfl | (simp only [List.length_drop, List.length_take]; rfl)) ?_; (with_reducible refine (laws_eqIntS.calls k _ _ t259 _ _ t245 false _ ?side1 ?side2 ?side3 ?side4 A31.out).mono ?_); (case side1 => repeat (first | exact (Kd.R_reads' HO263.out).2.2 | (with_reducible refine Kd.C_alloc ?_ _) | (with_reducible refine Kd.C_drewN ?_ _) | (with_reducible refine Kd.C_drew ?_))); (case side2 => exact (Kd.R_reads' HO263.out).2.1); (case side3 => repeat (first | exact (Kd.R_reads' HO249.out).2.2 | (with_reducible refine Kd.C_alloc ?_ _) | (with_reducible refine Kd.C_drewN ?_ _) | (with_reducible refine Kd.C_drew ?_))); (case side4 => exact (Kd.R_reads' HO249.out).2.1); rintro e w' ⟨rfl, ⟨nd, rfl⟩⟩; refine ⟨_, rfl, ?_⟩))
            go_meet
            case rel => exact ⟨_, (true), (by first | rfl | (simp; done) | (simp [*]; done)), H', ⟨by first | omega | exact Nat.le_refl _⟩, ⟨by (with_reducible repeat (first | apply Kd.R_alloc | apply Kd.R_drewN | apply Kd.R_drew)); exact Kd.R_mono HO249.out (fun _ hk => ⟨hk.1.1.2, ⟨hk.1.2, hk.2⟩⟩)⟩, ⟨by (with_reducible repeat (first | apply Kd.S_alloc | apply Kd.S_drewN | apply Kd.S_drew)); exact Kd.S_mono HO252.out (fun _ hk => ⟨hk.1.1.1.2, ⟨hk.1.1.2, ⟨hk.1.2, hk.2⟩⟩⟩)⟩, ⟨by (with_reducible repeat (first | apply Kd.R_alloc | apply Kd.R_drewN | apply Kd.R_drew)); exact Kd.R_mono HO255.out (fun _ hk => ⟨hk.1.1.2, ⟨hk.1.2, hk.2⟩⟩)⟩, ⟨by (with_reducible repeat (first | apply Kd.R_alloc | apply Kd.R_drewN | apply Kd.R_drew)); exact Kd.R_mono HO258.out (fun _ hk => ⟨hk.1.1.2, ⟨hk.1.2, hk.2⟩⟩)⟩, ⟨by (with_reducible repeat (first | apply Kd.R_alloc | apply Kd.R_drewN | apply Kd.R_drew)); exact Kd.R_mono HO263.out (fun _ hk => ⟨hk.1.1.2, ⟨hk.1.2, hk.2⟩⟩)⟩, ⟨by repeat (first | (with_reducible first | exact HB.out | apply below_alloc | apply pw_below_drewN | apply below_drew1) | exact HB.out)⟩⟩
        case rest =>
          clear HC16
          try clear c1
          try clear c2
          try clear p2
          try clear c3
          try clear c4
          try clear c4b0
          try clear c4b1
          try clear c5
          try clear c5b0
          try clear c5b1
          try clear c7
          try clear c7b0
          try clear c8
          try clear c10
          try clear c11
          try clear c13
          try clear c18
          try clear c19
          try clear c32
          try clear c33
          try clear c33b0
          try clear c33b1
          obtain ⟨kq, x72_15, rfl, HA, HJ15, HO_8, HO_11, HO_12, HO_13, HO_14, HB⟩ := hcut
          cases kq with
          | zero => exact absurd HA.out (by simp [laws_FnExactCheapestKits.j0])
          | succ kj15 =>
            have H := HA.out
            clear HA
            simp only [laws_FnExactCheapestKits.j0] at H
            by_cases c40 : x72_15 = true
            · subst c40
              have H1 : (some false) = some true := by rw [if_pos rfl] at H; exact H
              clear H
              have H := H1
              clear H1
              exact absurd H (by simp)
            · replace c40 := Bool.eq_false_iff.mpr c40
              subst c40
              have H1 : ((laws_toIntSS.f kj15 l0).bind fun t265 => ((laws_eqIntSS.f kj15 t250 t265).bind fun t268 => (if t268 = true then ((laws_toIntS.f kj15 l1).bind fun t269 => ((laws_eqIntS.f kj15 t253 t269).bind fun t272 => (if t272 = true then ((laws_toIntS.f kj15 l2).bind fun t273 => ((laws_eqIntS.f kj15 t256 t273).bind fun t276 => (if t276 = true then ((laws_markIntSS.f kj15 t250 1).bind fun t277 => ((laws_markIntS.f kj15 t253 t277).bind fun bt278 => ((laws_markIntS.f kj15 t256 bt278.1).bind fun bt280 => (if bt280.1 < 0 then (laws_FnExactCheapestKits.j1 kj15 l0 l1 l2 t245 t246 t247 t259 true) else ((laws_eqIntS.f kj15 t259 t245).bind fun t282 => (if t282 = true then (if t260 = t246 then (laws_FnExactCheapestKits.j1 kj15 l0 l1 l2 t245 t246 t247 t259 (t261 != t247)) else (laws_FnExactCheapestKits.j1 kj15 l0 l1 l2 t245 t246 t247 t259 true)) else (laws_FnExactCheapestKits.j1 kj15 l0 l1 l2 t245 t246 t247 t259 true))))))) else (some false)))) else (some false)))) else (some false)))) = some true := by rw [if_neg (show ¬ (false = true) by decide)] at H; exact H
              clear H
              have H := H1
              clear H1
              replace H := Option.bind_eq_some_iff.mp H
              obtain ⟨t265, A410, H⟩ := H
              replace H : ((laws_eqIntSS.f kj15 t250 t265).bind fun t268 => (if t268 = true then ((laws_toIntS.f kj15 l1).bind fun t269 => ((laws_eqIntS.f kj15 t253 t269).bind fun t272 => (if t272 = true then ((laws_toIntS.f kj15 l2).bind fun t273 => ((laws_eqIntS.f kj15 t256 t273).bind fun t276 => (if t276 = true then ((laws_markIntSS.f kj15 t250 1).bind fun t277 => ((laws_markIntS.f kj15 t253 t277).bind fun bt278 => ((laws_markIntS.f kj15 t256 bt278.1).bind fun bt280 => (if bt280.1 < 0 then (laws_FnExactCheapestKits.j1 kj15 l0 l1 l2 t245 t246 t247 t259 true) else ((laws_eqIntS.f kj15 t259 t245).bind fun t282 => (if t282 = true then (if t260 = t246 then (laws_FnExactCheapestKits.j1 kj15 l0 l1 l2 t245 t246 t247 t259 (t261 != t247)) else (laws_FnExactCheapestKits.j1 kj15 l0 l1 l2 t245 t246 t247 t259 true)) else (laws_FnExactCheapestKits.j1 kj15 l0 l1 l2 t245 t246 t247 t259 true))))))) else (some false)))) else (some false)))) else (some false))) = some true := H
              have A41 := Aside0.mk A410
              clear A410
              replace H := Option.bind_eq_some_iff.mp H
              obtain ⟨t268, A420, H⟩ := H
              replace H : (if t268 = true then ((laws_toIntS.f kj15 l1).bind fun t269 => ((laws_eqIntS.f kj15 t253 t269).bind fun t272 => (if t272 = true then ((laws_toIntS.f kj15 l2).bind fun t273 => ((laws_eqIntS.f kj15 t256 t273).bind fun t276 => (if t276 = true then ((laws_markIntSS.f kj15 t250 1).bind fun t277 => ((laws_markIntS.f kj15 t253 t277).bind fun bt278 => ((laws_markIntS.f kj15 t256 bt278.1).bind fun bt280 => (if bt280.1 < 0 then (laws_FnExactCheapestKits.j1 kj15 l0 l1 l2 t245 t246 t247 t259 true) else ((laws_eqIntS.f kj15 t259 t245).bind fun t282 => (if t282 = true then (if t260 = t246 then (laws_FnExactCheapestKits.j1 kj15 l0 l1 l2 t245 t246 t247 t259 (t261 != t247)) else (laws_FnExactCheapestKits.j1 kj15 l0 l1 l2 t245 t246 t247 t259 true)) else (laws_FnExactCheapestKits.j1 kj15 l0 l1 l2 t245 t246 t247 t259 true))))))) else (some false)))) else (some false)))) else (some false)) = some true := H
              have A42 := Aside0.mk A420
              clear A420
              by_cases c43 : t268 = true
              · subst c43
                have H1 : ((laws_toIntS.f kj15 l1).bind fun t269 => ((laws_eqIntS.f kj15 t253 t269).bind fun t272 => (if t272 = true then ((laws_toIntS.f kj15 l2).bind fun t273 => ((laws_eqIntS.f kj15 t256 t273).bind fun t276 => (if t276 = true then ((laws_markIntSS.f kj15 t250 1).bind fun t277 => ((laws_markIntS.f kj15 t253 t277).bind fun bt278 => ((laws_markIntS.f kj15 t256 bt278.1).bind fun bt280 => (if bt280.1 < 0 then (laws_FnExactCheapestKits.j1 kj15 l0 l1 l2 t245 t246 t247 t259 true) else ((laws_eqIntS.f kj15 t259 t245).bind fun t282 => (if t282 = true then (if t260 = t246 then (laws_FnExactCheapestKits.j1 kj15 l0 l1 l2 t245 t246 t247 t259 (t261 != t247)) else (laws_FnExactCheapestKits.j1 kj15 l0 l1 l2 t245 t246 t247 t259 true)) else (laws_FnExactCheapestKits.j1 kj15 l0 l1 l2 t245 t246 t247 t259 true))))))) else (some false)))) else (some false)))) = some true := by rw [if_pos rfl] at H; exact H
                clear H
                have H := H1
                clear H1
                replace H := Option.bind_eq_some_iff.mp H
                obtain ⟨t269, A440, H⟩ := H
                replace H : ((laws_eqIntS.f kj15 t253 t269).bind fun t272 => (if t272 = true then ((laws_toIntS.f kj15 l2).bind fun t273 => ((laws_eqIntS.f kj15 t256 t273).bind fun t276 => (if t276 = true then ((laws_markIntSS.f kj15 t250 1).bind fun t277 => ((laws_markIntS.f kj15 t253 t277).bind fun bt278 => ((laws_markIntS.f kj15 t256 bt278.1).bind fun bt280 => (if bt280.1 < 0 then (laws_FnExactCheapestKits.j1 kj15 l0 l1 l2 t245 t246 t247 t259 true) else ((laws_eqIntS.f kj15 t259 t245).bind fun t282 => (if t282 = true then (if t260 = t246 then (laws_FnExactCheapestKits.j1 kj15 l0 l1 l2 t245 t246 t247 t259 (t261 != t247)) else (laws_FnExactCheapestKits.j1 kj15 l0 l1 l2 t245 t246 t247 t259 true)) else (laws_FnExactCheapestKits.j1 kj15 l0 l1 l2 t245 t246 t247 t259 true))))))) else (some false)))) else (some false))) = some true := H
                have A44 := Aside0.mk A440
                clear A440
                replace H := Option.bind_eq_some_iff.mp H
                obtain ⟨t272, A450, H⟩ := H
                replace H : (if t272 = true then ((laws_toIntS.f kj15 l2).bind fun t273 => ((laws_eqIntS.f kj15 t256 t273).bind fun t276 => (if t276 = true then ((laws_markIntSS.f kj15 t250 1).bind fun t277 => ((laws_markIntS.f kj15 t253 t277).bind fun bt278 => ((laws_markIntS.f kj15 t256 bt278.1).bind fun bt280 => (if bt280.1 < 0 then (laws_FnExactCheapestKits.j1 kj15 l0 l1 l2 t245 t246 t247 t259 true) else ((laws_eqIntS.f kj15 t259 t245).bind fun t282 => (if t282 = true then (if t260 = t246 then (laws_FnExactCheapestKits.j1 kj15 l0 l1 l2 t245 t246 t247 t259 (t261 != t247)) else (laws_FnExactCheapestKits.j1 kj15 l0 l1 l2 t245 t246 t247 t259 true)) else (laws_FnExactCheapestKits.j1 kj15 l0 l1 l2 t245 t246 t247 t259 true))))))) else (some false)))) else (some false)) = some true := H
                have A45 := Aside0.mk A450
                clear A450
                by_cases c46 : t272 = true
                · subst c46
                  have H1 : ((laws_toIntS.f kj15 l2).bind fun t273 => ((laws_eqIntS.f kj15 t256 t273).bind fun t276 => (if t276 = true then ((laws_markIntSS.f kj15 t250 1).bind fun t277 => ((laws_markIntS.f kj15 t253 t277).bind fun bt278 => ((laws_markIntS.f kj15 t256 bt278.1).bind fun bt280 => (if bt280.1 < 0 then (laws_FnExactCheapestKits.j1 kj15 l0 l1 l2 t245 t246 t247 t259 true) else ((laws_eqIntS.f kj15 t259 t245).bind fun t282 => (if t282 = true then (if t260 = t246 then (laws_FnExactCheapestKits.j1 kj15 l0 l1 l2 t245 t246 t247 t259 (t261 != t247)) else (laws_FnExactCheapestKits.j1 kj15 l0 l1 l2 t245 t246 t247 t259 true)) else (laws_FnExactCheapestKits.j1 kj15 l0 l1 l2 t245 t246 t247 t259 true))))))) else (some false)))) = some true := by rw [if_pos rfl] at H; exact H
                  clear H
                  have H := H1
                  clear H1
                  replace H := Option.bind_eq_some_iff.mp H
                  obtain ⟨t273, A470, H⟩ := H
                  replace H : ((laws_eqIntS.f kj15 t256 t273).bind fun t276 => (if t276 = true then ((laws_markIntSS.f kj15 t250 1).bind fun t277 => ((laws_markIntS.f kj15 t253 t277).bind fun bt278 => ((laws_markIntS.f kj15 t256 bt278.1).bind fun bt280 => (if bt280.1 < 0 then (laws_FnExactCheapestKits.j1 kj15 l0 l1 l2 t245 t246 t247 t259 true) else ((laws_eqIntS.f kj15 t259 t245).bind fun t282 => (if t282 = true then (if t260 = t246 then (laws_FnExactCheapestKits.j1 kj15 l0 l1 l2 t245 t246 t247 t259 (t261 != t247)) else (laws_FnExactCheapestKits.j1 kj15 l0 l1 l2 t245 t246 t247 t259 true)) else (laws_FnExactCheapestKits.j1 kj15 l0 l1 l2 t245 t246 t247 t259 true))))))) else (some false))) = some true := H
                  have A47 := Aside0.mk A470
                  clear A470
                  replace H := Option.bind_eq_some_iff.mp H
                  obtain ⟨t276, A480, H⟩ := H
                  replace H : (if t276 = true then ((laws_markIntSS.f kj15 t250 1).bind fun t277 => ((laws_markIntS.f kj15 t253 t277).bind fun bt278 => ((laws_markIntS.f kj15 t256 bt278.1).bind fun bt280 => (if bt280.1 < 0 then (laws_FnExactCheapestKits.j1 kj15 l0 l1 l2 t245 t246 t247 t259 true) else ((laws_eqIntS.f kj15 t259 t245).bind fun t282 => (if t282 = true then (if t260 = t246 then (laws_FnExactCheapestKits.j1 kj15 l0 l1 l2 t245 t246 t247 t259 (t261 != t247)) else (laws_FnExactCheapestKits.j1 kj15 l0 l1 l2 t245 t246 t247 t259 true)) else (laws_FnExactCheapestKits.j1 kj15 l0 l1 l2 t245 t246 t247 t259 true))))))) else (some false)) = some true := H
                  have A48 := Aside0.mk A480
                  clear A480
                  by_cases c49 : t276 = true
                  · subst c49
                    have H1 : ((laws_markIntSS.f kj15 t250 1).bind fun t277 => ((laws_markIntS.f kj15 t253 t277).bind fun bt278 => ((laws_markIntS.f kj15 t256 bt278.1).bind fun bt280 => (if bt280.1 < 0 then (laws_FnExactCheapestKits.j1 kj15 l0 l1 l2 t245 t246 t247 t259 true) else ((laws_eqIntS.f kj15 t259 t245).bind fun t282 => (if t282 = true then (if t260 = t246 then (laws_FnExactCheapestKits.j1 kj15 l0 l1 l2 t245 t246 t247 t259 (t261 != t247)) else (laws_FnExactCheapestKits.j1 kj15 l0 l1 l2 t245 t246 t247 t259 true)) else (laws_FnExactCheapestKits.j1 kj15 l0 l1 l2 t245 t246 t247 t259 true))))))) = some true := by rw [if_pos rfl] at H; exact H
                    clear H
                    have H := H1
                    clear H1
                    replace H := Option.bind_eq_some_iff.mp H
                    obtain ⟨t277, A500, H⟩ := H
                    replace H : ((laws_markIntS.f kj15 t253 t277).bind fun bt278 => ((laws_markIntS.f kj15 t256 bt278.1).bind fun bt280 => (if bt280.1 < 0 then (laws_FnExactCheapestKits.j1 kj15 l0 l1 l2 t245 t246 t247 t259 true) else ((laws_eqIntS.f kj15 t259 t245).bind fun t282 => (if t282 = true then (if t260 = t246 then (laws_FnExactCheapestKits.j1 kj15 l0 l1 l2 t245 t246 t247 t259 (t261 != t247)) else (laws_FnExactCheapestKits.j1 kj15 l0 l1 l2 t245 t246 t247 t259 true)) else (laws_FnExactCheapestKits.j1 kj15 l0 l1 l2 t245 t246 t247 t259 true)))))) = some true := H
                    have A50 := Aside0.mk A500
                    clear A500
                    replace H := Option.bind_eq_some_iff.mp H
                    obtain ⟨⟨t278, t279⟩, A510, H⟩ := H
                    replace H : ((laws_markIntS.f kj15 t256 t278).bind fun bt280 => (if bt280.1 < 0 then (laws_FnExactCheapestKits.j1 kj15 l0 l1 l2 t245 t246 t247 t259 true) else ((laws_eqIntS.f kj15 t259 t245).bind fun t282 => (if t282 = true then (if t260 = t246 then (laws_FnExactCheapestKits.j1 kj15 l0 l1 l2 t245 t246 t247 t259 (t261 != t247)) else (laws_FnExactCheapestKits.j1 kj15 l0 l1 l2 t245 t246 t247 t259 true)) else (laws_FnExactCheapestKits.j1 kj15 l0 l1 l2 t245 t246 t247 t259 true))))) = some true := H
                    have A51 := Aside0.mk A510
                    clear A510
                    replace H := Option.bind_eq_some_iff.mp H
                    obtain ⟨⟨t280, t281⟩, A520, H⟩ := H
                    replace H : (if t280 < 0 then (laws_FnExactCheapestKits.j1 kj15 l0 l1 l2 t245 t246 t247 t259 true) else ((laws_eqIntS.f kj15 t259 t245).bind fun t282 => (if t282 = true then (if t260 = t246 then (laws_FnExactCheapestKits.j1 kj15 l0 l1 l2 t245 t246 t247 t259 (t261 != t247)) else (laws_FnExactCheapestKits.j1 kj15 l0 l1 l2 t245 t246 t247 t259 true)) else (laws_FnExactCheapestKits.j1 kj15 l0 l1 l2 t245 t246 t247 t259 true)))) = some true := H
                    have A52 := Aside0.mk A520
                    clear A520
                    have HC53 := Aside0.mk H
                    clear H
                    go_upto_region 26 with (first | ((with_reducible refine gate_callee (f := 10) rfl ?_); refine goesL_ (some 75) rfl rfl Try.func10 (by kernel_rfl) rfl #[.slice A0 l0.length c0] rfl (by (try simp only [List.map_toArray, List.map_cons, List.map_nil]); first | done | rfl | (simp only [List.length_drop, List.length_take]; rfl)) ?_; (with_reducible refine (laws_toIntSS.calls kj15 _ _ l0 t265 _ ?side1 ?side2 A41.out).mono ?_); (case side1 => repeat (first | exact (Kd.C_below HR0.out HB.out) | (with_reducible refine Kd.C_alloc ?_ _) | (with_reducible refine Kd.C_drewN ?_ _) | (with_reducible refine Kd.C_drew ?_))); (case side2 => exact HC0.out); rintro e w54 ⟨v266, rfl, ho0, hb⟩; refine ⟨_, rfl, ?_⟩; have n0_ := Aside0.mk (Kd.R_below (by (with_reducible repeat (first | apply Kd.R_alloc | apply Kd.R_drewN | apply Kd.R_drew)); exact HO_8.out) hb); have n1_ := Aside0.mk (Kd.S_elder' (by (with_reducible repeat (first | apply Kd.S_alloc | apply Kd.S_drewN | apply Kd.S_drew)); exact HO_11.out) (Kd.S_base ho0) hb); have n2_ := Aside0.mk (Kd.R_below (by (with_reducible repeat (first | apply Kd.R_alloc | apply Kd.R_drewN | apply Kd.R_drew)); exact HO_12.out) hb); have n3_ := Aside0.mk (Kd.R_below (by (with_reducible repeat (first | apply Kd.R_alloc | apply Kd.R_drewN | apply Kd.R_drew)); exact HO_13.out) hb); have n4_ := Aside0.mk (Kd.R_below (by (with_reducible repeat (first | apply Kd.R_alloc | apply Kd.R_drewN | apply Kd.R_drew)); exact HO_14.out) hb); have n5_ := Aside0.mk (Kd.S_lower (Kd.S_new' (Kd.S_new' (Kd.S_new' (Kd.S_new' (Kd.S_new' ho0 (Kd.R_lt (by (with_reducible repeat (first | apply Kd.R_alloc | apply Kd.R_drewN | apply Kd.R_drew)); exact HO_8.out))) (Kd.S_lt (by (with_reducible repeat (first | apply Kd.S_alloc | apply Kd.S_drewN | apply Kd.S_drew)); exact HO_11.out))) (Kd.R_lt (by (with_reducible repeat (first | apply Kd.R_alloc | apply Kd.R_drewN | apply Kd.R_drew)); exact HO_12.out))) (Kd.R_lt (by (with_reducible repeat (first | apply Kd.R_alloc | apply Kd.R_drewN | apply Kd.R_drew)); exact HO_13.out))) (Kd.R_lt (by (with_reducible repeat (first | apply Kd.R_alloc | apply Kd.R_drewN | apply Kd.R_drew)); exact HO_14.out))) (below_size (by repeat (first | (with_reducible first | exact HB.out | apply below_alloc | apply pw_below_drewN | apply below_drew1) | exact HB.out)))); have n6_ := Aside0.mk (below_step (by repeat (first | (with_reducible first | exact HB.out | apply below_alloc | apply pw_below_drewN | apply below_drew1) | exact HB.out)) hb); clear HO_8; clear HO_11; clear HO_12; clear HO_13; clear HO_14; clear HB; have HO_8 := n0_; have HO_11 := n1_; have HO_12 := n2_; have HO_13 := n3_; have HO_14 := n4_; have HO267 := n5_; have HB := n6_; clear n0_ n1_ n2_ n3_ n4_ n5_ n6_; (try clear hb); (try clear hb2); (try clear hk); (try clear hi); (try clear ho0); obtain ⟨Ao55, co55, eo55⟩ := Kd.S_slice HO267.out; subst eo55) | ((with_reducible refine gate_callee (f := 14) rfl ?_); refine goesL_ (some 76) rfl rfl Try.func14 (by kernel_rfl) rfl #[.slice Ao27 t250.length co27, .slice Ao55 t265.length co55] rfl (by (try simp only [List.map_toArray, List.map_cons, List.map_nil]); first | done | rfl | (simp only [List.length_drop, List.length_take]; rfl)) ?_; (with_reducible refine (laws_eqIntSS.calls kj15 _ _ t250 _ _ t265 true _ ?side1 ?side2 ?side3 ?side4 A42.out).mono ?_); (case side1 => repeat (first | exact (Kd.S_reads' HO_11.out).2.2 | (with_reducible refine Kd.C_alloc ?_ _) | (with_reducible refine Kd.C_drewN ?_ _) | (with_reducible refine Kd.C_drew ?_))); (case side2 => exact (Kd.S_reads' HO_11.out).2.1); (case side3 => repeat (first | exact (Kd.S_reads' HO267.out).2.2 | (with_reducible refine Kd.C_alloc ?_ _) | (with_reducible refine Kd.C_drewN ?_ _) | (with_reducible refine Kd.C_drew ?_))); (case side4 => exact (Kd.S_reads' HO267.out).2.1); rintro e w' ⟨rfl, ⟨nd, rfl⟩⟩; refine ⟨_, rfl, ?_⟩) | ((with_reducible refine gate_callee (f := 11) rfl ?_); refine goesL_ (some 80) rfl rfl Try.func11 (by kernel_rfl) rfl #[.slice A1 l1.length c1] rfl (by (try simp only [List.map_toArray, List.map_cons, List.map_nil]); first | done | rfl | (simp only [List.length_drop, List.length_take]; rfl)) ?_; (with_reducible refine (laws_toIntS.calls kj15 _ _ l1 t269 _ ?side1 ?side2 A44.out).mono ?_); (case side1 => repeat (first | exact (Kd.C_below HR1.out (by repeat (first | (with_reducible first | exact HB.out | apply below_alloc | apply pw_below_drewN | apply below_drew1) | exact HB.out))) | (with_reducible refine Kd.C_alloc ?_ _) | (with_reducible refine Kd.C_drewN ?_ _) | (with_reducible refine Kd.C_drew ?_))); (case side2 => exact HC1.out); rintro e w56 ⟨v270, rfl, ho0, hb⟩; refine ⟨_, rfl, ?_⟩; have n0_ := Aside0.mk (Kd.R_elder' (by (with_reducible repeat (first | apply Kd.R_alloc | apply Kd.R_drewN | apply Kd.R_drew)); exact HO_8.out) (Kd.R_base ho0) hb); have n1_ := Aside0.mk (Kd.S_elder' (by (with_reducible repeat (first | apply Kd.S_alloc | apply Kd.S_drewN | apply Kd.S_drew)); exact HO_11.out) (Kd.R_base ho0) hb); have n2_ := Aside0.mk (Kd.R_elder' (by (with_reducible repeat (first | apply Kd.R_alloc | apply Kd.R_drewN | apply Kd.R_drew)); exact HO_12.out) (Kd.R_base ho0) hb); have n3_ := Aside0.mk (Kd.R_elder' (by (with_reducible repeat (first | apply Kd.R_alloc | apply Kd.R_drewN | apply Kd.R_drew)); exact HO_13.out) (Kd.R_base ho0) hb); have n4_ := Aside0.mk (Kd.R_elder' (by (with_reducible repeat (first | apply Kd.R_alloc | apply Kd.R_drewN | apply Kd.R_drew)); exact HO_14.out) (Kd.R_base ho0) hb); have n5_ := Aside0.mk (Kd.S_elder' (by (with_reducible repeat (first | apply Kd.S_alloc | apply Kd.S_drewN | apply Kd.S_drew)); exact HO267.out) (Kd.R_base ho0) hb); have n6_ := Aside0.mk (Kd.R_lower (Kd.R_new' (Kd.R_new' (Kd.R_new' (Kd.R_new' ho0 (Kd.R_lt (by (with_reducible repeat (first | apply Kd.R_alloc | apply Kd.R_drewN | apply Kd.R_drew)); exact HO_8.out))) (Kd.R_lt (by (with_reducible repeat (first | apply Kd.R_alloc | apply Kd.R_drewN | apply Kd.R_drew)); exact HO_12.out))) (Kd.R_lt (by (with_reducible repeat (first | apply Kd.R_alloc | apply Kd.R_drewN | apply Kd.R_drew)); exact HO_13.out))) (Kd.R_lt (by (with_reducible repeat (first | apply Kd.R_alloc | apply Kd.R_drewN | apply Kd.R_drew)); exact HO_14.out))) (below_size (by repeat (first | (with_reducible first | exact HB.out | apply below_alloc | apply pw_below_drewN | apply below_drew1) | exact HB.out)))); have n7_ := Aside0.mk (below_step (by repeat (first | (with_reducible first | exact HB.out | apply below_alloc | apply pw_below_drewN | apply below_drew1) | exact HB.out)) hb); clear HO_8; clear HO_11; clear HO_12; clear HO_13; clear HO_14; clear HO267; clear HB; have HO_8 := n0_; have HO_11 := n1_; have HO_12 := n2_; have HO_13 := n3_; have HO_14 := n4_; have HO267 := n5_; have HO271 := n6_; have HB := n7_; clear n0_ n1_ n2_ n3_ n4_ n5_ n6_ n7_; (try clear hb); (try clear hb2); (try clear hk); (try clear hi); (try clear ho0); obtain ⟨Ao57, co57, eo57⟩ := Kd.R_slice HO271.out; subst eo57) | ((with_reducible refine gate_callee (f := 13) rfl ?_); refine goesL_ (some 81) rfl rfl Try.func13 (by kernel_rfl) rfl #[.slice Ao28 t253.length co28, .slice Ao57 t269.length co57] rfl (by (try simp only [List.map_toArray, List.map_cons, List.map_nil]); first | done | rfl | (simp only [List.length_drop, List.length_take]; rfl)) ?_; (with_reducible refine (laws_eqIntS.calls kj15 _ _ t253 _ _ t269 true _ ?side1 ?side2 ?side3 ?side4 A45.out).mono ?_); (case side1 => repeat (first | exact (Kd.R_reads' HO_12.out).2.2 | (with_reducible refine Kd.C_alloc ?_ _) | (with_reducible refine Kd.C_drewN ?_ _) | (with_reducible refine Kd.C_drew ?_))); (case side2 => exact (Kd.R_reads' HO_12.out).2.1); (case side3 => repeat (first | exact (Kd.R_reads' HO271.out).2.2 | (with_reducible refine Kd.C_alloc ?_ _) | (with_reducible refine Kd.C_drewN ?_ _) | (with_reducible refine Kd.C_drew ?_))); (case side4 => exact (Kd.R_reads' HO271.out).2.1); rintro e w' ⟨rfl, ⟨nd, rfl⟩⟩; refine ⟨_, rfl, ?_⟩) | ((with_reducible refine gate_callee (f := 11) rfl ?_); refine goesL_ (some 85) rfl rfl Try.func11 (by kernel_rfl) rfl #[.slice A2 l2.length c2] rfl (by (try simp only [List.map_toArray, List.map_cons, List.map_nil]); first | done | rfl | (simp only [List.length_drop, List.length_take]; rfl)) ?_; (with_reducible refine (laws_toIntS.calls kj15 _ _ l2 t273 _ ?side1 ?side2 A47.out).mono ?_); (case side1 => repeat (first | exact (Kd.C_below HR2.out (by repeat (first | (with_reducible first | exact HB.out | apply below_alloc | apply pw_below_drewN | apply below_drew1) | exact HB.out))) | (with_reducible refine Kd.C_alloc ?_ _) | (with_reducible refine Kd.C_drewN ?_ _) | (with_reducible refine Kd.C_drew ?_))); (case side2 => exact HC2.out); rintro e w58 ⟨v274, rfl, ho0, hb⟩; refine ⟨_, rfl, ?_⟩; have n0_ := Aside0.mk (Kd.R_elder' (by (with_reducible repeat (first | apply Kd.R_alloc | apply Kd.R_drewN | apply Kd.R_drew)); exact HO_8.out) (Kd.R_base ho0) hb); have n1_ := Aside0.mk (Kd.S_elder' (by (with_reducible repeat (first | apply Kd.S_alloc | apply Kd.S_drewN | apply Kd.S_drew)); exact HO_11.out) (Kd.R_base ho0) hb); have n2_ := Aside0.mk (Kd.R_elder' (by (with_reducible repeat (first | apply Kd.R_alloc | apply Kd.R_drewN | apply Kd.R_drew)); exact HO_12.out) (Kd.R_base ho0) hb); have n3_ := Aside0.mk (Kd.R_elder' (by (with_reducible repeat (first | apply Kd.R_alloc | apply Kd.R_drewN | apply Kd.R_drew)); exact HO_13.out) (Kd.R_base ho0) hb); have n4_ := Aside0.mk (Kd.R_elder' (by (with_reducible repeat (first | apply Kd.R_alloc | apply Kd.R_drewN | apply Kd.R_drew)); exact HO_14.out) (Kd.R_base ho0) hb); have n5_ := Aside0.mk (Kd.S_elder' (by (with_reducible repeat (first | apply Kd.S_alloc | apply Kd.S_drewN | apply Kd.S_drew)); exact HO267.out) (Kd.R_base ho0) hb); have n6_ := Aside0.mk (Kd.R_elder' (by (with_reducible repeat (first | apply Kd.R_alloc | apply Kd.R_drewN | apply Kd.R_drew)); exact HO271.out) (Kd.R_base ho0) hb); have n7_ := Aside0.mk (Kd.R_lower (Kd.R_new' (Kd.R_new' (Kd.R_new' (Kd.R_new' (Kd.R_new' ho0 (Kd.R_lt (by (with_reducible repeat (first | apply Kd.R_alloc | apply Kd.R_drewN | apply Kd.R_drew)); exact HO_8.out))) (Kd.R_lt (by (with_reducible repeat (first | apply Kd.R_alloc | apply Kd.R_drewN | apply Kd.R_drew)); exact HO_12.out))) (Kd.R_lt (by (with_reducible repeat (first | apply Kd.R_alloc | apply Kd.R_drewN | apply Kd.R_drew)); exact HO_13.out))) (Kd.R_lt (by (with_reducible repeat (first | apply Kd.R_alloc | apply Kd.R_drewN | apply Kd.R_drew)); exact HO_14.out))) (Kd.R_lt (by (with_reducible repeat (first | apply Kd.R_alloc | apply Kd.R_drewN | apply Kd.R_drew)); exact HO271.out))) (below_size (by repeat (first | (with_reducible first | exact HB.out | apply below_alloc | apply pw_below_drewN | apply below_drew1) | exact HB.out)))); have n8_ := Aside0.mk (below_step (by repeat (first | (with_reducible first | exact HB.out | apply below_alloc | apply pw_below_drewN | apply below_drew1) | exact HB.out)) hb); clear HO_8; clear HO_11; clear HO_12; clear HO_13; clear HO_14; clear HO267; clear HO271; clear HB; have HO_8 := n0_; have HO_11 := n1_; have HO_12 := n2_; have HO_13 := n3_; have HO_14 := n4_; have HO267 := n5_; have HO271 := n6_; have HO275 := n7_; have HB := n8_; clear n0_ n1_ n2_ n3_ n4_ n5_ n6_ n7_ n8_; (try clear hb); (try clear hb2); (try clear hk); (try clear hi); (try clear ho0); obtain ⟨Ao59, co59, eo59⟩ := Kd.R_slice HO275.out; subst eo59) | ((with_reducible refine gate_callee (f := 13) rfl ?_); refine goesL_ (some 86) rfl rfl Try.func13 (by kernel_rfl) rfl #[.slice Ao29 t256.length co29, .slice Ao59 t273.length co59] rfl (by (try simp only [List.map_toArray, List.map_cons, List.map_nil]); first | done | rfl | (simp only [List.length_drop, List.length_take]; rfl)) ?_; (with_reducible refine (laws_eqIntS.calls kj15 _ _ t256 _ _ t273 true _ ?side1 ?side2 ?side3 ?side4 A48.out).mono ?_); (case side1 => repeat (first | exact (Kd.R_reads' HO_13.out).2.2 | (with_reducible refine Kd.C_alloc ?_ _) | (with_reducible refine Kd.C_drewN ?_ _) | (with_reducible refine Kd.C_drew ?_))); (case side2 => exact (Kd.R_reads' HO_13.out).2.1); (case side3 => repeat (first | exact (Kd.R_reads' HO275.out).2.2 | (with_reducible refine Kd.C_alloc ?_ _) | (with_reducible refine Kd.C_drewN ?_ _) | (with_reducible refine Kd.C_drew ?_))); (case side4 => exact (Kd.R_reads' HO275.out).2.1); rintro e w' ⟨rfl, ⟨nd, rfl⟩⟩; refine ⟨_, rfl, ?_⟩) | ((with_reducible refine gate_callee (f := 15) rfl ?_); refine goesL_ (some 90) rfl rfl Try.func15 (by kernel_rfl) rfl #[.slice Ao27 t250.length co27, .int .i64 1] rfl (by (try simp only [List.map_toArray, List.map_cons, List.map_nil]); first | done | rfl | (simp only [List.length_drop, List.length_take]; rfl)) ?_; (with_reducible refine (laws_markIntSS.calls kj15 (fun k_ => ((((some k_ ≠ (v248 : Value).ownBlock ∧ (some k_ ≠ (.slice Ao28 t253.length co28 : Value).ownBlock ∧ (some k_ ≠ (.slice Ao29 t256.length co29 : Value).ownBlock ∧ some k_ ≠ (v262 : Value).ownBlock))) ∧ some k_ ≠ (.slice Ao55 t265.length co55 : Value).ownBlock) ∧ some k_ ≠ (.slice Ao57 t269.length co57 : Value).ownBlock) ∧ some k_ ≠ (.slice Ao59 t273.length co59 : Value).ownBlock)) (.slice Ao27 t250.length co27) t250 1 t277 w _ ?side1 ?side2 A50.out).mono ?_); (case side1 => repeat (first | (with_reducible first | exact HB.out | apply below_alloc | apply pw_below_drewN | apply below_drew1) | exact HB.out)); (case side2 => exact HO_11.out); rintro e w60 ⟨rfl, hb, hkp⟩; refine ⟨_, rfl, ?_⟩; have n0_ := Aside0.mk (Kd.R_mono (ok' := fun k_ => some k_ ≠ (.slice Ao28 t253.length co28 : Value).ownBlock ∧ some k_ ≠ (.slice Ao29 t256.length co29 : Value).ownBlock ∧ some k_ ≠ (v262 : Value).ownBlock ∧ some k_ ≠ (.slice Ao57 t269.length co57 : Value).ownBlock ∧ some k_ ≠ (.slice Ao59 t273.length co59 : Value).ownBlock) (Kd.R_keptO rfl (HO_8.out) hkp (fun k_ hs_ => hs_.1.1.1.1)) (fun k_ hk_ => ⟨hk_.1.1.1, hk_.1.1.2.1, hk_.1.1.2.2, hk_.1.2, hk_.2⟩)); have n1_ := Aside0.mk (Kd.R_mono (ok' := fun k_ => some k_ ≠ (v248 : Value).ownBlock ∧ some k_ ≠ (.slice Ao29 t256.length co29 : Value).ownBlock ∧ some k_ ≠ (v262 : Value).ownBlock ∧ some k_ ≠ (.slice Ao57 t269.length co57 : Value).ownBlock ∧ some k_ ≠ (.slice Ao59 t273.length co59 : Value).ownBlock) (Kd.R_keptO rfl (HO_12.out) hkp (fun k_ hs_ => hs_.1.1.1.2.1)) (fun k_ hk_ => ⟨hk_.1.1.1, hk_.1.1.2.1, hk_.1.1.2.2, hk_.1.2, hk_.2⟩)); have n2_ := Aside0.mk (Kd.R_mono (ok' := fun k_ => some k_ ≠ (v248 : Value).ownBlock ∧ some k_ ≠ (.slice Ao28 t253.length co28 : Value).ownBlock ∧ some k_ ≠ (v262 : Value).ownBlock ∧ some k_ ≠ (.slice Ao57 t269.length co57 : Value).ownBlock ∧ some k_ ≠ (.slice Ao59 t273.length co59 : Value).ownBlock) (Kd.R_keptO rfl (HO_13.out) hkp (fun k_ hs_ => hs_.1.1.1.2.2.1)) (fun k_ hk_ => ⟨hk_.1.1.1, hk_.1.1.2.1, hk_.1.1.2.2, hk_.1.2, hk_.2⟩)); have n3_ := Aside0.mk (Kd.R_mono (ok' := fun k_ => some k_ ≠ (v248 : Value).ownBlock ∧ some k_ ≠ (.slice Ao28 t253.length co28 : Value).ownBlock ∧ some k_ ≠ (.slice Ao29 t256.length co29 : Value).ownBlock ∧ some k_ ≠ (.slice Ao57 t269.length co57 : Value).ownBlock ∧ some k_ ≠ (.slice Ao59 t273.length co59 : Value).ownBlock) (Kd.R_keptO rfl (HO_14.out) hkp (fun k_ hs_ => hs_.1.1.1.2.2.2)) (fun k_ hk_ => ⟨hk_.1.1.1, hk_.1.1.2.1, hk_.1.1.2.2, hk_.1.2, hk_.2⟩)); have n4_ := Aside0.mk (Kd.R_mono (ok' := fun k_ => some k_ ≠ (v248 : Value).ownBlock ∧ some k_ ≠ (.slice Ao28 t253.length co28 : Value).ownBlock ∧ some k_ ≠ (.slice Ao29 t256.length co29 : Value).ownBlock ∧ some k_ ≠ (v262 : Value).ownBlock ∧ some k_ ≠ (.slice Ao59 t273.length co59 : Value).ownBlock) (Kd.R_keptO rfl (HO271.out) hkp (fun k_ hs_ => hs_.1.2)) (fun k_ hk_ => ⟨hk_.1.1.1.1.2, hk_.1.1.1.2, hk_.1.1.2, hk_.1.2, hk_.2⟩)); have n5_ := Aside0.mk (Kd.R_mono (ok' := fun k_ => some k_ ≠ (v248 : Value).ownBlock ∧ some k_ ≠ (.slice Ao28 t253.length co28 : Value).ownBlock ∧ some k_ ≠ (.slice Ao29 t256.length co29 : Value).ownBlock ∧ some k_ ≠ (v262 : Value).ownBlock ∧ some k_ ≠ (.slice Ao57 t269.length co57 : Value).ownBlock) (Kd.R_keptO rfl (HO275.out) hkp (fun k_ hs_ => hs_.2)) (fun k_ hk_ => ⟨hk_.1.1.1.1.2, hk_.1.1.1.2, hk_.1.1.2, hk_.1.2, hk_.2⟩)); have n6_ := Aside0.mk (hb); clear HO_8; clear HO_12; clear HO_13; clear HO_14; clear HO271; clear HO275; clear HB; clear HO_11; clear HO267; have HO_8 := n0_; have HO_12 := n1_; have HO_13 := n2_; have HO_14 := n3_; have HO271 := n4_; have HO275 := n5_; have HB := n6_; clear n0_ n1_ n2_ n3_ n4_ n5_ n6_; (try clear hb); (try clear hkp)) | ((with_reducible refine gate_callee (f := 16) rfl ?_); refine goesL_ (some 93) rfl rfl Try.func16 (by kernel_rfl) rfl #[.slice Ao28 t253.length co28, .int .i64 t277] rfl (by (try simp only [List.map_toArray, List.map_cons, List.map_nil]); first | done | rfl | (simp only [List.length_drop, List.length_take]; rfl)) ?_; (with_reducible refine (laws_markIntS.calls kj15 (fun k_ => some k_ = (.slice Ao28 t253.length co28 : Value).ownBlock) (.slice Ao28 t253.length co28) t253 t277 t278 t279 w _ ?side1 ?side2 A51.out).mono ?_); (case side1 => repeat (first | (with_reducible first | exact HB.out | apply below_alloc | apply pw_below_drewN | apply below_drew1) | exact HB.out)); (case side2 => exact Kd.R_tight rfl HO_12.out); rintro e w61 ⟨rfl, hy0, hb, hkp⟩; refine ⟨_, rfl, ?_⟩; have n0_ := Aside0.mk (Kd.R_mono (ok' := fun k_ => some k_ ≠ (.slice Ao28 t253.length co28 : Value).ownBlock ∧ some k_ ≠ (.slice Ao29 t256.length co29 : Value).ownBlock ∧ some k_ ≠ (v262 : Value).ownBlock ∧ some k_ ≠ (.slice Ao57 t269.length co57 : Value).ownBlock ∧ some k_ ≠ (.slice Ao59 t273.length co59 : Value).ownBlock) (Kd.R_keptB (HO_8.out) hkp (fun k_ hk_ hs_ => (hk_.1) hs_)) (fun k_ hk_ => ⟨hk_.1.1, hk_.1.2.1, hk_.1.2.2.1, hk_.1.2.2.2.1, hk_.1.2.2.2.2⟩)); have n1_ := Aside0.mk (Kd.R_reok rfl hy0 (fun k_ e_ => HO_12.out.1 k_ e_)); have n2_ := Aside0.mk (Kd.R_mono (ok' := fun k_ => some k_ ≠ (v248 : Value).ownBlock ∧ some k_ ≠ (.slice Ao28 t253.length co28 : Value).ownBlock ∧ some k_ ≠ (v262 : Value).ownBlock ∧ some k_ ≠ (.slice Ao57 t269.length co57 : Value).ownBlock ∧ some k_ ≠ (.slice Ao59 t273.length co59 : Value).ownBlock) (Kd.R_keptB (HO_13.out) hkp (fun k_ hk_ hs_ => (hk_.2.1) hs_)) (fun k_ hk_ => ⟨hk_.1.1, hk_.1.2.1, hk_.1.2.2.1, hk_.1.2.2.2.1, hk_.1.2.2.2.2⟩)); have n3_ := Aside0.mk (Kd.R_mono (ok' := fun k_ => some k_ ≠ (v248 : Value).ownBlock ∧ some k_ ≠ (.slice Ao28 t253.length co28 : Value).ownBlock ∧ some k_ ≠ (.slice Ao29 t256.length co29 : Value).ownBlock ∧ some k_ ≠ (.slice Ao57 t269.length co57 : Value).ownBlock ∧ some k_ ≠ (.slice Ao59 t273.length co59 : Value).ownBlock) (Kd.R_keptB (HO_14.out) hkp (fun k_ hk_ hs_ => (hk_.2.1) hs_)) (fun k_ hk_ => ⟨hk_.1.1, hk_.1.2.1, hk_.1.2.2.1, hk_.1.2.2.2.1, hk_.1.2.2.2.2⟩)); have n4_ := Aside0.mk (Kd.R_mono (ok' := fun k_ => some k_ ≠ (v248 : Value).ownBlock ∧ some k_ ≠ (.slice Ao28 t253.length co28 : Value).ownBlock ∧ some k_ ≠ (.slice Ao29 t256.length co29 : Value).ownBlock ∧ some k_ ≠ (v262 : Value).ownBlock ∧ some k_ ≠ (.slice Ao59 t273.length co59 : Value).ownBlock) (Kd.R_keptB (HO271.out) hkp (fun k_ hk_ hs_ => (hk_.2.1) hs_)) (fun k_ hk_ => ⟨hk_.1.1, hk_.1.2.1, hk_.1.2.2.1, hk_.1.2.2.2.1, hk_.1.2.2.2.2⟩)); have n5_ := Aside0.mk (Kd.R_mono (ok' := fun k_ => some k_ ≠ (v248 : Value).ownBlock ∧ some k_ ≠ (.slice Ao28 t253.length co28 : Value).ownBlock ∧ some k_ ≠ (.slice Ao29 t256.length co29 : Value).ownBlock ∧ some k_ ≠ (v262 : Value).ownBlock ∧ some k_ ≠ (.slice Ao57 t269.length co57 : Value).ownBlock) (Kd.R_keptB (HO275.out) hkp (fun k_ hk_ hs_ => (hk_.2.1) hs_)) (fun k_ hk_ => ⟨hk_.1.1, hk_.1.2.1, hk_.1.2.2.1, hk_.1.2.2.2.1, hk_.1.2.2.2.2⟩)); have n6_ := Aside0.mk (hb); clear HO_8; clear HO_12; clear HO_13; clear HO_14; clear HO271; clear HO275; clear HB; have HO_8 := n0_; have HO_12 := n1_; have HO_13 := n2_; have HO_14 := n3_; have HO271 := n4_; have HO275 := n5_; have HB := n6_; clear n0_ n1_ n2_ n3_ n4_ n5_ n6_; (try clear hb); (try clear hkp); (try clear hy0)) | ((with_reducible refine gate_callee (f := 16) rfl ?_); refine goesL_ (some 96) rfl rfl Try.func16 (by kernel_rfl) rfl #[.slice Ao29 t256.length co29, .int .i64 t278] rfl (by (try simp only [List.map_toArray, List.map_cons, List.map_nil]); first | done | rfl | (simp only [List.length_drop, List.length_take]; rfl)) ?_; (with_reducible refine (laws_markIntS.calls kj15 (fun k_ => some k_ = (.slice Ao29 t256.length co29 : Value).ownBlock) (.slice Ao29 t256.length co29) t256 t278 t280 t281 w _ ?side1 ?side2 A52.out).mono ?_); (case side1 => repeat (first | (with_reducible first | exact HB.out | apply below_alloc | apply pw_below_drewN | apply below_drew1) | exact HB.out)); (case side2 => exact Kd.R_tight rfl HO_13.out); rintro e w62 ⟨rfl, hy0, hb, hkp⟩; refine ⟨_, rfl, ?_⟩; have n0_ := Aside0.mk (Kd.R_mono (ok' := fun k_ => some k_ ≠ (.slice Ao28 t253.length co28 : Value).ownBlock ∧ some k_ ≠ (.slice Ao29 t256.length co29 : Value).ownBlock ∧ some k_ ≠ (v262 : Value).ownBlock ∧ some k_ ≠ (.slice Ao57 t269.length co57 : Value).ownBlock ∧ some k_ ≠ (.slice Ao59 t273.length co59 : Value).ownBlock) (Kd.R_keptB (HO_8.out) hkp (fun k_ hk_ hs_ => (hk_.2.1) hs_)) (fun k_ hk_ => ⟨hk_.1.1, hk_.1.2.1, hk_.1.2.2.1, hk_.1.2.2.2.1, hk_.1.2.2.2.2⟩)); have n1_ := Aside0.mk (Kd.R_mono (ok' := fun k_ => some k_ ≠ (v248 : Value).ownBlock ∧ some k_ ≠ (.slice Ao29 t256.length co29 : Value).ownBlock ∧ some k_ ≠ (v262 : Value).ownBlock ∧ some k_ ≠ (.slice Ao57 t269.length co57 : Value).ownBlock ∧ some k_ ≠ (.slice Ao59 t273.length co59 : Value).ownBlock) (Kd.R_keptB (HO_12.out) hkp (fun k_ hk_ hs_ => (hk_.2.1) hs_)) (fun k_ hk_ => ⟨hk_.1.1, hk_.1.2.1, hk_.1.2.2.1, hk_.1.2.2.2.1, hk_.1.2.2.2.2⟩)); have n2_ := Aside0.mk (Kd.R_reok rfl hy0 (fun k_ e_ => HO_13.out.1 k_ e_)); have n3_ := Aside0.mk (Kd.R_mono (ok' := fun k_ => some k_ ≠ (v248 : Value).ownBlock ∧ some k_ ≠ (.slice Ao28 t253.length co28 : Value).ownBlock ∧ some k_ ≠ (.slice Ao29 t256.length co29 : Value).ownBlock ∧ some k_ ≠ (.slice Ao57 t269.length co57 : Value).ownBlock ∧ some k_ ≠ (.slice Ao59 t273.length co59 : Value).ownBlock) (Kd.R_keptB (HO_14.out) hkp (fun k_ hk_ hs_ => (hk_.2.2.1) hs_)) (fun k_ hk_ => ⟨hk_.1.1, hk_.1.2.1, hk_.1.2.2.1, hk_.1.2.2.2.1, hk_.1.2.2.2.2⟩)); have n4_ := Aside0.mk (Kd.R_mono (ok' := fun k_ => some k_ ≠ (v248 : Value).ownBlock ∧ some k_ ≠ (.slice Ao28 t253.length co28 : Value).ownBlock ∧ some k_ ≠ (.slice Ao29 t256.length co29 : Value).ownBlock ∧ some k_ ≠ (v262 : Value).ownBlock ∧ some k_ ≠ (.slice Ao59 t273.length co59 : Value).ownBlock) (Kd.R_keptB (HO271.out) hkp (fun k_ hk_ hs_ => (hk_.2.2.1) hs_)) (fun k_ hk_ => ⟨hk_.1.1, hk_.1.2.1, hk_.1.2.2.1, hk_.1.2.2.2.1, hk_.1.2.2.2.2⟩)); have n5_ := Aside0.mk (Kd.R_mono (ok' := fun k_ => some k_ ≠ (v248 : Value).ownBlock ∧ some k_ ≠ (.slice Ao28 t253.length co28 : Value).ownBlock ∧ some k_ ≠ (.slice Ao29 t256.length co29 : Value).ownBlock ∧ some k_ ≠ (v262 : Value).ownBlock ∧ some k_ ≠ (.slice Ao57 t269.length co57 : Value).ownBlock) (Kd.R_keptB (HO275.out) hkp (fun k_ hk_ hs_ => (hk_.2.2.1) hs_)) (fun k_ hk_ => ⟨hk_.1.1, hk_.1.2.1, hk_.1.2.2.1, hk_.1.2.2.2.1, hk_.1.2.2.2.2⟩)); have n6_ := Aside0.mk (hb); clear HO_8; clear HO_12; clear HO_13; clear HO_14; clear HO271; clear HO275; clear HB; have HO_8 := n0_; have HO_12 := n1_; have HO_13 := n2_; have HO_14 := n3_; have HO271 := n4_; have HO275 := n5_; have HB := n6_; clear n0_ n1_ n2_ n3_ n4_ n5_ n6_; (try clear hb); (try clear hkp); (try clear hy0)))
                    (try simp only [Act.put, List.setIfInBounds_toArray, List.set_cons_zero, List.set_cons_succ])
                    go_cut [114] (fun v114 wc => ∃ (kq : Nat) (x114_52 : Bool), v114 = .bool x114_52 ∧ Aside0 (laws_FnExactCheapestKits.j1 kq l0 l1 l2 t245 t246 t247 t259 x114_52 = some true) ∧ Aside0 (kq ≤ kj15) ∧ Aside0 (Kd.R (Kd.int .i64) 3 wc w.heap.size (fun k_ => some k_ ≠ (v262 : Value).ownBlock) v248 t245) ∧ Aside0 (Kd.R (Kd.int .i64) 3 wc w.heap.size (fun k_ => some k_ ≠ (v248 : Value).ownBlock) v262 t259) ∧ Aside0 (Below w.heap.size w wc))
                    case first =>
                      have H := HC53.out
                      clear HC53
                      by_cases c63 : t280 < 0
                      · rw [if_pos c63] at H
                        have c63b0 : decide (t280 < 0) = true := decide_eq_true c63
                        clear c63
                        (first | rw [c63b0] | (simp only [i64_w, i32_w]; rw [c63b0]) | skip)
                        have H' := Aside0.mk H
                        clear H
                        go_wp2
                        go_meet
                        case rel => exact ⟨_, (true), (by first | rfl | (simp; done) | (simp [*]; done)), H', ⟨by have := HJ15.out; first | omega | exact Nat.le_refl _⟩, ⟨by (with_reducible repeat (first | apply Kd.R_alloc | apply Kd.R_drewN | apply Kd.R_drew)); exact Kd.R_mono HO_8.out (fun _ hk => hk.2.2.1)⟩, ⟨by (with_reducible repeat (first | apply Kd.R_alloc | apply Kd.R_drewN | apply Kd.R_drew)); exact Kd.R_mono HO_14.out (fun _ hk => hk.1)⟩, ⟨by repeat (first | (with_reducible first | exact HB.out | apply below_alloc | apply pw_below_drewN | apply below_drew1) | exact HB.out)⟩⟩
                      · rw [if_neg c63] at H
                        have c63b0 : decide (t280 < 0) = false := decide_eq_false c63
                        clear c63
                        (first | rw [c63b0] | (simp only [i64_w, i32_w]; rw [c63b0]) | skip)
                        replace H := Option.bind_eq_some_iff.mp H
                        obtain ⟨t282, A640, H⟩ := H
                        replace H : (if t282 = true then (if t260 = t246 then (laws_FnExactCheapestKits.j1 kj15 l0 l1 l2 t245 t246 t247 t259 (t261 != t247)) else (laws_FnExactCheapestKits.j1 kj15 l0 l1 l2 t245 t246 t247 t259 true)) else (laws_FnExactCheapestKits.j1 kj15 l0 l1 l2 t245 t246 t247 t259 true)) = some true := H
                        have A64 := Aside0.mk A640
                        clear A640
                        by_cases c65 : t282 = true
                        · subst c65
                          have H1 : (if t260 = t246 then (laws_FnExactCheapestKits.j1 kj15 l0 l1 l2 t245 t246 t247 t259 (t261 != t247)) else (laws_FnExactCheapestKits.j1 kj15 l0 l1 l2 t245 t246 t247 t259 true)) = some true := by rw [if_pos rfl] at H; exact H
                          clear H
                          have H := H1
                          clear H1
                          by_cases c66 : t260 = t246
                          · rw [if_pos c66] at H
                            have c66b0 : (t260 == t246) = true := beq_iff_eq.mpr c66
                            have c66b1 : (t260 != t246) = false := bne_eq_false_iff_eq.mpr c66
                            clear c66
                            have H' := Aside0.mk H
                            clear H
                            obtain ⟨Ao67, co67, eo67⟩ := Kd.R_slice HO_14.out
                            subst eo67
                            obtain ⟨Ao68, co68, eo68⟩ := Kd.R_slice HO_8.out
                            subst eo68
                            go_wp2_with (first | (go_at_call 13; (with_reducible refine (laws_eqIntS.calls kj15 _ _ t259 _ _ t245 true _ ?side1 ?side2 ?side3 ?side4 A64.out).mono ?_); (case side1 => repeat (first | exact (Kd.R_reads' HO_14.out).2.2 | (with_reducible refine Kd.C_alloc ?_ _) | (with_reducible refine Kd.C_drewN ?_ _) | (with_reducible refine Kd.C_drew ?_))); (case side2 => exact (Kd.R_reads' HO_14.out).2.1); (case side3 => repeat (first | exact (Kd.R_reads' HO_8.out).2.2 | (with_reducible refine Kd.C_alloc ?_ _) | (with_reducible refine Kd.C_drewN ?_ _) | (with_reducible refine Kd.C_drew ?_))); (case side4 => exact (Kd.R_reads' HO_8.out).2.1); rintro e w' ⟨rfl, ⟨nd, rfl⟩⟩))
                            go_meet
                            case rel => exact ⟨_, ((t261 != t247)), (by first | rfl | (simp; done) | (simp [*]; done)), H', ⟨by have := HJ15.out; first | omega | exact Nat.le_refl _⟩, ⟨by (with_reducible repeat (first | apply Kd.R_alloc | apply Kd.R_drewN | apply Kd.R_drew)); exact Kd.R_mono HO_8.out (fun _ hk => hk.2.2.1)⟩, ⟨by (with_reducible repeat (first | apply Kd.R_alloc | apply Kd.R_drewN | apply Kd.R_drew)); exact Kd.R_mono HO_14.out (fun _ hk => hk.1)⟩, ⟨by repeat (first | (with_reducible first | exact HB.out | apply below_alloc | apply pw_below_drewN | apply below_drew1) | exact HB.out)⟩⟩
                          · rw [if_neg c66] at H
                            have c66b0 : (t260 == t246) = false := beq_eq_false_iff_ne.mpr c66
                            have c66b1 : (t260 != t246) = true := bne_iff_ne.mpr c66
                            have H' := Aside0.mk H
                            clear H
                            obtain ⟨Ao69, co69, eo69⟩ := Kd.R_slice HO_14.out
                            subst eo69
                            obtain ⟨Ao70, co70, eo70⟩ := Kd.R_slice HO_8.out
                            subst eo70
                            go_wp2_with (first | (go_at_call 13; (with_reducible refine (laws_eqIntS.calls kj15 _ _ t259 _ _ t245 true _ ?side1 ?side2 ?side3 ?side4 A64.out).mono ?_); (case side1 => repeat (first | exact (Kd.R_reads' HO_14.out).2.2 | (with_reducible refine Kd.C_alloc ?_ _) | (with_reducible refine Kd.C_drewN ?_ _) | (with_reducible refine Kd.C_drew ?_))); (case side2 => exact (Kd.R_reads' HO_14.out).2.1); (case side3 => repeat (first | exact (Kd.R_reads' HO_8.out).2.2 | (with_reducible refine Kd.C_alloc ?_ _) | (with_reducible refine Kd.C_drewN ?_ _) | (with_reducible refine Kd.C_drew ?_))); (case side4 => exact (Kd.R_reads' HO_8.out).2.1); rintro e w' ⟨rfl, ⟨nd, rfl⟩⟩))
                            go_meet
                            case rel => exact ⟨_, (true), (by first | rfl | (simp; done) | (simp [*]; done)), H', ⟨by have := HJ15.out; first | omega | exact Nat.le_refl _⟩, ⟨by (with_reducible repeat (first | apply Kd.R_alloc | apply Kd.R_drewN | apply Kd.R_drew)); exact Kd.R_mono HO_8.out (fun _ hk => hk.2.2.1)⟩, ⟨by (with_reducible repeat (first | apply Kd.R_alloc | apply Kd.R_drewN | apply Kd.R_drew)); exact Kd.R_mono HO_14.out (fun _ hk => hk.1)⟩, ⟨by repeat (first | (with_reducible first | exact HB.out | apply below_alloc | apply pw_below_drewN | apply below_drew1) | exact HB.out)⟩⟩
                        · replace c65 := Bool.eq_false_iff.mpr c65
                          subst c65
                          have H1 : (laws_FnExactCheapestKits.j1 kj15 l0 l1 l2 t245 t246 t247 t259 true) = some true := by rw [if_neg (show ¬ (false = true) by decide)] at H; exact H
                          clear H
                          have H := H1
                          clear H1
                          have H' := Aside0.mk H
                          clear H
                          obtain ⟨Ao71, co71, eo71⟩ := Kd.R_slice HO_14.out
                          subst eo71
                          obtain ⟨Ao72, co72, eo72⟩ := Kd.R_slice HO_8.out
                          subst eo72
                          go_wp2_with (first | (go_at_call 13; (with_reducible refine (laws_eqIntS.calls kj15 _ _ t259 _ _ t245 false _ ?side1 ?side2 ?side3 ?side4 A64.out).mono ?_); (case side1 => repeat (first | exact (Kd.R_reads' HO_14.out).2.2 | (with_reducible refine Kd.C_alloc ?_ _) | (with_reducible refine Kd.C_drewN ?_ _) | (with_reducible refine Kd.C_drew ?_))); (case side2 => exact (Kd.R_reads' HO_14.out).2.1); (case side3 => repeat (first | exact (Kd.R_reads' HO_8.out).2.2 | (with_reducible refine Kd.C_alloc ?_ _) | (with_reducible refine Kd.C_drewN ?_ _) | (with_reducible refine Kd.C_drew ?_))); (case side4 => exact (Kd.R_reads' HO_8.out).2.1); rintro e w' ⟨rfl, ⟨nd, rfl⟩⟩))
                          go_meet
                          case rel => exact ⟨_, (true), (by first | rfl | (simp; done) | (simp [*]; done)), H', ⟨by have := HJ15.out; first | omega | exact Nat.le_refl _⟩, ⟨by (with_reducible repeat (first | apply Kd.R_alloc | apply Kd.R_drewN | apply Kd.R_drew)); exact Kd.R_mono HO_8.out (fun _ hk => hk.2.2.1)⟩, ⟨by (with_reducible repeat (first | apply Kd.R_alloc | apply Kd.R_drewN | apply Kd.R_drew)); exact Kd.R_mono HO_14.out (fun _ hk => hk.1)⟩, ⟨by repeat (first | (with_reducible first | exact HB.out | apply below_alloc | apply pw_below_drewN | apply below_drew1) | exact HB.out)⟩⟩
                    case rest =>
                      clear HC53
                      try clear c1
                      try clear c2
                      try clear p2
                      try clear c3
                      try clear c4
                      try clear c4b0
                      try clear c4b1
                      try clear c5
                      try clear c5b0
                      try clear c5b1
                      try clear c6
                      try clear c7
                      try clear c7b0
                      try clear c8
                      try clear c10
                      try clear c11
                      try clear c13
                      try clear c14
                      try clear c15
                      try clear c16
                      try clear c18
                      try clear c19
                      try clear c32
                      try clear c33
                      try clear c33b0
                      try clear c33b1
                      try clear c40
                      try clear c43
                      try clear c46
                      try clear c49
                      try clear c63
                      try clear c63b0
                      try clear c65
                      try clear c66
                      try clear c66b0
                      try clear c66b1
                      try clear p2
                      obtain ⟨kq, x114_52, rfl, HA, HJ52, HO_8, HO_14, HB⟩ := hcut
                      cases kq with
                      | zero => exact absurd HA.out (by simp [laws_FnExactCheapestKits.j1])
                      | succ kj52 =>
                        have H := HA.out
                        clear HA
                        simp only [laws_FnExactCheapestKits.j1] at H
                        by_cases c73 : x114_52 = true
                        · subst c73
                          have H1 : (some false) = some true := by rw [if_pos rfl] at H; exact H
                          clear H
                          have H := H1
                          clear H1
                          exact absurd H (by simp)
                        · replace c73 := Bool.eq_false_iff.mpr c73
                          subst c73
                          have H1 : ((laws_markIntS.f kj52 t259 1).bind fun bt283 => ((laws_heldIntS.f kj52 bt283.2 1).bind fun t285 => (if t285 < 0 then (some false) else (if t285 = bt283.1 then ((laws_toIntSS.f kj52 l0).bind fun t286 => ((laws_toIntS.f kj52 l1).bind fun t289 => ((laws_toIntS.f kj52 l2).bind fun t292 => ((impl_CheapestKits.f kj52 t286 t289 t292).bind fun bt295 => ((laws_eqIntS.f kj52 bt295.1 t245).bind fun t300 => (if t300 = true then (if bt295.2.1 = t246 then (laws_FnExactCheapestKits.j2 kj52 bt283.2 bt283.1 (bt295.2.2 != t247)) else (laws_FnExactCheapestKits.j2 kj52 bt283.2 bt283.1 true)) else (laws_FnExactCheapestKits.j2 kj52 bt283.2 bt283.1 true))))))) else (some false))))) = some true := by rw [if_neg (show ¬ (false = true) by decide)] at H; exact H
                          clear H
                          have H := H1
                          clear H1
                          replace H := Option.bind_eq_some_iff.mp H
                          obtain ⟨⟨t283, t284⟩, A740, H⟩ := H
                          replace H : ((laws_heldIntS.f kj52 t284 1).bind fun t285 => (if t285 < 0 then (some false) else (if t285 = t283 then ((laws_toIntSS.f kj52 l0).bind fun t286 => ((laws_toIntS.f kj52 l1).bind fun t289 => ((laws_toIntS.f kj52 l2).bind fun t292 => ((impl_CheapestKits.f kj52 t286 t289 t292).bind fun bt295 => ((laws_eqIntS.f kj52 bt295.1 t245).bind fun t300 => (if t300 = true then (if bt295.2.1 = t246 then (laws_FnExactCheapestKits.j2 kj52 t284 t283 (bt295.2.2 != t247)) else (laws_FnExactCheapestKits.j2 kj52 t284 t283 true)) else (laws_FnExactCheapestKits.j2 kj52 t284 t283 true))))))) else (some false)))) = some true := H
                          have A74 := Aside0.mk A740
                          clear A740
                          replace H := Option.bind_eq_some_iff.mp H
                          obtain ⟨t285, A750, H⟩ := H
                          replace H : (if t285 < 0 then (some false) else (if t285 = t283 then ((laws_toIntSS.f kj52 l0).bind fun t286 => ((laws_toIntS.f kj52 l1).bind fun t289 => ((laws_toIntS.f kj52 l2).bind fun t292 => ((impl_CheapestKits.f kj52 t286 t289 t292).bind fun bt295 => ((laws_eqIntS.f kj52 bt295.1 t245).bind fun t300 => (if t300 = true then (if bt295.2.1 = t246 then (laws_FnExactCheapestKits.j2 kj52 t284 t283 (bt295.2.2 != t247)) else (laws_FnExactCheapestKits.j2 kj52 t284 t283 true)) else (laws_FnExactCheapestKits.j2 kj52 t284 t283 true))))))) else (some false))) = some true := H
                          have A75 := Aside0.mk A750
                          clear A750
                          by_cases c76 : t285 < 0
                          · rw [if_pos c76] at H
                            have c76b0 : decide (t285 < 0) = true := decide_eq_true c76
                            clear c76
                            exact absurd H (by simp)
                          · rw [if_neg c76] at H
                            have c76b0 : decide (t285 < 0) = false := decide_eq_false c76
                            clear c76
                            by_cases c77 : t285 = t283
                            · rw [if_pos c77] at H
                              have c77b0 : (t285 == t283) = true := beq_iff_eq.mpr c77
                              have c77b1 : (t285 != t283) = false := bne_eq_false_iff_eq.mpr c77
                              clear c77
                              replace H := Option.bind_eq_some_iff.mp H
                              obtain ⟨t286, A780, H⟩ := H
                              replace H : ((laws_toIntS.f kj52 l1).bind fun t289 => ((laws_toIntS.f kj52 l2).bind fun t292 => ((impl_CheapestKits.f kj52 t286 t289 t292).bind fun bt295 => ((laws_eqIntS.f kj52 bt295.1 t245).bind fun t300 => (if t300 = true then (if bt295.2.1 = t246 then (laws_FnExactCheapestKits.j2 kj52 t284 t283 (bt295.2.2 != t247)) else (laws_FnExactCheapestKits.j2 kj52 t284 t283 true)) else (laws_FnExactCheapestKits.j2 kj52 t284 t283 true)))))) = some true := H
                              have A78 := Aside0.mk A780
                              clear A780
                              replace H := Option.bind_eq_some_iff.mp H
                              obtain ⟨t289, A790, H⟩ := H
                              replace H : ((laws_toIntS.f kj52 l2).bind fun t292 => ((impl_CheapestKits.f kj52 t286 t289 t292).bind fun bt295 => ((laws_eqIntS.f kj52 bt295.1 t245).bind fun t300 => (if t300 = true then (if bt295.2.1 = t246 then (laws_FnExactCheapestKits.j2 kj52 t284 t283 (bt295.2.2 != t247)) else (laws_FnExactCheapestKits.j2 kj52 t284 t283 true)) else (laws_FnExactCheapestKits.j2 kj52 t284 t283 true))))) = some true := H
                              have A79 := Aside0.mk A790
                              clear A790
                              replace H := Option.bind_eq_some_iff.mp H
                              obtain ⟨t292, A800, H⟩ := H
                              replace H : ((impl_CheapestKits.f kj52 t286 t289 t292).bind fun bt295 => ((laws_eqIntS.f kj52 bt295.1 t245).bind fun t300 => (if t300 = true then (if bt295.2.1 = t246 then (laws_FnExactCheapestKits.j2 kj52 t284 t283 (bt295.2.2 != t247)) else (laws_FnExactCheapestKits.j2 kj52 t284 t283 true)) else (laws_FnExactCheapestKits.j2 kj52 t284 t283 true)))) = some true := H
                              have A80 := Aside0.mk A800
                              clear A800
                              replace H := Option.bind_eq_some_iff.mp H
                              obtain ⟨⟨t295, t296, t297⟩, A810, H⟩ := H
                              replace H : ((laws_eqIntS.f kj52 t295 t245).bind fun t300 => (if t300 = true then (if t296 = t246 then (laws_FnExactCheapestKits.j2 kj52 t284 t283 (t297 != t247)) else (laws_FnExactCheapestKits.j2 kj52 t284 t283 true)) else (laws_FnExactCheapestKits.j2 kj52 t284 t283 true))) = some true := H
                              have A81 := Aside0.mk A810
                              clear A810
                              have HC82 := Aside0.mk H
                              clear H
                              obtain ⟨Ao83, co83, eo83⟩ := Kd.R_slice HO_14.out
                              subst eo83
                              go_upto_region 37 with (first | ((with_reducible refine gate_callee (f := 16) rfl ?_); refine goesL_ (some 117) rfl rfl Try.func16 (by kernel_rfl) rfl #[.slice Ao83 t259.length co83, .int .i64 1] rfl (by (try simp only [List.map_toArray, List.map_cons, List.map_nil]); first | done | rfl | (simp only [List.length_drop, List.length_take]; rfl)) ?_; (with_reducible refine (laws_markIntS.calls kj52 (fun k_ => some k_ = (.slice Ao83 t259.length co83 : Value).ownBlock) (.slice Ao83 t259.length co83) t259 1 t283 t284 w _ ?side1 ?side2 A74.out).mono ?_); (case side1 => repeat (first | (with_reducible first | exact HB.out | apply below_alloc | apply pw_below_drewN | apply below_drew1) | exact HB.out)); (case side2 => exact Kd.R_tight rfl HO_14.out); rintro e w84 ⟨rfl, hy0, hb, hkp⟩; refine ⟨_, rfl, ?_⟩; have n0_ := Aside0.mk (Kd.R_mono (ok' := fun k_ => some k_ ≠ (.slice Ao83 t259.length co83 : Value).ownBlock) (Kd.R_keptB (HO_8.out) hkp (fun k_ hk_ hs_ => (hk_) hs_)) (fun k_ hk_ => hk_.1)); have n1_ := Aside0.mk (Kd.R_reok rfl hy0 (fun k_ e_ => HO_14.out.1 k_ e_)); have n2_ := Aside0.mk (hb); clear HO_8; clear HO_14; clear HB; have HO_8 := n0_; have HO_14 := n1_; have HB := n2_; clear n0_ n1_ n2_; (try clear hb); (try clear hkp); (try clear hy0)) | ((with_reducible refine gate_callee (f := 17) rfl ?_); refine goesL_ (some 120) rfl rfl Try.func17 (by kernel_rfl) rfl #[.slice Ao83 t284.length co83, .int .i64 1] rfl (by (try simp only [List.map_toArray, List.map_cons, List.map_nil]); first | done | (rw [show t284.length = t259.length from (Kd.R_reads' HO_14.out).1.symm] <;> rfl) | rfl | (simp only [List.length_drop, List.length_take]; rfl)) ?_; (with_reducible refine (laws_heldIntS.calls kj52 _ _ t284 1 t285 _ ?side1 ?side2 A75.out).mono ?_); (case side1 => repeat (first | exact (Kd.R_reads' HO_14.out).2.2 | (with_reducible refine Kd.C_alloc ?_ _) | (with_reducible refine Kd.C_drewN ?_ _) | (with_reducible refine Kd.C_drew ?_))); (case side2 => rw [show t284.length = t259.length from (Kd.R_reads' HO_14.out).1.symm]; exact (Kd.R_reads' HO_14.out).2.1); rintro e w' ⟨rfl, ⟨nd, rfl⟩⟩; refine ⟨_, rfl, ?_⟩) | ((with_reducible refine gate_callee (f := 10) rfl ?_); refine goesL_ (some 128) rfl rfl Try.func10 (by kernel_rfl) rfl #[.slice A0 l0.length c0] rfl (by (try simp only [List.map_toArray, List.map_cons, List.map_nil]); first | done | rfl | (simp only [List.length_drop, List.length_take]; rfl)) ?_; (with_reducible refine (laws_toIntSS.calls kj52 _ _ l0 t286 _ ?side1 ?side2 A78.out).mono ?_); (case side1 => repeat (first | exact (Kd.C_below HR0.out (by repeat (first | (with_reducible first | exact HB.out | apply below_alloc | apply pw_below_drewN | apply below_drew1) | exact HB.out))) | (with_reducible refine Kd.C_alloc ?_ _) | (with_reducible refine Kd.C_drewN ?_ _) | (with_reducible refine Kd.C_drew ?_))); (case side2 => exact HC0.out); rintro e w85 ⟨v287, rfl, ho0, hb⟩; refine ⟨_, rfl, ?_⟩; have n0_ := Aside0.mk (Kd.R_below (by (with_reducible repeat (first | apply Kd.R_alloc | apply Kd.R_drewN | apply Kd.R_drew)); exact HO_8.out) hb); have n1_ := Aside0.mk (Kd.R_below (by (with_reducible repeat (first | apply Kd.R_alloc | apply Kd.R_drewN | apply Kd.R_drew)); exact HO_14.out) hb); have n2_ := Aside0.mk (Kd.S_lower (Kd.S_new' (Kd.S_new' ho0 (Kd.R_lt (by (with_reducible repeat (first | apply Kd.R_alloc | apply Kd.R_drewN | apply Kd.R_drew)); exact HO_8.out))) (Kd.R_lt (by (with_reducible repeat (first | apply Kd.R_alloc | apply Kd.R_drewN | apply Kd.R_drew)); exact HO_14.out))) (below_size (by repeat (first | (with_reducible first | exact HB.out | apply below_alloc | apply pw_below_drewN | apply below_drew1) | exact HB.out)))); have n3_ := Aside0.mk (below_step (by repeat (first | (with_reducible first | exact HB.out | apply below_alloc | apply pw_below_drewN | apply below_drew1) | exact HB.out)) hb); clear HO_8; clear HO_14; clear HB; have HO_8 := n0_; have HO_14 := n1_; have HO288 := n2_; have HB := n3_; clear n0_ n1_ n2_ n3_; (try clear hb); (try clear hb2); (try clear hk); (try clear hi); (try clear ho0)) | ((with_reducible refine gate_callee (f := 11) rfl ?_); refine goesL_ (some 130) rfl rfl Try.func11 (by kernel_rfl) rfl #[.slice A1 l1.length c1] rfl (by (try simp only [List.map_toArray, List.map_cons, List.map_nil]); first | done | rfl | (simp only [List.length_drop, List.length_take]; rfl)) ?_; (with_reducible refine (laws_toIntS.calls kj52 _ _ l1 t289 _ ?side1 ?side2 A79.out).mono ?_); (case side1 => repeat (first | exact (Kd.C_below HR1.out HB.out) | (with_reducible refine Kd.C_alloc ?_ _) | (with_reducible refine Kd.C_drewN ?_ _) | (with_reducible refine Kd.C_drew ?_))); (case side2 => exact HC1.out); rintro e w86 ⟨v290, rfl, ho0, hb⟩; refine ⟨_, rfl, ?_⟩; have n0_ := Aside0.mk (Kd.R_elder' (by (with_reducible repeat (first | apply Kd.R_alloc | apply Kd.R_drewN | apply Kd.R_drew)); exact HO_8.out) (Kd.R_base ho0) hb); have n1_ := Aside0.mk (Kd.R_elder' (by (with_reducible repeat (first | apply Kd.R_alloc | apply Kd.R_drewN | apply Kd.R_drew)); exact HO_14.out) (Kd.R_base ho0) hb); have n2_ := Aside0.mk (Kd.S_elder' (by (with_reducible repeat (first | apply Kd.S_alloc | apply Kd.S_drewN | apply Kd.S_drew)); exact HO288.out) (Kd.R_base ho0) hb); have n3_ := Aside0.mk (Kd.R_lower (Kd.R_new' (Kd.R_new' ho0 (Kd.R_lt (by (with_reducible repeat (first | apply Kd.R_alloc | apply Kd.R_drewN | apply Kd.R_drew)); exact HO_8.out))) (Kd.R_lt (by (with_reducible repeat (first | apply Kd.R_alloc | apply Kd.R_drewN | apply Kd.R_drew)); exact HO_14.out))) (below_size (by repeat (first | (with_reducible first | exact HB.out | apply below_alloc | apply pw_below_drewN | apply below_drew1) | exact HB.out)))); have n4_ := Aside0.mk (below_step (by repeat (first | (with_reducible first | exact HB.out | apply below_alloc | apply pw_below_drewN | apply below_drew1) | exact HB.out)) hb); clear HO_8; clear HO_14; clear HO288; clear HB; have HO_8 := n0_; have HO_14 := n1_; have HO288 := n2_; have HO291 := n3_; have HB := n4_; clear n0_ n1_ n2_ n3_ n4_; (try clear hb); (try clear hb2); (try clear hk); (try clear hi); (try clear ho0)) | ((with_reducible refine gate_callee (f := 11) rfl ?_); refine goesL_ (some 132) rfl rfl Try.func11 (by kernel_rfl) rfl #[.slice A2 l2.length c2] rfl (by (try simp only [List.map_toArray, List.map_cons, List.map_nil]); first | done | rfl | (simp only [List.length_drop, List.length_take]; rfl)) ?_; (with_reducible refine (laws_toIntS.calls kj52 _ _ l2 t292 _ ?side1 ?side2 A80.out).mono ?_); (case side1 => repeat (first | exact (Kd.C_below HR2.out HB.out) | (with_reducible refine Kd.C_alloc ?_ _) | (with_reducible refine Kd.C_drewN ?_ _) | (with_reducible refine Kd.C_drew ?_))); (case side2 => exact HC2.out); rintro e w87 ⟨v293, rfl, ho0, hb⟩; refine ⟨_, rfl, ?_⟩; have n0_ := Aside0.mk (Kd.R_elder' (by (with_reducible repeat (first | apply Kd.R_alloc | apply Kd.R_drewN | apply Kd.R_drew)); exact HO_8.out) (Kd.R_base ho0) hb); have n1_ := Aside0.mk (Kd.R_elder' (by (with_reducible repeat (first | apply Kd.R_alloc | apply Kd.R_drewN | apply Kd.R_drew)); exact HO_14.out) (Kd.R_base ho0) hb); have n2_ := Aside0.mk (Kd.S_elder' (by (with_reducible repeat (first | apply Kd.S_alloc | apply Kd.S_drewN | apply Kd.S_drew)); exact HO288.out) (Kd.R_base ho0) hb); have n3_ := Aside0.mk (Kd.R_elder' (by (with_reducible repeat (first | apply Kd.R_alloc | apply Kd.R_drewN | apply Kd.R_drew)); exact HO291.out) (Kd.R_base ho0) hb); have n4_ := Aside0.mk (Kd.R_lower (Kd.R_new' (Kd.R_new' (Kd.R_new' ho0 (Kd.R_lt (by (with_reducible repeat (first | apply Kd.R_alloc | apply Kd.R_drewN | apply Kd.R_drew)); exact HO_8.out))) (Kd.R_lt (by (with_reducible repeat (first | apply Kd.R_alloc | apply Kd.R_drewN | apply Kd.R_drew)); exact HO_14.out))) (Kd.R_lt (by (with_reducible repeat (first | apply Kd.R_alloc | apply Kd.R_drewN | apply Kd.R_drew)); exact HO291.out))) (below_size (by repeat (first | (with_reducible first | exact HB.out | apply below_alloc | apply pw_below_drewN | apply below_drew1) | exact HB.out)))); have n5_ := Aside0.mk (below_step (by repeat (first | (with_reducible first | exact HB.out | apply below_alloc | apply pw_below_drewN | apply below_drew1) | exact HB.out)) hb); clear HO_8; clear HO_14; clear HO288; clear HO291; clear HB; have HO_8 := n0_; have HO_14 := n1_; have HO288 := n2_; have HO291 := n3_; have HO294 := n4_; have HB := n5_; clear n0_ n1_ n2_ n3_ n4_ n5_; (try clear hb); (try clear hb2); (try clear hk); (try clear hi); (try clear ho0); obtain ⟨Ao88, co88, eo88⟩ := Kd.S_slice HO288.out; subst eo88; obtain ⟨Ao89, co89, eo89⟩ := Kd.R_slice HO291.out; subst eo89; obtain ⟨Ao90, co90, eo90⟩ := Kd.R_slice HO294.out; subst eo90) | ((with_reducible refine gate_callee (f := 19) rfl ?_); refine goesL_ (some 133) rfl rfl Try.func19 (by kernel_rfl) rfl #[.slice Ao88 t286.length co88, .slice Ao89 t289.length co89, .slice Ao90 t292.length co90] rfl (by (try simp only [List.map_toArray, List.map_cons, List.map_nil]); first | done | rfl | (simp only [List.length_drop, List.length_take]; rfl)) ?_; (with_reducible refine (impl_CheapestKits.calls kj52 _ _ t286 _ _ t289 _ _ t292 t295 t296 t297 _ ?side1 ?side2 ?side3 ?side4 ?side5 ?side6 A81.out).mono ?_); (case side1 => repeat (first | exact (Kd.S_reads' HO288.out).2.2 | (with_reducible refine Kd.C_alloc ?_ _) | (with_reducible refine Kd.C_drewN ?_ _) | (with_reducible refine Kd.C_drew ?_))); (case side2 => exact (Kd.S_reads' HO288.out).2.1); (case side3 => repeat (first | exact (Kd.R_reads' HO291.out).2.2 | (with_reducible refine Kd.C_alloc ?_ _) | (with_reducible refine Kd.C_drewN ?_ _) | (with_reducible refine Kd.C_drew ?_))); (case side4 => exact (Kd.R_reads' HO291.out).2.1); (case side5 => repeat (first | exact (Kd.R_reads' HO294.out).2.2 | (with_reducible refine Kd.C_alloc ?_ _) | (with_reducible refine Kd.C_drewN ?_ _) | (with_reducible refine Kd.C_drew ?_))); (case side6 => exact (Kd.R_reads' HO294.out).2.1); rintro e w91 ⟨v298, rfl, ho0, hb⟩; refine ⟨_, rfl, ?_⟩; have n0_ := Aside0.mk (Kd.R_elder' (by (with_reducible repeat (first | apply Kd.R_alloc | apply Kd.R_drewN | apply Kd.R_drew)); exact HO_8.out) (Kd.R_base ho0) hb); have n1_ := Aside0.mk (Kd.R_elder' (by (with_reducible repeat (first | apply Kd.R_alloc | apply Kd.R_drewN | apply Kd.R_drew)); exact HO_14.out) (Kd.R_base ho0) hb); have n2_ := Aside0.mk (Kd.S_elder' (by (with_reducible repeat (first | apply Kd.S_alloc | apply Kd.S_drewN | apply Kd.S_drew)); exact HO288.out) (Kd.R_base ho0) hb); have n3_ := Aside0.mk (Kd.R_elder' (by (with_reducible repeat (first | apply Kd.R_alloc | apply Kd.R_drewN | apply Kd.R_drew)); exact HO291.out) (Kd.R_base ho0) hb); have n4_ := Aside0.mk (Kd.R_elder' (by (with_reducible repeat (first | apply Kd.R_alloc | apply Kd.R_drewN | apply Kd.R_drew)); exact HO294.out) (Kd.R_base ho0) hb); have n5_ := Aside0.mk (Kd.R_lower (Kd.R_new' (Kd.R_new' (Kd.R_new' (Kd.R_new' ho0 (Kd.R_lt (by (with_reducible repeat (first | apply Kd.R_alloc | apply Kd.R_drewN | apply Kd.R_drew)); exact HO_8.out))) (Kd.R_lt (by (with_reducible repeat (first | apply Kd.R_alloc | apply Kd.R_drewN | apply Kd.R_drew)); exact HO_14.out))) (Kd.R_lt (by (with_reducible repeat (first | apply Kd.R_alloc | apply Kd.R_drewN | apply Kd.R_drew)); exact HO291.out))) (Kd.R_lt (by (with_reducible repeat (first | apply Kd.R_alloc | apply Kd.R_drewN | apply Kd.R_drew)); exact HO294.out))) (below_size (by repeat (first | (with_reducible first | exact HB.out | apply below_alloc | apply pw_below_drewN | apply below_drew1) | exact HB.out)))); have n6_ := Aside0.mk (below_step (by repeat (first | (with_reducible first | exact HB.out | apply below_alloc | apply pw_below_drewN | apply below_drew1) | exact HB.out)) hb); clear HO_8; clear HO_14; clear HO288; clear HO291; clear HO294; clear HB; have HO_8 := n0_; have HO_14 := n1_; have HO288 := n2_; have HO291 := n3_; have HO294 := n4_; have HO299 := n5_; have HB := n6_; clear n0_ n1_ n2_ n3_ n4_ n5_ n6_; (try clear hb); (try clear hb2); (try clear hk); (try clear hi); (try clear ho0)))
                              (try simp only [Act.put, List.setIfInBounds_toArray, List.set_cons_zero, List.set_cons_succ])
                              go_cut [150] (fun v150 wc => ∃ (kq : Nat) (x150_81 : Bool), v150 = .bool x150_81 ∧ Aside0 (laws_FnExactCheapestKits.j2 kq t284 t283 x150_81 = some true) ∧ Aside0 (kq ≤ kj52) ∧ Aside0 (Kd.R (Kd.int .i64) 3 wc w.heap.size (fun _ => True) (.slice Ao83 t259.length co83) t284) ∧ Aside0 (Below w.heap.size w wc))
                              case first =>
                                have H := HC82.out
                                clear HC82
                                replace H := Option.bind_eq_some_iff.mp H
                                obtain ⟨t300, A920, H⟩ := H
                                replace H : (if t300 = true then (if t296 = t246 then (laws_FnExactCheapestKits.j2 kj52 t284 t283 (t297 != t247)) else (laws_FnExactCheapestKits.j2 kj52 t284 t283 true)) else (laws_FnExactCheapestKits.j2 kj52 t284 t283 true)) = some true := H
                                have A92 := Aside0.mk A920
                                clear A920
                                by_cases c93 : t300 = true
                                · subst c93
                                  have H1 : (if t296 = t246 then (laws_FnExactCheapestKits.j2 kj52 t284 t283 (t297 != t247)) else (laws_FnExactCheapestKits.j2 kj52 t284 t283 true)) = some true := by rw [if_pos rfl] at H; exact H
                                  clear H
                                  have H := H1
                                  clear H1
                                  by_cases c94 : t296 = t246
                                  · rw [if_pos c94] at H
                                    have c94b0 : (t296 == t246) = true := beq_iff_eq.mpr c94
                                    have c94b1 : (t296 != t246) = false := bne_eq_false_iff_eq.mpr c94
                                    clear c94
                                    (first | rw [c94b0] | (simp only [i64_w, i32_w]; rw [c94b0]) | skip)
                                    have H' := Aside0.mk H
                                    clear H
                                    obtain ⟨Ao95, co95, eo95⟩ := Kd.R_slice HO299.out
                                    subst eo95
                                    obtain ⟨Ao96, co96, eo96⟩ := Kd.R_slice HO_8.out
                                    subst eo96
                                    go_wp2_with (first | ((with_reducible refine gate_callee (f := 13) rfl ?_); refine goesL_ (some 139) rfl rfl Try.func13 (by kernel_rfl) rfl #[.slice Ao95 t295.length co95, .slice Ao96 t245.length co96] rfl (by (try simp only [List.map_toArray, List.map_cons, List.map_nil]); first | done | rfl | (simp only [List.length_drop, List.length_take]; rfl)) ?_; (with_reducible refine (laws_eqIntS.calls kj52 _ _ t295 _ _ t245 true _ ?side1 ?side2 ?side3 ?side4 A92.out).mono ?_); (case side1 => repeat (first | exact (Kd.R_reads' HO299.out).2.2 | (with_reducible refine Kd.C_alloc ?_ _) | (with_reducible refine Kd.C_drewN ?_ _) | (with_reducible refine Kd.C_drew ?_))); (case side2 => exact (Kd.R_reads' HO299.out).2.1); (case side3 => repeat (first | exact (Kd.R_reads' HO_8.out).2.2 | (with_reducible refine Kd.C_alloc ?_ _) | (with_reducible refine Kd.C_drewN ?_ _) | (with_reducible refine Kd.C_drew ?_))); (case side4 => exact (Kd.R_reads' HO_8.out).2.1); rintro e w' ⟨rfl, ⟨nd, rfl⟩⟩; refine ⟨_, rfl, ?_⟩))
                                    go_meet
                                    case rel => exact ⟨_, ((t297 != t247)), (by first | rfl | (simp; done) | (simp [*]; done)), H', ⟨by have := HJ15.out; have := HJ52.out; first | omega | exact Nat.le_refl _⟩, ⟨by (with_reducible repeat (first | apply Kd.R_alloc | apply Kd.R_drewN | apply Kd.R_drew)); exact Kd.R_mono HO_14.out (fun _ hk => trivial)⟩, ⟨by repeat (first | (with_reducible first | exact HB.out | apply below_alloc | apply pw_below_drewN | apply below_drew1) | exact HB.out)⟩⟩
                                  · rw [if_neg c94] at H
                                    have c94b0 : (t296 == t246) = false := beq_eq_false_iff_ne.mpr c94
                                    have c94b1 : (t296 != t246) = true := bne_iff_ne.mpr c94
                                    (first | rw [c94b0] | (simp only [i64_w, i32_w]; rw [c94b0]) | skip)
                                    have H' := Aside0.mk H
                                    clear H
                                    obtain ⟨Ao97, co97, eo97⟩ := Kd.R_slice HO299.out
                                    subst eo97
                                    obtain ⟨Ao98, co98, eo98⟩ := Kd.R_slice HO_8.out
                                    subst eo98
                                    go_wp2_with (first | ((with_reducible refine gate_callee (f := 13) rfl ?_); refine goesL_ (some 139) rfl rfl Try.func13 (by kernel_rfl) rfl #[.slice Ao97 t295.length co97, .slice Ao98 t245.length co98] rfl (by (try simp only [List.map_toArray, List.map_cons, List.map_nil]); first | done | rfl | (simp only [List.length_drop, List.length_take]; rfl)) ?_; (with_reducible refine (laws_eqIntS.calls kj52 _ _ t295 _ _ t245 true _ ?side1 ?side2 ?side3 ?side4 A92.out).mono ?_); (case side1 => repeat (first | exact (Kd.R_reads' HO299.out).2.2 | (with_reducible refine Kd.C_alloc ?_ _) | (with_reducible refine Kd.C_drewN ?_ _) | (with_reducible refine Kd.C_drew ?_))); (case side2 => exact (Kd.R_reads' HO299.out).2.1); (case side3 => repeat (first | exact (Kd.R_reads' HO_8.out).2.2 | (with_reducible refine Kd.C_alloc ?_ _) | (with_reducible refine Kd.C_drewN ?_ _) | (with_reducible refine Kd.C_drew ?_))); (case side4 => exact (Kd.R_reads' HO_8.out).2.1); rintro e w' ⟨rfl, ⟨nd, rfl⟩⟩; refine ⟨_, rfl, ?_⟩))
                                    go_meet
                                    case rel => exact ⟨_, (true), (by first | rfl | (simp; done) | (simp [*]; done)), H', ⟨by have := HJ15.out; have := HJ52.out; first | omega | exact Nat.le_refl _⟩, ⟨by (with_reducible repeat (first | apply Kd.R_alloc | apply Kd.R_drewN | apply Kd.R_drew)); exact Kd.R_mono HO_14.out (fun _ hk => trivial)⟩, ⟨by repeat (first | (with_reducible first | exact HB.out | apply below_alloc | apply pw_below_drewN | apply below_drew1) | exact HB.out)⟩⟩
                                · replace c93 := Bool.eq_false_iff.mpr c93
                                  subst c93
                                  have H1 : (laws_FnExactCheapestKits.j2 kj52 t284 t283 true) = some true := by rw [if_neg (show ¬ (false = true) by decide)] at H; exact H
                                  clear H
                                  have H := H1
                                  clear H1
                                  have H' := Aside0.mk H
                                  clear H
                                  obtain ⟨Ao99, co99, eo99⟩ := Kd.R_slice HO299.out
                                  subst eo99
                                  obtain ⟨Ao100, co100, eo100⟩ := Kd.R_slice HO_8.out
                                  subst eo100
                                  go_wp2_with (first | ((with_reducible refine gate_callee (f := 13) rfl ?_); refine goesL_ (some 139) rfl rfl Try.func13 (by kernel_rfl) rfl #[.slice Ao99 t295.length co99, .slice Ao100 t245.length co100] rfl (by (try simp only [List.map_toArray, List.map_cons, List.map_nil]); first | done | rfl | (simp only [List.length_drop, List.length_take]; rfl)) ?_; (with_reducible refine (laws_eqIntS.calls kj52 _ _ t295 _ _ t245 false _ ?side1 ?side2 ?side3 ?side4 A92.out).mono ?_); (case side1 => repeat (first | exact (Kd.R_reads' HO299.out).2.2 | (with_reducible refine Kd.C_alloc ?_ _) | (with_reducible refine Kd.C_drewN ?_ _) | (with_reducible refine Kd.C_drew ?_))); (case side2 => exact (Kd.R_reads' HO299.out).2.1); (case side3 => repeat (first | exact (Kd.R_reads' HO_8.out).2.2 | (with_reducible refine Kd.C_alloc ?_ _) | (with_reducible refine Kd.C_drewN ?_ _) | (with_reducible refine Kd.C_drew ?_))); (case side4 => exact (Kd.R_reads' HO_8.out).2.1); rintro e w' ⟨rfl, ⟨nd, rfl⟩⟩; refine ⟨_, rfl, ?_⟩))
                                  go_meet
                                  case rel => exact ⟨_, (true), (by first | rfl | (simp; done) | (simp [*]; done)), H', ⟨by have := HJ15.out; have := HJ52.out; first | omega | exact Nat.le_refl _⟩, ⟨by (with_reducible repeat (first | apply Kd.R_alloc | apply Kd.R_drewN | apply Kd.R_drew)); exact Kd.R_mono HO_14.out (fun _ hk => trivial)⟩, ⟨by repeat (first | (with_reducible first | exact HB.out | apply below_alloc | apply pw_below_drewN | apply below_drew1) | exact HB.out)⟩⟩
                              case rest =>
                                clear HC82
                                try clear c1
                                try clear c2
                                try clear p2
                                try clear c3
                                try clear c4
                                try clear c4b0
                                try clear c4b1
                                try clear c5
                                try clear c5b0
                                try clear c5b1
                                try clear c6
                                try clear c7
                                try clear c7b0
                                try clear c8
                                try clear c9
                                try clear c10
                                try clear c11
                                try clear c13
                                try clear c14
                                try clear c15
                                try clear c16
                                try clear c17
                                try clear c18
                                try clear c19
                                try clear c32
                                try clear c33
                                try clear c33b0
                                try clear c33b1
                                try clear c40
                                try clear c43
                                try clear c46
                                try clear c49
                                try clear c63
                                try clear c63b0
                                try clear c65
                                try clear c66
                                try clear c66b0
                                try clear c66b1
                                try clear c73
                                try clear c76
                                try clear c76b0
                                try clear c77
                                try clear c77b0
                                try clear c77b1
                                try clear c93
                                try clear c94
                                try clear c94b0
                                try clear c94b1
                                try clear p2
                                obtain ⟨kq, x150_81, rfl, HA, HJ81, HO_14, HB⟩ := hcut
                                have hl14_81 := (Kd.R_reads' HO_14.out).1
                                rw [hl14_81] at HO_14
                                (try simp only [hl14_81])
                                cases kq with
                                | zero => exact absurd HA.out (by simp [laws_FnExactCheapestKits.j2])
                                | succ kj81 =>
                                  have H := HA.out
                                  clear HA
                                  simp only [laws_FnExactCheapestKits.j2] at H
                                  by_cases c101 : x150_81 = true
                                  · subst c101
                                    have H1 : (some false) = some true := by rw [if_pos rfl] at H; exact H
                                    clear H
                                    have H := H1
                                    clear H1
                                    exact absurd H (by simp)
                                  · replace c101 := Bool.eq_false_iff.mpr c101
                                    subst c101
                                    have H1 : ((laws_heldIntS.f kj81 t284 1).bind fun t301 => (if t301 < 0 then (some false) else (if t301 = t283 then (some true) else (some false)))) = some true := by rw [if_neg (show ¬ (false = true) by decide)] at H; exact H
                                    clear H
                                    have H := H1
                                    clear H1
                                    replace H := Option.bind_eq_some_iff.mp H
                                    obtain ⟨t301, A1020, H⟩ := H
                                    replace H : (if t301 < 0 then (some false) else (if t301 = t283 then (some true) else (some false))) = some true := H
                                    have A102 := Aside0.mk A1020
                                    clear A1020
                                    by_cases c103 : t301 < 0
                                    · rw [if_pos c103] at H
                                      have c103b0 : decide (t301 < 0) = true := decide_eq_true c103
                                      clear c103
                                      exact absurd H (by simp)
                                    · rw [if_neg c103] at H
                                      have c103b0 : decide (t301 < 0) = false := decide_eq_false c103
                                      clear c103
                                      by_cases c104 : t301 = t283
                                      · rw [if_pos c104] at H
                                        have c104b0 : (t301 == t283) = true := beq_iff_eq.mpr c104
                                        have c104b1 : (t301 != t283) = false := bne_eq_false_iff_eq.mpr c104
                                        clear c104
                                        have HRT := Option.some.inj H
                                        clear H
                                        go_wp2_with (first | ((with_reducible refine gate_callee (f := 17) rfl ?_); refine goesL_ (some 153) rfl rfl Try.func17 (by kernel_rfl) rfl #[.slice Ao83 t284.length co83, .int .i64 1] rfl (by (try simp only [List.map_toArray, List.map_cons, List.map_nil]); first | done | rfl | (simp only [List.length_drop, List.length_take]; rfl)) ?_; (with_reducible refine (laws_heldIntS.calls kj81 _ _ t284 1 t301 _ ?side1 ?side2 A102.out).mono ?_); (case side1 => repeat (first | exact (Kd.R_reads' HO_14.out).2.2 | (with_reducible refine Kd.C_alloc ?_ _) | (with_reducible refine Kd.C_drewN ?_ _) | (with_reducible refine Kd.C_drew ?_))); (case side2 => exact (Kd.R_reads' HO_14.out).2.1); rintro e w' ⟨rfl, ⟨nd, rfl⟩⟩; refine ⟨_, rfl, ?_⟩))
                                        go_ret
                                        exact ⟨by first | rfl | (simp [errW_none, errW_some] <;> rfl) | (simp [*, errW_none, errW_some] <;> rfl), by repeat (first | (with_reducible first | exact HB.out | apply below_alloc | apply pw_below_drewN | apply below_drew1) | exact HB.out)⟩
                                      · rw [if_neg c104] at H
                                        have c104b0 : (t301 == t283) = false := beq_eq_false_iff_ne.mpr c104
                                        have c104b1 : (t301 != t283) = true := bne_iff_ne.mpr c104
                                        exact absurd H (by simp)
                            · rw [if_neg c77] at H
                              have c77b0 : (t285 == t283) = false := beq_eq_false_iff_ne.mpr c77
                              have c77b1 : (t285 != t283) = true := bne_iff_ne.mpr c77
                              exact absurd H (by simp)
                  · replace c49 := Bool.eq_false_iff.mpr c49
                    subst c49
                    have H1 : (some false) = some true := by rw [if_neg (show ¬ (false = true) by decide)] at H; exact H
                    clear H
                    have H := H1
                    clear H1
                    exact absurd H (by simp)
                · replace c46 := Bool.eq_false_iff.mpr c46
                  subst c46
                  have H1 : (some false) = some true := by rw [if_neg (show ¬ (false = true) by decide)] at H; exact H
                  clear H
                  have H := H1
                  clear H1
                  exact absurd H (by simp)
              · replace c43 := Bool.eq_false_iff.mpr c43
                subst c43
                have H1 : (some false) = some true := by rw [if_neg (show ¬ (false = true) by decide)] at H; exact H
                clear H
                have H := H1
                clear H1
                exact absurd H (by simp)

end Go.Proofs.Ytbojcipcdefipaa.XKits
