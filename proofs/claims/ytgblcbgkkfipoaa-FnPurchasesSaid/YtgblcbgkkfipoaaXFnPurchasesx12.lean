/- Written by xprint.py, a program of this session, out of the translation: what Go functions compute, as Lean functions, proved over the program. -/
import Derived.Test.YtgblcbgkkfipoaaXFnPurchasesx0
import Derived.Test.YtgblcbgkkfipoaaXFnPurchasesx1
import Derived.Test.YtgblcbgkkfipoaaXFnPurchasesx2
import Derived.Test.YtgblcbgkkfipoaaXFnPurchasesx3
import Derived.Test.YtgblcbgkkfipoaaXFnPurchasesx5
import Derived.Test.YtgblcbgkkfipoaaXFnPurchasesx7
import Derived.Test.YtgblcbgkkfipoaaXFnPurchasesx8
import Derived.Test.YtgblcbgkkfipoaaXFnPurchasesx9
import Derived.Test.YtgblcbgkkfipoaaXFnPurchasesx11
import Derived.Test.YtgblcbgkkfipoaaWQuickB
namespace Go.Proofs.Ytgblcbgkkfipoaa.XFnPurchases
open Go.RowKit Go.Proofs.YtgblcbgkkfipoaaW.PrintWords Go.Proofs.YtgblcbgkkfipoaaW.PrintLast Go.Proofs.YtgblcbgkkfipoaaW.PrintMore
attribute [local go_sem] max2_int min2_int max_two min_two max_three min_three max_four min_four   -- for this text's walks alone
set_option linter.unusedVariables false
set_option linter.unusedSimpArgs false

/-! ### laws_FnPurchases: function 7 -/
mutual
def laws_FnPurchases.j0 : Nat → List Int → List (List Int) → List Int → List Int → Bool → List Int → Int → List Int → Bool → Option (Bool)
 | 0, _, _, _, _, _, _, _, _, _ => none
 | k + 1, x1, x5, x6, x7, x10, x11, x12, x16, x117 => if x117 = true then (some false) else (if x10 = true then (if 7 ≤ 35184372088832 then (laws_FnPurchases.l0 k x1 x5 x6 x7 x11 x12 x16 0 0 (List.replicate 7 0) (List.replicate 7 0) x11 (x11.length : Int) 0) else (none)) else (laws_FnPurchases.j6 k x1))
def laws_FnPurchases.j6 : Nat → List Int → Option (Bool)
 | 0, _ => none
 | k + 1, x1 => (spec_DrawKitPrice.f k x1).bind fun bt613 => ((impl_KitPrice.f k bt613.1 bt613.2).bind fun bt619 => ((spec_KitPrice.f k bt613.1 bt613.2).bind fun bt621 => ((spec_DrawFewestKits.f k x1).bind fun bt623 => ((impl_FewestKits.f k bt623.1 bt623.2).bind fun bt629 => ((spec_FewestKits.f k bt623.1 bt623.2).bind fun bt633 => ((spec_DrawNeededParts.f k x1).bind fun bt637 => ((impl_NeededParts.f k bt637.1 bt637.2.1 bt637.2.2).bind fun bt643 => ((spec_NeededParts.f k bt637.1 bt637.2.1 bt637.2.2).bind fun bt647 => (if (bt619.2 == bt621.2) = true then (if bt619.1 = bt621.1 then (if (bt629.2 == bt633.2) = true then ((laws_sameInts.f k bt629.1 bt633.1).bind fun t651 => (if t651 = true then (if (bt643.2 == bt647.2) = true then ((laws_sameInts.f k bt643.1 bt647.1).bind fun t652 => (some t652)) else (some false)) else (some false))) else (some false)) else (some false)) else (some false))))))))))
def laws_FnPurchases.l0 : Nat → List Int → List (List Int) → List Int → List Int → List Int → Int → List Int → Int → Int → List Int → List Int → List Int → Int → Int → Option (Bool)
 | 0, _, _, _, _, _, _, _, _, _, _, _, _, _, _ => none
 | k + 1, x1, x5, x6, x7, x11, x12, x16, x18, x19, x20, x21, x121, x122, x123 => if x123 < x122 then (if 0 ≤ x123 then (if x123 < (x121.length : Int) then (if 0 ≤ (rd x121 x123) then (if (rd x121 x123) < (x6.length : Int) then (if (rd x121 x123) < (x5.length : Int) then (laws_FnPurchases.l1 k x1 x5 x6 x7 x11 x12 x16 (wrap64 (x18 + (rd x6 (rd x121 x123)))) x19 x20 x21 x121 x122 x123 (rd_L3 x5 (rd x121 x123)) ((rd_L3 x5 (rd x121 x123)).length : Int) 0) else (none)) else (none)) else (none)) else (none)) else (none)) else (laws_FnPurchases.l2 k x1 x5 x6 x7 x11 x12 x16 x18 x19 x20 x21 x16 (x16.length : Int) 0)
def laws_FnPurchases.l1 : Nat → List Int → List (List Int) → List Int → List Int → List Int → Int → List Int → Int → Int → List Int → List Int → List Int → Int → Int → List Int → Int → Int → Option (Bool)
 | 0, _, _, _, _, _, _, _, _, _, _, _, _, _, _, _, _, _ => none
 | k + 1, x1, x5, x6, x7, x11, x12, x16, x18, x19, x20, x21, x121, x122, x123, x136, x137, x138 => if x138 < x137 then (if 0 ≤ x138 then (if x138 < (x136.length : Int) then (if x138 < (x20.length : Int) then (laws_FnPurchases.l1 k x1 x5 x6 x7 x11 x12 x16 x18 x19 (x20.set (x138 : Int).toNat (wrap64 ((rd x20 x138) + (rd x136 x138)))) x21 x121 x122 x123 x136 x137 (wrap64 (x138 + 1))) else (none)) else (none)) else (none)) else (laws_FnPurchases.l0 k x1 x5 x6 x7 x11 x12 x16 x18 x19 x20 x21 x121 x122 (wrap64 (x123 + 1)))
def laws_FnPurchases.l2 : Nat → List Int → List (List Int) → List Int → List Int → List Int → Int → List Int → Int → Int → List Int → List Int → List Int → Int → Int → Option (Bool)
 | 0, _, _, _, _, _, _, _, _, _, _, _, _, _, _ => none
 | k + 1, x1, x5, x6, x7, x11, x12, x16, x18, x19, x20, x21, x152, x153, x154 => if x154 < x153 then (if 0 ≤ x154 then (if x154 < (x152.length : Int) then (if 0 ≤ (rd x152 x154) then (if (rd x152 x154) < (x6.length : Int) then (if (rd x152 x154) < (x5.length : Int) then (laws_FnPurchases.l3 k x1 x5 x6 x7 x11 x12 x16 x18 (wrap64 (x19 + (rd x6 (rd x152 x154)))) x20 x21 x152 x153 x154 (rd_L3 x5 (rd x152 x154)) ((rd_L3 x5 (rd x152 x154)).length : Int) 0) else (none)) else (none)) else (none)) else (none)) else (none)) else (laws_FnPurchases.l4 k x1 x11 x12 x16 x18 x19 x20 x21 x7 (x7.length : Int) 0)
def laws_FnPurchases.l3 : Nat → List Int → List (List Int) → List Int → List Int → List Int → Int → List Int → Int → Int → List Int → List Int → List Int → Int → Int → List Int → Int → Int → Option (Bool)
 | 0, _, _, _, _, _, _, _, _, _, _, _, _, _, _, _, _, _ => none
 | k + 1, x1, x5, x6, x7, x11, x12, x16, x18, x19, x20, x21, x152, x153, x154, x167, x168, x169 => if x169 < x168 then (if 0 ≤ x169 then (if x169 < (x167.length : Int) then (if x169 < (x21.length : Int) then (laws_FnPurchases.l3 k x1 x5 x6 x7 x11 x12 x16 x18 x19 x20 (x21.set (x169 : Int).toNat (wrap64 ((rd x21 x169) + (rd x167 x169)))) x152 x153 x154 x167 x168 (wrap64 (x169 + 1))) else (none)) else (none)) else (none)) else (laws_FnPurchases.l2 k x1 x5 x6 x7 x11 x12 x16 x18 x19 x20 x21 x152 x153 (wrap64 (x154 + 1)))
def laws_FnPurchases.l4 : Nat → List Int → List Int → Int → List Int → Int → Int → List Int → List Int → List Int → Int → Int → Option (Bool)
 | 0, _, _, _, _, _, _, _, _, _, _, _ => none
 | k + 1, x1, x11, x12, x16, x18, x19, x20, x21, x183, x184, x185 => if x185 < x184 then (if 0 ≤ x185 then (if x185 < (x183.length : Int) then (if x185 < (x20.length : Int) then (if (rd x20 x185) < (rd x183 x185) then (some false) else (if x185 < (x21.length : Int) then (if (rd x21 x185) < (rd x183 x185) then (some false) else (laws_FnPurchases.l4 k x1 x11 x12 x16 x18 x19 x20 x21 x183 x184 (wrap64 (x185 + 1)))) else (none))) else (none)) else (none)) else (none)) else (if x18 = x12 then (if x19 < x12 then (some false) else (if (x16.length : Int) > (x11.length : Int) then (some false) else (laws_FnPurchases.j6 k x1))) else (some false))
end
def laws_FnPurchases.f (k : Nat) (l0 : List Int) (l1 : List Int) : Option (Bool) := (laws_big.f l0 l1).bind fun t562 => (if t562 = true then (some true) else ((spec_DrawCheapestKits.f k l0).bind fun bt563 => ((impl_CheapestKits.f k bt563.1 bt563.2.1 bt563.2.2).bind fun bt572 => ((spec_CheapestKits.f k bt563.1 bt563.2.1 bt563.2.2).bind fun bt577 => ((impl_FewestKits.f k bt563.1 bt563.2.2).bind fun bt582 => ((spec_FewestKits.f k bt563.1 bt563.2.2).bind fun bt586 => (if (bt572.2.2 != bt577.2.2) = true then (laws_FnPurchases.j0 k l1 bt563.1 bt563.2.1 bt563.2.2 bt572.2.2 bt577.1 bt577.2.1 bt586.1 true) else ((laws_sameInts.f k bt572.1 bt577.1).bind fun t590 => (if t590 = true then (if bt572.2.1 = bt577.2.1 then (if (bt582.2 != bt586.2) = true then (laws_FnPurchases.j0 k l1 bt563.1 bt563.2.1 bt563.2.2 bt572.2.2 bt577.1 bt577.2.1 bt586.1 true) else ((laws_sameInts.f k bt582.1 bt586.1).bind fun t591 => (if t591 = true then (if bt572.2.2 = true then (laws_FnPurchases.j0 k l1 bt563.1 bt563.2.1 bt563.2.2 bt572.2.2 bt577.1 bt577.2.1 bt586.1 (!bt582.2)) else (laws_FnPurchases.j0 k l1 bt563.1 bt563.2.1 bt563.2.2 bt572.2.2 bt577.1 bt577.2.1 bt586.1 false)) else (laws_FnPurchases.j0 k l1 bt563.1 bt563.2.1 bt563.2.2 bt572.2.2 bt577.1 bt577.2.1 bt586.1 true)))) else (laws_FnPurchases.j0 k l1 bt563.1 bt563.2.1 bt563.2.2 bt572.2.2 bt577.1 bt577.2.1 bt586.1 true)) else (laws_FnPurchases.j0 k l1 bt563.1 bt563.2.1 bt563.2.2 bt572.2.2 bt577.1 bt577.2.1 bt586.1 true))))))))))
theorem laws_FnPurchases.j0_no : ∀ k y0 y1 y2 y3 y4 y5 y6 y7, laws_FnPurchases.j0 k y0 y1 y2 y3 y4 y5 y6 y7 true = some true → False
 | 0, _, _, _, _, _, _, _, _, h => by simp [laws_FnPurchases.j0] at h
 | k + 1, _, _, _, _, _, _, _, _, h => by simp [laws_FnPurchases.j0] at h
theorem laws_FnPurchases.mono_l : ∀ k, (∀ y0 y1 y2 y3 y4 y5 y6 y7 y8, LeO (laws_FnPurchases.j0 k y0 y1 y2 y3 y4 y5 y6 y7 y8) (laws_FnPurchases.j0 (k + 1) y0 y1 y2 y3 y4 y5 y6 y7 y8)) ∧ (∀ y0, LeO (laws_FnPurchases.j6 k y0) (laws_FnPurchases.j6 (k + 1) y0)) ∧ (∀ y0 y1 y2 y3 y4 y5 y6 y7 y8 y9 y10 y11 y12 y13, LeO (laws_FnPurchases.l0 k y0 y1 y2 y3 y4 y5 y6 y7 y8 y9 y10 y11 y12 y13) (laws_FnPurchases.l0 (k + 1) y0 y1 y2 y3 y4 y5 y6 y7 y8 y9 y10 y11 y12 y13)) ∧ (∀ y0 y1 y2 y3 y4 y5 y6 y7 y8 y9 y10 y11 y12 y13 y14 y15 y16, LeO (laws_FnPurchases.l1 k y0 y1 y2 y3 y4 y5 y6 y7 y8 y9 y10 y11 y12 y13 y14 y15 y16) (laws_FnPurchases.l1 (k + 1) y0 y1 y2 y3 y4 y5 y6 y7 y8 y9 y10 y11 y12 y13 y14 y15 y16)) ∧ (∀ y0 y1 y2 y3 y4 y5 y6 y7 y8 y9 y10 y11 y12 y13, LeO (laws_FnPurchases.l2 k y0 y1 y2 y3 y4 y5 y6 y7 y8 y9 y10 y11 y12 y13) (laws_FnPurchases.l2 (k + 1) y0 y1 y2 y3 y4 y5 y6 y7 y8 y9 y10 y11 y12 y13)) ∧ (∀ y0 y1 y2 y3 y4 y5 y6 y7 y8 y9 y10 y11 y12 y13 y14 y15 y16, LeO (laws_FnPurchases.l3 k y0 y1 y2 y3 y4 y5 y6 y7 y8 y9 y10 y11 y12 y13 y14 y15 y16) (laws_FnPurchases.l3 (k + 1) y0 y1 y2 y3 y4 y5 y6 y7 y8 y9 y10 y11 y12 y13 y14 y15 y16)) ∧ (∀ y0 y1 y2 y3 y4 y5 y6 y7 y8 y9 y10, LeO (laws_FnPurchases.l4 k y0 y1 y2 y3 y4 y5 y6 y7 y8 y9 y10) (laws_FnPurchases.l4 (k + 1) y0 y1 y2 y3 y4 y5 y6 y7 y8 y9 y10))
 | 0 => ⟨fun _ _ _ _ _ _ _ _ _ r h => by simp [laws_FnPurchases.j0] at h, fun _ r h => by simp [laws_FnPurchases.j6] at h, fun _ _ _ _ _ _ _ _ _ _ _ _ _ _ r h => by simp [laws_FnPurchases.l0] at h, fun _ _ _ _ _ _ _ _ _ _ _ _ _ _ _ _ _ r h => by simp [laws_FnPurchases.l1] at h, fun _ _ _ _ _ _ _ _ _ _ _ _ _ _ r h => by simp [laws_FnPurchases.l2] at h, fun _ _ _ _ _ _ _ _ _ _ _ _ _ _ _ _ _ r h => by simp [laws_FnPurchases.l3] at h, fun _ _ _ _ _ _ _ _ _ _ _ r h => by simp [laws_FnPurchases.l4] at h⟩
 | k + 1 => by
  obtain ⟨ih0, ih1, ih2, ih3, ih4, ih5, ih6⟩ := laws_FnPurchases.mono_l k
  refine ⟨?_, ?_, ?_, ?_, ?_, ?_, ?_⟩
  ·intro y0 y1 y2 y3 y4 y5 y6 y7 y8
   unfold laws_FnPurchases.j0
   repeat' first | (with_reducible first | exact ih0 _ _ _ _ _ _ _ _ _ | exact ih1 _ | exact ih2 _ _ _ _ _ _ _ _ _ _ _ _ _ _ | exact ih3 _ _ _ _ _ _ _ _ _ _ _ _ _ _ _ _ _ | exact ih4 _ _ _ _ _ _ _ _ _ _ _ _ _ _ | exact ih5 _ _ _ _ _ _ _ _ _ _ _ _ _ _ _ _ _ | exact ih6 _ _ _ _ _ _ _ _ _ _ _ | exact impl_CheapestKits.mono _ _ _ _ | exact impl_FewestKits.mono _ _ _ | exact impl_KitPrice.mono _ _ _ | exact impl_NeededParts.mono _ _ _ _ | exact laws_sameInts.mono _ _ _ | exact spec_CheapestKits.mono _ _ _ _ | exact spec_DrawCheapestKits.mono _ _ | exact spec_DrawFewestKits.mono _ _ | exact spec_DrawKitPrice.mono _ _ | exact spec_DrawNeededParts.mono _ _ | exact spec_FewestKits.mono _ _ _ | exact spec_KitPrice.mono _ _ _ | exact spec_NeededParts.mono _ _ _ _ | exact LeO.refl _ | exact LeO.none _ | refine LeO.ite ?_ ?_ | refine LeO.bind ?_ (fun _ => ?_)) | exact ih0 _ _ _ _ _ _ _ _ _ | exact ih1 _ | exact ih2 _ _ _ _ _ _ _ _ _ _ _ _ _ _ | exact ih3 _ _ _ _ _ _ _ _ _ _ _ _ _ _ _ _ _ | exact ih4 _ _ _ _ _ _ _ _ _ _ _ _ _ _ | exact ih5 _ _ _ _ _ _ _ _ _ _ _ _ _ _ _ _ _ | exact ih6 _ _ _ _ _ _ _ _ _ _ _ | exact impl_CheapestKits.mono _ _ _ _ | exact impl_FewestKits.mono _ _ _ | exact impl_KitPrice.mono _ _ _ | exact impl_NeededParts.mono _ _ _ _ | exact laws_sameInts.mono _ _ _ | exact spec_CheapestKits.mono _ _ _ _ | exact spec_DrawCheapestKits.mono _ _ | exact spec_DrawFewestKits.mono _ _ | exact spec_DrawKitPrice.mono _ _ | exact spec_DrawNeededParts.mono _ _ | exact spec_FewestKits.mono _ _ _ | exact spec_KitPrice.mono _ _ _ | exact spec_NeededParts.mono _ _ _ _ | exact LeO.none _ | refine LeO.ite ?_ ?_ | refine LeO.bind ?_ (fun _ => ?_)
  ·intro y0
   unfold laws_FnPurchases.j6
   repeat' first | (with_reducible first | exact ih0 _ _ _ _ _ _ _ _ _ | exact ih1 _ | exact ih2 _ _ _ _ _ _ _ _ _ _ _ _ _ _ | exact ih3 _ _ _ _ _ _ _ _ _ _ _ _ _ _ _ _ _ | exact ih4 _ _ _ _ _ _ _ _ _ _ _ _ _ _ | exact ih5 _ _ _ _ _ _ _ _ _ _ _ _ _ _ _ _ _ | exact ih6 _ _ _ _ _ _ _ _ _ _ _ | exact impl_CheapestKits.mono _ _ _ _ | exact impl_FewestKits.mono _ _ _ | exact impl_KitPrice.mono _ _ _ | exact impl_NeededParts.mono _ _ _ _ | exact laws_sameInts.mono _ _ _ | exact spec_CheapestKits.mono _ _ _ _ | exact spec_DrawCheapestKits.mono _ _ | exact spec_DrawFewestKits.mono _ _ | exact spec_DrawKitPrice.mono _ _ | exact spec_DrawNeededParts.mono _ _ | exact spec_FewestKits.mono _ _ _ | exact spec_KitPrice.mono _ _ _ | exact spec_NeededParts.mono _ _ _ _ | exact LeO.refl _ | exact LeO.none _ | refine LeO.ite ?_ ?_ | refine LeO.bind ?_ (fun _ => ?_)) | exact ih0 _ _ _ _ _ _ _ _ _ | exact ih1 _ | exact ih2 _ _ _ _ _ _ _ _ _ _ _ _ _ _ | exact ih3 _ _ _ _ _ _ _ _ _ _ _ _ _ _ _ _ _ | exact ih4 _ _ _ _ _ _ _ _ _ _ _ _ _ _ | exact ih5 _ _ _ _ _ _ _ _ _ _ _ _ _ _ _ _ _ | exact ih6 _ _ _ _ _ _ _ _ _ _ _ | exact impl_CheapestKits.mono _ _ _ _ | exact impl_FewestKits.mono _ _ _ | exact impl_KitPrice.mono _ _ _ | exact impl_NeededParts.mono _ _ _ _ | exact laws_sameInts.mono _ _ _ | exact spec_CheapestKits.mono _ _ _ _ | exact spec_DrawCheapestKits.mono _ _ | exact spec_DrawFewestKits.mono _ _ | exact spec_DrawKitPrice.mono _ _ | exact spec_DrawNeededParts.mono _ _ | exact spec_FewestKits.mono _ _ _ | exact spec_KitPrice.mono _ _ _ | exact spec_NeededParts.mono _ _ _ _ | exact LeO.none _ | refine LeO.ite ?_ ?_ | refine LeO.bind ?_ (fun _ => ?_)
  ·intro y0 y1 y2 y3 y4 y5 y6 y7 y8 y9 y10 y11 y12 y13
   unfold laws_FnPurchases.l0
   repeat' first | (with_reducible first | exact ih0 _ _ _ _ _ _ _ _ _ | exact ih1 _ | exact ih2 _ _ _ _ _ _ _ _ _ _ _ _ _ _ | exact ih3 _ _ _ _ _ _ _ _ _ _ _ _ _ _ _ _ _ | exact ih4 _ _ _ _ _ _ _ _ _ _ _ _ _ _ | exact ih5 _ _ _ _ _ _ _ _ _ _ _ _ _ _ _ _ _ | exact ih6 _ _ _ _ _ _ _ _ _ _ _ | exact impl_CheapestKits.mono _ _ _ _ | exact impl_FewestKits.mono _ _ _ | exact impl_KitPrice.mono _ _ _ | exact impl_NeededParts.mono _ _ _ _ | exact laws_sameInts.mono _ _ _ | exact spec_CheapestKits.mono _ _ _ _ | exact spec_DrawCheapestKits.mono _ _ | exact spec_DrawFewestKits.mono _ _ | exact spec_DrawKitPrice.mono _ _ | exact spec_DrawNeededParts.mono _ _ | exact spec_FewestKits.mono _ _ _ | exact spec_KitPrice.mono _ _ _ | exact spec_NeededParts.mono _ _ _ _ | exact LeO.refl _ | exact LeO.none _ | refine LeO.ite ?_ ?_ | refine LeO.bind ?_ (fun _ => ?_)) | exact ih0 _ _ _ _ _ _ _ _ _ | exact ih1 _ | exact ih2 _ _ _ _ _ _ _ _ _ _ _ _ _ _ | exact ih3 _ _ _ _ _ _ _ _ _ _ _ _ _ _ _ _ _ | exact ih4 _ _ _ _ _ _ _ _ _ _ _ _ _ _ | exact ih5 _ _ _ _ _ _ _ _ _ _ _ _ _ _ _ _ _ | exact ih6 _ _ _ _ _ _ _ _ _ _ _ | exact impl_CheapestKits.mono _ _ _ _ | exact impl_FewestKits.mono _ _ _ | exact impl_KitPrice.mono _ _ _ | exact impl_NeededParts.mono _ _ _ _ | exact laws_sameInts.mono _ _ _ | exact spec_CheapestKits.mono _ _ _ _ | exact spec_DrawCheapestKits.mono _ _ | exact spec_DrawFewestKits.mono _ _ | exact spec_DrawKitPrice.mono _ _ | exact spec_DrawNeededParts.mono _ _ | exact spec_FewestKits.mono _ _ _ | exact spec_KitPrice.mono _ _ _ | exact spec_NeededParts.mono _ _ _ _ | exact LeO.none _ | refine LeO.ite ?_ ?_ | refine LeO.bind ?_ (fun _ => ?_)
  ·intro y0 y1 y2 y3 y4 y5 y6 y7 y8 y9 y10 y11 y12 y13 y14 y15 y16
   unfold laws_FnPurchases.l1
   repeat' first | (with_reducible first | exact ih0 _ _ _ _ _ _ _ _ _ | exact ih1 _ | exact ih2 _ _ _ _ _ _ _ _ _ _ _ _ _ _ | exact ih3 _ _ _ _ _ _ _ _ _ _ _ _ _ _ _ _ _ | exact ih4 _ _ _ _ _ _ _ _ _ _ _ _ _ _ | exact ih5 _ _ _ _ _ _ _ _ _ _ _ _ _ _ _ _ _ | exact ih6 _ _ _ _ _ _ _ _ _ _ _ | exact impl_CheapestKits.mono _ _ _ _ | exact impl_FewestKits.mono _ _ _ | exact impl_KitPrice.mono _ _ _ | exact impl_NeededParts.mono _ _ _ _ | exact laws_sameInts.mono _ _ _ | exact spec_CheapestKits.mono _ _ _ _ | exact spec_DrawCheapestKits.mono _ _ | exact spec_DrawFewestKits.mono _ _ | exact spec_DrawKitPrice.mono _ _ | exact spec_DrawNeededParts.mono _ _ | exact spec_FewestKits.mono _ _ _ | exact spec_KitPrice.mono _ _ _ | exact spec_NeededParts.mono _ _ _ _ | exact LeO.refl _ | exact LeO.none _ | refine LeO.ite ?_ ?_ | refine LeO.bind ?_ (fun _ => ?_)) | exact ih0 _ _ _ _ _ _ _ _ _ | exact ih1 _ | exact ih2 _ _ _ _ _ _ _ _ _ _ _ _ _ _ | exact ih3 _ _ _ _ _ _ _ _ _ _ _ _ _ _ _ _ _ | exact ih4 _ _ _ _ _ _ _ _ _ _ _ _ _ _ | exact ih5 _ _ _ _ _ _ _ _ _ _ _ _ _ _ _ _ _ | exact ih6 _ _ _ _ _ _ _ _ _ _ _ | exact impl_CheapestKits.mono _ _ _ _ | exact impl_FewestKits.mono _ _ _ | exact impl_KitPrice.mono _ _ _ | exact impl_NeededParts.mono _ _ _ _ | exact laws_sameInts.mono _ _ _ | exact spec_CheapestKits.mono _ _ _ _ | exact spec_DrawCheapestKits.mono _ _ | exact spec_DrawFewestKits.mono _ _ | exact spec_DrawKitPrice.mono _ _ | exact spec_DrawNeededParts.mono _ _ | exact spec_FewestKits.mono _ _ _ | exact spec_KitPrice.mono _ _ _ | exact spec_NeededParts.mono _ _ _ _ | exact LeO.none _ | refine LeO.ite ?_ ?_ | refine LeO.bind ?_ (fun _ => ?_)
  ·intro y0 y1 y2 y3 y4 y5 y6 y7 y8 y9 y10 y11 y12 y13
   unfold laws_FnPurchases.l2
   repeat' first | (with_reducible first | exact ih0 _ _ _ _ _ _ _ _ _ | exact ih1 _ | exact ih2 _ _ _ _ _ _ _ _ _ _ _ _ _ _ | exact ih3 _ _ _ _ _ _ _ _ _ _ _ _ _ _ _ _ _ | exact ih4 _ _ _ _ _ _ _ _ _ _ _ _ _ _ | exact ih5 _ _ _ _ _ _ _ _ _ _ _ _ _ _ _ _ _ | exact ih6 _ _ _ _ _ _ _ _ _ _ _ | exact impl_CheapestKits.mono _ _ _ _ | exact impl_FewestKits.mono _ _ _ | exact impl_KitPrice.mono _ _ _ | exact impl_NeededParts.mono _ _ _ _ | exact laws_sameInts.mono _ _ _ | exact spec_CheapestKits.mono _ _ _ _ | exact spec_DrawCheapestKits.mono _ _ | exact spec_DrawFewestKits.mono _ _ | exact spec_DrawKitPrice.mono _ _ | exact spec_DrawNeededParts.mono _ _ | exact spec_FewestKits.mono _ _ _ | exact spec_KitPrice.mono _ _ _ | exact spec_NeededParts.mono _ _ _ _ | exact LeO.refl _ | exact LeO.none _ | refine LeO.ite ?_ ?_ | refine LeO.bind ?_ (fun _ => ?_)) | exact ih0 _ _ _ _ _ _ _ _ _ | exact ih1 _ | exact ih2 _ _ _ _ _ _ _ _ _ _ _ _ _ _ | exact ih3 _ _ _ _ _ _ _ _ _ _ _ _ _ _ _ _ _ | exact ih4 _ _ _ _ _ _ _ _ _ _ _ _ _ _ | exact ih5 _ _ _ _ _ _ _ _ _ _ _ _ _ _ _ _ _ | exact ih6 _ _ _ _ _ _ _ _ _ _ _ | exact impl_CheapestKits.mono _ _ _ _ | exact impl_FewestKits.mono _ _ _ | exact impl_KitPrice.mono _ _ _ | exact impl_NeededParts.mono _ _ _ _ | exact laws_sameInts.mono _ _ _ | exact spec_CheapestKits.mono _ _ _ _ | exact spec_DrawCheapestKits.mono _ _ | exact spec_DrawFewestKits.mono _ _ | exact spec_DrawKitPrice.mono _ _ | exact spec_DrawNeededParts.mono _ _ | exact spec_FewestKits.mono _ _ _ | exact spec_KitPrice.mono _ _ _ | exact spec_NeededParts.mono _ _ _ _ | exact LeO.none _ | refine LeO.ite ?_ ?_ | refine LeO.bind ?_ (fun _ => ?_)
  ·intro y0 y1 y2 y3 y4 y5 y6 y7 y8 y9 y10 y11 y12 y13 y14 y15 y16
   unfold laws_FnPurchases.l3
   repeat' first | (with_reducible first | exact ih0 _ _ _ _ _ _ _ _ _ | exact ih1 _ | exact ih2 _ _ _ _ _ _ _ _ _ _ _ _ _ _ | exact ih3 _ _ _ _ _ _ _ _ _ _ _ _ _ _ _ _ _ | exact ih4 _ _ _ _ _ _ _ _ _ _ _ _ _ _ | exact ih5 _ _ _ _ _ _ _ _ _ _ _ _ _ _ _ _ _ | exact ih6 _ _ _ _ _ _ _ _ _ _ _ | exact impl_CheapestKits.mono _ _ _ _ | exact impl_FewestKits.mono _ _ _ | exact impl_KitPrice.mono _ _ _ | exact impl_NeededParts.mono _ _ _ _ | exact laws_sameInts.mono _ _ _ | exact spec_CheapestKits.mono _ _ _ _ | exact spec_DrawCheapestKits.mono _ _ | exact spec_DrawFewestKits.mono _ _ | exact spec_DrawKitPrice.mono _ _ | exact spec_DrawNeededParts.mono _ _ | exact spec_FewestKits.mono _ _ _ | exact spec_KitPrice.mono _ _ _ | exact spec_NeededParts.mono _ _ _ _ | exact LeO.refl _ | exact LeO.none _ | refine LeO.ite ?_ ?_ | refine LeO.bind ?_ (fun _ => ?_)) | exact ih0 _ _ _ _ _ _ _ _ _ | exact ih1 _ | exact ih2 _ _ _ _ _ _ _ _ _ _ _ _ _ _ | exact ih3 _ _ _ _ _ _ _ _ _ _ _ _ _ _ _ _ _ | exact ih4 _ _ _ _ _ _ _ _ _ _ _ _ _ _ | exact ih5 _ _ _ _ _ _ _ _ _ _ _ _ _ _ _ _ _ | exact ih6 _ _ _ _ _ _ _ _ _ _ _ | exact impl_CheapestKits.mono _ _ _ _ | exact impl_FewestKits.mono _ _ _ | exact impl_KitPrice.mono _ _ _ | exact impl_NeededParts.mono _ _ _ _ | exact laws_sameInts.mono _ _ _ | exact spec_CheapestKits.mono _ _ _ _ | exact spec_DrawCheapestKits.mono _ _ | exact spec_DrawFewestKits.mono _ _ | exact spec_DrawKitPrice.mono _ _ | exact spec_DrawNeededParts.mono _ _ | exact spec_FewestKits.mono _ _ _ | exact spec_KitPrice.mono _ _ _ | exact spec_NeededParts.mono _ _ _ _ | exact LeO.none _ | refine LeO.ite ?_ ?_ | refine LeO.bind ?_ (fun _ => ?_)
  ·intro y0 y1 y2 y3 y4 y5 y6 y7 y8 y9 y10
   unfold laws_FnPurchases.l4
   repeat' first | (with_reducible first | exact ih0 _ _ _ _ _ _ _ _ _ | exact ih1 _ | exact ih2 _ _ _ _ _ _ _ _ _ _ _ _ _ _ | exact ih3 _ _ _ _ _ _ _ _ _ _ _ _ _ _ _ _ _ | exact ih4 _ _ _ _ _ _ _ _ _ _ _ _ _ _ | exact ih5 _ _ _ _ _ _ _ _ _ _ _ _ _ _ _ _ _ | exact ih6 _ _ _ _ _ _ _ _ _ _ _ | exact impl_CheapestKits.mono _ _ _ _ | exact impl_FewestKits.mono _ _ _ | exact impl_KitPrice.mono _ _ _ | exact impl_NeededParts.mono _ _ _ _ | exact laws_sameInts.mono _ _ _ | exact spec_CheapestKits.mono _ _ _ _ | exact spec_DrawCheapestKits.mono _ _ | exact spec_DrawFewestKits.mono _ _ | exact spec_DrawKitPrice.mono _ _ | exact spec_DrawNeededParts.mono _ _ | exact spec_FewestKits.mono _ _ _ | exact spec_KitPrice.mono _ _ _ | exact spec_NeededParts.mono _ _ _ _ | exact LeO.refl _ | exact LeO.none _ | refine LeO.ite ?_ ?_ | refine LeO.bind ?_ (fun _ => ?_)) | exact ih0 _ _ _ _ _ _ _ _ _ | exact ih1 _ | exact ih2 _ _ _ _ _ _ _ _ _ _ _ _ _ _ | exact ih3 _ _ _ _ _ _ _ _ _ _ _ _ _ _ _ _ _ | exact ih4 _ _ _ _ _ _ _ _ _ _ _ _ _ _ | exact ih5 _ _ _ _ _ _ _ _ _ _ _ _ _ _ _ _ _ | exact ih6 _ _ _ _ _ _ _ _ _ _ _ | exact impl_CheapestKits.mono _ _ _ _ | exact impl_FewestKits.mono _ _ _ | exact impl_KitPrice.mono _ _ _ | exact impl_NeededParts.mono _ _ _ _ | exact laws_sameInts.mono _ _ _ | exact spec_CheapestKits.mono _ _ _ _ | exact spec_DrawCheapestKits.mono _ _ | exact spec_DrawFewestKits.mono _ _ | exact spec_DrawKitPrice.mono _ _ | exact spec_DrawNeededParts.mono _ _ | exact spec_FewestKits.mono _ _ _ | exact spec_KitPrice.mono _ _ _ | exact spec_NeededParts.mono _ _ _ _ | exact LeO.none _ | refine LeO.ite ?_ ?_ | refine LeO.bind ?_ (fun _ => ?_)
theorem laws_FnPurchases.mono : ∀ a0 a1 k, LeO (laws_FnPurchases.f k a0 a1) (laws_FnPurchases.f (k + 1) a0 a1) := by
 intro a0 a1 k
 obtain ⟨ih0, ih1, ih2, ih3, ih4, ih5, ih6⟩ := laws_FnPurchases.mono_l k
 unfold laws_FnPurchases.f
 repeat' first | (with_reducible first | exact ih0 _ _ _ _ _ _ _ _ _ | exact ih1 _ | exact ih2 _ _ _ _ _ _ _ _ _ _ _ _ _ _ | exact ih3 _ _ _ _ _ _ _ _ _ _ _ _ _ _ _ _ _ | exact ih4 _ _ _ _ _ _ _ _ _ _ _ _ _ _ | exact ih5 _ _ _ _ _ _ _ _ _ _ _ _ _ _ _ _ _ | exact ih6 _ _ _ _ _ _ _ _ _ _ _ | exact impl_CheapestKits.mono _ _ _ _ | exact impl_FewestKits.mono _ _ _ | exact impl_KitPrice.mono _ _ _ | exact impl_NeededParts.mono _ _ _ _ | exact laws_sameInts.mono _ _ _ | exact spec_CheapestKits.mono _ _ _ _ | exact spec_DrawCheapestKits.mono _ _ | exact spec_DrawFewestKits.mono _ _ | exact spec_DrawKitPrice.mono _ _ | exact spec_DrawNeededParts.mono _ _ | exact spec_FewestKits.mono _ _ _ | exact spec_KitPrice.mono _ _ _ | exact spec_NeededParts.mono _ _ _ _ | exact LeO.refl _ | exact LeO.none _ | refine LeO.ite ?_ ?_ | refine LeO.bind ?_ (fun _ => ?_)) | exact ih0 _ _ _ _ _ _ _ _ _ | exact ih1 _ | exact ih2 _ _ _ _ _ _ _ _ _ _ _ _ _ _ | exact ih3 _ _ _ _ _ _ _ _ _ _ _ _ _ _ _ _ _ | exact ih4 _ _ _ _ _ _ _ _ _ _ _ _ _ _ | exact ih5 _ _ _ _ _ _ _ _ _ _ _ _ _ _ _ _ _ | exact ih6 _ _ _ _ _ _ _ _ _ _ _ | exact impl_CheapestKits.mono _ _ _ _ | exact impl_FewestKits.mono _ _ _ | exact impl_KitPrice.mono _ _ _ | exact impl_NeededParts.mono _ _ _ _ | exact laws_sameInts.mono _ _ _ | exact spec_CheapestKits.mono _ _ _ _ | exact spec_DrawCheapestKits.mono _ _ | exact spec_DrawFewestKits.mono _ _ | exact spec_DrawKitPrice.mono _ _ | exact spec_DrawNeededParts.mono _ _ | exact spec_FewestKits.mono _ _ _ | exact spec_KitPrice.mono _ _ _ | exact spec_NeededParts.mono _ _ _ _ | exact LeO.none _ | refine LeO.ite ?_ ?_ | refine LeO.bind ?_ (fun _ => ?_)
set_option maxHeartbeats 8000000 in
set_option maxRecDepth 100000 in
theorem laws_FnPurchases.calls (k : Nat) (A0 : Option Addr) (c0 : Nat) (l0 : List Int) (A1 : Option Addr) (c1 : Nat) (l1 : List Int) (w : World) (hr0 : Kd.C (Kd.int .u8) w A0 l0.length l0) (hc0 : l0.length ≤ c0) (hr1 : Kd.C (Kd.int .u8) w A1 l1.length l1) (hc1 : l1.length ≤ c1) (h : laws_FnPurchases.f k l0 l1 = some true) :
  Calls Try.prog 7 #[.slice A0 l0.length c0, .slice A1 l1.length c1] w fun e w' => e = .returned (.bool true) ∧ Below w.heap.size w w' := by
 have hu70 := Try.underlying70
 have HR0 := Aside0.mk hr0
 have HC0 := Aside0.mk hc0
 clear hr0 hc0
 have HR1 := Aside0.mk hr1
 have HC1 := Aside0.mk hc1
 clear hr1 hc1
 have HB := Aside0.mk (Below.refl w.heap.size w)
 have H : ((laws_big.f l0 l1).bind fun t562 => (if t562 = true then (some true) else ((spec_DrawCheapestKits.f k l0).bind fun bt563 => ((impl_CheapestKits.f k bt563.1 bt563.2.1 bt563.2.2).bind fun bt572 => ((spec_CheapestKits.f k bt563.1 bt563.2.1 bt563.2.2).bind fun bt577 => ((impl_FewestKits.f k bt563.1 bt563.2.2).bind fun bt582 => ((spec_FewestKits.f k bt563.1 bt563.2.2).bind fun bt586 => (if (bt572.2.2 != bt577.2.2) = true then (laws_FnPurchases.j0 k l1 bt563.1 bt563.2.1 bt563.2.2 bt572.2.2 bt577.1 bt577.2.1 bt586.1 true) else ((laws_sameInts.f k bt572.1 bt577.1).bind fun t590 => (if t590 = true then (if bt572.2.1 = bt577.2.1 then (if (bt582.2 != bt586.2) = true then (laws_FnPurchases.j0 k l1 bt563.1 bt563.2.1 bt563.2.2 bt572.2.2 bt577.1 bt577.2.1 bt586.1 true) else ((laws_sameInts.f k bt582.1 bt586.1).bind fun t591 => (if t591 = true then (if bt572.2.2 = true then (laws_FnPurchases.j0 k l1 bt563.1 bt563.2.1 bt563.2.2 bt572.2.2 bt577.1 bt577.2.1 bt586.1 (!bt582.2)) else (laws_FnPurchases.j0 k l1 bt563.1 bt563.2.1 bt563.2.2 bt572.2.2 bt577.1 bt577.2.1 bt586.1 false)) else (laws_FnPurchases.j0 k l1 bt563.1 bt563.2.1 bt563.2.2 bt572.2.2 bt577.1 bt577.2.1 bt586.1 true)))) else (laws_FnPurchases.j0 k l1 bt563.1 bt563.2.1 bt563.2.2 bt572.2.2 bt577.1 bt577.2.1 bt586.1 true)) else (laws_FnPurchases.j0 k l1 bt563.1 bt563.2.1 bt563.2.2 bt572.2.2 bt577.1 bt577.2.1 bt586.1 true))))))))))) = some true := h
 clear h
 replace H := Option.bind_eq_some_iff.mp H
 obtain ⟨t562, A30, H⟩ := H
 replace H : (if t562 = true then (some true) else ((spec_DrawCheapestKits.f k l0).bind fun bt563 => ((impl_CheapestKits.f k bt563.1 bt563.2.1 bt563.2.2).bind fun bt572 => ((spec_CheapestKits.f k bt563.1 bt563.2.1 bt563.2.2).bind fun bt577 => ((impl_FewestKits.f k bt563.1 bt563.2.2).bind fun bt582 => ((spec_FewestKits.f k bt563.1 bt563.2.2).bind fun bt586 => (if (bt572.2.2 != bt577.2.2) = true then (laws_FnPurchases.j0 k l1 bt563.1 bt563.2.1 bt563.2.2 bt572.2.2 bt577.1 bt577.2.1 bt586.1 true) else ((laws_sameInts.f k bt572.1 bt577.1).bind fun t590 => (if t590 = true then (if bt572.2.1 = bt577.2.1 then (if (bt582.2 != bt586.2) = true then (laws_FnPurchases.j0 k l1 bt563.1 bt563.2.1 bt563.2.2 bt572.2.2 bt577.1 bt577.2.1 bt586.1 true) else ((laws_sameInts.f k bt582.1 bt586.1).bind fun t591 => (if t591 = true then (if bt572.2.2 = true then (laws_FnPurchases.j0 k l1 bt563.1 bt563.2.1 bt563.2.2 bt572.2.2 bt577.1 bt577.2.1 bt586.1 (!bt582.2)) else (laws_FnPurchases.j0 k l1 bt563.1 bt563.2.1 bt563.2.2 bt572.2.2 bt577.1 bt577.2.1 bt586.1 false)) else (laws_FnPurchases.j0 k l1 bt563.1 bt563.2.1 bt563.2.2 bt572.2.2 bt577.1 bt577.2.1 bt586.1 true)))) else (laws_FnPurchases.j0 k l1 bt563.1 bt563.2.1 bt563.2.2 bt572.2.2 bt577.1 bt577.2.1 bt586.1 true)) else (laws_FnPurchases.j0 k l1 bt563.1 bt563.2.1 bt563.2.2 bt572.2.2 bt577.1 bt577.2.1 bt586.1 true)))))))))) = some true := H
 have A3 := Aside0.mk A30
 clear A30
 by_cases c4 : t562 = true
 ·subst c4
  have H1 : (some true) = some true := rfl
  clear H
  have H := H1
  clear H1
  have HRT := Option.some.inj H
  clear H
  go_enter Try.func7, Try.ntmps7
  go_wp2_with (first | ((with_reducible refine gate_callee (f := 24) rfl ?_); refine goesL_ (some 51) rfl rfl Try.func24 (by kernel_rfl) rfl #[.slice A0 l0.length c0, .slice A1 l1.length c1] rfl qA ?_; (with_reducible refine (laws_big.calls _ _ l0 _ _ l1 true _ ?side1 ?side2 ?side3 ?side4 A3.out).mono ?_); (case side1 => exact uC HR0.out); (case side2 => exact HC0.out); (case side3 => exact uC HR1.out); (case side4 => exact HC1.out); rintro e w' ⟨rfl, ⟨nd, rfl⟩⟩; refine ⟨_, rfl, ?_⟩))
  go_ret
  exact ⟨qe, qB HB⟩
 ·replace c4 := Bool.eq_false_iff.mpr c4
  subst c4
  rw [if_neg (show ¬ (false = true) by decide)] at H
  replace H := Option.bind_eq_some_iff.mp H
  obtain ⟨⟨t563, t564, t565⟩, A50, H⟩ := H
  replace H : ((impl_CheapestKits.f k t563 t564 t565).bind fun bt572 => ((spec_CheapestKits.f k t563 t564 t565).bind fun bt577 => ((impl_FewestKits.f k t563 t565).bind fun bt582 => ((spec_FewestKits.f k t563 t565).bind fun bt586 => (if (bt572.2.2 != bt577.2.2) = true then (laws_FnPurchases.j0 k l1 t563 t564 t565 bt572.2.2 bt577.1 bt577.2.1 bt586.1 true) else ((laws_sameInts.f k bt572.1 bt577.1).bind fun t590 => (if t590 = true then (if bt572.2.1 = bt577.2.1 then (if (bt582.2 != bt586.2) = true then (laws_FnPurchases.j0 k l1 t563 t564 t565 bt572.2.2 bt577.1 bt577.2.1 bt586.1 true) else ((laws_sameInts.f k bt582.1 bt586.1).bind fun t591 => (if t591 = true then (if bt572.2.2 = true then (laws_FnPurchases.j0 k l1 t563 t564 t565 bt572.2.2 bt577.1 bt577.2.1 bt586.1 (!bt582.2)) else (laws_FnPurchases.j0 k l1 t563 t564 t565 bt572.2.2 bt577.1 bt577.2.1 bt586.1 false)) else (laws_FnPurchases.j0 k l1 t563 t564 t565 bt572.2.2 bt577.1 bt577.2.1 bt586.1 true)))) else (laws_FnPurchases.j0 k l1 t563 t564 t565 bt572.2.2 bt577.1 bt577.2.1 bt586.1 true)) else (laws_FnPurchases.j0 k l1 t563 t564 t565 bt572.2.2 bt577.1 bt577.2.1 bt586.1 true)))))))) = some true := H
  have A5 := Aside0.mk A50
  clear A50
  replace H := Option.bind_eq_some_iff.mp H
  obtain ⟨⟨t572, t573, t574⟩, A60, H⟩ := H
  replace H : ((spec_CheapestKits.f k t563 t564 t565).bind fun bt577 => ((impl_FewestKits.f k t563 t565).bind fun bt582 => ((spec_FewestKits.f k t563 t565).bind fun bt586 => (if (t574 != bt577.2.2) = true then (laws_FnPurchases.j0 k l1 t563 t564 t565 t574 bt577.1 bt577.2.1 bt586.1 true) else ((laws_sameInts.f k t572 bt577.1).bind fun t590 => (if t590 = true then (if t573 = bt577.2.1 then (if (bt582.2 != bt586.2) = true then (laws_FnPurchases.j0 k l1 t563 t564 t565 t574 bt577.1 bt577.2.1 bt586.1 true) else ((laws_sameInts.f k bt582.1 bt586.1).bind fun t591 => (if t591 = true then (if t574 = true then (laws_FnPurchases.j0 k l1 t563 t564 t565 t574 bt577.1 bt577.2.1 bt586.1 (!bt582.2)) else (laws_FnPurchases.j0 k l1 t563 t564 t565 t574 bt577.1 bt577.2.1 bt586.1 false)) else (laws_FnPurchases.j0 k l1 t563 t564 t565 t574 bt577.1 bt577.2.1 bt586.1 true)))) else (laws_FnPurchases.j0 k l1 t563 t564 t565 t574 bt577.1 bt577.2.1 bt586.1 true)) else (laws_FnPurchases.j0 k l1 t563 t564 t565 t574 bt577.1 bt577.2.1 bt586.1 true))))))) = some true := H
  have A6 := Aside0.mk A60
  clear A60
  replace H := Option.bind_eq_some_iff.mp H
  obtain ⟨⟨t577, t578, t579⟩, A70, H⟩ := H
  replace H : ((impl_FewestKits.f k t563 t565).bind fun bt582 => ((spec_FewestKits.f k t563 t565).bind fun bt586 => (if (t574 != t579) = true then (laws_FnPurchases.j0 k l1 t563 t564 t565 t574 t577 t578 bt586.1 true) else ((laws_sameInts.f k t572 t577).bind fun t590 => (if t590 = true then (if t573 = t578 then (if (bt582.2 != bt586.2) = true then (laws_FnPurchases.j0 k l1 t563 t564 t565 t574 t577 t578 bt586.1 true) else ((laws_sameInts.f k bt582.1 bt586.1).bind fun t591 => (if t591 = true then (if t574 = true then (laws_FnPurchases.j0 k l1 t563 t564 t565 t574 t577 t578 bt586.1 (!bt582.2)) else (laws_FnPurchases.j0 k l1 t563 t564 t565 t574 t577 t578 bt586.1 false)) else (laws_FnPurchases.j0 k l1 t563 t564 t565 t574 t577 t578 bt586.1 true)))) else (laws_FnPurchases.j0 k l1 t563 t564 t565 t574 t577 t578 bt586.1 true)) else (laws_FnPurchases.j0 k l1 t563 t564 t565 t574 t577 t578 bt586.1 true)))))) = some true := H
  have A7 := Aside0.mk A70
  clear A70
  replace H := Option.bind_eq_some_iff.mp H
  obtain ⟨⟨t582, t583⟩, A80, H⟩ := H
  replace H : ((spec_FewestKits.f k t563 t565).bind fun bt586 => (if (t574 != t579) = true then (laws_FnPurchases.j0 k l1 t563 t564 t565 t574 t577 t578 bt586.1 true) else ((laws_sameInts.f k t572 t577).bind fun t590 => (if t590 = true then (if t573 = t578 then (if (t583 != bt586.2) = true then (laws_FnPurchases.j0 k l1 t563 t564 t565 t574 t577 t578 bt586.1 true) else ((laws_sameInts.f k t582 bt586.1).bind fun t591 => (if t591 = true then (if t574 = true then (laws_FnPurchases.j0 k l1 t563 t564 t565 t574 t577 t578 bt586.1 (!t583)) else (laws_FnPurchases.j0 k l1 t563 t564 t565 t574 t577 t578 bt586.1 false)) else (laws_FnPurchases.j0 k l1 t563 t564 t565 t574 t577 t578 bt586.1 true)))) else (laws_FnPurchases.j0 k l1 t563 t564 t565 t574 t577 t578 bt586.1 true)) else (laws_FnPurchases.j0 k l1 t563 t564 t565 t574 t577 t578 bt586.1 true))))) = some true := H
  have A8 := Aside0.mk A80
  clear A80
  replace H := Option.bind_eq_some_iff.mp H
  obtain ⟨⟨t586, t587⟩, A90, H⟩ := H
  replace H : (if (t574 != t579) = true then (laws_FnPurchases.j0 k l1 t563 t564 t565 t574 t577 t578 t586 true) else ((laws_sameInts.f k t572 t577).bind fun t590 => (if t590 = true then (if t573 = t578 then (if (t583 != t587) = true then (laws_FnPurchases.j0 k l1 t563 t564 t565 t574 t577 t578 t586 true) else ((laws_sameInts.f k t582 t586).bind fun t591 => (if t591 = true then (if t574 = true then (laws_FnPurchases.j0 k l1 t563 t564 t565 t574 t577 t578 t586 (!t583)) else (laws_FnPurchases.j0 k l1 t563 t564 t565 t574 t577 t578 t586 false)) else (laws_FnPurchases.j0 k l1 t563 t564 t565 t574 t577 t578 t586 true)))) else (laws_FnPurchases.j0 k l1 t563 t564 t565 t574 t577 t578 t586 true)) else (laws_FnPurchases.j0 k l1 t563 t564 t565 t574 t577 t578 t586 true)))) = some true := H
  have A9 := Aside0.mk A90
  clear A90
  have HC10 := Aside0.mk H
  clear H
  go_enter Try.func7, Try.ntmps7
  go_upto_region 8 with (first | ((with_reducible refine gate_callee (f := 24) rfl ?_); refine goesL_ (some 51) rfl rfl Try.func24 (by kernel_rfl) rfl #[.slice A0 l0.length c0, .slice A1 l1.length c1] rfl qA ?_; (with_reducible refine (laws_big.calls _ _ l0 _ _ l1 false _ ?side1 ?side2 ?side3 ?side4 A3.out).mono ?_); (case side1 => exact uC HR0.out); (case side2 => exact HC0.out); (case side3 => exact uC HR1.out); (case side4 => exact HC1.out); rintro e w' ⟨rfl, ⟨nd, rfl⟩⟩; refine ⟨_, rfl, ?_⟩) | ((with_reducible refine gate_callee (f := 74) rfl ?_); refine goesL_ (some 54) rfl rfl Try.func74 (by kernel_rfl) rfl #[.slice A0 l0.length c0] rfl qA ?_; (with_reducible refine (spec_DrawCheapestKits.calls k _ _ l0 t563 t564 t565 _ ?side1 ?side2 A5.out).mono ?_); (case side1 => exact uC HR0.out); (case side2 => exact HC0.out); rintro e w11 ⟨v566, v568, v570, rfl, ho0, ho1, ho2, hb⟩; refine ⟨_, rfl, ?_⟩; have n0_ := Aside0.mk (Kd.S_lower ho0 (below_size (qB HB))); have n1_ := Aside0.mk (Kd.Q_lower ho1 (below_size (qB HB))); have n2_ := Aside0.mk (Kd.R_lower ho2 (below_size (qB HB))); have n3_ := Aside0.mk (below_step (qB HB) hb); clear HB; have HO567 := n0_; have HO569 := n1_; have HO571 := n2_; have HB := n3_; clear n0_ n1_ n2_ n3_; (try clear hb); (try clear hb2); (try clear hk); (try clear hi); (try clear ho0); (try clear ho1); (try clear ho2); obtain ⟨Ao12, co12, eo12⟩ := Kd.S_slice HO567.out; subst eo12; obtain ⟨Ao13, co13, eo13, _⟩ := Kd.Q_slice HO569.out; subst eo13; obtain ⟨Ao14, co14, eo14⟩ := Kd.R_slice HO571.out; subst eo14) | ((with_reducible refine gate_callee (f := 75) rfl ?_); refine goesL_ (some 62) rfl rfl Try.func75 (by kernel_rfl) rfl #[.slice Ao12 t563.length co12, .slice Ao13 t564.length co13, .slice Ao14 t565.length co14] rfl qA ?_; (with_reducible refine (impl_CheapestKits.calls k _ _ t563 _ _ t564 _ _ t565 t572 t573 t574 _ ?side1 ?side2 ?side3 ?side4 ?side5 ?side6 A6.out).mono ?_); (case side1 => exact uC (Kd.S_reads' HO567.out).2.2); (case side2 => exact (Kd.S_reads' HO567.out).2.1); (case side3 => exact uC (Kd.Q_reads' HO569.out).2.2); (case side4 => exact (Kd.Q_reads' HO569.out).2.1); (case side5 => exact uC (Kd.R_reads' HO571.out).2.2); (case side6 => exact (Kd.R_reads' HO571.out).2.1); rintro e w15 ⟨v575, rfl, ho0, hb⟩; refine ⟨_, rfl, ?_⟩; have n0_ := Aside0.mk (Kd.S_elder' (qS HO567) (Kd.R_base ho0) hb); have n1_ := Aside0.mk (Kd.Q_elder' (by (with_reducible repeat (first | apply Kd.Q_alloc | apply Kd.Q_drewN | apply Kd.Q_drew)); exact HO569.out) (Kd.R_base ho0) hb); have n2_ := Aside0.mk (Kd.R_elder' (qR HO571) (Kd.R_base ho0) hb); have n3_ := Aside0.mk (Kd.R_lower (Kd.R_new' (Kd.R_new' ho0 (Kd.Q_lt (by (with_reducible repeat (first | apply Kd.Q_alloc | apply Kd.Q_drewN | apply Kd.Q_drew)); exact HO569.out))) (Kd.R_lt (qR HO571))) (below_size (qB HB))); have n4_ := Aside0.mk (below_step (qB HB) hb); clear HO567; clear HO569; clear HO571; clear HB; have HO567 := n0_; have HO569 := n1_; have HO571 := n2_; have HO576 := n3_; have HB := n4_; clear n0_ n1_ n2_ n3_ n4_; (try clear hb); (try clear hb2); (try clear hk); (try clear hi); (try clear ho0)) | ((with_reducible refine gate_callee (f := 76) rfl ?_); refine goesL_ (some 70) rfl rfl Try.func76 (by kernel_rfl) rfl #[.slice Ao12 t563.length co12, .slice Ao13 t564.length co13, .slice Ao14 t565.length co14] rfl qA ?_; (with_reducible refine (spec_CheapestKits.calls k _ _ t563 _ _ t564 _ _ t565 t577 t578 t579 _ ?side1 ?side2 ?side3 ?side4 ?side5 ?side6 A7.out).mono ?_); (case side1 => exact uC (Kd.S_reads' HO567.out).2.2); (case side2 => exact (Kd.S_reads' HO567.out).2.1); (case side3 => exact uC (Kd.Q_reads' HO569.out).2.2); (case side4 => exact (Kd.Q_reads' HO569.out).2.1); (case side5 => exact uC (Kd.R_reads' HO571.out).2.2); (case side6 => exact (Kd.R_reads' HO571.out).2.1); rintro e w16 ⟨v580, rfl, ho0, hb⟩; refine ⟨_, rfl, ?_⟩; have n0_ := Aside0.mk (Kd.S_elder' (qS HO567) (Kd.R_base ho0) hb); have n1_ := Aside0.mk (Kd.Q_elder' (by (with_reducible repeat (first | apply Kd.Q_alloc | apply Kd.Q_drewN | apply Kd.Q_drew)); exact HO569.out) (Kd.R_base ho0) hb); have n2_ := Aside0.mk (Kd.R_elder' (qR HO571) (Kd.R_base ho0) hb); have n3_ := Aside0.mk (Kd.R_elder' (qR HO576) (Kd.R_base ho0) hb); have n4_ := Aside0.mk (Kd.R_lower (Kd.R_new' (Kd.R_new' (Kd.R_new' ho0 (Kd.Q_lt (by (with_reducible repeat (first | apply Kd.Q_alloc | apply Kd.Q_drewN | apply Kd.Q_drew)); exact HO569.out))) (Kd.R_lt (qR HO571))) (Kd.R_lt (qR HO576))) (below_size (qB HB))); have n5_ := Aside0.mk (below_step (qB HB) hb); clear HO567; clear HO569; clear HO571; clear HO576; clear HB; have HO567 := n0_; have HO569 := n1_; have HO571 := n2_; have HO576 := n3_; have HO581 := n4_; have HB := n5_; clear n0_ n1_ n2_ n3_ n4_ n5_; (try clear hb); (try clear hb2); (try clear hk); (try clear hi); (try clear ho0)) | ((with_reducible refine gate_callee (f := 77) rfl ?_); refine goesL_ (some 77) rfl rfl Try.func77 (by kernel_rfl) rfl #[.slice Ao12 t563.length co12, .slice Ao14 t565.length co14] rfl qA ?_; (with_reducible refine (impl_FewestKits.calls k _ _ t563 _ _ t565 t582 t583 _ ?side1 ?side2 ?side3 ?side4 A8.out).mono ?_); (case side1 => exact uC (Kd.S_reads' HO567.out).2.2); (case side2 => exact (Kd.S_reads' HO567.out).2.1); (case side3 => exact uC (Kd.R_reads' HO571.out).2.2); (case side4 => exact (Kd.R_reads' HO571.out).2.1); rintro e w17 ⟨v584, rfl, ho0, hb⟩; refine ⟨_, rfl, ?_⟩; have n0_ := Aside0.mk (Kd.S_elder' (qS HO567) (Kd.R_base ho0) hb); have n1_ := Aside0.mk (Kd.Q_elder' (by (with_reducible repeat (first | apply Kd.Q_alloc | apply Kd.Q_drewN | apply Kd.Q_drew)); exact HO569.out) (Kd.R_base ho0) hb); have n2_ := Aside0.mk (Kd.R_elder' (qR HO571) (Kd.R_base ho0) hb); have n3_ := Aside0.mk (Kd.R_elder' (qR HO576) (Kd.R_base ho0) hb); have n4_ := Aside0.mk (Kd.R_elder' (qR HO581) (Kd.R_base ho0) hb); have n5_ := Aside0.mk (Kd.R_lower (Kd.R_new' (Kd.R_new' (Kd.R_new' (Kd.R_new' ho0 (Kd.Q_lt (by (with_reducible repeat (first | apply Kd.Q_alloc | apply Kd.Q_drewN | apply Kd.Q_drew)); exact HO569.out))) (Kd.R_lt (qR HO571))) (Kd.R_lt (qR HO576))) (Kd.R_lt (qR HO581))) (below_size (qB HB))); have n6_ := Aside0.mk (below_step (qB HB) hb); clear HO567; clear HO569; clear HO571; clear HO576; clear HO581; clear HB; have HO567 := n0_; have HO569 := n1_; have HO571 := n2_; have HO576 := n3_; have HO581 := n4_; have HO585 := n5_; have HB := n6_; clear n0_ n1_ n2_ n3_ n4_ n5_ n6_; (try clear hb); (try clear hb2); (try clear hk); (try clear hi); (try clear ho0)) | ((with_reducible refine gate_callee (f := 78) rfl ?_); refine goesL_ (some 83) rfl rfl Try.func78 (by kernel_rfl) rfl #[.slice Ao12 t563.length co12, .slice Ao14 t565.length co14] rfl qA ?_; (with_reducible refine (spec_FewestKits.calls k _ _ t563 _ _ t565 t586 t587 _ ?side1 ?side2 ?side3 ?side4 A9.out).mono ?_); (case side1 => exact uC (Kd.S_reads' HO567.out).2.2); (case side2 => exact (Kd.S_reads' HO567.out).2.1); (case side3 => exact uC (Kd.R_reads' HO571.out).2.2); (case side4 => exact (Kd.R_reads' HO571.out).2.1); rintro e w18 ⟨v588, rfl, ho0, hb⟩; refine ⟨_, rfl, ?_⟩; have n0_ := Aside0.mk (Kd.S_elder' (qS HO567) (Kd.R_base ho0) hb); have n1_ := Aside0.mk (Kd.Q_elder' (by (with_reducible repeat (first | apply Kd.Q_alloc | apply Kd.Q_drewN | apply Kd.Q_drew)); exact HO569.out) (Kd.R_base ho0) hb); have n2_ := Aside0.mk (Kd.R_elder' (qR HO571) (Kd.R_base ho0) hb); have n3_ := Aside0.mk (Kd.R_elder' (qR HO576) (Kd.R_base ho0) hb); have n4_ := Aside0.mk (Kd.R_elder' (qR HO581) (Kd.R_base ho0) hb); have n5_ := Aside0.mk (Kd.R_elder' (qR HO585) (Kd.R_base ho0) hb); have n6_ := Aside0.mk (Kd.R_lower (Kd.R_new' (Kd.R_new' (Kd.R_new' (Kd.R_new' (Kd.R_new' ho0 (Kd.Q_lt (by (with_reducible repeat (first | apply Kd.Q_alloc | apply Kd.Q_drewN | apply Kd.Q_drew)); exact HO569.out))) (Kd.R_lt (qR HO571))) (Kd.R_lt (qR HO576))) (Kd.R_lt (qR HO581))) (Kd.R_lt (qR HO585))) (below_size (qB HB))); have n7_ := Aside0.mk (below_step (qB HB) hb); clear HO567; clear HO569; clear HO571; clear HO576; clear HO581; clear HO585; clear HB; have HO567 := n0_; have HO569 := n1_; have HO571 := n2_; have HO576 := n3_; have HO581 := n4_; have HO585 := n5_; have HO589 := n6_; have HB := n7_; clear n0_ n1_ n2_ n3_ n4_ n5_ n6_ n7_; (try clear hb); (try clear hb2); (try clear hk); (try clear hi); (try clear ho0)))
  (try simp only [Act.put, List.setIfInBounds_toArray, List.set_cons_zero, List.set_cons_succ])
  go_cut [117] (fun v117 wc => ∃ (kq : Nat) (x117_9 : Bool), v117 = .bool x117_9 ∧ Aside0 (laws_FnPurchases.j0 kq l1 t563 t564 t565 t574 t577 t578 t586 x117_9 = some true) ∧ Aside0 (kq ≤ k) ∧ Aside0 (Kd.S (Kd.slice 3 (Kd.int .i64)) 23 wc w.heap.size (fun k_ => some k_ ≠ ((.slice Ao13 t564.length co13) : Value).ownBlock ∧ some k_ ≠ ((.slice Ao14 t565.length co14) : Value).ownBlock ∧ some k_ ≠ (v580 : Value).ownBlock ∧ some k_ ≠ (v588 : Value).ownBlock) (.slice Ao12 t563.length co12) t563) ∧ Aside0 (Kd.Q (Kd.int .i64) 3 wc w.heap.size (fun k_ => some k_ ≠ ((.slice Ao14 t565.length co14) : Value).ownBlock ∧ some k_ ≠ (v580 : Value).ownBlock ∧ some k_ ≠ (v588 : Value).ownBlock) (.slice Ao13 t564.length co13) t564) ∧ Aside0 (Kd.R (Kd.int .i64) 3 wc w.heap.size (fun k_ => some k_ ≠ ((.slice Ao13 t564.length co13) : Value).ownBlock ∧ some k_ ≠ (v580 : Value).ownBlock ∧ some k_ ≠ (v588 : Value).ownBlock) (.slice Ao14 t565.length co14) t565) ∧ Aside0 (Kd.R (Kd.int .i64) 3 wc w.heap.size (fun k_ => some k_ ≠ ((.slice Ao13 t564.length co13) : Value).ownBlock ∧ some k_ ≠ ((.slice Ao14 t565.length co14) : Value).ownBlock ∧ some k_ ≠ (v588 : Value).ownBlock) v580 t577) ∧ Aside0 (Kd.R (Kd.int .i64) 3 wc w.heap.size (fun k_ => some k_ ≠ ((.slice Ao13 t564.length co13) : Value).ownBlock ∧ some k_ ≠ ((.slice Ao14 t565.length co14) : Value).ownBlock ∧ some k_ ≠ (v580 : Value).ownBlock) v588 t586) ∧ Aside0 (Below w.heap.size w wc))
  case first => as_aux_lemma =>
   have H := HC10.out
   clear HC10
   by_cases c19 : (t574 != t579) = true
   ·rw [if_pos c19] at H
    have c19b0 : (t574 != t579) = true := c19
    (try (have c19b1 : decide (t574 = t579) = false := by simpa using c19))
    (try (have c19b2 : (t574 == t579) = false := by simpa using c19))
    (try (have c19b3 : ¬ (t574 = t579) := by simpa using c19))
    clear c19
    (first | rw [c19b0] | (simp only [i64_w, i32_w]; rw [c19b0]) | skip)
    first | exact (laws_FnPurchases.j0_no _ _ _ _ _ _ _ _ _ H).elim
   ·rw [if_neg c19] at H
    have c19b0 : (t574 != t579) = false := by simpa using c19
    (try (have c19b1 : decide (t574 = t579) = true := by simpa using c19))
    (try (have c19b2 : (t574 == t579) = true := by simpa using c19))
    clear c19
    (first | rw [c19b0] | (simp only [i64_w, i32_w]; rw [c19b0]) | skip)
    replace H := Option.bind_eq_some_iff.mp H
    obtain ⟨t590, A200, H⟩ := H
    replace H : (if t590 = true then (if t573 = t578 then (if (t583 != t587) = true then (laws_FnPurchases.j0 k l1 t563 t564 t565 t574 t577 t578 t586 true) else ((laws_sameInts.f k t582 t586).bind fun t591 => (if t591 = true then (if t574 = true then (laws_FnPurchases.j0 k l1 t563 t564 t565 t574 t577 t578 t586 (!t583)) else (laws_FnPurchases.j0 k l1 t563 t564 t565 t574 t577 t578 t586 false)) else (laws_FnPurchases.j0 k l1 t563 t564 t565 t574 t577 t578 t586 true)))) else (laws_FnPurchases.j0 k l1 t563 t564 t565 t574 t577 t578 t586 true)) else (laws_FnPurchases.j0 k l1 t563 t564 t565 t574 t577 t578 t586 true)) = some true := H
    have A20 := Aside0.mk A200
    clear A200
    by_cases c21 : t590 = true
    ·subst c21
     rw [if_pos rfl] at H
     by_cases c22 : t573 = t578
     ·rw [if_pos c22] at H
      have c22b0 : (t573 == t578) = true := beq_iff_eq.mpr c22
      have c22b1 : (t573 != t578) = false := bne_eq_false_iff_eq.mpr c22
      clear c22
      by_cases c23 : (t583 != t587) = true
      ·rw [if_pos c23] at H
       have c23b0 : (t583 != t587) = true := c23
       (try (have c23b1 : decide (t583 = t587) = false := by simpa using c23))
       (try (have c23b2 : (t583 == t587) = false := by simpa using c23))
       (try (have c23b3 : ¬ (t583 = t587) := by simpa using c23))
       clear c23
       first | exact (laws_FnPurchases.j0_no _ _ _ _ _ _ _ _ _ H).elim
      ·rw [if_neg c23] at H
       have c23b0 : (t583 != t587) = false := by simpa using c23
       (try (have c23b1 : decide (t583 = t587) = true := by simpa using c23))
       (try (have c23b2 : (t583 == t587) = true := by simpa using c23))
       clear c23
       replace H := Option.bind_eq_some_iff.mp H
       obtain ⟨t591, A260, H⟩ := H
       replace H : (if t591 = true then (if t574 = true then (laws_FnPurchases.j0 k l1 t563 t564 t565 t574 t577 t578 t586 (!t583)) else (laws_FnPurchases.j0 k l1 t563 t564 t565 t574 t577 t578 t586 false)) else (laws_FnPurchases.j0 k l1 t563 t564 t565 t574 t577 t578 t586 true)) = some true := H
       have A26 := Aside0.mk A260
       clear A260
       by_cases c27 : t591 = true
       ·subst c27
        rw [if_pos rfl] at H
        by_cases c28 : t574 = true
        ·subst c28
         rw [if_pos rfl] at H
         have H' := Aside0.mk H
         clear H
         obtain ⟨Ao29, co29, eo29⟩ := Kd.R_slice HO576.out
         subst eo29
         obtain ⟨Ao30, co30, eo30⟩ := Kd.R_slice HO581.out
         subst eo30
         go_wp2_with (first | (go_at_call 28; (with_reducible refine (laws_sameInts.calls k _ _ t572 _ _ t577 true _ ?side1 ?side2 ?side3 ?side4 A20.out).mono ?_); (case side1 => exact uC (Kd.R_reads' HO576.out).2.2); (case side2 => exact (Kd.R_reads' HO576.out).2.1); (case side3 => exact uC (Kd.R_reads' HO581.out).2.2); (case side4 => exact (Kd.R_reads' HO581.out).2.1); rintro e w' ⟨rfl, ⟨nd, rfl⟩⟩; obtain ⟨Ao31, co31, eo31⟩ := Kd.R_slice HO585.out; subst eo31; obtain ⟨Ao32, co32, eo32⟩ := Kd.R_slice HO589.out; subst eo32) | (go_at_call 28; (with_reducible refine (laws_sameInts.calls k _ _ t582 _ _ t586 true _ ?side1 ?side2 ?side3 ?side4 A26.out).mono ?_); (case side1 => exact uC (Kd.R_reads' HO585.out).2.2); (case side2 => exact (Kd.R_reads' HO585.out).2.1); (case side3 => exact uC (Kd.R_reads' HO589.out).2.2); (case side4 => exact (Kd.R_reads' HO589.out).2.1); rintro e w' ⟨rfl, ⟨nd, rfl⟩⟩))
         go_meet
         case rel => exact ⟨_, (!t583), qs, H', ⟨by first | omega | exact Nat.le_refl _⟩, ⟨by exact uS (Kd.S_mono HO567.out (fun _ hk => ⟨hk.1.1.1.1.1, ⟨hk.1.1.1.1.2, ⟨hk.1.1.2, hk.2⟩⟩⟩))⟩, ⟨by (with_reducible repeat (first | apply Kd.Q_alloc | apply Kd.Q_drewN | apply Kd.Q_drew)); exact Kd.Q_mono HO569.out (fun _ hk => ⟨hk.1.1.1.1, ⟨hk.1.1.2, hk.2⟩⟩)⟩, ⟨by exact uR (Kd.R_mono HO571.out (fun _ hk => ⟨hk.1.1.1.1, ⟨hk.1.1.2, hk.2⟩⟩))⟩, ⟨by exact uR (Kd.R_mono HO581.out (fun _ hk => ⟨hk.1.1.1.1.2, ⟨hk.1.1.1.2, hk.2⟩⟩))⟩, ⟨by exact uR (Kd.R_mono HO589.out (fun _ hk => ⟨hk.1.1.1.1.2, ⟨hk.1.1.1.2, hk.1.2⟩⟩))⟩, ⟨qB HB⟩⟩
        ·replace c28 := Bool.eq_false_iff.mpr c28
         subst c28
         rw [if_neg (show ¬ (false = true) by decide)] at H
         have H' := Aside0.mk H
         clear H
         obtain ⟨Ao33, co33, eo33⟩ := Kd.R_slice HO576.out
         subst eo33
         obtain ⟨Ao34, co34, eo34⟩ := Kd.R_slice HO581.out
         subst eo34
         go_wp2_with (first | (go_at_call 28; (with_reducible refine (laws_sameInts.calls k _ _ t572 _ _ t577 true _ ?side1 ?side2 ?side3 ?side4 A20.out).mono ?_); (case side1 => exact uC (Kd.R_reads' HO576.out).2.2); (case side2 => exact (Kd.R_reads' HO576.out).2.1); (case side3 => exact uC (Kd.R_reads' HO581.out).2.2); (case side4 => exact (Kd.R_reads' HO581.out).2.1); rintro e w' ⟨rfl, ⟨nd, rfl⟩⟩; obtain ⟨Ao35, co35, eo35⟩ := Kd.R_slice HO585.out; subst eo35; obtain ⟨Ao36, co36, eo36⟩ := Kd.R_slice HO589.out; subst eo36) | (go_at_call 28; (with_reducible refine (laws_sameInts.calls k _ _ t582 _ _ t586 true _ ?side1 ?side2 ?side3 ?side4 A26.out).mono ?_); (case side1 => exact uC (Kd.R_reads' HO585.out).2.2); (case side2 => exact (Kd.R_reads' HO585.out).2.1); (case side3 => exact uC (Kd.R_reads' HO589.out).2.2); (case side4 => exact (Kd.R_reads' HO589.out).2.1); rintro e w' ⟨rfl, ⟨nd, rfl⟩⟩))
         go_meet
         case rel => exact ⟨_, (false), qs, H', ⟨by first | omega | exact Nat.le_refl _⟩, ⟨by exact uS (Kd.S_mono HO567.out (fun _ hk => ⟨hk.1.1.1.1.1, ⟨hk.1.1.1.1.2, ⟨hk.1.1.2, hk.2⟩⟩⟩))⟩, ⟨by (with_reducible repeat (first | apply Kd.Q_alloc | apply Kd.Q_drewN | apply Kd.Q_drew)); exact Kd.Q_mono HO569.out (fun _ hk => ⟨hk.1.1.1.1, ⟨hk.1.1.2, hk.2⟩⟩)⟩, ⟨by exact uR (Kd.R_mono HO571.out (fun _ hk => ⟨hk.1.1.1.1, ⟨hk.1.1.2, hk.2⟩⟩))⟩, ⟨by exact uR (Kd.R_mono HO581.out (fun _ hk => ⟨hk.1.1.1.1.2, ⟨hk.1.1.1.2, hk.2⟩⟩))⟩, ⟨by exact uR (Kd.R_mono HO589.out (fun _ hk => ⟨hk.1.1.1.1.2, ⟨hk.1.1.1.2, hk.1.2⟩⟩))⟩, ⟨qB HB⟩⟩
       ·replace c27 := Bool.eq_false_iff.mpr c27
        subst c27
        rw [if_neg (show ¬ (false = true) by decide)] at H
        first | exact (laws_FnPurchases.j0_no _ _ _ _ _ _ _ _ _ H).elim
     ·rw [if_neg c22] at H
      have c22b0 : (t573 == t578) = false := beq_eq_false_iff_ne.mpr c22
      have c22b1 : (t573 != t578) = true := bne_iff_ne.mpr c22
      first | exact (laws_FnPurchases.j0_no _ _ _ _ _ _ _ _ _ H).elim
    ·replace c21 := Bool.eq_false_iff.mpr c21
     subst c21
     rw [if_neg (show ¬ (false = true) by decide)] at H
     first | exact (laws_FnPurchases.j0_no _ _ _ _ _ _ _ _ _ H).elim
  case rest => as_aux_lemma =>
   clear HC10
   try clear c1
   try clear c2
   try clear p2
   try clear c4
   try clear c7
   try clear c19
   try clear c19b0
   try clear c19b1
   try clear c19b2
   try clear c21
   try clear c22
   try clear c22b0
   try clear c22b1
   try clear c23
   try clear c23b0
   try clear c23b1
   try clear c23b2
   try clear c24
   try clear c27
   try clear c28
   obtain ⟨kq, x117_9, rfl, HA, HJ9, HO_5, HO_6, HO_7, HO_11, HO_16, HB⟩ := hcut
   cases kq with
   | zero => exact absurd HA.out (by simp [laws_FnPurchases.j0])
   | succ kj9 =>
    have H := HA.out
    clear HA
    simp only [laws_FnPurchases.j0] at H
    by_cases c45 : x117_9 = true
    ·subst c45
     rw [if_pos rfl] at H
     exact absurd H (by simp)
    ·replace c45 := Bool.eq_false_iff.mpr c45
     subst c45
     rw [if_neg (show ¬ (false = true) by decide)] at H
     have HC46 := Aside0.mk H
     clear H
     go_upto_if 118 with (fail)
     go_cut [] (fun wc => ∃ (kq : Nat), Aside0 (laws_FnPurchases.j6 kq l1 = some true) ∧ Aside0 (kq ≤ kj9) ∧ Aside0 (Below w.heap.size w wc))
     case first => as_aux_lemma =>
      have H := HC46.out
      clear HC46
      by_cases c47 : t574 = true
      ·subst c47
       rw [if_pos rfl] at H
       by_cases c48 : 7 ≤ 35184372088832
       ·rw [if_pos c48] at H
        have c48b0 := eq_true c48
        have c48b1 : decide (7 ≤ 35184372088832) = true := decide_eq_true c48
        clear c48
        obtain ⟨y592, hy592⟩ : ∃ y_ : List Int, y_ = (List.replicate 7 0) := ⟨_, rfl⟩
        replace H : (laws_FnPurchases.l0 kj9 l1 t563 t564 t565 t577 t578 t586 0 0 y592 (List.replicate 7 0) t577 (t577.length : Int) 0) = some true := by first | (rw [hy592]; with_reducible exact H) | (have H2_ := (Option.bind_some _ _).symm.trans H; rw [hy592]; with_reducible exact H2_) | (have H2_ := (Option.bind_some _ _).symm.trans H; with_reducible exact H2_) | with_reducible exact H | (rw [hy592]; exact H) | exact H
        have Ny592 := Aside0.mk hy592
        clear hy592
        obtain ⟨y595, hy595⟩ : ∃ y_ : List Int, y_ = (List.replicate 7 0) := ⟨_, rfl⟩
        replace H : (laws_FnPurchases.l0 kj9 l1 t563 t564 t565 t577 t578 t586 0 0 y592 y595 t577 (t577.length : Int) 0) = some true := by first | (rw [hy595]; with_reducible exact H) | (have H2_ := (Option.bind_some _ _).symm.trans H; rw [hy595]; with_reducible exact H2_) | (have H2_ := (Option.bind_some _ _).symm.trans H; with_reducible exact H2_) | with_reducible exact H | (rw [hy595]; exact H) | exact H
        have Ny595 := Aside0.mk hy595
        clear hy595
        have H' := Aside0.mk H
        clear H
        try go_wp2
        have n0_ := Aside0.mk (Kd.S_drew HO_5.out)
        have n1_ := Aside0.mk (Kd.Q_drew HO_6.out)
        have n2_ := Aside0.mk (Kd.R_drew HO_7.out)
        have n3_ := Aside0.mk (Kd.R_drew HO_11.out)
        have n4_ := Aside0.mk (Kd.R_drew HO_16.out)
        have n5_ := Aside0.mk (below_drew1 HB.out)
        clear HO_5
        clear HO_6
        clear HO_7
        clear HO_11
        clear HO_16
        clear HB
        have HO_5 := n0_
        have HO_6 := n1_
        have HO_7 := n2_
        have HO_11 := n3_
        have HO_16 := n4_
        have HB := n5_
        clear n0_ n1_ n2_ n3_ n4_ n5_
        refine start_ (n := 4) (S := fun w' => True) (ds := []) #[false, false, false, false] (by kernel_rfl) rfl rfl trivial (fun hHeld => ?_)
        generalize wc.drew = w49 at HO_5 HO_6 HO_7 HO_11 HO_16 HB hHeld ⊢
        refine join_ (σ := Value × Value) 1 #[true, true, true, false] (fun s_ => [(119, s_.1), (120, s_.2), (20, s_.1)]) (fun s_ w' => (Kd.R (Kd.int .i64) 3 w' w.heap.size (fun k_ => some k_ ≠ (s_.2 : Value).ownBlock ∧ some k_ ≠ (v580 : Value).ownBlock ∧ some k_ ≠ (v588 : Value).ownBlock ∧ some k_ ≠ (.slice Ao13 t564.length co13 : Value).ownBlock ∧ some k_ ≠ (.slice Ao14 t565.length co14 : Value).ownBlock) s_.1 y592) ∧ (Kd.R (Kd.int .i64) 3 w' w.heap.size (fun k_ => some k_ ≠ (s_.1 : Value).ownBlock ∧ some k_ ≠ (v580 : Value).ownBlock ∧ some k_ ≠ (v588 : Value).ownBlock ∧ some k_ ≠ (.slice Ao13 t564.length co13 : Value).ownBlock ∧ some k_ ≠ (.slice Ao14 t565.length co14 : Value).ownBlock) s_.2 y595) ∧ (Kd.R (Kd.int .i64) 3 w' w.heap.size (fun k_ => some k_ ≠ (s_.1 : Value).ownBlock ∧ some k_ ≠ (s_.2 : Value).ownBlock ∧ some k_ ≠ (v588 : Value).ownBlock ∧ some k_ ≠ (.slice Ao13 t564.length co13 : Value).ownBlock ∧ some k_ ≠ (.slice Ao14 t565.length co14 : Value).ownBlock) v580 t577) ∧ (Kd.R (Kd.int .i64) 3 w' w.heap.size (fun k_ => some k_ ≠ (s_.1 : Value).ownBlock ∧ some k_ ≠ (s_.2 : Value).ownBlock ∧ some k_ ≠ (v580 : Value).ownBlock ∧ some k_ ≠ (.slice Ao13 t564.length co13 : Value).ownBlock ∧ some k_ ≠ (.slice Ao14 t565.length co14 : Value).ownBlock) v588 t586) ∧ (Kd.S (Kd.slice 3 (Kd.int .i64)) 23 w' w.heap.size (fun k_ => some k_ ≠ (s_.1 : Value).ownBlock ∧ some k_ ≠ (s_.2 : Value).ownBlock ∧ some k_ ≠ (v580 : Value).ownBlock ∧ some k_ ≠ (v588 : Value).ownBlock ∧ some k_ ≠ (.slice Ao13 t564.length co13 : Value).ownBlock ∧ some k_ ≠ (.slice Ao14 t565.length co14 : Value).ownBlock) (.slice Ao12 t563.length co12) t563) ∧ (Kd.Q (Kd.int .i64) 3 w' w.heap.size (fun k_ => some k_ ≠ (s_.1 : Value).ownBlock ∧ some k_ ≠ (s_.2 : Value).ownBlock ∧ some k_ ≠ (v580 : Value).ownBlock ∧ some k_ ≠ (v588 : Value).ownBlock ∧ some k_ ≠ (.slice Ao14 t565.length co14 : Value).ownBlock) (.slice Ao13 t564.length co13) t564) ∧ (Kd.R (Kd.int .i64) 3 w' w.heap.size (fun k_ => some k_ ≠ (s_.1 : Value).ownBlock ∧ some k_ ≠ (s_.2 : Value).ownBlock ∧ some k_ ≠ (v580 : Value).ownBlock ∧ some k_ ≠ (v588 : Value).ownBlock ∧ some k_ ≠ (.slice Ao13 t564.length co13 : Value).ownBlock) (.slice Ao14 t565.length co14) t565) ∧ (Below w.heap.size w w')) ?_ ?_
        rotate_left
        ·intro hCont
         refine two_ (i := 0) (j := 1) (Ni := some 119) (Nj := some 120) #[true, false, false, false] #[false, true, false, false] rfl rfl rfl rfl (by kernel_rfl) (by decide) (by decide) (fun K hK => ?_) (fun K hK => ?_)
         ·skip
          refine Kd.R_make_step (Kd.int .i64) _ 3 (by rfl) (N := 119) rfl 23 _ _ rfl 7 rfl rfl Try.underlying23 (.int .i64 0) 8 info3 rfl (by decide) (by omega) 0 (ok := fun _ => True) (okp := fun _ => True) rfl (fun _ hk => hk) trivial (by omega) (by omega) (Below.refl _ _) (Nat.le_refl _) ?_
          intro v593 w50 ho51 hb hg_ hnew_
          clear hg_ hnew_
          (first | rw [← Ny592.out] at ho51 | (simp only [Int.reduceToNat] at ho51; rw [← Ny592.out] at ho51))
          have n0_ := Aside0.mk (Kd.S_elder' (qS HO_5) (Kd.R_base ho51) hb)
          have n1_ := Aside0.mk (Kd.Q_elder' (by (with_reducible repeat (first | apply Kd.Q_alloc | apply Kd.Q_drewN | apply Kd.Q_drew)); exact HO_6.out) (Kd.R_base ho51) hb)
          have n2_ := Aside0.mk (Kd.R_elder' (qR HO_7) (Kd.R_base ho51) hb)
          have n3_ := Aside0.mk (Kd.R_elder' (qR HO_11) (Kd.R_base ho51) hb)
          have n4_ := Aside0.mk (Kd.R_elder' (qR HO_16) (Kd.R_base ho51) hb)
          have n5_ := Aside0.mk (Kd.R_lower (Kd.R_new' (Kd.R_new' (Kd.R_new' (Kd.R_new' ho51 (Kd.Q_lt (by (with_reducible repeat (first | apply Kd.Q_alloc | apply Kd.Q_drewN | apply Kd.Q_drew)); exact HO_6.out))) (Kd.R_lt (qR HO_7))) (Kd.R_lt (qR HO_11))) (Kd.R_lt (qR HO_16))) (below_size (qB HB)))
          have n6_ := Aside0.mk (below_step (qB HB) hb)
          clear HO_5
          clear HO_6
          clear HO_7
          clear HO_11
          clear HO_16
          clear HB
          have HO_5 := n0_
          have HO_6 := n1_
          have HO_7 := n2_
          have HO_11 := n3_
          have HO_16 := n4_
          have HO594 := n5_
          have HB := n6_
          clear n0_ n1_ n2_ n3_ n4_ n5_ n6_
          clear hb ho51
          refine hK.out _ _ trivial (fun hHeld => ?_)
          clear hK K
          refine norm_ (a' := ?_) ?_ ?_
          rotate_left
          ·show Act.put _ (some 119) _ = _
           simp only [Act.put, List.setIfInBounds_toArray, List.set_cons_zero, List.set_cons_succ, i64_w, i32_w]
           rfl
          refine pure_ (i := 2) (N := some 20) (v := ?_) (a' := ?_) #[true, false, true, false] rfl rfl (by kernel_rfl) (fun _ _ _ h => h) (Or.inl ⟨by rfl, ?_⟩) ?_ ?_; rotate_left; focus (intro w'; go_simp; with_reducible rfl)
          rotate_left; focus (simp only [Act.put, List.setIfInBounds_toArray, List.set_cons_zero, List.set_cons_succ, i64_w, i32_w]; rfl)
          refine one_ (i := 1) (N := some 120) #[true, true, true, false] rfl rfl (by kernel_rfl) (by decide) (fun K hK => ?_)
          refine Kd.R_make_step (Kd.int .i64) _ 3 (by rfl) (N := 120) rfl 23 _ _ rfl 7 rfl rfl Try.underlying23 (.int .i64 0) 8 info3 rfl (by decide) (by omega) 0 (ok := fun _ => True) (okp := fun _ => True) rfl (fun _ hk => hk) trivial (by omega) (by omega) (Below.refl _ _) (Nat.le_refl _) ?_
          intro v596 w52 ho53 hb hg_ hnew_
          clear hg_ hnew_
          (first | rw [← Ny595.out] at ho53 | (simp only [Int.reduceToNat] at ho53; rw [← Ny595.out] at ho53))
          have n0_ := Aside0.mk (Kd.S_elder' (qS HO_5) (Kd.R_base ho53) hb)
          have n1_ := Aside0.mk (Kd.Q_elder' (by (with_reducible repeat (first | apply Kd.Q_alloc | apply Kd.Q_drewN | apply Kd.Q_drew)); exact HO_6.out) (Kd.R_base ho53) hb)
          have n2_ := Aside0.mk (Kd.R_elder' (qR HO_7) (Kd.R_base ho53) hb)
          have n3_ := Aside0.mk (Kd.R_elder' (qR HO_11) (Kd.R_base ho53) hb)
          have n4_ := Aside0.mk (Kd.R_elder' (qR HO_16) (Kd.R_base ho53) hb)
          have n5_ := Aside0.mk (Kd.R_elder' (qR HO594) (Kd.R_base ho53) hb)
          have n6_ := Aside0.mk (Kd.R_lower (Kd.R_new' (Kd.R_new' (Kd.R_new' (Kd.R_new' (Kd.R_new' ho53 (Kd.Q_lt (by (with_reducible repeat (first | apply Kd.Q_alloc | apply Kd.Q_drewN | apply Kd.Q_drew)); exact HO_6.out))) (Kd.R_lt (qR HO_7))) (Kd.R_lt (qR HO_11))) (Kd.R_lt (qR HO_16))) (Kd.R_lt (qR HO594))) (below_size (qB HB)))
          have n7_ := Aside0.mk (below_step (qB HB) hb)
          clear HO_5
          clear HO_6
          clear HO_7
          clear HO_11
          clear HO_16
          clear HO594
          clear HB
          have HO_5 := n0_
          have HO_6 := n1_
          have HO_7 := n2_
          have HO_11 := n3_
          have HO_16 := n4_
          have HO594 := n5_
          have HO597 := n6_
          have HB := n7_
          clear n0_ n1_ n2_ n3_ n4_ n5_ n6_ n7_
          clear hb ho53
          refine hK.out _ _ trivial (fun hHeld => ?_)
          clear hK K
          refine norm_ (a' := ?_) ?_ ?_
          rotate_left
          ·show Act.put _ (some 120) _ = _
           simp only [Act.put, List.setIfInBounds_toArray, List.set_cons_zero, List.set_cons_succ, i64_w, i32_w]
           rfl
          exact norm_ (by simp only [putAll, Act.put, List.setIfInBounds_toArray, List.set_cons_zero, List.set_cons_succ]) (hCont (v593, v596) _ ⟨(by exact uR (Kd.R_mono HO594.out (fun _ hk => ⟨hk.2, ⟨hk.1.1.2, ⟨hk.1.2, ⟨hk.1.1.1.1.2, hk.1.1.1.2⟩⟩⟩⟩))), (by exact uR (Kd.R_mono HO597.out (fun _ hk => ⟨hk.2, ⟨hk.1.1.2, ⟨hk.1.2, ⟨hk.1.1.1.1.2, hk.1.1.1.2⟩⟩⟩⟩))), (by exact uR (Kd.R_mono HO_11.out (fun _ hk => ⟨hk.1.2, ⟨hk.2, ⟨hk.1.1.2.2, ⟨hk.1.1.1, hk.1.1.2.1⟩⟩⟩⟩))), (by exact uR (Kd.R_mono HO_16.out (fun _ hk => ⟨hk.1.2, ⟨hk.2, ⟨hk.1.1.2.2, ⟨hk.1.1.1, hk.1.1.2.1⟩⟩⟩⟩))), (by exact uS (Kd.S_mono HO_5.out (fun _ hk => ⟨hk.1.2, ⟨hk.2, ⟨hk.1.1.2.2.1, ⟨hk.1.1.2.2.2, ⟨hk.1.1.1, hk.1.1.2.1⟩⟩⟩⟩⟩))), (by (with_reducible repeat (first | apply Kd.Q_alloc | apply Kd.Q_drewN | apply Kd.Q_drew)); exact Kd.Q_mono HO_6.out (fun _ hk => ⟨hk.1.2, ⟨hk.2, ⟨hk.1.1.2.1, ⟨hk.1.1.2.2, hk.1.1.1⟩⟩⟩⟩)), (by exact uR (Kd.R_mono HO_7.out (fun _ hk => ⟨hk.1.2, ⟨hk.2, ⟨hk.1.1.2.1, ⟨hk.1.1.2.2, hk.1.1.1⟩⟩⟩⟩))), (qB HB)⟩)
         ·skip
          refine Kd.R_make_step (Kd.int .i64) _ 3 (by rfl) (N := 120) rfl 23 _ _ rfl 7 rfl rfl Try.underlying23 (.int .i64 0) 8 info3 rfl (by decide) (by omega) 0 (ok := fun _ => True) (okp := fun _ => True) rfl (fun _ hk => hk) trivial (by omega) (by omega) (Below.refl _ _) (Nat.le_refl _) ?_
          intro v596 w50 ho51 hb hg_ hnew_
          clear hg_ hnew_
          (first | rw [← Ny595.out] at ho51 | (simp only [Int.reduceToNat] at ho51; rw [← Ny595.out] at ho51))
          have n0_ := Aside0.mk (Kd.S_elder' (qS HO_5) (Kd.R_base ho51) hb)
          have n1_ := Aside0.mk (Kd.Q_elder' (by (with_reducible repeat (first | apply Kd.Q_alloc | apply Kd.Q_drewN | apply Kd.Q_drew)); exact HO_6.out) (Kd.R_base ho51) hb)
          have n2_ := Aside0.mk (Kd.R_elder' (qR HO_7) (Kd.R_base ho51) hb)
          have n3_ := Aside0.mk (Kd.R_elder' (qR HO_11) (Kd.R_base ho51) hb)
          have n4_ := Aside0.mk (Kd.R_elder' (qR HO_16) (Kd.R_base ho51) hb)
          have n5_ := Aside0.mk (Kd.R_lower (Kd.R_new' (Kd.R_new' (Kd.R_new' (Kd.R_new' ho51 (Kd.Q_lt (by (with_reducible repeat (first | apply Kd.Q_alloc | apply Kd.Q_drewN | apply Kd.Q_drew)); exact HO_6.out))) (Kd.R_lt (qR HO_7))) (Kd.R_lt (qR HO_11))) (Kd.R_lt (qR HO_16))) (below_size (qB HB)))
          have n6_ := Aside0.mk (below_step (qB HB) hb)
          clear HO_5
          clear HO_6
          clear HO_7
          clear HO_11
          clear HO_16
          clear HB
          have HO_5 := n0_
          have HO_6 := n1_
          have HO_7 := n2_
          have HO_11 := n3_
          have HO_16 := n4_
          have HO597 := n5_
          have HB := n6_
          clear n0_ n1_ n2_ n3_ n4_ n5_ n6_
          clear hb ho51
          refine hK.out _ _ trivial (fun hHeld => ?_)
          clear hK K
          refine norm_ (a' := ?_) ?_ ?_
          rotate_left
          ·show Act.put _ (some 120) _ = _
           simp only [Act.put, List.setIfInBounds_toArray, List.set_cons_zero, List.set_cons_succ, i64_w, i32_w]
           rfl
          refine one_ (i := 0) (N := some 119) #[true, true, false, false] rfl rfl (by kernel_rfl) (by decide) (fun K hK => ?_)
          refine Kd.R_make_step (Kd.int .i64) _ 3 (by rfl) (N := 119) rfl 23 _ _ rfl 7 rfl rfl Try.underlying23 (.int .i64 0) 8 info3 rfl (by decide) (by omega) 0 (ok := fun _ => True) (okp := fun _ => True) rfl (fun _ hk => hk) trivial (by omega) (by omega) (Below.refl _ _) (Nat.le_refl _) ?_
          intro v593 w52 ho53 hb hg_ hnew_
          clear hg_ hnew_
          (first | rw [← Ny592.out] at ho53 | (simp only [Int.reduceToNat] at ho53; rw [← Ny592.out] at ho53))
          have n0_ := Aside0.mk (Kd.S_elder' (qS HO_5) (Kd.R_base ho53) hb)
          have n1_ := Aside0.mk (Kd.Q_elder' (by (with_reducible repeat (first | apply Kd.Q_alloc | apply Kd.Q_drewN | apply Kd.Q_drew)); exact HO_6.out) (Kd.R_base ho53) hb)
          have n2_ := Aside0.mk (Kd.R_elder' (qR HO_7) (Kd.R_base ho53) hb)
          have n3_ := Aside0.mk (Kd.R_elder' (qR HO_11) (Kd.R_base ho53) hb)
          have n4_ := Aside0.mk (Kd.R_elder' (qR HO_16) (Kd.R_base ho53) hb)
          have n5_ := Aside0.mk (Kd.R_elder' (qR HO597) (Kd.R_base ho53) hb)
          have n6_ := Aside0.mk (Kd.R_lower (Kd.R_new' (Kd.R_new' (Kd.R_new' (Kd.R_new' (Kd.R_new' ho53 (Kd.Q_lt (by (with_reducible repeat (first | apply Kd.Q_alloc | apply Kd.Q_drewN | apply Kd.Q_drew)); exact HO_6.out))) (Kd.R_lt (qR HO_7))) (Kd.R_lt (qR HO_11))) (Kd.R_lt (qR HO_16))) (Kd.R_lt (qR HO597))) (below_size (qB HB)))
          have n7_ := Aside0.mk (below_step (qB HB) hb)
          clear HO_5
          clear HO_6
          clear HO_7
          clear HO_11
          clear HO_16
          clear HO597
          clear HB
          have HO_5 := n0_
          have HO_6 := n1_
          have HO_7 := n2_
          have HO_11 := n3_
          have HO_16 := n4_
          have HO597 := n5_
          have HO594 := n6_
          have HB := n7_
          clear n0_ n1_ n2_ n3_ n4_ n5_ n6_ n7_
          clear hb ho53
          refine hK.out _ _ trivial (fun hHeld => ?_)
          clear hK K
          refine norm_ (a' := ?_) ?_ ?_
          rotate_left
          ·show Act.put _ (some 119) _ = _
           simp only [Act.put, List.setIfInBounds_toArray, List.set_cons_zero, List.set_cons_succ, i64_w, i32_w]
           rfl
          refine pure_ (i := 2) (N := some 20) (v := ?_) (a' := ?_) #[true, true, true, false] rfl rfl (by kernel_rfl) (fun _ _ _ h => h) (Or.inl ⟨by rfl, ?_⟩) ?_ ?_; rotate_left; focus (intro w'; go_simp; with_reducible rfl)
          rotate_left; focus (simp only [Act.put, List.setIfInBounds_toArray, List.set_cons_zero, List.set_cons_succ, i64_w, i32_w]; rfl)
          exact norm_ (by simp only [putAll, Act.put, List.setIfInBounds_toArray, List.set_cons_zero, List.set_cons_succ]) (hCont (v593, v596) _ ⟨(by exact uR (Kd.R_mono HO594.out (fun _ hk => ⟨hk.2, ⟨hk.1.1.2, ⟨hk.1.2, ⟨hk.1.1.1.1.2, hk.1.1.1.2⟩⟩⟩⟩))), (by exact uR (Kd.R_mono HO597.out (fun _ hk => ⟨hk.2, ⟨hk.1.1.2, ⟨hk.1.2, ⟨hk.1.1.1.1.2, hk.1.1.1.2⟩⟩⟩⟩))), (by exact uR (Kd.R_mono HO_11.out (fun _ hk => ⟨hk.2, ⟨hk.1.2, ⟨hk.1.1.2.2, ⟨hk.1.1.1, hk.1.1.2.1⟩⟩⟩⟩))), (by exact uR (Kd.R_mono HO_16.out (fun _ hk => ⟨hk.2, ⟨hk.1.2, ⟨hk.1.1.2.2, ⟨hk.1.1.1, hk.1.1.2.1⟩⟩⟩⟩))), (by exact uS (Kd.S_mono HO_5.out (fun _ hk => ⟨hk.2, ⟨hk.1.2, ⟨hk.1.1.2.2.1, ⟨hk.1.1.2.2.2, ⟨hk.1.1.1, hk.1.1.2.1⟩⟩⟩⟩⟩))), (by (with_reducible repeat (first | apply Kd.Q_alloc | apply Kd.Q_drewN | apply Kd.Q_drew)); exact Kd.Q_mono HO_6.out (fun _ hk => ⟨hk.2, ⟨hk.1.2, ⟨hk.1.1.2.1, ⟨hk.1.1.2.2, hk.1.1.1⟩⟩⟩⟩)), (by exact uR (Kd.R_mono HO_7.out (fun _ hk => ⟨hk.2, ⟨hk.1.2, ⟨hk.1.1.2.1, ⟨hk.1.1.2.2, hk.1.1.1⟩⟩⟩⟩))), (qB HB)⟩)
        rintro ⟨v593, v596⟩ w54 ⟨h0_, h1_, h2_, h3_, h4_, h5_, h6_, h7_⟩
        have n0_ : Aside0 (Kd.R (Kd.int .i64) 3 w54 w.heap.size (fun k_ => some k_ ≠ (v596 : Value).ownBlock ∧ some k_ ≠ (v580 : Value).ownBlock ∧ some k_ ≠ (v588 : Value).ownBlock ∧ some k_ ≠ (.slice Ao13 t564.length co13 : Value).ownBlock ∧ some k_ ≠ (.slice Ao14 t565.length co14 : Value).ownBlock) v593 y592) := ⟨h0_⟩
        have n1_ : Aside0 (Kd.R (Kd.int .i64) 3 w54 w.heap.size (fun k_ => some k_ ≠ (v593 : Value).ownBlock ∧ some k_ ≠ (v580 : Value).ownBlock ∧ some k_ ≠ (v588 : Value).ownBlock ∧ some k_ ≠ (.slice Ao13 t564.length co13 : Value).ownBlock ∧ some k_ ≠ (.slice Ao14 t565.length co14 : Value).ownBlock) v596 y595) := ⟨h1_⟩
        have n2_ : Aside0 (Kd.R (Kd.int .i64) 3 w54 w.heap.size (fun k_ => some k_ ≠ (v593 : Value).ownBlock ∧ some k_ ≠ (v596 : Value).ownBlock ∧ some k_ ≠ (v588 : Value).ownBlock ∧ some k_ ≠ (.slice Ao13 t564.length co13 : Value).ownBlock ∧ some k_ ≠ (.slice Ao14 t565.length co14 : Value).ownBlock) v580 t577) := ⟨h2_⟩
        have n3_ : Aside0 (Kd.R (Kd.int .i64) 3 w54 w.heap.size (fun k_ => some k_ ≠ (v593 : Value).ownBlock ∧ some k_ ≠ (v596 : Value).ownBlock ∧ some k_ ≠ (v580 : Value).ownBlock ∧ some k_ ≠ (.slice Ao13 t564.length co13 : Value).ownBlock ∧ some k_ ≠ (.slice Ao14 t565.length co14 : Value).ownBlock) v588 t586) := ⟨h3_⟩
        have n4_ : Aside0 (Kd.S (Kd.slice 3 (Kd.int .i64)) 23 w54 w.heap.size (fun k_ => some k_ ≠ (v593 : Value).ownBlock ∧ some k_ ≠ (v596 : Value).ownBlock ∧ some k_ ≠ (v580 : Value).ownBlock ∧ some k_ ≠ (v588 : Value).ownBlock ∧ some k_ ≠ (.slice Ao13 t564.length co13 : Value).ownBlock ∧ some k_ ≠ (.slice Ao14 t565.length co14 : Value).ownBlock) (.slice Ao12 t563.length co12) t563) := ⟨h4_⟩
        have n5_ : Aside0 (Kd.Q (Kd.int .i64) 3 w54 w.heap.size (fun k_ => some k_ ≠ (v593 : Value).ownBlock ∧ some k_ ≠ (v596 : Value).ownBlock ∧ some k_ ≠ (v580 : Value).ownBlock ∧ some k_ ≠ (v588 : Value).ownBlock ∧ some k_ ≠ (.slice Ao14 t565.length co14 : Value).ownBlock) (.slice Ao13 t564.length co13) t564) := ⟨h5_⟩
        have n6_ : Aside0 (Kd.R (Kd.int .i64) 3 w54 w.heap.size (fun k_ => some k_ ≠ (v593 : Value).ownBlock ∧ some k_ ≠ (v596 : Value).ownBlock ∧ some k_ ≠ (v580 : Value).ownBlock ∧ some k_ ≠ (v588 : Value).ownBlock ∧ some k_ ≠ (.slice Ao13 t564.length co13 : Value).ownBlock) (.slice Ao14 t565.length co14) t565) := ⟨h6_⟩
        have n7_ : Aside0 (Below w.heap.size w w54) := ⟨h7_⟩
        clear HO_5
        clear HO_6
        clear HO_7
        clear HO_11
        clear HO_16
        clear HB
        clear h0_ h1_ h2_ h3_ h4_ h5_ h6_ h7_
        have HO594 := n0_
        have HO597 := n1_
        have HO_11 := n2_
        have HO_16 := n3_
        have HO_5 := n4_
        have HO_6 := n5_
        have HO_7 := n6_
        have HB := n7_
        clear n0_ n1_ n2_ n3_ n4_ n5_ n6_ n7_
        have hHeld := trivial
        refine norm_ (a' := ?_) ?_ ?_
        rotate_left
        ·simp only [putAll, Act.put, List.setIfInBounds_toArray, List.set_cons_zero, List.set_cons_succ]
         rfl
        refine pure_ (i := 3) (N := some 21) (v := ?_) (a' := ?_) #[true, true, true, true] rfl rfl (by kernel_rfl) (fun _ _ _ h => h) (Or.inl ⟨by rfl, ?_⟩) ?_ ?_; rotate_left; focus (intro w'; go_simp; with_reducible rfl)
        rotate_left; focus (simp only [Act.put, List.setIfInBounds_toArray, List.set_cons_zero, List.set_cons_succ, i64_w, i32_w]; rfl)
        refine done_ (by kernel_rfl) ?_
        obtain ⟨Ao55, co55, eo55⟩ := Kd.R_slice HO_11.out
        subst eo55
        try go_wp2
        go_loopg [18, 123] kj9 (fun kq v18 v123 w' => ∃ (x18_2 : Int) (x20_2 : List Int) (x123_2 : Int), v18 = .int .i64 x18_2 ∧ v123 = .int .i64 x123_2 ∧ Aside0 (laws_FnPurchases.l0 kq l1 t563 t564 t565 t577 t578 t586 x18_2 0 x20_2 y595 t577 (t577.length : Int) x123_2 = some true) ∧ Aside0 (kq ≤ kj9) ∧ Aside0 (Kd.S (Kd.slice 3 (Kd.int .i64)) 23 w' w.heap.size (fun k_ => some k_ ≠ ((.slice Ao13 t564.length co13) : Value).ownBlock ∧ some k_ ≠ ((.slice Ao14 t565.length co14) : Value).ownBlock ∧ some k_ ≠ ((.slice Ao55 t577.length co55) : Value).ownBlock ∧ some k_ ≠ (v588 : Value).ownBlock ∧ some k_ ≠ (v593 : Value).ownBlock ∧ some k_ ≠ (v596 : Value).ownBlock ∧ some k_ ≠ ((.slice Ao55 t577.length co55) : Value).ownBlock) (.slice Ao12 t563.length co12) t563) ∧ Aside0 (Kd.Q (Kd.int .i64) 3 w' w.heap.size (fun k_ => some k_ ≠ ((.slice Ao14 t565.length co14) : Value).ownBlock ∧ some k_ ≠ ((.slice Ao55 t577.length co55) : Value).ownBlock ∧ some k_ ≠ (v588 : Value).ownBlock ∧ some k_ ≠ (v593 : Value).ownBlock ∧ some k_ ≠ (v596 : Value).ownBlock ∧ some k_ ≠ ((.slice Ao55 t577.length co55) : Value).ownBlock) (.slice Ao13 t564.length co13) t564) ∧ Aside0 (Kd.R (Kd.int .i64) 3 w' w.heap.size (fun k_ => some k_ ≠ ((.slice Ao13 t564.length co13) : Value).ownBlock ∧ some k_ ≠ ((.slice Ao55 t577.length co55) : Value).ownBlock ∧ some k_ ≠ (v588 : Value).ownBlock ∧ some k_ ≠ (v593 : Value).ownBlock ∧ some k_ ≠ (v596 : Value).ownBlock ∧ some k_ ≠ ((.slice Ao55 t577.length co55) : Value).ownBlock) (.slice Ao14 t565.length co14) t565) ∧ Aside0 (Kd.R (Kd.int .i64) 3 w' w.heap.size (fun k_ => some k_ ≠ ((.slice Ao13 t564.length co13) : Value).ownBlock ∧ some k_ ≠ ((.slice Ao14 t565.length co14) : Value).ownBlock ∧ some k_ ≠ (v588 : Value).ownBlock ∧ some k_ ≠ (v593 : Value).ownBlock ∧ some k_ ≠ (v596 : Value).ownBlock) (.slice Ao55 t577.length co55) t577) ∧ Aside0 (Kd.R (Kd.int .i64) 3 w' w.heap.size (fun k_ => some k_ ≠ ((.slice Ao13 t564.length co13) : Value).ownBlock ∧ some k_ ≠ ((.slice Ao14 t565.length co14) : Value).ownBlock ∧ some k_ ≠ ((.slice Ao55 t577.length co55) : Value).ownBlock ∧ some k_ ≠ (v593 : Value).ownBlock ∧ some k_ ≠ (v596 : Value).ownBlock ∧ some k_ ≠ ((.slice Ao55 t577.length co55) : Value).ownBlock) v588 t586) ∧ Aside0 (Kd.R (Kd.int .i64) 3 w' w.heap.size (fun k_ => some k_ ≠ ((.slice Ao13 t564.length co13) : Value).ownBlock ∧ some k_ ≠ ((.slice Ao14 t565.length co14) : Value).ownBlock ∧ some k_ ≠ ((.slice Ao55 t577.length co55) : Value).ownBlock ∧ some k_ ≠ (v588 : Value).ownBlock ∧ some k_ ≠ (v596 : Value).ownBlock ∧ some k_ ≠ ((.slice Ao55 t577.length co55) : Value).ownBlock) v593 x20_2) ∧ Aside0 (Kd.R (Kd.int .i64) 3 w' w.heap.size (fun k_ => some k_ ≠ ((.slice Ao13 t564.length co13) : Value).ownBlock ∧ some k_ ≠ ((.slice Ao14 t565.length co14) : Value).ownBlock ∧ some k_ ≠ ((.slice Ao55 t577.length co55) : Value).ownBlock ∧ some k_ ≠ (v588 : Value).ownBlock ∧ some k_ ≠ (v593 : Value).ownBlock ∧ some k_ ≠ ((.slice Ao55 t577.length co55) : Value).ownBlock) v596 y595) ∧ Aside0 (Kd.R (Kd.int .i64) 3 w' w.heap.size (fun k_ => some k_ ≠ ((.slice Ao13 t564.length co13) : Value).ownBlock ∧ some k_ ≠ ((.slice Ao14 t565.length co14) : Value).ownBlock ∧ some k_ ≠ (v588 : Value).ownBlock ∧ some k_ ≠ (v593 : Value).ownBlock ∧ some k_ ≠ (v596 : Value).ownBlock) (.slice Ao55 t577.length co55) t577) ∧ Aside0 (Below w.heap.size w w'))
        case atStart => exact ⟨(0), (y592), (0), qs, qs, H', ⟨Nat.le_refl _⟩, ⟨by exact uS (Kd.S_mono HO_5.out (fun _ hk => ⟨hk.2.2.2.2.1, ⟨hk.2.2.2.2.2, ⟨hk.2.2.1, ⟨hk.2.2.2.1, ⟨hk.1, ⟨hk.2.1, hk.2.2.1⟩⟩⟩⟩⟩⟩))⟩, ⟨by (with_reducible repeat (first | apply Kd.Q_alloc | apply Kd.Q_drewN | apply Kd.Q_drew)); exact Kd.Q_mono HO_6.out (fun _ hk => ⟨hk.2.2.2.2, ⟨hk.2.2.1, ⟨hk.2.2.2.1, ⟨hk.1, ⟨hk.2.1, hk.2.2.1⟩⟩⟩⟩⟩)⟩, ⟨by exact uR (Kd.R_mono HO_7.out (fun _ hk => ⟨hk.2.2.2.2, ⟨hk.2.2.1, ⟨hk.2.2.2.1, ⟨hk.1, ⟨hk.2.1, hk.2.2.1⟩⟩⟩⟩⟩))⟩, ⟨by exact uR (Kd.R_mono HO_11.out (fun _ hk => ⟨hk.2.2.2.1, ⟨hk.2.2.2.2, ⟨hk.2.2.1, ⟨hk.1, hk.2.1⟩⟩⟩⟩))⟩, ⟨by exact uR (Kd.R_mono HO_16.out (fun _ hk => ⟨hk.2.2.2.1, ⟨hk.2.2.2.2, ⟨hk.2.2.1, ⟨hk.1, ⟨hk.2.1, hk.2.2.1⟩⟩⟩⟩⟩))⟩, ⟨by exact uR (Kd.R_mono HO594.out (fun _ hk => ⟨hk.2.2.2.1, ⟨hk.2.2.2.2, ⟨hk.2.1, ⟨hk.2.2.1, ⟨hk.1, hk.2.1⟩⟩⟩⟩⟩))⟩, ⟨by exact uR (Kd.R_mono HO597.out (fun _ hk => ⟨hk.2.2.2.1, ⟨hk.2.2.2.2, ⟨hk.2.1, ⟨hk.2.2.1, ⟨hk.1, hk.2.1⟩⟩⟩⟩⟩))⟩, ⟨by exact uR (Kd.R_mono HO_11.out (fun _ hk => ⟨hk.2.2.2.1, ⟨hk.2.2.2.2, ⟨hk.2.2.1, ⟨hk.1, hk.2.1⟩⟩⟩⟩))⟩, ⟨qB HB⟩⟩
        case round =>
         clear H'
         try clear c1
         try clear c2
         try clear p2
         try clear c4
         try clear c7
         try clear c19
         try clear c19b0
         try clear c19b1
         try clear c19b2
         try clear c21
         try clear c22
         try clear c22b0
         try clear c22b1
         try clear c23
         try clear c23b0
         try clear c23b1
         try clear c23b2
         try clear c24
         try clear c27
         try clear c28
         try clear c45
         try clear c47
         try clear c48
         try clear c48b0
         try clear c48b1
         try clear p2
         obtain ⟨x18_2, x20_2, x123_2, rfl, rfl, HA, HK2, HO_5, HO_6, HO_7, HO_11, HO_16, HO_20, HO_21, HO_121, HB⟩ := hrel
         cases gk with
         | zero => exact absurd HA.out (by simp [laws_FnPurchases.l0])
         | succ k2 =>
          have H := HA.out
          clear HA
          simp only [laws_FnPurchases.l0] at H
          by_cases c56 : x123_2 < (t577.length : Int)
          ·rw [if_pos c56] at H
           have c56b0 : decide (x123_2 < (t577.length : Int)) = true := decide_eq_true c56
           clear c56
           (first | rw [c56b0] | (simp only [i64_w, i32_w]; rw [c56b0]) | skip)
           by_cases c57 : 0 ≤ x123_2
           ·rw [if_pos c57] at H
            have c57b0 : decide (0 ≤ x123_2) = true := decide_eq_true c57
            clear c57
            by_cases c58 : x123_2 < (t577.length : Int)
            ·rw [if_pos c58] at H
             have c58b0 : decide (x123_2 < (t577.length : Int)) = true := decide_eq_true c58
             clear c58
             by_cases c59 : 0 ≤ (rd t577 x123_2)
             ·rw [if_pos c59] at H
              have c59b0 : decide (0 ≤ (rd t577 x123_2)) = true := decide_eq_true c59
              clear c59
              by_cases c60 : (rd t577 x123_2) < (t564.length : Int)
              ·rw [if_pos c60] at H
               have c60b0 : decide ((rd t577 x123_2) < (t564.length : Int)) = true := decide_eq_true c60
               clear c60
               by_cases c61 : (rd t577 x123_2) < (t563.length : Int)
               ·rw [if_pos c61] at H
                have c61b0 : decide ((rd t577 x123_2) < (t563.length : Int)) = true := decide_eq_true c61
                clear c61
                have H' := Aside0.mk H
                clear H
                have p598 : 0 ≤ (x123_2 : Int) := of_decide_eq_true qa
                have q598 : x123_2 < (t577.length : Int) := of_decide_eq_true qa
                obtain ⟨ad598, e598, hx598_0⟩ := Kd.at_int (Kd.R_reads' HO_121.out).2.2 x123_2 p598 q598
                cases e598
                replace p598 := eq_true p598
                replace q598 := eq_true q598
                have p599 : 0 ≤ ((rd t577 x123_2) : Int) := of_decide_eq_true qa
                have q599 : (rd t577 x123_2) < (t564.length : Int) := of_decide_eq_true qa
                obtain ⟨ad599, e599, hx599_0⟩ := Kd.at_int (Kd.Q_reads' HO_6.out).2.2 (rd t577 x123_2) p599 q599
                cases e599
                replace p599 := eq_true p599
                replace q599 := eq_true q599
                have p600 : 0 ≤ ((rd t577 x123_2) : Int) := of_decide_eq_true qa
                have q600 : (rd t577 x123_2) < (t563.length : Int) := of_decide_eq_true qa
                obtain ⟨ad600, A600_0, c600_0, e600, hx600_0, hl600_0, hi600_0⟩ := at_L3 (Kd.S_reads' HO_5.out).2.2 (rd t577 x123_2) p600 q600
                cases e600
                obtain ⟨ce600, hce600, hMe600, hcc600⟩ := Kd.S_get HO_5.out [] (rd t577 x123_2) p600 (by first | exact q600 | exact of_decide_eq_true qa | (have e_ := (Kd.S_reads' HO_5.out).1; omega))
                obtain ⟨ve600_0, rfl, ge600_0⟩ := hMe600
                have hv600_0 := hcc600 0 _ rfl
                rw [Nat.add_zero, show ((Kd.slice 3 (Kd.int .i64))).sz = 1 from rfl, Nat.mul_one] at hv600_0
                replace hv600_0 := Option.some.inj (hv600_0.symm.trans hx600_0)
                rw [hv600_0] at ge600_0
                have HL600_0 := Aside0.mk (show Kd.R (Kd.int .i64) 3 _ _ _ _ (rd_L3 t563 (rd t577 x123_2)) from ge600_0)
                clear hv600_0 ge600_0
                clear hcc600 hce600
                have HR600_0 := Aside0.mk hi600_0
                have HC600_0 := Aside0.mk hl600_0
                clear hi600_0 hl600_0
                replace p600 := eq_true p600
                replace q600 := eq_true q600
                go_wp2
                go_loopg [138] k2 (fun kq v138 w' => ∃ (x20_3 : List Int) (x138_3 : Int), v138 = .int .i64 x138_3 ∧ Aside0 (laws_FnPurchases.l1 kq l1 t563 t564 t565 t577 t578 t586 (wrap64 (x18_2 + (rd t564 (rd t577 x123_2)))) 0 x20_3 y595 t577 (t577.length : Int) x123_2 (rd_L3 t563 (rd t577 x123_2)) ((rd_L3 t563 (rd t577 x123_2)).length : Int) x138_3 = some true) ∧ Aside0 (kq ≤ k2) ∧ Aside0 (Kd.S (Kd.slice 3 (Kd.int .i64)) 23 w' w.heap.size (fun k_ => some k_ ≠ ((.slice (some ad599) t564.length co13) : Value).ownBlock ∧ some k_ ≠ ((.slice Ao14 t565.length co14) : Value).ownBlock ∧ some k_ ≠ ((.slice (some ad598) t577.length co55) : Value).ownBlock ∧ some k_ ≠ (v588 : Value).ownBlock ∧ some k_ ≠ (v593 : Value).ownBlock ∧ some k_ ≠ (v596 : Value).ownBlock ∧ some k_ ≠ ((.slice (some ad598) t577.length co55) : Value).ownBlock) (.slice (some ad600) t563.length co12) t563) ∧ Aside0 (Kd.Q (Kd.int .i64) 3 w' w.heap.size (fun k_ => some k_ ≠ ((.slice Ao14 t565.length co14) : Value).ownBlock ∧ some k_ ≠ ((.slice (some ad598) t577.length co55) : Value).ownBlock ∧ some k_ ≠ (v588 : Value).ownBlock ∧ some k_ ≠ (v593 : Value).ownBlock ∧ some k_ ≠ (v596 : Value).ownBlock ∧ some k_ ≠ ((.slice (some ad598) t577.length co55) : Value).ownBlock) (.slice (some ad599) t564.length co13) t564) ∧ Aside0 (Kd.R (Kd.int .i64) 3 w' w.heap.size (fun k_ => some k_ ≠ ((.slice (some ad599) t564.length co13) : Value).ownBlock ∧ some k_ ≠ ((.slice (some ad598) t577.length co55) : Value).ownBlock ∧ some k_ ≠ (v588 : Value).ownBlock ∧ some k_ ≠ (v593 : Value).ownBlock ∧ some k_ ≠ (v596 : Value).ownBlock ∧ some k_ ≠ ((.slice (some ad598) t577.length co55) : Value).ownBlock) (.slice Ao14 t565.length co14) t565) ∧ Aside0 (Kd.R (Kd.int .i64) 3 w' w.heap.size (fun k_ => some k_ ≠ ((.slice (some ad599) t564.length co13) : Value).ownBlock ∧ some k_ ≠ ((.slice Ao14 t565.length co14) : Value).ownBlock ∧ some k_ ≠ (v588 : Value).ownBlock ∧ some k_ ≠ (v593 : Value).ownBlock ∧ some k_ ≠ (v596 : Value).ownBlock) (.slice (some ad598) t577.length co55) t577) ∧ Aside0 (Kd.R (Kd.int .i64) 3 w' w.heap.size (fun k_ => some k_ ≠ ((.slice (some ad599) t564.length co13) : Value).ownBlock ∧ some k_ ≠ ((.slice Ao14 t565.length co14) : Value).ownBlock ∧ some k_ ≠ ((.slice (some ad598) t577.length co55) : Value).ownBlock ∧ some k_ ≠ (v593 : Value).ownBlock ∧ some k_ ≠ (v596 : Value).ownBlock ∧ some k_ ≠ ((.slice (some ad598) t577.length co55) : Value).ownBlock) v588 t586) ∧ Aside0 (Kd.R (Kd.int .i64) 3 w' w.heap.size (fun k_ => some k_ ≠ ((.slice (some ad599) t564.length co13) : Value).ownBlock ∧ some k_ ≠ ((.slice Ao14 t565.length co14) : Value).ownBlock ∧ some k_ ≠ ((.slice (some ad598) t577.length co55) : Value).ownBlock ∧ some k_ ≠ (v588 : Value).ownBlock ∧ some k_ ≠ (v596 : Value).ownBlock ∧ some k_ ≠ ((.slice (some ad598) t577.length co55) : Value).ownBlock) v593 x20_3) ∧ Aside0 (Kd.R (Kd.int .i64) 3 w' w.heap.size (fun k_ => some k_ ≠ ((.slice (some ad599) t564.length co13) : Value).ownBlock ∧ some k_ ≠ ((.slice Ao14 t565.length co14) : Value).ownBlock ∧ some k_ ≠ ((.slice (some ad598) t577.length co55) : Value).ownBlock ∧ some k_ ≠ (v588 : Value).ownBlock ∧ some k_ ≠ (v593 : Value).ownBlock ∧ some k_ ≠ ((.slice (some ad598) t577.length co55) : Value).ownBlock) v596 y595) ∧ Aside0 (Kd.R (Kd.int .i64) 3 w' w.heap.size (fun k_ => some k_ ≠ ((.slice (some ad599) t564.length co13) : Value).ownBlock ∧ some k_ ≠ ((.slice Ao14 t565.length co14) : Value).ownBlock ∧ some k_ ≠ (v588 : Value).ownBlock ∧ some k_ ≠ (v593 : Value).ownBlock ∧ some k_ ≠ (v596 : Value).ownBlock) (.slice (some ad598) t577.length co55) t577) ∧ Aside0 (Kd.R (Kd.int .i64) 3 w' w.heap.size (fun k_ => some k_ ≠ ((.slice (some ad599) t564.length co13) : Value).ownBlock ∧ some k_ ≠ ((.slice Ao14 t565.length co14) : Value).ownBlock ∧ some k_ ≠ ((.slice (some ad598) t577.length co55) : Value).ownBlock ∧ some k_ ≠ (v588 : Value).ownBlock ∧ some k_ ≠ (v593 : Value).ownBlock ∧ some k_ ≠ (v596 : Value).ownBlock ∧ some k_ ≠ ((.slice (some ad598) t577.length co55) : Value).ownBlock) (.slice A600_0 (rd_L3 t563 (rd t577 x123_2)).length c600_0) (rd_L3 t563 (rd t577 x123_2))) ∧ Aside0 (Below w.heap.size w w'))
                case atStart => exact ⟨(x20_2), (0), qs, H', ⟨Nat.le_refl _⟩, ⟨qS HO_5⟩, ⟨by (with_reducible repeat (first | apply Kd.Q_alloc | apply Kd.Q_drewN | apply Kd.Q_drew)); exact HO_6.out⟩, ⟨qR HO_7⟩, ⟨qR HO_11⟩, ⟨qR HO_16⟩, ⟨qR HO_20⟩, ⟨qR HO_21⟩, ⟨qR HO_121⟩, ⟨by exact uR (Kd.R_mono HL600_0.out (fun _ hk => hk.1))⟩, ⟨qB HB⟩⟩
                case round =>
                 clear H'
                 try clear c1
                 try clear c2
                 try clear p2
                 try clear c4
                 try clear c5
                 try clear p5
                 try clear q5
                 try clear hx5
                 try clear c6
                 try clear p6
                 try clear q6
                 try clear hx6
                 try clear c7
                 try clear c19
                 try clear c19b0
                 try clear c19b1
                 try clear c19b2
                 try clear c21
                 try clear c22
                 try clear c22b0
                 try clear c22b1
                 try clear c23
                 try clear c23b0
                 try clear c23b1
                 try clear c23b2
                 try clear c24
                 try clear c27
                 try clear c28
                 try clear c45
                 try clear c47
                 try clear c48
                 try clear c48b0
                 try clear c48b1
                 try clear c56
                 try clear c56b0
                 try clear c57
                 try clear c57b0
                 try clear c58
                 try clear c58b0
                 try clear c59
                 try clear c59b0
                 try clear p59
                 try clear q59
                 try clear hx59
                 try clear c60
                 try clear c60b0
                 try clear p60
                 try clear q60
                 try clear hx60
                 try clear c61
                 try clear c61b0
                 try clear hx598_0
                 try clear hx599_0
                 try clear hx600_0
                 try clear p2
                 try clear p598
                 try clear p599
                 try clear p600
                 try clear q598
                 try clear q599
                 try clear q600
                 obtain ⟨x20_3, x138_3, rfl, HA, HK3, HO_5, HO_6, HO_7, HO_11, HO_16, HO_20, HO_21, HO_121, HLL600, HB⟩ := hrel
                 cases gk with
                 | zero => exact absurd HA.out (by simp [laws_FnPurchases.l1])
                 | succ k3 =>
                  have H := HA.out
                  clear HA
                  simp only [laws_FnPurchases.l1] at H
                  by_cases c62 : x138_3 < ((rd_L3 t563 (rd t577 x123_2)).length : Int)
                  ·rw [if_pos c62] at H
                   have c62b0 : decide (x138_3 < ((rd_L3 t563 (rd t577 x123_2)).length : Int)) = true := decide_eq_true c62
                   clear c62
                   by_cases c63 : 0 ≤ x138_3
                   ·rw [if_pos c63] at H
                    have c63b0 : decide (0 ≤ x138_3) = true := decide_eq_true c63
                    clear c63
                    by_cases c64 : x138_3 < ((rd_L3 t563 (rd t577 x123_2)).length : Int)
                    ·rw [if_pos c64] at H
                     have c64b0 : decide (x138_3 < ((rd_L3 t563 (rd t577 x123_2)).length : Int)) = true := decide_eq_true c64
                     clear c64
                     by_cases c65 : x138_3 < (x20_3.length : Int)
                     ·rw [if_pos c65] at H
                      have c65b0 : decide (x138_3 < (x20_3.length : Int)) = true := decide_eq_true c65
                      clear c65
                      obtain ⟨y603, hy603⟩ : ∃ y_ : List Int, y_ = (x20_3.set (x138_3 : Int).toNat (wrap64 ((rd x20_3 x138_3) + (rd (rd_L3 t563 (rd t577 x123_2)) x138_3)))) := ⟨_, rfl⟩
                      replace H : (laws_FnPurchases.l1 k3 l1 t563 t564 t565 t577 t578 t586 (wrap64 (x18_2 + (rd t564 (rd t577 x123_2)))) 0 y603 y595 t577 (t577.length : Int) x123_2 (rd_L3 t563 (rd t577 x123_2)) ((rd_L3 t563 (rd t577 x123_2)).length : Int) (wrap64 (x138_3 + 1))) = some true := by first | (rw [hy603]; with_reducible exact H) | (have H2_ := (Option.bind_some _ _).symm.trans H; rw [hy603]; with_reducible exact H2_) | (have H2_ := (Option.bind_some _ _).symm.trans H; with_reducible exact H2_) | with_reducible exact H | (rw [hy603]; exact H) | exact H
                      have Ny603 := Aside0.mk hy603
                      clear hy603
                      have H' := Aside0.mk H
                      clear H
                      have p601 : 0 ≤ (x138_3 : Int) := of_decide_eq_true qa
                      have q601 : x138_3 < ((rd_L3 t563 (rd t577 x123_2)).length : Int) := of_decide_eq_true qa
                      obtain ⟨ad601, e601, hx601_0⟩ := Kd.at_int (Kd.R_reads' HLL600.out).2.2 x138_3 p601 q601
                      cases e601
                      skip
                      replace p601 := eq_true p601
                      replace q601 := eq_true q601
                      obtain ⟨Ao67, co67, eo67⟩ := Kd.R_slice HO_20.out
                      subst eo67
                      have p602 : 0 ≤ (x138_3 : Int) := of_decide_eq_true qa
                      have q602 : x138_3 < (x20_3.length : Int) := of_decide_eq_true qa
                      obtain ⟨ad602, e602, hx602_0⟩ := Kd.at_int (Kd.R_reads' HO_20.out).2.2 x138_3 p602 q602
                      cases e602
                      replace p602 := eq_true p602
                      replace q602 := eq_true q602
                      have p66 : 0 ≤ (x138_3 : Int) := of_decide_eq_true qa
                      have q66 : (x138_3 : Int) < ((x20_3.length : Int) : Int) := of_decide_eq_true qa
                      obtain ⟨go66, co66, eo66, gb66, gl66, cl66, HG66⟩ := Kd.R_form HO_20.out (by omega)
                      (first | cases eo66 | (injection eo66 with ea_ en_ ec_; (first | subst ea_ | (injection ea_ with ea_; subst ea_)); subst ec_; clear en_))
                      have GB66 := Aside0.mk gb66
                      have GG66 := Aside0.mk HG66
                      clear gb66 gl66 HG66
                      (first | simp only [add_plain] at hx602_0 | skip)
                      obtain ⟨hx66_0, hf66_0⟩ := Kd.R_celln 0 HO_20.out (x138_3 : Int) p66 q66
                      replace p66 := eq_true p66
                      replace q66 := eq_true q66
                      have HP68 := Kd.R_putg HO_20.out (x138_3 : Int) (wrap64 ((rd x20_3 x138_3) + (rd (rd_L3 t563 (rd t577 x123_2)) x138_3)))
                      go_wp2_with (first | ((with_reducible refine gate_store (t := 3) (p := 149) rfl ?_); refine store_event (t := 3) (p := 149) (v := ?vo_w69) (w1 := (wr.setCell ⟨go66, (x138_3 : Int).toNat, none⟩ (.int .i64 (wrap64 ((rd x20_3 x138_3) + (rd (rd_L3 t563 (rd t577 x123_2)) x138_3)))))) ?hg ?ho ?hn ?hr ?_; (case ho => rfl); (case hg => rfl); (case hn => rfl); (case hr => first | (go_simp; done) | (go_simp; rfl)); intro w69 hw; have hg : wr.grownBy w69 (some go66) := (by rw [hw]; exact HP68.2); have hp_ : Kd.R (Kd.int .i64) 3 w69 w.heap.size (fun k_ => some k_ ≠ (.slice (some ad599) t564.length co13 : Value).ownBlock ∧ some k_ ≠ (.slice Ao14 t565.length co14 : Value).ownBlock ∧ some k_ ≠ (.slice (some ad598) t577.length co55 : Value).ownBlock ∧ some k_ ≠ (v588 : Value).ownBlock ∧ some k_ ≠ (v596 : Value).ownBlock ∧ some k_ ≠ (.slice (some ad598) t577.length co55 : Value).ownBlock) (.slice (some ⟨go66, 0, none⟩) x20_3.length co67) y603 := (by rw [hw, Ny603.out]; exact HP68.1); clear HP68; have nz_ := Aside0.mk (Kd.R_after (v := (.slice (some ⟨go66, 0, none⟩) x20_3.length co67)) (v1 := (.slice (some ⟨go66, 0, none⟩) x20_3.length co67)) (ok := (fun k_ => some k_ ≠ (.slice (some ad599) t564.length co13 : Value).ownBlock ∧ some k_ ≠ (.slice Ao14 t565.length co14 : Value).ownBlock ∧ some k_ ≠ (.slice (some ad598) t577.length co55 : Value).ownBlock ∧ some k_ ≠ (v588 : Value).ownBlock ∧ some k_ ≠ (v596 : Value).ownBlock ∧ some k_ ≠ (.slice (some ad598) t577.length co55 : Value).ownBlock)) (by exact uR (Kd.R_mono HLL600.out (fun _ hk => ⟨⟨hk.1, ⟨hk.2.1, ⟨hk.2.2.1, ⟨hk.2.2.2.1, ⟨hk.2.2.2.2.2.1, hk.2.2.2.2.2.2⟩⟩⟩⟩⟩, hk.2.2.2.2.1⟩))) hg (.inl rfl)); have n0_ := Aside0.mk (Kd.S_after (v := (.slice (some ⟨go66, 0, none⟩) x20_3.length co67)) (v1 := (.slice (some ⟨go66, 0, none⟩) x20_3.length co67)) (ok := (fun k_ => some k_ ≠ (.slice (some ad599) t564.length co13 : Value).ownBlock ∧ some k_ ≠ (.slice Ao14 t565.length co14 : Value).ownBlock ∧ some k_ ≠ (.slice (some ad598) t577.length co55 : Value).ownBlock ∧ some k_ ≠ (v588 : Value).ownBlock ∧ some k_ ≠ (v596 : Value).ownBlock ∧ some k_ ≠ (.slice (some ad598) t577.length co55 : Value).ownBlock)) (by exact uS (Kd.S_mono HO_5.out (fun _ hk => ⟨⟨hk.1, ⟨hk.2.1, ⟨hk.2.2.1, ⟨hk.2.2.2.1, ⟨hk.2.2.2.2.2.1, hk.2.2.2.2.2.2⟩⟩⟩⟩⟩, hk.2.2.2.2.1⟩))) hg (.inl rfl)); have n1_ := Aside0.mk (Kd.Q_after (v := (.slice (some ⟨go66, 0, none⟩) x20_3.length co67)) (v1 := (.slice (some ⟨go66, 0, none⟩) x20_3.length co67)) (ok := (fun k_ => some k_ ≠ (.slice Ao14 t565.length co14 : Value).ownBlock ∧ some k_ ≠ (.slice (some ad598) t577.length co55 : Value).ownBlock ∧ some k_ ≠ (v588 : Value).ownBlock ∧ some k_ ≠ (v596 : Value).ownBlock ∧ some k_ ≠ (.slice (some ad598) t577.length co55 : Value).ownBlock)) (by (with_reducible repeat (first | apply Kd.Q_alloc | apply Kd.Q_drewN | apply Kd.Q_drew)); exact Kd.Q_mono HO_6.out (fun _ hk => ⟨⟨hk.1, ⟨hk.2.1, ⟨hk.2.2.1, ⟨hk.2.2.2.2.1, hk.2.2.2.2.2⟩⟩⟩⟩, hk.2.2.2.1⟩)) hg (.inl rfl)); have n2_ := Aside0.mk (Kd.R_after (v := (.slice (some ⟨go66, 0, none⟩) x20_3.length co67)) (v1 := (.slice (some ⟨go66, 0, none⟩) x20_3.length co67)) (ok := (fun k_ => some k_ ≠ (.slice (some ad599) t564.length co13 : Value).ownBlock ∧ some k_ ≠ (.slice (some ad598) t577.length co55 : Value).ownBlock ∧ some k_ ≠ (v588 : Value).ownBlock ∧ some k_ ≠ (v596 : Value).ownBlock ∧ some k_ ≠ (.slice (some ad598) t577.length co55 : Value).ownBlock)) (by exact uR (Kd.R_mono HO_7.out (fun _ hk => ⟨⟨hk.1, ⟨hk.2.1, ⟨hk.2.2.1, ⟨hk.2.2.2.2.1, hk.2.2.2.2.2⟩⟩⟩⟩, hk.2.2.2.1⟩))) hg (.inl rfl)); have n3_ := Aside0.mk (Kd.R_after (v := (.slice (some ⟨go66, 0, none⟩) x20_3.length co67)) (v1 := (.slice (some ⟨go66, 0, none⟩) x20_3.length co67)) (ok := (fun k_ => some k_ ≠ (.slice (some ad599) t564.length co13 : Value).ownBlock ∧ some k_ ≠ (.slice Ao14 t565.length co14 : Value).ownBlock ∧ some k_ ≠ (v588 : Value).ownBlock ∧ some k_ ≠ (v596 : Value).ownBlock)) (by exact uR (Kd.R_mono HO_11.out (fun _ hk => ⟨⟨hk.1, ⟨hk.2.1, ⟨hk.2.2.1, hk.2.2.2.2⟩⟩⟩, hk.2.2.2.1⟩))) hg (.inl rfl)); have n4_ := Aside0.mk (Kd.R_after (v := (.slice (some ⟨go66, 0, none⟩) x20_3.length co67)) (v1 := (.slice (some ⟨go66, 0, none⟩) x20_3.length co67)) (ok := (fun k_ => some k_ ≠ (.slice (some ad599) t564.length co13 : Value).ownBlock ∧ some k_ ≠ (.slice Ao14 t565.length co14 : Value).ownBlock ∧ some k_ ≠ (.slice (some ad598) t577.length co55 : Value).ownBlock ∧ some k_ ≠ (v596 : Value).ownBlock ∧ some k_ ≠ (.slice (some ad598) t577.length co55 : Value).ownBlock)) (by exact uR (Kd.R_mono HO_16.out (fun _ hk => ⟨⟨hk.1, ⟨hk.2.1, ⟨hk.2.2.1, ⟨hk.2.2.2.2.1, hk.2.2.2.2.2⟩⟩⟩⟩, hk.2.2.2.1⟩))) hg (.inl rfl)); have n5_ := Aside0.mk (hp_); have n6_ := Aside0.mk (Kd.R_after (v := (.slice (some ⟨go66, 0, none⟩) x20_3.length co67)) (v1 := (.slice (some ⟨go66, 0, none⟩) x20_3.length co67)) (ok := (fun k_ => some k_ ≠ (.slice (some ad599) t564.length co13 : Value).ownBlock ∧ some k_ ≠ (.slice Ao14 t565.length co14 : Value).ownBlock ∧ some k_ ≠ (.slice (some ad598) t577.length co55 : Value).ownBlock ∧ some k_ ≠ (v588 : Value).ownBlock ∧ some k_ ≠ (.slice (some ad598) t577.length co55 : Value).ownBlock)) (by exact uR (Kd.R_mono HO_21.out (fun _ hk => ⟨⟨hk.1, ⟨hk.2.1, ⟨hk.2.2.1, ⟨hk.2.2.2.1, hk.2.2.2.2.2⟩⟩⟩⟩, hk.2.2.2.2.1⟩))) hg (.inl rfl)); have n7_ := Aside0.mk (Kd.R_after (v := (.slice (some ⟨go66, 0, none⟩) x20_3.length co67)) (v1 := (.slice (some ⟨go66, 0, none⟩) x20_3.length co67)) (ok := (fun k_ => some k_ ≠ (.slice (some ad599) t564.length co13 : Value).ownBlock ∧ some k_ ≠ (.slice Ao14 t565.length co14 : Value).ownBlock ∧ some k_ ≠ (v588 : Value).ownBlock ∧ some k_ ≠ (v596 : Value).ownBlock)) (by exact uR (Kd.R_mono HO_121.out (fun _ hk => ⟨⟨hk.1, ⟨hk.2.1, ⟨hk.2.2.1, hk.2.2.2.2⟩⟩⟩, hk.2.2.2.1⟩))) hg (.inl rfl)); have n8_ := Aside0.mk ((by rw [hw]; exact below_set (HB.out) GB66.out : Below w.heap.size w w69)); clear HLL600; have HLL600 := nz_; clear nz_; clear HO_5; clear HO_6; clear HO_7; clear HO_11; clear HO_16; clear HO_20; clear HO_21; clear HO_121; clear HB; have HO_5 := n0_; have HO_6 := n1_; have HO_7 := n2_; have HO_11 := n3_; have HO_16 := n4_; have HO_20 := n5_; have HO_21 := n6_; have HO_121 := n7_; have HB := n8_; clear n0_ n1_ n2_ n3_ n4_ n5_ n6_ n7_ n8_; clear hg hw hp_))
                      go_roundg k3
                      case measure => have := HJ9.out; have := HK2.out; have := HK3.out; omega
                      case rel => exact ⟨(y603), (wrap64 (x138_3 + 1)), qs, H', ⟨by have := HJ9.out; have := HK2.out; have := HK3.out; omega⟩, ⟨by exact uS (Kd.S_mono HO_5.out (fun _ hk => ⟨hk.1.1, ⟨hk.1.2.1, ⟨hk.1.2.2.1, ⟨hk.1.2.2.2.1, ⟨hk.2, ⟨hk.1.2.2.2.2.1, hk.1.2.2.2.2.2⟩⟩⟩⟩⟩⟩))⟩, ⟨by (with_reducible repeat (first | apply Kd.Q_alloc | apply Kd.Q_drewN | apply Kd.Q_drew)); exact Kd.Q_mono HO_6.out (fun _ hk => ⟨hk.1.1, ⟨hk.1.2.1, ⟨hk.1.2.2.1, ⟨hk.2, ⟨hk.1.2.2.2.1, hk.1.2.2.2.2⟩⟩⟩⟩⟩)⟩, ⟨by exact uR (Kd.R_mono HO_7.out (fun _ hk => ⟨hk.1.1, ⟨hk.1.2.1, ⟨hk.1.2.2.1, ⟨hk.2, ⟨hk.1.2.2.2.1, hk.1.2.2.2.2⟩⟩⟩⟩⟩))⟩, ⟨by exact uR (Kd.R_mono HO_11.out (fun _ hk => ⟨hk.1.1, ⟨hk.1.2.1, ⟨hk.1.2.2.1, ⟨hk.2, hk.1.2.2.2⟩⟩⟩⟩))⟩, ⟨by exact uR (Kd.R_mono HO_16.out (fun _ hk => ⟨hk.1.1, ⟨hk.1.2.1, ⟨hk.1.2.2.1, ⟨hk.2, ⟨hk.1.2.2.2.1, hk.1.2.2.2.2⟩⟩⟩⟩⟩))⟩, ⟨qR HO_20⟩, ⟨by exact uR (Kd.R_mono HO_21.out (fun _ hk => ⟨hk.1.1, ⟨hk.1.2.1, ⟨hk.1.2.2.1, ⟨hk.1.2.2.2.1, ⟨hk.2, hk.1.2.2.2.2⟩⟩⟩⟩⟩))⟩, ⟨by exact uR (Kd.R_mono HO_121.out (fun _ hk => ⟨hk.1.1, ⟨hk.1.2.1, ⟨hk.1.2.2.1, ⟨hk.2, hk.1.2.2.2⟩⟩⟩⟩))⟩, ⟨by exact uR (Kd.R_mono HLL600.out (fun _ hk => ⟨hk.1.1, ⟨hk.1.2.1, ⟨hk.1.2.2.1, ⟨hk.1.2.2.2.1, ⟨hk.2, ⟨hk.1.2.2.2.2.1, hk.1.2.2.2.2.2⟩⟩⟩⟩⟩⟩))⟩, ⟨qB HB⟩⟩
                     ·rw [if_neg c65] at H
                      exact absurd H (by simp)
                    ·rw [if_neg c64] at H
                     exact absurd H (by simp)
                   ·rw [if_neg c63] at H
                    exact absurd H (by simp)
                  ·rw [if_neg c62] at H
                   have c62b0 : decide (x138_3 < ((rd_L3 t563 (rd t577 x123_2)).length : Int)) = false := decide_eq_false c62
                   clear c62
                   have H' := Aside0.mk H
                   clear H
                   go_wp2
                   go_roundg k3
                   case measure => have := HJ9.out; have := HK2.out; have := HK3.out; omega
                   case rel => exact ⟨((wrap64 (x18_2 + (rd t564 (rd t577 x123_2))))), (x20_3), (wrap64 (x123_2 + 1)), qs, qs, H', ⟨by have := HJ9.out; have := HK2.out; have := HK3.out; omega⟩, ⟨qS HO_5⟩, ⟨by (with_reducible repeat (first | apply Kd.Q_alloc | apply Kd.Q_drewN | apply Kd.Q_drew)); exact HO_6.out⟩, ⟨qR HO_7⟩, ⟨qR HO_11⟩, ⟨qR HO_16⟩, ⟨qR HO_20⟩, ⟨qR HO_21⟩, ⟨qR HO_121⟩, ⟨qB HB⟩⟩
               ·rw [if_neg c61] at H
                exact absurd H (by simp)
              ·rw [if_neg c60] at H
               exact absurd H (by simp)
             ·rw [if_neg c59] at H
              exact absurd H (by simp)
            ·rw [if_neg c58] at H
             exact absurd H (by simp)
           ·rw [if_neg c57] at H
            exact absurd H (by simp)
          ·rw [if_neg c56] at H
           have c56b0 : decide (x123_2 < (t577.length : Int)) = false := decide_eq_false c56
           clear c56
           (first | rw [c56b0] | (simp only [i64_w, i32_w]; rw [c56b0]) | skip)
           have H' := Aside0.mk H
           clear H
           obtain ⟨Ao70, co70, eo70⟩ := Kd.R_slice HO_16.out
           subst eo70
           go_wp2
           go_loopg [19, 154] k2 (fun kq v19 v154 w' => ∃ (x19_3 : Int) (x21_3 : List Int) (x154_3 : Int), v19 = .int .i64 x19_3 ∧ v154 = .int .i64 x154_3 ∧ Aside0 (laws_FnPurchases.l2 kq l1 t563 t564 t565 t577 t578 t586 x18_2 x19_3 x20_2 x21_3 t586 (t586.length : Int) x154_3 = some true) ∧ Aside0 (kq ≤ k2) ∧ Aside0 (Kd.S (Kd.slice 3 (Kd.int .i64)) 23 w' w.heap.size (fun k_ => some k_ ≠ ((.slice Ao13 t564.length co13) : Value).ownBlock ∧ some k_ ≠ ((.slice Ao14 t565.length co14) : Value).ownBlock ∧ some k_ ≠ ((.slice Ao55 t577.length co55) : Value).ownBlock ∧ some k_ ≠ ((.slice Ao70 t586.length co70) : Value).ownBlock ∧ some k_ ≠ (v593 : Value).ownBlock ∧ some k_ ≠ (v596 : Value).ownBlock ∧ some k_ ≠ ((.slice Ao70 t586.length co70) : Value).ownBlock) (.slice Ao12 t563.length co12) t563) ∧ Aside0 (Kd.Q (Kd.int .i64) 3 w' w.heap.size (fun k_ => some k_ ≠ ((.slice Ao14 t565.length co14) : Value).ownBlock ∧ some k_ ≠ ((.slice Ao55 t577.length co55) : Value).ownBlock ∧ some k_ ≠ ((.slice Ao70 t586.length co70) : Value).ownBlock ∧ some k_ ≠ (v593 : Value).ownBlock ∧ some k_ ≠ (v596 : Value).ownBlock ∧ some k_ ≠ ((.slice Ao70 t586.length co70) : Value).ownBlock) (.slice Ao13 t564.length co13) t564) ∧ Aside0 (Kd.R (Kd.int .i64) 3 w' w.heap.size (fun k_ => some k_ ≠ ((.slice Ao13 t564.length co13) : Value).ownBlock ∧ some k_ ≠ ((.slice Ao55 t577.length co55) : Value).ownBlock ∧ some k_ ≠ ((.slice Ao70 t586.length co70) : Value).ownBlock ∧ some k_ ≠ (v593 : Value).ownBlock ∧ some k_ ≠ (v596 : Value).ownBlock ∧ some k_ ≠ ((.slice Ao70 t586.length co70) : Value).ownBlock) (.slice Ao14 t565.length co14) t565) ∧ Aside0 (Kd.R (Kd.int .i64) 3 w' w.heap.size (fun k_ => some k_ ≠ ((.slice Ao13 t564.length co13) : Value).ownBlock ∧ some k_ ≠ ((.slice Ao14 t565.length co14) : Value).ownBlock ∧ some k_ ≠ ((.slice Ao70 t586.length co70) : Value).ownBlock ∧ some k_ ≠ (v593 : Value).ownBlock ∧ some k_ ≠ (v596 : Value).ownBlock ∧ some k_ ≠ ((.slice Ao70 t586.length co70) : Value).ownBlock) (.slice Ao55 t577.length co55) t577) ∧ Aside0 (Kd.R (Kd.int .i64) 3 w' w.heap.size (fun k_ => some k_ ≠ ((.slice Ao13 t564.length co13) : Value).ownBlock ∧ some k_ ≠ ((.slice Ao14 t565.length co14) : Value).ownBlock ∧ some k_ ≠ ((.slice Ao55 t577.length co55) : Value).ownBlock ∧ some k_ ≠ (v593 : Value).ownBlock ∧ some k_ ≠ (v596 : Value).ownBlock) (.slice Ao70 t586.length co70) t586) ∧ Aside0 (Kd.R (Kd.int .i64) 3 w' w.heap.size (fun k_ => some k_ ≠ ((.slice Ao13 t564.length co13) : Value).ownBlock ∧ some k_ ≠ ((.slice Ao14 t565.length co14) : Value).ownBlock ∧ some k_ ≠ ((.slice Ao55 t577.length co55) : Value).ownBlock ∧ some k_ ≠ ((.slice Ao70 t586.length co70) : Value).ownBlock ∧ some k_ ≠ (v596 : Value).ownBlock ∧ some k_ ≠ ((.slice Ao70 t586.length co70) : Value).ownBlock) v593 x20_2) ∧ Aside0 (Kd.R (Kd.int .i64) 3 w' w.heap.size (fun k_ => some k_ ≠ ((.slice Ao13 t564.length co13) : Value).ownBlock ∧ some k_ ≠ ((.slice Ao14 t565.length co14) : Value).ownBlock ∧ some k_ ≠ ((.slice Ao55 t577.length co55) : Value).ownBlock ∧ some k_ ≠ ((.slice Ao70 t586.length co70) : Value).ownBlock ∧ some k_ ≠ (v593 : Value).ownBlock ∧ some k_ ≠ ((.slice Ao70 t586.length co70) : Value).ownBlock) v596 x21_3) ∧ Aside0 (Kd.R (Kd.int .i64) 3 w' w.heap.size (fun k_ => some k_ ≠ ((.slice Ao13 t564.length co13) : Value).ownBlock ∧ some k_ ≠ ((.slice Ao14 t565.length co14) : Value).ownBlock ∧ some k_ ≠ ((.slice Ao55 t577.length co55) : Value).ownBlock ∧ some k_ ≠ (v593 : Value).ownBlock ∧ some k_ ≠ (v596 : Value).ownBlock) (.slice Ao70 t586.length co70) t586) ∧ Aside0 (Below w.heap.size w w'))
           case atStart => exact ⟨(0), (y595), (0), qs, qs, H', ⟨Nat.le_refl _⟩, ⟨by exact uS (Kd.S_mono HO_5.out (fun _ hk => ⟨hk.1, ⟨hk.2.1, ⟨hk.2.2.1, ⟨hk.2.2.2.1, ⟨hk.2.2.2.2.1, ⟨hk.2.2.2.2.2.1, hk.2.2.2.1⟩⟩⟩⟩⟩⟩))⟩, ⟨by (with_reducible repeat (first | apply Kd.Q_alloc | apply Kd.Q_drewN | apply Kd.Q_drew)); exact Kd.Q_mono HO_6.out (fun _ hk => ⟨hk.1, ⟨hk.2.1, ⟨hk.2.2.1, ⟨hk.2.2.2.1, ⟨hk.2.2.2.2.1, hk.2.2.1⟩⟩⟩⟩⟩)⟩, ⟨by exact uR (Kd.R_mono HO_7.out (fun _ hk => ⟨hk.1, ⟨hk.2.1, ⟨hk.2.2.1, ⟨hk.2.2.2.1, ⟨hk.2.2.2.2.1, hk.2.2.1⟩⟩⟩⟩⟩))⟩, ⟨by exact uR (Kd.R_mono HO_11.out (fun _ hk => ⟨hk.1, ⟨hk.2.1, ⟨hk.2.2.1, ⟨hk.2.2.2.1, ⟨hk.2.2.2.2, hk.2.2.1⟩⟩⟩⟩⟩))⟩, ⟨by exact uR (Kd.R_mono HO_16.out (fun _ hk => ⟨hk.1, ⟨hk.2.1, ⟨hk.2.2.1, ⟨hk.2.2.2.1, hk.2.2.2.2.1⟩⟩⟩⟩))⟩, ⟨by exact uR (Kd.R_mono HO_20.out (fun _ hk => ⟨hk.1, ⟨hk.2.1, ⟨hk.2.2.1, ⟨hk.2.2.2.1, ⟨hk.2.2.2.2.1, hk.2.2.2.1⟩⟩⟩⟩⟩))⟩, ⟨by exact uR (Kd.R_mono HO_21.out (fun _ hk => ⟨hk.1, ⟨hk.2.1, ⟨hk.2.2.1, ⟨hk.2.2.2.1, ⟨hk.2.2.2.2.1, hk.2.2.2.1⟩⟩⟩⟩⟩))⟩, ⟨by exact uR (Kd.R_mono HO_16.out (fun _ hk => ⟨hk.1, ⟨hk.2.1, ⟨hk.2.2.1, ⟨hk.2.2.2.1, hk.2.2.2.2.1⟩⟩⟩⟩))⟩, ⟨qB HB⟩⟩
           case round =>
            clear H'
            try clear c1
            try clear c2
            try clear p2
            try clear c4
            try clear c5
            try clear p5
            try clear q5
            try clear hx5
            try clear c6
            try clear p6
            try clear q6
            try clear hx6
            try clear hf6
            try clear c7
            try clear c19
            try clear c19b0
            try clear c19b1
            try clear c19b2
            try clear c21
            try clear c22
            try clear c22b0
            try clear c22b1
            try clear c23
            try clear c23b0
            try clear c23b1
            try clear c23b2
            try clear c24
            try clear c27
            try clear c28
            try clear c45
            try clear c47
            try clear c48
            try clear c48b0
            try clear c48b1
            try clear c56
            try clear c56b0
            try clear c57
            try clear c57b0
            try clear c58
            try clear c58b0
            try clear c59
            try clear c59b0
            try clear p59
            try clear q59
            try clear hx59
            try clear c60
            try clear c60b0
            try clear p60
            try clear q60
            try clear hx60
            try clear c61
            try clear c61b0
            try clear c62
            try clear c62b0
            try clear c63
            try clear c63b0
            try clear c64
            try clear c64b0
            try clear p64
            try clear c65
            try clear c65b0
            try clear p66
            try clear q66
            try clear hx66
            try clear hf66
            try clear hx598_0
            try clear hx599_0
            try clear hx600_0
            try clear hx601_0
            try clear hx602_0
            try clear hx66_0
            try clear p2
            try clear p5
            try clear p59
            try clear p598
            try clear p599
            try clear p6
            try clear p60
            try clear p600
            try clear p601
            try clear p602
            try clear p66
            try clear q5
            try clear q59
            try clear q598
            try clear q599
            try clear q6
            try clear q60
            try clear q600
            try clear q601
            try clear q602
            try clear q66
            obtain ⟨x19_3, x21_3, x154_3, rfl, rfl, HA, HK3, HO_5, HO_6, HO_7, HO_11, HO_16, HO_20, HO_21, HO_152, HB⟩ := hrel
            cases gk with
            | zero => exact absurd HA.out (by simp [laws_FnPurchases.l2])
            | succ k3 =>
             have H := HA.out
             clear HA
             simp only [laws_FnPurchases.l2] at H
             by_cases c71 : x154_3 < (t586.length : Int)
             ·rw [if_pos c71] at H
              have c71b0 : decide (x154_3 < (t586.length : Int)) = true := decide_eq_true c71
              clear c71
              by_cases c72 : 0 ≤ x154_3
              ·rw [if_pos c72] at H
               have c72b0 : decide (0 ≤ x154_3) = true := decide_eq_true c72
               clear c72
               by_cases c73 : x154_3 < (t586.length : Int)
               ·rw [if_pos c73] at H
                have c73b0 : decide (x154_3 < (t586.length : Int)) = true := decide_eq_true c73
                clear c73
                by_cases c74 : 0 ≤ (rd t586 x154_3)
                ·rw [if_pos c74] at H
                 have c74b0 : decide (0 ≤ (rd t586 x154_3)) = true := decide_eq_true c74
                 clear c74
                 by_cases c75 : (rd t586 x154_3) < (t564.length : Int)
                 ·rw [if_pos c75] at H
                  have c75b0 : decide ((rd t586 x154_3) < (t564.length : Int)) = true := decide_eq_true c75
                  clear c75
                  by_cases c76 : (rd t586 x154_3) < (t563.length : Int)
                  ·rw [if_pos c76] at H
                   have c76b0 : decide ((rd t586 x154_3) < (t563.length : Int)) = true := decide_eq_true c76
                   clear c76
                   have H' := Aside0.mk H
                   clear H
                   have p604 : 0 ≤ (x154_3 : Int) := of_decide_eq_true qa
                   have q604 : x154_3 < (t586.length : Int) := of_decide_eq_true qa
                   obtain ⟨ad604, e604, hx604_0⟩ := Kd.at_int (Kd.R_reads' HO_152.out).2.2 x154_3 p604 q604
                   cases e604
                   replace p604 := eq_true p604
                   replace q604 := eq_true q604
                   have p605 : 0 ≤ ((rd t586 x154_3) : Int) := of_decide_eq_true qa
                   have q605 : (rd t586 x154_3) < (t564.length : Int) := of_decide_eq_true qa
                   obtain ⟨ad605, e605, hx605_0⟩ := Kd.at_int (Kd.Q_reads' HO_6.out).2.2 (rd t586 x154_3) p605 q605
                   cases e605
                   replace p605 := eq_true p605
                   replace q605 := eq_true q605
                   have p606 : 0 ≤ ((rd t586 x154_3) : Int) := of_decide_eq_true qa
                   have q606 : (rd t586 x154_3) < (t563.length : Int) := of_decide_eq_true qa
                   obtain ⟨ad606, A606_0, c606_0, e606, hx606_0, hl606_0, hi606_0⟩ := at_L3 (Kd.S_reads' HO_5.out).2.2 (rd t586 x154_3) p606 q606
                   cases e606
                   obtain ⟨ce606, hce606, hMe606, hcc606⟩ := Kd.S_get HO_5.out [] (rd t586 x154_3) p606 (by first | exact q606 | exact of_decide_eq_true qa | (have e_ := (Kd.S_reads' HO_5.out).1; omega))
                   obtain ⟨ve606_0, rfl, ge606_0⟩ := hMe606
                   have hv606_0 := hcc606 0 _ rfl
                   rw [Nat.add_zero, show ((Kd.slice 3 (Kd.int .i64))).sz = 1 from rfl, Nat.mul_one] at hv606_0
                   replace hv606_0 := Option.some.inj (hv606_0.symm.trans hx606_0)
                   rw [hv606_0] at ge606_0
                   have HL606_0 := Aside0.mk (show Kd.R (Kd.int .i64) 3 _ _ _ _ (rd_L3 t563 (rd t586 x154_3)) from ge606_0)
                   clear hv606_0 ge606_0
                   clear hcc606 hce606
                   have HR606_0 := Aside0.mk hi606_0
                   have HC606_0 := Aside0.mk hl606_0
                   clear hi606_0 hl606_0
                   replace p606 := eq_true p606
                   replace q606 := eq_true q606
                   go_wp2
                   go_loopg [169] k3 (fun kq v169 w' => ∃ (x21_4 : List Int) (x169_4 : Int), v169 = .int .i64 x169_4 ∧ Aside0 (laws_FnPurchases.l3 kq l1 t563 t564 t565 t577 t578 t586 x18_2 (wrap64 (x19_3 + (rd t564 (rd t586 x154_3)))) x20_2 x21_4 t586 (t586.length : Int) x154_3 (rd_L3 t563 (rd t586 x154_3)) ((rd_L3 t563 (rd t586 x154_3)).length : Int) x169_4 = some true) ∧ Aside0 (kq ≤ k3) ∧ Aside0 (Kd.S (Kd.slice 3 (Kd.int .i64)) 23 w' w.heap.size (fun k_ => some k_ ≠ ((.slice (some ad605) t564.length co13) : Value).ownBlock ∧ some k_ ≠ ((.slice Ao14 t565.length co14) : Value).ownBlock ∧ some k_ ≠ ((.slice Ao55 t577.length co55) : Value).ownBlock ∧ some k_ ≠ ((.slice (some ad604) t586.length co70) : Value).ownBlock ∧ some k_ ≠ (v593 : Value).ownBlock ∧ some k_ ≠ (v596 : Value).ownBlock ∧ some k_ ≠ ((.slice (some ad604) t586.length co70) : Value).ownBlock) (.slice (some ad606) t563.length co12) t563) ∧ Aside0 (Kd.Q (Kd.int .i64) 3 w' w.heap.size (fun k_ => some k_ ≠ ((.slice Ao14 t565.length co14) : Value).ownBlock ∧ some k_ ≠ ((.slice Ao55 t577.length co55) : Value).ownBlock ∧ some k_ ≠ ((.slice (some ad604) t586.length co70) : Value).ownBlock ∧ some k_ ≠ (v593 : Value).ownBlock ∧ some k_ ≠ (v596 : Value).ownBlock ∧ some k_ ≠ ((.slice (some ad604) t586.length co70) : Value).ownBlock) (.slice (some ad605) t564.length co13) t564) ∧ Aside0 (Kd.R (Kd.int .i64) 3 w' w.heap.size (fun k_ => some k_ ≠ ((.slice (some ad605) t564.length co13) : Value).ownBlock ∧ some k_ ≠ ((.slice Ao55 t577.length co55) : Value).ownBlock ∧ some k_ ≠ ((.slice (some ad604) t586.length co70) : Value).ownBlock ∧ some k_ ≠ (v593 : Value).ownBlock ∧ some k_ ≠ (v596 : Value).ownBlock ∧ some k_ ≠ ((.slice (some ad604) t586.length co70) : Value).ownBlock) (.slice Ao14 t565.length co14) t565) ∧ Aside0 (Kd.R (Kd.int .i64) 3 w' w.heap.size (fun k_ => some k_ ≠ ((.slice (some ad605) t564.length co13) : Value).ownBlock ∧ some k_ ≠ ((.slice Ao14 t565.length co14) : Value).ownBlock ∧ some k_ ≠ ((.slice (some ad604) t586.length co70) : Value).ownBlock ∧ some k_ ≠ (v593 : Value).ownBlock ∧ some k_ ≠ (v596 : Value).ownBlock ∧ some k_ ≠ ((.slice (some ad604) t586.length co70) : Value).ownBlock) (.slice Ao55 t577.length co55) t577) ∧ Aside0 (Kd.R (Kd.int .i64) 3 w' w.heap.size (fun k_ => some k_ ≠ ((.slice (some ad605) t564.length co13) : Value).ownBlock ∧ some k_ ≠ ((.slice Ao14 t565.length co14) : Value).ownBlock ∧ some k_ ≠ ((.slice Ao55 t577.length co55) : Value).ownBlock ∧ some k_ ≠ (v593 : Value).ownBlock ∧ some k_ ≠ (v596 : Value).ownBlock) (.slice (some ad604) t586.length co70) t586) ∧ Aside0 (Kd.R (Kd.int .i64) 3 w' w.heap.size (fun k_ => some k_ ≠ ((.slice (some ad605) t564.length co13) : Value).ownBlock ∧ some k_ ≠ ((.slice Ao14 t565.length co14) : Value).ownBlock ∧ some k_ ≠ ((.slice Ao55 t577.length co55) : Value).ownBlock ∧ some k_ ≠ ((.slice (some ad604) t586.length co70) : Value).ownBlock ∧ some k_ ≠ (v596 : Value).ownBlock ∧ some k_ ≠ ((.slice (some ad604) t586.length co70) : Value).ownBlock) v593 x20_2) ∧ Aside0 (Kd.R (Kd.int .i64) 3 w' w.heap.size (fun k_ => some k_ ≠ ((.slice (some ad605) t564.length co13) : Value).ownBlock ∧ some k_ ≠ ((.slice Ao14 t565.length co14) : Value).ownBlock ∧ some k_ ≠ ((.slice Ao55 t577.length co55) : Value).ownBlock ∧ some k_ ≠ ((.slice (some ad604) t586.length co70) : Value).ownBlock ∧ some k_ ≠ (v593 : Value).ownBlock ∧ some k_ ≠ ((.slice (some ad604) t586.length co70) : Value).ownBlock) v596 x21_4) ∧ Aside0 (Kd.R (Kd.int .i64) 3 w' w.heap.size (fun k_ => some k_ ≠ ((.slice (some ad605) t564.length co13) : Value).ownBlock ∧ some k_ ≠ ((.slice Ao14 t565.length co14) : Value).ownBlock ∧ some k_ ≠ ((.slice Ao55 t577.length co55) : Value).ownBlock ∧ some k_ ≠ (v593 : Value).ownBlock ∧ some k_ ≠ (v596 : Value).ownBlock) (.slice (some ad604) t586.length co70) t586) ∧ Aside0 (Kd.R (Kd.int .i64) 3 w' w.heap.size (fun k_ => some k_ ≠ ((.slice (some ad605) t564.length co13) : Value).ownBlock ∧ some k_ ≠ ((.slice Ao14 t565.length co14) : Value).ownBlock ∧ some k_ ≠ ((.slice Ao55 t577.length co55) : Value).ownBlock ∧ some k_ ≠ ((.slice (some ad604) t586.length co70) : Value).ownBlock ∧ some k_ ≠ (v593 : Value).ownBlock ∧ some k_ ≠ (v596 : Value).ownBlock ∧ some k_ ≠ ((.slice (some ad604) t586.length co70) : Value).ownBlock) (.slice A606_0 (rd_L3 t563 (rd t586 x154_3)).length c606_0) (rd_L3 t563 (rd t586 x154_3))) ∧ Aside0 (Below w.heap.size w w'))
                   case atStart => exact ⟨(x21_3), (0), qs, H', ⟨Nat.le_refl _⟩, ⟨qS HO_5⟩, ⟨by (with_reducible repeat (first | apply Kd.Q_alloc | apply Kd.Q_drewN | apply Kd.Q_drew)); exact HO_6.out⟩, ⟨qR HO_7⟩, ⟨qR HO_11⟩, ⟨qR HO_16⟩, ⟨qR HO_20⟩, ⟨qR HO_21⟩, ⟨qR HO_152⟩, ⟨by exact uR (Kd.R_mono HL606_0.out (fun _ hk => hk.1))⟩, ⟨qB HB⟩⟩
                   case round =>
                    clear H'
                    try clear c1
                    try clear c2
                    try clear p2
                    try clear c4
                    try clear c5
                    try clear p5
                    try clear q5
                    try clear hx5
                    try clear c6
                    try clear p6
                    try clear q6
                    try clear hx6
                    try clear hf6
                    try clear c7
                    try clear c19
                    try clear c19b0
                    try clear c19b1
                    try clear c19b2
                    try clear c21
                    try clear c22
                    try clear c22b0
                    try clear c22b1
                    try clear c23
                    try clear c23b0
                    try clear c23b1
                    try clear c23b2
                    try clear c24
                    try clear c27
                    try clear c28
                    try clear c45
                    try clear c47
                    try clear c48
                    try clear c48b0
                    try clear c48b1
                    try clear c56
                    try clear c56b0
                    try clear c57
                    try clear c57b0
                    try clear c58
                    try clear c58b0
                    try clear c59
                    try clear c59b0
                    try clear p59
                    try clear q59
                    try clear hx59
                    try clear c60
                    try clear c60b0
                    try clear p60
                    try clear q60
                    try clear hx60
                    try clear c61
                    try clear c61b0
                    try clear c62
                    try clear c62b0
                    try clear c63
                    try clear c63b0
                    try clear c64
                    try clear c64b0
                    try clear p64
                    try clear c65
                    try clear c65b0
                    try clear p66
                    try clear q66
                    try clear hx66
                    try clear hf66
                    try clear c71
                    try clear c71b0
                    try clear c72
                    try clear c72b0
                    try clear c73
                    try clear c73b0
                    try clear c74
                    try clear c74b0
                    try clear c75
                    try clear c75b0
                    try clear c76
                    try clear c76b0
                    try clear hx598_0
                    try clear hx599_0
                    try clear hx600_0
                    try clear hx601_0
                    try clear hx602_0
                    try clear hx604_0
                    try clear hx605_0
                    try clear hx606_0
                    try clear hx66_0
                    try clear p2
                    try clear p5
                    try clear p59
                    try clear p598
                    try clear p599
                    try clear p6
                    try clear p60
                    try clear p600
                    try clear p601
                    try clear p602
                    try clear p604
                    try clear p605
                    try clear p606
                    try clear p64
                    try clear p66
                    try clear q5
                    try clear q59
                    try clear q598
                    try clear q599
                    try clear q6
                    try clear q60
                    try clear q600
                    try clear q601
                    try clear q602
                    try clear q604
                    try clear q605
                    try clear q606
                    try clear q66
                    obtain ⟨x21_4, x169_4, rfl, HA, HK4, HO_5, HO_6, HO_7, HO_11, HO_16, HO_20, HO_21, HO_152, HLL606, HB⟩ := hrel
                    cases gk with
                    | zero => exact absurd HA.out (by simp [laws_FnPurchases.l3])
                    | succ k4 =>
                     have H := HA.out
                     clear HA
                     simp only [laws_FnPurchases.l3] at H
                     by_cases c77 : x169_4 < ((rd_L3 t563 (rd t586 x154_3)).length : Int)
                     ·rw [if_pos c77] at H
                      have c77b0 : decide (x169_4 < ((rd_L3 t563 (rd t586 x154_3)).length : Int)) = true := decide_eq_true c77
                      clear c77
                      by_cases c78 : 0 ≤ x169_4
                      ·rw [if_pos c78] at H
                       have c78b0 : decide (0 ≤ x169_4) = true := decide_eq_true c78
                       clear c78
                       by_cases c79 : x169_4 < ((rd_L3 t563 (rd t586 x154_3)).length : Int)
                       ·rw [if_pos c79] at H
                        have c79b0 : decide (x169_4 < ((rd_L3 t563 (rd t586 x154_3)).length : Int)) = true := decide_eq_true c79
                        clear c79
                        by_cases c80 : x169_4 < (x21_4.length : Int)
                        ·rw [if_pos c80] at H
                         have c80b0 : decide (x169_4 < (x21_4.length : Int)) = true := decide_eq_true c80
                         clear c80
                         obtain ⟨y609, hy609⟩ : ∃ y_ : List Int, y_ = (x21_4.set (x169_4 : Int).toNat (wrap64 ((rd x21_4 x169_4) + (rd (rd_L3 t563 (rd t586 x154_3)) x169_4)))) := ⟨_, rfl⟩
                         replace H : (laws_FnPurchases.l3 k4 l1 t563 t564 t565 t577 t578 t586 x18_2 (wrap64 (x19_3 + (rd t564 (rd t586 x154_3)))) x20_2 y609 t586 (t586.length : Int) x154_3 (rd_L3 t563 (rd t586 x154_3)) ((rd_L3 t563 (rd t586 x154_3)).length : Int) (wrap64 (x169_4 + 1))) = some true := by first | (rw [hy609]; with_reducible exact H) | (have H2_ := (Option.bind_some _ _).symm.trans H; rw [hy609]; with_reducible exact H2_) | (have H2_ := (Option.bind_some _ _).symm.trans H; with_reducible exact H2_) | with_reducible exact H | (rw [hy609]; exact H) | exact H
                         have Ny609 := Aside0.mk hy609
                         clear hy609
                         have H' := Aside0.mk H
                         clear H
                         have p607 : 0 ≤ (x169_4 : Int) := of_decide_eq_true qa
                         have q607 : x169_4 < ((rd_L3 t563 (rd t586 x154_3)).length : Int) := of_decide_eq_true qa
                         obtain ⟨ad607, e607, hx607_0⟩ := Kd.at_int (Kd.R_reads' HLL606.out).2.2 x169_4 p607 q607
                         cases e607
                         skip
                         replace p607 := eq_true p607
                         replace q607 := eq_true q607
                         obtain ⟨Ao82, co82, eo82⟩ := Kd.R_slice HO_21.out
                         subst eo82
                         have p608 : 0 ≤ (x169_4 : Int) := of_decide_eq_true qa
                         have q608 : x169_4 < (x21_4.length : Int) := of_decide_eq_true qa
                         obtain ⟨ad608, e608, hx608_0⟩ := Kd.at_int (Kd.R_reads' HO_21.out).2.2 x169_4 p608 q608
                         cases e608
                         replace p608 := eq_true p608
                         replace q608 := eq_true q608
                         have p81 : 0 ≤ (x169_4 : Int) := of_decide_eq_true qa
                         have q81 : (x169_4 : Int) < ((x21_4.length : Int) : Int) := of_decide_eq_true qa
                         obtain ⟨go81, co81, eo81, gb81, gl81, cl81, HG81⟩ := Kd.R_form HO_21.out (by omega)
                         (first | cases eo81 | (injection eo81 with ea_ en_ ec_; (first | subst ea_ | (injection ea_ with ea_; subst ea_)); subst ec_; clear en_))
                         have GB81 := Aside0.mk gb81
                         have GG81 := Aside0.mk HG81
                         clear gb81 gl81 HG81
                         (first | simp only [add_plain] at hx608_0 | skip)
                         obtain ⟨hx81_0, hf81_0⟩ := Kd.R_celln 0 HO_21.out (x169_4 : Int) p81 q81
                         replace p81 := eq_true p81
                         replace q81 := eq_true q81
                         have HP83 := Kd.R_putg HO_21.out (x169_4 : Int) (wrap64 ((rd x21_4 x169_4) + (rd (rd_L3 t563 (rd t586 x154_3)) x169_4)))
                         go_wp2_with (first | ((with_reducible refine gate_store (t := 3) (p := 180) rfl ?_); refine store_event (t := 3) (p := 180) (v := ?vo_w84) (w1 := (wr.setCell ⟨go81, (x169_4 : Int).toNat, none⟩ (.int .i64 (wrap64 ((rd x21_4 x169_4) + (rd (rd_L3 t563 (rd t586 x154_3)) x169_4)))))) ?hg ?ho ?hn ?hr ?_; (case ho => rfl); (case hg => rfl); (case hn => rfl); (case hr => first | (go_simp; done) | (go_simp; rfl)); intro w84 hw; have hg : wr.grownBy w84 (some go81) := (by rw [hw]; exact HP83.2); have hp_ : Kd.R (Kd.int .i64) 3 w84 w.heap.size (fun k_ => some k_ ≠ (.slice (some ad605) t564.length co13 : Value).ownBlock ∧ some k_ ≠ (.slice Ao14 t565.length co14 : Value).ownBlock ∧ some k_ ≠ (.slice Ao55 t577.length co55 : Value).ownBlock ∧ some k_ ≠ (.slice (some ad604) t586.length co70 : Value).ownBlock ∧ some k_ ≠ (v593 : Value).ownBlock ∧ some k_ ≠ (.slice (some ad604) t586.length co70 : Value).ownBlock) (.slice (some ⟨go81, 0, none⟩) x21_4.length co82) y609 := (by rw [hw, Ny609.out]; exact HP83.1); clear HP83; have nz_ := Aside0.mk (Kd.R_after (v := (.slice (some ⟨go81, 0, none⟩) x21_4.length co82)) (v1 := (.slice (some ⟨go81, 0, none⟩) x21_4.length co82)) (ok := (fun k_ => some k_ ≠ (.slice (some ad605) t564.length co13 : Value).ownBlock ∧ some k_ ≠ (.slice Ao14 t565.length co14 : Value).ownBlock ∧ some k_ ≠ (.slice Ao55 t577.length co55 : Value).ownBlock ∧ some k_ ≠ (.slice (some ad604) t586.length co70 : Value).ownBlock ∧ some k_ ≠ (v593 : Value).ownBlock ∧ some k_ ≠ (.slice (some ad604) t586.length co70 : Value).ownBlock)) (by exact uR (Kd.R_mono HLL606.out (fun _ hk => ⟨⟨hk.1, ⟨hk.2.1, ⟨hk.2.2.1, ⟨hk.2.2.2.1, ⟨hk.2.2.2.2.1, hk.2.2.2.2.2.2⟩⟩⟩⟩⟩, hk.2.2.2.2.2.1⟩))) hg (.inl rfl)); have n0_ := Aside0.mk (Kd.S_after (v := (.slice (some ⟨go81, 0, none⟩) x21_4.length co82)) (v1 := (.slice (some ⟨go81, 0, none⟩) x21_4.length co82)) (ok := (fun k_ => some k_ ≠ (.slice (some ad605) t564.length co13 : Value).ownBlock ∧ some k_ ≠ (.slice Ao14 t565.length co14 : Value).ownBlock ∧ some k_ ≠ (.slice Ao55 t577.length co55 : Value).ownBlock ∧ some k_ ≠ (.slice (some ad604) t586.length co70 : Value).ownBlock ∧ some k_ ≠ (v593 : Value).ownBlock ∧ some k_ ≠ (.slice (some ad604) t586.length co70 : Value).ownBlock)) (by exact uS (Kd.S_mono HO_5.out (fun _ hk => ⟨⟨hk.1, ⟨hk.2.1, ⟨hk.2.2.1, ⟨hk.2.2.2.1, ⟨hk.2.2.2.2.1, hk.2.2.2.2.2.2⟩⟩⟩⟩⟩, hk.2.2.2.2.2.1⟩))) hg (.inl rfl)); have n1_ := Aside0.mk (Kd.Q_after (v := (.slice (some ⟨go81, 0, none⟩) x21_4.length co82)) (v1 := (.slice (some ⟨go81, 0, none⟩) x21_4.length co82)) (ok := (fun k_ => some k_ ≠ (.slice Ao14 t565.length co14 : Value).ownBlock ∧ some k_ ≠ (.slice Ao55 t577.length co55 : Value).ownBlock ∧ some k_ ≠ (.slice (some ad604) t586.length co70 : Value).ownBlock ∧ some k_ ≠ (v593 : Value).ownBlock ∧ some k_ ≠ (.slice (some ad604) t586.length co70 : Value).ownBlock)) (by (with_reducible repeat (first | apply Kd.Q_alloc | apply Kd.Q_drewN | apply Kd.Q_drew)); exact Kd.Q_mono HO_6.out (fun _ hk => ⟨⟨hk.1, ⟨hk.2.1, ⟨hk.2.2.1, ⟨hk.2.2.2.1, hk.2.2.2.2.2⟩⟩⟩⟩, hk.2.2.2.2.1⟩)) hg (.inl rfl)); have n2_ := Aside0.mk (Kd.R_after (v := (.slice (some ⟨go81, 0, none⟩) x21_4.length co82)) (v1 := (.slice (some ⟨go81, 0, none⟩) x21_4.length co82)) (ok := (fun k_ => some k_ ≠ (.slice (some ad605) t564.length co13 : Value).ownBlock ∧ some k_ ≠ (.slice Ao55 t577.length co55 : Value).ownBlock ∧ some k_ ≠ (.slice (some ad604) t586.length co70 : Value).ownBlock ∧ some k_ ≠ (v593 : Value).ownBlock ∧ some k_ ≠ (.slice (some ad604) t586.length co70 : Value).ownBlock)) (by exact uR (Kd.R_mono HO_7.out (fun _ hk => ⟨⟨hk.1, ⟨hk.2.1, ⟨hk.2.2.1, ⟨hk.2.2.2.1, hk.2.2.2.2.2⟩⟩⟩⟩, hk.2.2.2.2.1⟩))) hg (.inl rfl)); have n3_ := Aside0.mk (Kd.R_after (v := (.slice (some ⟨go81, 0, none⟩) x21_4.length co82)) (v1 := (.slice (some ⟨go81, 0, none⟩) x21_4.length co82)) (ok := (fun k_ => some k_ ≠ (.slice (some ad605) t564.length co13 : Value).ownBlock ∧ some k_ ≠ (.slice Ao14 t565.length co14 : Value).ownBlock ∧ some k_ ≠ (.slice (some ad604) t586.length co70 : Value).ownBlock ∧ some k_ ≠ (v593 : Value).ownBlock ∧ some k_ ≠ (.slice (some ad604) t586.length co70 : Value).ownBlock)) (by exact uR (Kd.R_mono HO_11.out (fun _ hk => ⟨⟨hk.1, ⟨hk.2.1, ⟨hk.2.2.1, ⟨hk.2.2.2.1, hk.2.2.2.2.2⟩⟩⟩⟩, hk.2.2.2.2.1⟩))) hg (.inl rfl)); have n4_ := Aside0.mk (Kd.R_after (v := (.slice (some ⟨go81, 0, none⟩) x21_4.length co82)) (v1 := (.slice (some ⟨go81, 0, none⟩) x21_4.length co82)) (ok := (fun k_ => some k_ ≠ (.slice (some ad605) t564.length co13 : Value).ownBlock ∧ some k_ ≠ (.slice Ao14 t565.length co14 : Value).ownBlock ∧ some k_ ≠ (.slice Ao55 t577.length co55 : Value).ownBlock ∧ some k_ ≠ (v593 : Value).ownBlock)) (by exact uR (Kd.R_mono HO_16.out (fun _ hk => ⟨⟨hk.1, ⟨hk.2.1, ⟨hk.2.2.1, hk.2.2.2.1⟩⟩⟩, hk.2.2.2.2⟩))) hg (.inl rfl)); have n5_ := Aside0.mk (Kd.R_after (v := (.slice (some ⟨go81, 0, none⟩) x21_4.length co82)) (v1 := (.slice (some ⟨go81, 0, none⟩) x21_4.length co82)) (ok := (fun k_ => some k_ ≠ (.slice (some ad605) t564.length co13 : Value).ownBlock ∧ some k_ ≠ (.slice Ao14 t565.length co14 : Value).ownBlock ∧ some k_ ≠ (.slice Ao55 t577.length co55 : Value).ownBlock ∧ some k_ ≠ (.slice (some ad604) t586.length co70 : Value).ownBlock ∧ some k_ ≠ (.slice (some ad604) t586.length co70 : Value).ownBlock)) (by exact uR (Kd.R_mono HO_20.out (fun _ hk => ⟨⟨hk.1, ⟨hk.2.1, ⟨hk.2.2.1, ⟨hk.2.2.2.1, hk.2.2.2.2.2⟩⟩⟩⟩, hk.2.2.2.2.1⟩))) hg (.inl rfl)); have n6_ := Aside0.mk (hp_); have n7_ := Aside0.mk (Kd.R_after (v := (.slice (some ⟨go81, 0, none⟩) x21_4.length co82)) (v1 := (.slice (some ⟨go81, 0, none⟩) x21_4.length co82)) (ok := (fun k_ => some k_ ≠ (.slice (some ad605) t564.length co13 : Value).ownBlock ∧ some k_ ≠ (.slice Ao14 t565.length co14 : Value).ownBlock ∧ some k_ ≠ (.slice Ao55 t577.length co55 : Value).ownBlock ∧ some k_ ≠ (v593 : Value).ownBlock)) (by exact uR (Kd.R_mono HO_152.out (fun _ hk => ⟨⟨hk.1, ⟨hk.2.1, ⟨hk.2.2.1, hk.2.2.2.1⟩⟩⟩, hk.2.2.2.2⟩))) hg (.inl rfl)); have n8_ := Aside0.mk ((by rw [hw]; exact below_set (HB.out) GB81.out : Below w.heap.size w w84)); clear HLL606; have HLL606 := nz_; clear nz_; clear HO_5; clear HO_6; clear HO_7; clear HO_11; clear HO_16; clear HO_20; clear HO_21; clear HO_152; clear HB; have HO_5 := n0_; have HO_6 := n1_; have HO_7 := n2_; have HO_11 := n3_; have HO_16 := n4_; have HO_20 := n5_; have HO_21 := n6_; have HO_152 := n7_; have HB := n8_; clear n0_ n1_ n2_ n3_ n4_ n5_ n6_ n7_ n8_; clear hg hw hp_))
                         go_roundg k4
                         case measure => have := HJ9.out; have := HK2.out; have := HK3.out; have := HK4.out; omega
                         case rel => exact ⟨(y609), (wrap64 (x169_4 + 1)), qs, H', ⟨by have := HJ9.out; have := HK2.out; have := HK3.out; have := HK4.out; omega⟩, ⟨by exact uS (Kd.S_mono HO_5.out (fun _ hk => ⟨hk.1.1, ⟨hk.1.2.1, ⟨hk.1.2.2.1, ⟨hk.1.2.2.2.1, ⟨hk.1.2.2.2.2.1, ⟨hk.2, hk.1.2.2.2.2.2⟩⟩⟩⟩⟩⟩))⟩, ⟨by (with_reducible repeat (first | apply Kd.Q_alloc | apply Kd.Q_drewN | apply Kd.Q_drew)); exact Kd.Q_mono HO_6.out (fun _ hk => ⟨hk.1.1, ⟨hk.1.2.1, ⟨hk.1.2.2.1, ⟨hk.1.2.2.2.1, ⟨hk.2, hk.1.2.2.2.2⟩⟩⟩⟩⟩)⟩, ⟨by exact uR (Kd.R_mono HO_7.out (fun _ hk => ⟨hk.1.1, ⟨hk.1.2.1, ⟨hk.1.2.2.1, ⟨hk.1.2.2.2.1, ⟨hk.2, hk.1.2.2.2.2⟩⟩⟩⟩⟩))⟩, ⟨by exact uR (Kd.R_mono HO_11.out (fun _ hk => ⟨hk.1.1, ⟨hk.1.2.1, ⟨hk.1.2.2.1, ⟨hk.1.2.2.2.1, ⟨hk.2, hk.1.2.2.2.2⟩⟩⟩⟩⟩))⟩, ⟨by exact uR (Kd.R_mono HO_16.out (fun _ hk => ⟨hk.1.1, ⟨hk.1.2.1, ⟨hk.1.2.2.1, ⟨hk.1.2.2.2, hk.2⟩⟩⟩⟩))⟩, ⟨by exact uR (Kd.R_mono HO_20.out (fun _ hk => ⟨hk.1.1, ⟨hk.1.2.1, ⟨hk.1.2.2.1, ⟨hk.1.2.2.2.1, ⟨hk.2, hk.1.2.2.2.2⟩⟩⟩⟩⟩))⟩, ⟨qR HO_21⟩, ⟨by exact uR (Kd.R_mono HO_152.out (fun _ hk => ⟨hk.1.1, ⟨hk.1.2.1, ⟨hk.1.2.2.1, ⟨hk.1.2.2.2, hk.2⟩⟩⟩⟩))⟩, ⟨by exact uR (Kd.R_mono HLL606.out (fun _ hk => ⟨hk.1.1, ⟨hk.1.2.1, ⟨hk.1.2.2.1, ⟨hk.1.2.2.2.1, ⟨hk.1.2.2.2.2.1, ⟨hk.2, hk.1.2.2.2.2.2⟩⟩⟩⟩⟩⟩))⟩, ⟨qB HB⟩⟩
                        ·rw [if_neg c80] at H
                         exact absurd H (by simp)
                       ·rw [if_neg c79] at H
                        exact absurd H (by simp)
                      ·rw [if_neg c78] at H
                       exact absurd H (by simp)
                     ·rw [if_neg c77] at H
                      have c77b0 : decide (x169_4 < ((rd_L3 t563 (rd t586 x154_3)).length : Int)) = false := decide_eq_false c77
                      clear c77
                      have H' := Aside0.mk H
                      clear H
                      go_wp2
                      go_roundg k4
                      case measure => have := HJ9.out; have := HK2.out; have := HK3.out; have := HK4.out; omega
                      case rel => exact ⟨((wrap64 (x19_3 + (rd t564 (rd t586 x154_3))))), (x21_4), (wrap64 (x154_3 + 1)), qs, qs, H', ⟨by have := HJ9.out; have := HK2.out; have := HK3.out; have := HK4.out; omega⟩, ⟨qS HO_5⟩, ⟨by (with_reducible repeat (first | apply Kd.Q_alloc | apply Kd.Q_drewN | apply Kd.Q_drew)); exact HO_6.out⟩, ⟨qR HO_7⟩, ⟨qR HO_11⟩, ⟨qR HO_16⟩, ⟨qR HO_20⟩, ⟨qR HO_21⟩, ⟨qR HO_152⟩, ⟨qB HB⟩⟩
                  ·rw [if_neg c76] at H
                   exact absurd H (by simp)
                 ·rw [if_neg c75] at H
                  exact absurd H (by simp)
                ·rw [if_neg c74] at H
                 exact absurd H (by simp)
               ·rw [if_neg c73] at H
                exact absurd H (by simp)
              ·rw [if_neg c72] at H
               exact absurd H (by simp)
             ·rw [if_neg c71] at H
              have c71b0 : decide (x154_3 < (t586.length : Int)) = false := decide_eq_false c71
              clear c71
              have H' := Aside0.mk H
              clear H
              go_wp2
              go_loopg [185] k3 (fun kq v185 w' => ∃ (x185_4 : Int), v185 = .int .i64 x185_4 ∧ Aside0 (laws_FnPurchases.l4 kq l1 t577 t578 t586 x18_2 x19_3 x20_2 x21_3 t565 (t565.length : Int) x185_4 = some true) ∧ Aside0 (kq ≤ k3) ∧ Aside0 (Kd.R (Kd.int .i64) 3 w' w.heap.size (fun k_ => some k_ ≠ ((.slice Ao70 t586.length co70) : Value).ownBlock ∧ some k_ ≠ (v593 : Value).ownBlock ∧ some k_ ≠ (v596 : Value).ownBlock ∧ some k_ ≠ ((.slice Ao14 t565.length co14) : Value).ownBlock) (.slice Ao55 t577.length co55) t577) ∧ Aside0 (Kd.R (Kd.int .i64) 3 w' w.heap.size (fun k_ => some k_ ≠ ((.slice Ao55 t577.length co55) : Value).ownBlock ∧ some k_ ≠ (v593 : Value).ownBlock ∧ some k_ ≠ (v596 : Value).ownBlock ∧ some k_ ≠ ((.slice Ao14 t565.length co14) : Value).ownBlock) (.slice Ao70 t586.length co70) t586) ∧ Aside0 (Kd.R (Kd.int .i64) 3 w' w.heap.size (fun k_ => some k_ ≠ ((.slice Ao55 t577.length co55) : Value).ownBlock ∧ some k_ ≠ ((.slice Ao70 t586.length co70) : Value).ownBlock ∧ some k_ ≠ (v596 : Value).ownBlock ∧ some k_ ≠ ((.slice Ao14 t565.length co14) : Value).ownBlock) v593 x20_2) ∧ Aside0 (Kd.R (Kd.int .i64) 3 w' w.heap.size (fun k_ => some k_ ≠ ((.slice Ao55 t577.length co55) : Value).ownBlock ∧ some k_ ≠ ((.slice Ao70 t586.length co70) : Value).ownBlock ∧ some k_ ≠ (v593 : Value).ownBlock ∧ some k_ ≠ ((.slice Ao14 t565.length co14) : Value).ownBlock) v596 x21_3) ∧ Aside0 (Kd.R (Kd.int .i64) 3 w' w.heap.size (fun k_ => some k_ ≠ ((.slice Ao55 t577.length co55) : Value).ownBlock ∧ some k_ ≠ ((.slice Ao70 t586.length co70) : Value).ownBlock ∧ some k_ ≠ (v593 : Value).ownBlock ∧ some k_ ≠ (v596 : Value).ownBlock) (.slice Ao14 t565.length co14) t565) ∧ Aside0 (Below w.heap.size w w'))
              case atStart => exact ⟨(0), qs, H', ⟨Nat.le_refl _⟩, ⟨by exact uR (Kd.R_mono HO_11.out (fun _ hk => ⟨hk.2.2.1, ⟨hk.2.2.2.1, ⟨hk.2.2.2.2.1, hk.2.1⟩⟩⟩))⟩, ⟨by exact uR (Kd.R_mono HO_16.out (fun _ hk => ⟨hk.2.2.1, ⟨hk.2.2.2.1, ⟨hk.2.2.2.2, hk.2.1⟩⟩⟩))⟩, ⟨by exact uR (Kd.R_mono HO_20.out (fun _ hk => ⟨hk.2.2.1, ⟨hk.2.2.2.1, ⟨hk.2.2.2.2.1, hk.2.1⟩⟩⟩))⟩, ⟨by exact uR (Kd.R_mono HO_21.out (fun _ hk => ⟨hk.2.2.1, ⟨hk.2.2.2.1, ⟨hk.2.2.2.2.1, hk.2.1⟩⟩⟩))⟩, ⟨by exact uR (Kd.R_mono HO_7.out (fun _ hk => ⟨hk.2.1, ⟨hk.2.2.1, ⟨hk.2.2.2.1, hk.2.2.2.2.1⟩⟩⟩))⟩, ⟨qB HB⟩⟩
              case round =>
               clear H'
               try clear c1
               try clear c2
               try clear p2
               try clear c4
               try clear c5
               try clear p5
               try clear q5
               try clear hx5
               try clear c6
               try clear p6
               try clear q6
               try clear hx6
               try clear hf6
               try clear c7
               try clear c8
               try clear p8
               try clear q8
               try clear hx8
               try clear hf8
               try clear c19
               try clear c19b0
               try clear c19b1
               try clear c19b2
               try clear c21
               try clear c22
               try clear c22b0
               try clear c22b1
               try clear c23
               try clear c23b0
               try clear c23b1
               try clear c23b2
               try clear c24
               try clear c27
               try clear c28
               try clear c45
               try clear c47
               try clear c48
               try clear c48b0
               try clear c48b1
               try clear c56
               try clear c56b0
               try clear c57
               try clear c57b0
               try clear c58
               try clear c58b0
               try clear c59
               try clear c59b0
               try clear p59
               try clear q59
               try clear hx59
               try clear c60
               try clear c60b0
               try clear p60
               try clear q60
               try clear hx60
               try clear c61
               try clear c61b0
               try clear c62
               try clear c62b0
               try clear c63
               try clear c63b0
               try clear c64
               try clear c64b0
               try clear p64
               try clear c65
               try clear c65b0
               try clear p66
               try clear q66
               try clear hx66
               try clear hf66
               try clear c71
               try clear c71b0
               try clear c72
               try clear c72b0
               try clear c73
               try clear c73b0
               try clear c74
               try clear c74b0
               try clear c75
               try clear c75b0
               try clear c76
               try clear c76b0
               try clear c77
               try clear c77b0
               try clear c78
               try clear c78b0
               try clear c79
               try clear c79b0
               try clear c80
               try clear c80b0
               try clear p81
               try clear q81
               try clear hx81
               try clear hf81
               try clear hx598_0
               try clear hx599_0
               try clear hx600_0
               try clear hx601_0
               try clear hx602_0
               try clear hx604_0
               try clear hx605_0
               try clear hx606_0
               try clear hx607_0
               try clear hx608_0
               try clear hx66_0
               try clear hx81_0
               try clear p2
               try clear p5
               try clear p59
               try clear p598
               try clear p599
               try clear p6
               try clear p60
               try clear p600
               try clear p601
               try clear p602
               try clear p604
               try clear p605
               try clear p606
               try clear p607
               try clear p608
               try clear p64
               try clear p66
               try clear p81
               try clear q5
               try clear q59
               try clear q598
               try clear q599
               try clear q6
               try clear q60
               try clear q600
               try clear q601
               try clear q602
               try clear q604
               try clear q605
               try clear q606
               try clear q607
               try clear q608
               try clear q66
               try clear q81
               obtain ⟨x185_4, rfl, HA, HK4, HO_11, HO_16, HO_20, HO_21, HO_183, HB⟩ := hrel
               cases gk with
               | zero => exact absurd HA.out (by simp [laws_FnPurchases.l4])
               | succ k4 =>
                have H := HA.out
                clear HA
                simp only [laws_FnPurchases.l4] at H
                by_cases c85 : x185_4 < (t565.length : Int)
                ·rw [if_pos c85] at H
                 have c85b0 : decide (x185_4 < (t565.length : Int)) = true := decide_eq_true c85
                 clear c85
                 by_cases c86 : 0 ≤ x185_4
                 ·rw [if_pos c86] at H
                  have c86b0 : decide (0 ≤ x185_4) = true := decide_eq_true c86
                  clear c86
                  by_cases c87 : x185_4 < (t565.length : Int)
                  ·rw [if_pos c87] at H
                   have c87b0 : decide (x185_4 < (t565.length : Int)) = true := decide_eq_true c87
                   clear c87
                   by_cases c88 : x185_4 < (x20_2.length : Int)
                   ·rw [if_pos c88] at H
                    have c88b0 : decide (x185_4 < (x20_2.length : Int)) = true := decide_eq_true c88
                    clear c88
                    by_cases c89 : (rd x20_2 x185_4) < (rd t565 x185_4)
                    ·rw [if_pos c89] at H
                     have c89b0 : decide ((rd x20_2 x185_4) < (rd t565 x185_4)) = true := decide_eq_true c89
                     clear c89
                     exact absurd H (by simp)
                    ·rw [if_neg c89] at H
                     have c89b0 : decide ((rd x20_2 x185_4) < (rd t565 x185_4)) = false := decide_eq_false c89
                     clear c89
                     by_cases c90 : x185_4 < (x21_3.length : Int)
                     ·rw [if_pos c90] at H
                      have c90b0 : decide (x185_4 < (x21_3.length : Int)) = true := decide_eq_true c90
                      clear c90
                      by_cases c91 : (rd x21_3 x185_4) < (rd t565 x185_4)
                      ·rw [if_pos c91] at H
                       have c91b0 : decide ((rd x21_3 x185_4) < (rd t565 x185_4)) = true := decide_eq_true c91
                       clear c91
                       exact absurd H (by simp)
                      ·rw [if_neg c91] at H
                       have c91b0 : decide ((rd x21_3 x185_4) < (rd t565 x185_4)) = false := decide_eq_false c91
                       clear c91
                       have H' := Aside0.mk H
                       clear H
                       have p610 : 0 ≤ (x185_4 : Int) := of_decide_eq_true qa
                       have q610 : x185_4 < (t565.length : Int) := of_decide_eq_true qa
                       obtain ⟨ad610, e610, hx610_0⟩ := Kd.at_int (Kd.R_reads' HO_183.out).2.2 x185_4 p610 q610
                       cases e610
                       replace p610 := eq_true p610
                       replace q610 := eq_true q610
                       obtain ⟨Ao92, co92, eo92⟩ := Kd.R_slice HO_20.out
                       subst eo92
                       have p611 : 0 ≤ (x185_4 : Int) := of_decide_eq_true qa
                       have q611 : x185_4 < (x20_2.length : Int) := of_decide_eq_true qa
                       obtain ⟨ad611, e611, hx611_0⟩ := Kd.at_int (Kd.R_reads' HO_20.out).2.2 x185_4 p611 q611
                       cases e611
                       replace p611 := eq_true p611
                       replace q611 := eq_true q611
                       obtain ⟨Ao93, co93, eo93⟩ := Kd.R_slice HO_21.out
                       subst eo93
                       have p612 : 0 ≤ (x185_4 : Int) := of_decide_eq_true qa
                       have q612 : x185_4 < (x21_3.length : Int) := of_decide_eq_true qa
                       obtain ⟨ad612, e612, hx612_0⟩ := Kd.at_int (Kd.R_reads' HO_21.out).2.2 x185_4 p612 q612
                       cases e612
                       replace p612 := eq_true p612
                       replace q612 := eq_true q612
                       go_wp2
                       go_roundg k4
                       case measure => have := HJ9.out; have := HK2.out; have := HK3.out; have := HK4.out; omega
                       case rel => exact ⟨(wrap64 (x185_4 + 1)), qs, H', ⟨by have := HJ9.out; have := HK2.out; have := HK3.out; have := HK4.out; omega⟩, ⟨qR HO_11⟩, ⟨qR HO_16⟩, ⟨qR HO_20⟩, ⟨qR HO_21⟩, ⟨qR HO_183⟩, ⟨qB HB⟩⟩
                     ·rw [if_neg c90] at H
                      exact absurd H (by simp)
                   ·rw [if_neg c88] at H
                    exact absurd H (by simp)
                  ·rw [if_neg c87] at H
                   exact absurd H (by simp)
                 ·rw [if_neg c86] at H
                  exact absurd H (by simp)
                ·rw [if_neg c85] at H
                 have c85b0 : decide (x185_4 < (t565.length : Int)) = false := decide_eq_false c85
                 clear c85
                 by_cases c94 : x18_2 = t578
                 ·rw [if_pos c94] at H
                  have c94b0 : (x18_2 == t578) = true := beq_iff_eq.mpr c94
                  have c94b1 : (x18_2 != t578) = false := bne_eq_false_iff_eq.mpr c94
                  clear c94
                  by_cases c95 : x19_3 < t578
                  ·rw [if_pos c95] at H
                   have c95b0 : decide (x19_3 < t578) = true := decide_eq_true c95
                   clear c95
                   exact absurd H (by simp)
                  ·rw [if_neg c95] at H
                   have c95b0 : decide (x19_3 < t578) = false := decide_eq_false c95
                   clear c95
                   by_cases c96 : (t586.length : Int) > (t577.length : Int)
                   ·rw [if_pos c96] at H
                    have c96b0 : decide ((t577.length : Int) < (t586.length : Int)) = true := decide_eq_true c96
                    have c96b1 : decide (t577.length < t586.length) = true := decide_eq_true (Int.ofNat_lt.mp c96)
                    clear c96
                    exact absurd H (by simp)
                   ·rw [if_neg c96] at H
                    have c96b0 : decide ((t577.length : Int) < (t586.length : Int)) = false := decide_eq_false c96
                    have c96b1 : decide (t577.length < t586.length) = false := decide_eq_false (fun h => c96 (Int.ofNat_lt.mpr h))
                    clear c96
                    have H' := Aside0.mk H
                    clear H
                    go_wp2
                    go_meet
                    case rel => exact ⟨_, H', ⟨by have := HJ9.out; have := HK2.out; have := HK3.out; have := HK4.out; first | omega | exact Nat.le_refl _⟩, ⟨qB HB⟩⟩
                 ·rw [if_neg c94] at H
                  have c94b0 : (x18_2 == t578) = false := beq_eq_false_iff_ne.mpr c94
                  have c94b1 : (x18_2 != t578) = true := bne_iff_ne.mpr c94
                  exact absurd H (by simp)
       ·rw [if_neg c48] at H
        exact absurd H (by simp)
      ·replace c47 := Bool.eq_false_iff.mpr c47
       subst c47
       rw [if_neg (show ¬ (false = true) by decide)] at H
       have H' := Aside0.mk H
       clear H
       go_wp2
       go_meet
       case rel => exact ⟨_, H', ⟨by have := HJ9.out; first | omega | exact Nat.le_refl _⟩, ⟨qB HB⟩⟩
     case rest => as_aux_lemma =>
      clear HC46
      try clear c1
      try clear c2
      try clear p2
      try clear c4
      try clear c5
      try clear p5
      try clear q5
      try clear hx5
      try clear c6
      try clear p6
      try clear q6
      try clear hx6
      try clear hf6
      try clear c7
      try clear c8
      try clear p8
      try clear q8
      try clear hx8
      try clear hf8
      try clear c9
      try clear c19
      try clear c19b0
      try clear c19b1
      try clear c19b2
      try clear c21
      try clear c22
      try clear c22b0
      try clear c22b1
      try clear c23
      try clear c23b0
      try clear c23b1
      try clear c23b2
      try clear c24
      try clear c27
      try clear c28
      try clear c45
      try clear c47
      try clear c48
      try clear c48b0
      try clear c48b1
      try clear c56
      try clear c56b0
      try clear c57
      try clear c57b0
      try clear c58
      try clear c58b0
      try clear c59
      try clear c59b0
      try clear p59
      try clear q59
      try clear hx59
      try clear c60
      try clear c60b0
      try clear p60
      try clear q60
      try clear hx60
      try clear c61
      try clear c61b0
      try clear p61
      try clear q61
      try clear hx61
      try clear c62
      try clear c62b0
      try clear c63
      try clear c63b0
      try clear c64
      try clear c64b0
      try clear p64
      try clear c65
      try clear c65b0
      try clear p66
      try clear q66
      try clear hx66
      try clear hf66
      try clear c71
      try clear c71b0
      try clear c72
      try clear c72b0
      try clear c73
      try clear c73b0
      try clear c74
      try clear c74b0
      try clear c75
      try clear c75b0
      try clear c76
      try clear c76b0
      try clear c77
      try clear c77b0
      try clear c78
      try clear c78b0
      try clear c79
      try clear c79b0
      try clear c80
      try clear c80b0
      try clear p81
      try clear q81
      try clear hx81
      try clear hf81
      try clear c85
      try clear c85b0
      try clear c86
      try clear c86b0
      try clear c87
      try clear c87b0
      try clear c88
      try clear c88b0
      try clear c89
      try clear c89b0
      try clear c90
      try clear c90b0
      try clear c91
      try clear c91b0
      try clear c94
      try clear c94b0
      try clear c94b1
      try clear c95
      try clear c95b0
      try clear c96
      try clear c96b0
      try clear c96b1
      try clear hx598_0
      try clear hx599_0
      try clear hx600_0
      try clear hx601_0
      try clear hx602_0
      try clear hx604_0
      try clear hx605_0
      try clear hx606_0
      try clear hx607_0
      try clear hx608_0
      try clear hx610_0
      try clear hx611_0
      try clear hx612_0
      try clear hx66_0
      try clear hx81_0
      try clear p2
      try clear p5
      try clear p59
      try clear p598
      try clear p599
      try clear p6
      try clear p60
      try clear p600
      try clear p601
      try clear p602
      try clear p604
      try clear p605
      try clear p606
      try clear p607
      try clear p608
      try clear p610
      try clear p611
      try clear p612
      try clear p64
      try clear p66
      try clear p8
      try clear p81
      try clear q5
      try clear q59
      try clear q598
      try clear q599
      try clear q6
      try clear q60
      try clear q600
      try clear q601
      try clear q602
      try clear q604
      try clear q605
      try clear q606
      try clear q607
      try clear q608
      try clear q610
      try clear q611
      try clear q612
      try clear q66
      try clear q8
      try clear q81
      obtain ⟨kq, HA, HJ45, HB⟩ := hcut
      cases kq with
      | zero => exact absurd HA.out (by simp [laws_FnPurchases.j6])
      | succ kj45 =>
       have H := HA.out
       clear HA
       simp only [laws_FnPurchases.j6] at H
       replace H := Option.bind_eq_some_iff.mp H
       obtain ⟨⟨t613, t614⟩, A970, H⟩ := H
       replace H : ((impl_KitPrice.f kj45 t613 t614).bind fun bt619 => ((spec_KitPrice.f kj45 t613 t614).bind fun bt621 => ((spec_DrawFewestKits.f kj45 l1).bind fun bt623 => ((impl_FewestKits.f kj45 bt623.1 bt623.2).bind fun bt629 => ((spec_FewestKits.f kj45 bt623.1 bt623.2).bind fun bt633 => ((spec_DrawNeededParts.f kj45 l1).bind fun bt637 => ((impl_NeededParts.f kj45 bt637.1 bt637.2.1 bt637.2.2).bind fun bt643 => ((spec_NeededParts.f kj45 bt637.1 bt637.2.1 bt637.2.2).bind fun bt647 => (if (bt619.2 == bt621.2) = true then (if bt619.1 = bt621.1 then (if (bt629.2 == bt633.2) = true then ((laws_sameInts.f kj45 bt629.1 bt633.1).bind fun t651 => (if t651 = true then (if (bt643.2 == bt647.2) = true then ((laws_sameInts.f kj45 bt643.1 bt647.1).bind fun t652 => (some t652)) else (some false)) else (some false))) else (some false)) else (some false)) else (some false)))))))))) = some true := H
       have A97 := Aside0.mk A970
       clear A970
       replace H := Option.bind_eq_some_iff.mp H
       obtain ⟨⟨t619, t620⟩, A980, H⟩ := H
       replace H : ((spec_KitPrice.f kj45 t613 t614).bind fun bt621 => ((spec_DrawFewestKits.f kj45 l1).bind fun bt623 => ((impl_FewestKits.f kj45 bt623.1 bt623.2).bind fun bt629 => ((spec_FewestKits.f kj45 bt623.1 bt623.2).bind fun bt633 => ((spec_DrawNeededParts.f kj45 l1).bind fun bt637 => ((impl_NeededParts.f kj45 bt637.1 bt637.2.1 bt637.2.2).bind fun bt643 => ((spec_NeededParts.f kj45 bt637.1 bt637.2.1 bt637.2.2).bind fun bt647 => (if (t620 == bt621.2) = true then (if t619 = bt621.1 then (if (bt629.2 == bt633.2) = true then ((laws_sameInts.f kj45 bt629.1 bt633.1).bind fun t651 => (if t651 = true then (if (bt643.2 == bt647.2) = true then ((laws_sameInts.f kj45 bt643.1 bt647.1).bind fun t652 => (some t652)) else (some false)) else (some false))) else (some false)) else (some false)) else (some false))))))))) = some true := H
       have A98 := Aside0.mk A980
       clear A980
       replace H := Option.bind_eq_some_iff.mp H
       obtain ⟨⟨t621, t622⟩, A990, H⟩ := H
       replace H : ((spec_DrawFewestKits.f kj45 l1).bind fun bt623 => ((impl_FewestKits.f kj45 bt623.1 bt623.2).bind fun bt629 => ((spec_FewestKits.f kj45 bt623.1 bt623.2).bind fun bt633 => ((spec_DrawNeededParts.f kj45 l1).bind fun bt637 => ((impl_NeededParts.f kj45 bt637.1 bt637.2.1 bt637.2.2).bind fun bt643 => ((spec_NeededParts.f kj45 bt637.1 bt637.2.1 bt637.2.2).bind fun bt647 => (if (t620 == t622) = true then (if t619 = t621 then (if (bt629.2 == bt633.2) = true then ((laws_sameInts.f kj45 bt629.1 bt633.1).bind fun t651 => (if t651 = true then (if (bt643.2 == bt647.2) = true then ((laws_sameInts.f kj45 bt643.1 bt647.1).bind fun t652 => (some t652)) else (some false)) else (some false))) else (some false)) else (some false)) else (some false)))))))) = some true := H
       have A99 := Aside0.mk A990
       clear A990
       replace H := Option.bind_eq_some_iff.mp H
       obtain ⟨⟨t623, t624⟩, A1000, H⟩ := H
       replace H : ((impl_FewestKits.f kj45 t623 t624).bind fun bt629 => ((spec_FewestKits.f kj45 t623 t624).bind fun bt633 => ((spec_DrawNeededParts.f kj45 l1).bind fun bt637 => ((impl_NeededParts.f kj45 bt637.1 bt637.2.1 bt637.2.2).bind fun bt643 => ((spec_NeededParts.f kj45 bt637.1 bt637.2.1 bt637.2.2).bind fun bt647 => (if (t620 == t622) = true then (if t619 = t621 then (if (bt629.2 == bt633.2) = true then ((laws_sameInts.f kj45 bt629.1 bt633.1).bind fun t651 => (if t651 = true then (if (bt643.2 == bt647.2) = true then ((laws_sameInts.f kj45 bt643.1 bt647.1).bind fun t652 => (some t652)) else (some false)) else (some false))) else (some false)) else (some false)) else (some false))))))) = some true := H
       have A100 := Aside0.mk A1000
       clear A1000
       replace H := Option.bind_eq_some_iff.mp H
       obtain ⟨⟨t629, t630⟩, A1010, H⟩ := H
       replace H : ((spec_FewestKits.f kj45 t623 t624).bind fun bt633 => ((spec_DrawNeededParts.f kj45 l1).bind fun bt637 => ((impl_NeededParts.f kj45 bt637.1 bt637.2.1 bt637.2.2).bind fun bt643 => ((spec_NeededParts.f kj45 bt637.1 bt637.2.1 bt637.2.2).bind fun bt647 => (if (t620 == t622) = true then (if t619 = t621 then (if (t630 == bt633.2) = true then ((laws_sameInts.f kj45 t629 bt633.1).bind fun t651 => (if t651 = true then (if (bt643.2 == bt647.2) = true then ((laws_sameInts.f kj45 bt643.1 bt647.1).bind fun t652 => (some t652)) else (some false)) else (some false))) else (some false)) else (some false)) else (some false)))))) = some true := H
       have A101 := Aside0.mk A1010
       clear A1010
       replace H := Option.bind_eq_some_iff.mp H
       obtain ⟨⟨t633, t634⟩, A1020, H⟩ := H
       replace H : ((spec_DrawNeededParts.f kj45 l1).bind fun bt637 => ((impl_NeededParts.f kj45 bt637.1 bt637.2.1 bt637.2.2).bind fun bt643 => ((spec_NeededParts.f kj45 bt637.1 bt637.2.1 bt637.2.2).bind fun bt647 => (if (t620 == t622) = true then (if t619 = t621 then (if (t630 == t634) = true then ((laws_sameInts.f kj45 t629 t633).bind fun t651 => (if t651 = true then (if (bt643.2 == bt647.2) = true then ((laws_sameInts.f kj45 bt643.1 bt647.1).bind fun t652 => (some t652)) else (some false)) else (some false))) else (some false)) else (some false)) else (some false))))) = some true := H
       have A102 := Aside0.mk A1020
       clear A1020
       replace H := Option.bind_eq_some_iff.mp H
       obtain ⟨⟨t637, t638, t639⟩, A1030, H⟩ := H
       replace H : ((impl_NeededParts.f kj45 t637 t638 t639).bind fun bt643 => ((spec_NeededParts.f kj45 t637 t638 t639).bind fun bt647 => (if (t620 == t622) = true then (if t619 = t621 then (if (t630 == t634) = true then ((laws_sameInts.f kj45 t629 t633).bind fun t651 => (if t651 = true then (if (bt643.2 == bt647.2) = true then ((laws_sameInts.f kj45 bt643.1 bt647.1).bind fun t652 => (some t652)) else (some false)) else (some false))) else (some false)) else (some false)) else (some false)))) = some true := H
       have A103 := Aside0.mk A1030
       clear A1030
       replace H := Option.bind_eq_some_iff.mp H
       obtain ⟨⟨t643, t646⟩, A1040, H⟩ := H
       replace H : ((spec_NeededParts.f kj45 t637 t638 t639).bind fun bt647 => (if (t620 == t622) = true then (if t619 = t621 then (if (t630 == t634) = true then ((laws_sameInts.f kj45 t629 t633).bind fun t651 => (if t651 = true then (if (t646 == bt647.2) = true then ((laws_sameInts.f kj45 t643 bt647.1).bind fun t652 => (some t652)) else (some false)) else (some false))) else (some false)) else (some false)) else (some false))) = some true := H
       have A104 := Aside0.mk A1040
       clear A1040
       replace H := Option.bind_eq_some_iff.mp H
       obtain ⟨⟨t647, t650⟩, A1050, H⟩ := H
       replace H : (if (t620 == t622) = true then (if t619 = t621 then (if (t630 == t634) = true then ((laws_sameInts.f kj45 t629 t633).bind fun t651 => (if t651 = true then (if (t646 == t650) = true then ((laws_sameInts.f kj45 t643 t647).bind fun t652 => (some t652)) else (some false)) else (some false))) else (some false)) else (some false)) else (some false)) = some true := H
       have A105 := Aside0.mk A1050
       clear A1050
       by_cases c106 : (t620 == t622) = true
       ·rw [if_pos c106] at H
        have c106b0 : (t620 == t622) = true := c106
        (try (have c106b1 : decide (t620 = t622) = true := by simpa using c106))
        (try (have c106b2 : (t620 == t622) = true := by simpa using c106))
        clear c106
        by_cases c107 : t619 = t621
        ·rw [if_pos c107] at H
         have c107b0 : (t619 == t621) = true := beq_iff_eq.mpr c107
         have c107b1 : (t619 != t621) = false := bne_eq_false_iff_eq.mpr c107
         clear c107
         by_cases c108 : (t630 == t634) = true
         ·rw [if_pos c108] at H
          have c108b0 : (t630 == t634) = true := c108
          (try (have c108b1 : decide (t630 = t634) = true := by simpa using c108))
          (try (have c108b2 : (t630 == t634) = true := by simpa using c108))
          clear c108
          replace H := Option.bind_eq_some_iff.mp H
          obtain ⟨t651, A1090, H⟩ := H
          replace H : (if t651 = true then (if (t646 == t650) = true then ((laws_sameInts.f kj45 t643 t647).bind fun t652 => (some t652)) else (some false)) else (some false)) = some true := H
          have A109 := Aside0.mk A1090
          clear A1090
          by_cases c110 : t651 = true
          ·subst c110
           rw [if_pos rfl] at H
           by_cases c111 : (t646 == t650) = true
           ·rw [if_pos c111] at H
            have c111b0 : (t646 == t650) = true := c111
            (try (have c111b1 : decide (t646 = t650) = true := by simpa using c111))
            (try (have c111b2 : (t646 == t650) = true := by simpa using c111))
            clear c111
            replace H := Option.bind_eq_some_iff.mp H
            obtain ⟨t652, A1120, H⟩ := H
            replace H : (some t652) = some true := H
            have A112 := Aside0.mk A1120
            clear A1120
            have HRT := Option.some.inj H
            clear H
            go_wp2_with (first | ((with_reducible refine gate_callee (f := 79) rfl ?_); refine goesL_ (some 222) rfl rfl Try.func79 (by kernel_rfl) rfl #[.slice A1 l1.length c1] rfl qA ?_; (with_reducible refine (spec_DrawKitPrice.calls kj45 _ _ l1 t613 t614 _ ?side1 ?side2 A97.out).mono ?_); (case side1 => exact uC (Kd.C_below HR1.out HB.out)); (case side2 => exact HC1.out); rintro e w113 ⟨v615, v617, rfl, ho0, ho1, hb⟩; refine ⟨_, rfl, ?_⟩; have n0_ := Aside0.mk (Kd.R_lower ho0 (below_size (qB HB))); have n1_ := Aside0.mk (Kd.R_lower ho1 (below_size (qB HB))); have n2_ := Aside0.mk (below_step (qB HB) hb); clear HB; have HO616 := n0_; have HO618 := n1_; have HB := n2_; clear n0_ n1_ n2_; (try clear hb); (try clear hb2); (try clear hk); (try clear hi); (try clear ho0); (try clear ho1); obtain ⟨Ao114, co114, eo114⟩ := Kd.R_slice HO616.out; subst eo114; obtain ⟨Ao115, co115, eo115⟩ := Kd.R_slice HO618.out; subst eo115) | ((with_reducible refine gate_callee (f := 80) rfl ?_); refine goesL_ (some 228) rfl rfl Try.func80 (by kernel_rfl) rfl #[.slice Ao114 t613.length co114, .slice Ao115 t614.length co115] rfl qA ?_; (with_reducible refine (impl_KitPrice.calls kj45 _ _ t613 _ _ t614 t619 t620 _ ?side1 ?side2 ?side3 ?side4 A98.out).mono ?_); (case side1 => exact uC (Kd.R_reads' HO616.out).2.2); (case side2 => exact (Kd.R_reads' HO616.out).2.1); (case side3 => exact uC (Kd.R_reads' HO618.out).2.2); (case side4 => exact (Kd.R_reads' HO618.out).2.1); rintro e w' ⟨rfl, ⟨nd, rfl⟩⟩; refine ⟨_, rfl, ?_⟩; (try (rw [drewN_self w113]; generalize hq_ : World.drewN w113 _ = w113; have n0_ : Aside0 (Kd.R (Kd.int .i64) 3 w113 w.heap.size (fun k_ => some k_ ≠ (.slice Ao115 t614.length co115 : Value).ownBlock) (.slice Ao114 t613.length co114) t613) := ⟨by rw [← hq_]; exact (qR HO616)⟩; have n1_ : Aside0 (Kd.R (Kd.int .i64) 3 w113 w.heap.size (fun k_ => some k_ ≠ (.slice Ao114 t613.length co114 : Value).ownBlock) (.slice Ao115 t614.length co115) t614) := ⟨by rw [← hq_]; exact (qR HO618)⟩; have n2_ : Aside0 (Below w.heap.size w w113) := ⟨by rw [← hq_]; exact (qB HB)⟩; clear HO616 HO618 HB hq_; have HO616 := n0_; have HO618 := n1_; have HB := n2_; clear n0_ n1_ n2_))) | ((with_reducible refine gate_callee (f := 81) rfl ?_); refine goesL_ (some 234) rfl rfl Try.func81 (by kernel_rfl) rfl #[.slice Ao114 t613.length co114, .slice Ao115 t614.length co115] rfl qA ?_; (with_reducible refine (spec_KitPrice.calls kj45 _ _ t613 _ _ t614 t621 t622 _ ?side1 ?side2 ?side3 ?side4 A99.out).mono ?_); (case side1 => exact uC (Kd.R_reads' HO616.out).2.2); (case side2 => exact (Kd.R_reads' HO616.out).2.1); (case side3 => exact uC (Kd.R_reads' HO618.out).2.2); (case side4 => exact (Kd.R_reads' HO618.out).2.1); rintro e w' ⟨rfl, ⟨nd, rfl⟩⟩; refine ⟨_, rfl, ?_⟩; (try (rw [drewN_self w113]; generalize hq_ : World.drewN w113 _ = w113; have n0_ : Aside0 (Kd.R (Kd.int .i64) 3 w113 w.heap.size (fun k_ => some k_ ≠ (.slice Ao115 t614.length co115 : Value).ownBlock) (.slice Ao114 t613.length co114) t613) := ⟨by rw [← hq_]; exact (qR HO616)⟩; have n1_ : Aside0 (Kd.R (Kd.int .i64) 3 w113 w.heap.size (fun k_ => some k_ ≠ (.slice Ao114 t613.length co114 : Value).ownBlock) (.slice Ao115 t614.length co115) t614) := ⟨by rw [← hq_]; exact (qR HO618)⟩; have n2_ : Aside0 (Below w.heap.size w w113) := ⟨by rw [← hq_]; exact (qB HB)⟩; clear HO616 HO618 HB hq_; have HO616 := n0_; have HO618 := n1_; have HB := n2_; clear n0_ n1_ n2_))) | ((with_reducible refine gate_callee (f := 82) rfl ?_); refine goesL_ (some 239) rfl rfl Try.func82 (by kernel_rfl) rfl #[.slice A1 l1.length c1] rfl qA ?_; (with_reducible refine (spec_DrawFewestKits.calls kj45 _ _ l1 t623 t624 _ ?side1 ?side2 A100.out).mono ?_); (case side1 => exact uC (Kd.C_below HR1.out HB.out)); (case side2 => exact HC1.out); rintro e w116 ⟨v625, v627, rfl, ho0, ho1, hb⟩; refine ⟨_, rfl, ?_⟩; have n0_ := Aside0.mk (Kd.R_elder' (qR HO616) (Kd.R_base ho1) hb); have n1_ := Aside0.mk (Kd.R_elder' (qR HO618) (Kd.R_base ho1) hb); have n2_ := Aside0.mk (Kd.S_lower (Kd.S_new' (Kd.S_new' ho0 (Kd.R_lt (qR HO616))) (Kd.R_lt (qR HO618))) (below_size (qB HB))); have n3_ := Aside0.mk (Kd.R_lower (Kd.R_new' (Kd.R_new' ho1 (Kd.R_lt (qR HO616))) (Kd.R_lt (qR HO618))) (below_size (qB HB))); have n4_ := Aside0.mk (below_step (qB HB) hb); clear HO616; clear HO618; clear HB; have HO616 := n0_; have HO618 := n1_; have HO626 := n2_; have HO628 := n3_; have HB := n4_; clear n0_ n1_ n2_ n3_ n4_; (try clear hb); (try clear hb2); (try clear hk); (try clear hi); (try clear ho0); (try clear ho1); obtain ⟨Ao117, co117, eo117⟩ := Kd.S_slice HO626.out; subst eo117; obtain ⟨Ao118, co118, eo118⟩ := Kd.R_slice HO628.out; subst eo118) | ((with_reducible refine gate_callee (f := 77) rfl ?_); refine goesL_ (some 245) rfl rfl Try.func77 (by kernel_rfl) rfl #[.slice Ao117 t623.length co117, .slice Ao118 t624.length co118] rfl qA ?_; (with_reducible refine (impl_FewestKits.calls kj45 _ _ t623 _ _ t624 t629 t630 _ ?side1 ?side2 ?side3 ?side4 A101.out).mono ?_); (case side1 => exact uC (Kd.S_reads' HO626.out).2.2); (case side2 => exact (Kd.S_reads' HO626.out).2.1); (case side3 => exact uC (Kd.R_reads' HO628.out).2.2); (case side4 => exact (Kd.R_reads' HO628.out).2.1); rintro e w119 ⟨v631, rfl, ho0, hb⟩; refine ⟨_, rfl, ?_⟩; have n0_ := Aside0.mk (Kd.R_elder' (qR HO616) (Kd.R_base ho0) hb); have n1_ := Aside0.mk (Kd.R_elder' (qR HO618) (Kd.R_base ho0) hb); have n2_ := Aside0.mk (Kd.S_elder' (qS HO626) (Kd.R_base ho0) hb); have n3_ := Aside0.mk (Kd.R_elder' (qR HO628) (Kd.R_base ho0) hb); have n4_ := Aside0.mk (Kd.R_lower (Kd.R_new' (Kd.R_new' (Kd.R_new' ho0 (Kd.R_lt (qR HO616))) (Kd.R_lt (qR HO618))) (Kd.R_lt (qR HO628))) (below_size (qB HB))); have n5_ := Aside0.mk (below_step (qB HB) hb); clear HO616; clear HO618; clear HO626; clear HO628; clear HB; have HO616 := n0_; have HO618 := n1_; have HO626 := n2_; have HO628 := n3_; have HO632 := n4_; have HB := n5_; clear n0_ n1_ n2_ n3_ n4_ n5_; (try clear hb); (try clear hb2); (try clear hk); (try clear hi); (try clear ho0)) | ((with_reducible refine gate_callee (f := 78) rfl ?_); refine goesL_ (some 251) rfl rfl Try.func78 (by kernel_rfl) rfl #[.slice Ao117 t623.length co117, .slice Ao118 t624.length co118] rfl qA ?_; (with_reducible refine (spec_FewestKits.calls kj45 _ _ t623 _ _ t624 t633 t634 _ ?side1 ?side2 ?side3 ?side4 A102.out).mono ?_); (case side1 => exact uC (Kd.S_reads' HO626.out).2.2); (case side2 => exact (Kd.S_reads' HO626.out).2.1); (case side3 => exact uC (Kd.R_reads' HO628.out).2.2); (case side4 => exact (Kd.R_reads' HO628.out).2.1); rintro e w120 ⟨v635, rfl, ho0, hb⟩; refine ⟨_, rfl, ?_⟩; have n0_ := Aside0.mk (Kd.R_elder' (qR HO616) (Kd.R_base ho0) hb); have n1_ := Aside0.mk (Kd.R_elder' (qR HO618) (Kd.R_base ho0) hb); have n2_ := Aside0.mk (Kd.S_elder' (qS HO626) (Kd.R_base ho0) hb); have n3_ := Aside0.mk (Kd.R_elder' (qR HO628) (Kd.R_base ho0) hb); have n4_ := Aside0.mk (Kd.R_elder' (qR HO632) (Kd.R_base ho0) hb); have n5_ := Aside0.mk (Kd.R_lower (Kd.R_new' (Kd.R_new' (Kd.R_new' (Kd.R_new' ho0 (Kd.R_lt (qR HO616))) (Kd.R_lt (qR HO618))) (Kd.R_lt (qR HO628))) (Kd.R_lt (qR HO632))) (below_size (qB HB))); have n6_ := Aside0.mk (below_step (qB HB) hb); clear HO616; clear HO618; clear HO626; clear HO628; clear HO632; clear HB; have HO616 := n0_; have HO618 := n1_; have HO626 := n2_; have HO628 := n3_; have HO632 := n4_; have HO636 := n5_; have HB := n6_; clear n0_ n1_ n2_ n3_ n4_ n5_ n6_; (try clear hb); (try clear hb2); (try clear hk); (try clear hi); (try clear ho0)) | ((with_reducible refine gate_callee (f := 83) rfl ?_); refine goesL_ (some 255) rfl rfl Try.func83 (by kernel_rfl) rfl #[.slice A1 l1.length c1] rfl qA ?_; (with_reducible refine (spec_DrawNeededParts.calls kj45 _ _ l1 t637 t638 t639 _ ?side1 ?side2 A103.out).mono ?_); (case side1 => exact uC (Kd.C_below HR1.out HB.out)); (case side2 => exact HC1.out); rintro e w121 ⟨v640, rfl, ho0, hb⟩; refine ⟨_, rfl, ?_⟩; have n0_ := Aside0.mk (Kd.R_below (qR HO616) hb); have n1_ := Aside0.mk (Kd.R_below (qR HO618) hb); have n2_ := Aside0.mk (Kd.S_below (qS HO626) hb); have n3_ := Aside0.mk (Kd.R_below (qR HO628) hb); have n4_ := Aside0.mk (Kd.R_below (qR HO632) hb); have n5_ := Aside0.mk (Kd.R_below (qR HO636) hb); have n6_ := Aside0.mk (Kd.Q_lower ho0 (below_size (qB HB))); have n7_ := Aside0.mk (below_step (qB HB) hb); clear HO616; clear HO618; clear HO626; clear HO628; clear HO632; clear HO636; clear HB; have HO616 := n0_; have HO618 := n1_; have HO626 := n2_; have HO628 := n3_; have HO632 := n4_; have HO636 := n5_; have HO641 := n6_; have HB := n7_; clear n0_ n1_ n2_ n3_ n4_ n5_ n6_ n7_; (try clear hb); (try clear hb2); (try clear hk); (try clear hi); (try clear ho0)) | ((with_reducible refine gate_dst (N := 44) rfl ?_); (try (refine gate_guard (by rfl) ?_; dsimp only)); refine box_event ?hg (N := 44) ?hd (cs := #[.int .i64 0, .int .i64 0, .slice none 0 0]) (t := 70) ?hr ?_; (case hd => rfl); (case hg => rfl); (case hr => first | (go_simp; done) | (go_simp; rfl)); intro gb642 hg w122 hbox hb; have n0_ := Aside0.mk (Kd.R_below (qR HO616) hb); have n1_ := Aside0.mk (Kd.R_below (qR HO618) hb); have n2_ := Aside0.mk (Kd.S_below (qS HO626) hb); have n3_ := Aside0.mk (Kd.R_below (qR HO628) hb); have n4_ := Aside0.mk (Kd.R_below (qR HO632) hb); have n5_ := Aside0.mk (Kd.R_below (qR HO636) hb); have n6_ := Aside0.mk (Kd.Q_below (by (with_reducible repeat (first | apply Kd.Q_alloc | apply Kd.Q_drewN | apply Kd.Q_drew)); exact HO641.out) hb); have n7_ := Aside0.mk (below_step (qB HB) hb); have n8_ := Aside0.mk (hbox); have n9_ := Aside0.mk ((by rw [hg]; exact (below_size (qB HB)) : w.heap.size ≤ gb642)); have n10_ := Aside0.mk ((by rw [hg]; exact (below_size (qB HB)) : w.heap.size ≤ gb642)); clear HO616; clear HO618; clear HO626; clear HO628; clear HO632; clear HO636; clear HO641; clear HB; have HO616 := n0_; have HO618 := n1_; have HO626 := n2_; have HO628 := n3_; have HO632 := n4_; have HO636 := n5_; have HO641 := n6_; have HB := n7_; have BK642 := n8_; have GW642 := n9_; have GE642 := n10_; clear n0_ n1_ n2_ n3_ n4_ n5_ n6_ n7_ n8_ n9_ n10_; clear hb hbox hg; have hcz123_0 : w122.cell? ⟨gb642, 0, none⟩ = some (.int .i64 0) := (blk_cell BK642.out 0).trans rfl; have hcz123_1 : w122.cell? ⟨gb642, 1, none⟩ = some (.int .i64 0) := (blk_cell BK642.out 1).trans rfl; have hcz123_2 : w122.cell? ⟨gb642, 2, none⟩ = some (.slice none 0 0) := (blk_cell BK642.out 2).trans rfl; have hfz123_0 := blk_frozen BK642.out 0; have hfz123_1 := blk_frozen BK642.out 1; have hfz123_2 := blk_frozen BK642.out 2; obtain ⟨Ao124, co124, eo124, _⟩ := Kd.Q_slice HO641.out; subst eo124) | ((with_reducible refine gate_callee (f := 54) rfl ?_); refine goesL_ (some 258) rfl rfl Try.func54 (by kernel_rfl) rfl #[.agg #[.int .i64 t637, .int .i64 t638, .slice Ao124 t639.length co124]] rfl qA ?_; (with_reducible refine (impl_NeededParts.calls kj45 t637 t638 _ _ t639 t643 t646 _ ?side1 ?side2 A104.out).mono ?_); (case side1 => refine (Kd.Q_reads' (e := 109) (base := w.heap.size) (ok := fun k_ => True) (n := t639.length) (c := co124) ?_).2.2; exact (by (with_reducible repeat (first | apply Kd.Q_alloc | apply Kd.Q_drewN | apply Kd.Q_drew)); exact (Kd.Q_mono (Kd.Q_far (p := ⟨gb642, 2, none⟩) (Kd.Q_far (p := ⟨gb642, 1, none⟩) (Kd.Q_far (p := ⟨gb642, 0, none⟩) (Kd.Q_types HO641.out BK642.out (by decide)) (fun _ hk => hk.2) (.int .i64 t637)) (fun _ hk => hk.2) (.int .i64 t638)) (fun _ hk => hk.2) (.slice Ao124 t639.length co124)) (fun _ h_ => h_.1)))); (case side2 => exact (Kd.Q_reads' HO641.out).2.1); rintro e w125 ⟨v644, rfl, ho0, hb⟩; refine ⟨_, rfl, ?_⟩; have n0_ := Aside0.mk (Kd.R_elder' (by exact uR ((Kd.R_mono (Kd.R_far (p := ⟨gb642, 2, none⟩) (Kd.R_far (p := ⟨gb642, 1, none⟩) (Kd.R_far (p := ⟨gb642, 0, none⟩) (Kd.R_types HO616.out BK642.out (by decide)) (fun _ hk => hk.2) (.int .i64 t637)) (fun _ hk => hk.2) (.int .i64 t638)) (fun _ hk => hk.2) (.slice Ao124 t639.length co124)) (fun _ h_ => h_.1)))) (Kd.R_base ho0) hb); have n1_ := Aside0.mk (Kd.R_elder' (by exact uR ((Kd.R_mono (Kd.R_far (p := ⟨gb642, 2, none⟩) (Kd.R_far (p := ⟨gb642, 1, none⟩) (Kd.R_far (p := ⟨gb642, 0, none⟩) (Kd.R_types HO618.out BK642.out (by decide)) (fun _ hk => hk.2) (.int .i64 t637)) (fun _ hk => hk.2) (.int .i64 t638)) (fun _ hk => hk.2) (.slice Ao124 t639.length co124)) (fun _ h_ => h_.1)))) (Kd.R_base ho0) hb); have n2_ := Aside0.mk (Kd.S_elder' (by exact uS ((Kd.S_mono (Kd.S_far (p := ⟨gb642, 2, none⟩) (Kd.S_far (p := ⟨gb642, 1, none⟩) (Kd.S_far (p := ⟨gb642, 0, none⟩) (Kd.S_types HO626.out BK642.out (by decide)) (fun _ hk => hk.2) (.int .i64 t637)) (fun _ hk => hk.2) (.int .i64 t638)) (fun _ hk => hk.2) (.slice Ao124 t639.length co124)) (fun _ h_ => h_.1)))) (Kd.R_base ho0) hb); have n3_ := Aside0.mk (Kd.R_elder' (by exact uR ((Kd.R_mono (Kd.R_far (p := ⟨gb642, 2, none⟩) (Kd.R_far (p := ⟨gb642, 1, none⟩) (Kd.R_far (p := ⟨gb642, 0, none⟩) (Kd.R_types HO628.out BK642.out (by decide)) (fun _ hk => hk.2) (.int .i64 t637)) (fun _ hk => hk.2) (.int .i64 t638)) (fun _ hk => hk.2) (.slice Ao124 t639.length co124)) (fun _ h_ => h_.1)))) (Kd.R_base ho0) hb); have n4_ := Aside0.mk (Kd.R_elder' (by exact uR ((Kd.R_mono (Kd.R_far (p := ⟨gb642, 2, none⟩) (Kd.R_far (p := ⟨gb642, 1, none⟩) (Kd.R_far (p := ⟨gb642, 0, none⟩) (Kd.R_types HO632.out BK642.out (by decide)) (fun _ hk => hk.2) (.int .i64 t637)) (fun _ hk => hk.2) (.int .i64 t638)) (fun _ hk => hk.2) (.slice Ao124 t639.length co124)) (fun _ h_ => h_.1)))) (Kd.R_base ho0) hb); have n5_ := Aside0.mk (Kd.R_elder' (by exact uR ((Kd.R_mono (Kd.R_far (p := ⟨gb642, 2, none⟩) (Kd.R_far (p := ⟨gb642, 1, none⟩) (Kd.R_far (p := ⟨gb642, 0, none⟩) (Kd.R_types HO636.out BK642.out (by decide)) (fun _ hk => hk.2) (.int .i64 t637)) (fun _ hk => hk.2) (.int .i64 t638)) (fun _ hk => hk.2) (.slice Ao124 t639.length co124)) (fun _ h_ => h_.1)))) (Kd.R_base ho0) hb); have n6_ := Aside0.mk (Kd.Q_below (by (with_reducible repeat (first | apply Kd.Q_alloc | apply Kd.Q_drewN | apply Kd.Q_drew)); exact (Kd.Q_mono (Kd.Q_far (p := ⟨gb642, 2, none⟩) (Kd.Q_far (p := ⟨gb642, 1, none⟩) (Kd.Q_far (p := ⟨gb642, 0, none⟩) (Kd.Q_types HO641.out BK642.out (by decide)) (fun _ hk => hk.2) (.int .i64 t637)) (fun _ hk => hk.2) (.int .i64 t638)) (fun _ hk => hk.2) (.slice Ao124 t639.length co124)) (fun _ h_ => h_.1))) hb); have n7_ := Aside0.mk (Kd.R_lower (Kd.R_new' (Kd.R_new' (Kd.R_new' (Kd.R_new' (Kd.R_new' ho0 (Kd.R_lt (by exact uR ((Kd.R_mono (Kd.R_far (p := ⟨gb642, 2, none⟩) (Kd.R_far (p := ⟨gb642, 1, none⟩) (Kd.R_far (p := ⟨gb642, 0, none⟩) (Kd.R_types HO616.out BK642.out (by decide)) (fun _ hk => hk.2) (.int .i64 t637)) (fun _ hk => hk.2) (.int .i64 t638)) (fun _ hk => hk.2) (.slice Ao124 t639.length co124)) (fun _ h_ => h_.1)))))) (Kd.R_lt (by exact uR ((Kd.R_mono (Kd.R_far (p := ⟨gb642, 2, none⟩) (Kd.R_far (p := ⟨gb642, 1, none⟩) (Kd.R_far (p := ⟨gb642, 0, none⟩) (Kd.R_types HO618.out BK642.out (by decide)) (fun _ hk => hk.2) (.int .i64 t637)) (fun _ hk => hk.2) (.int .i64 t638)) (fun _ hk => hk.2) (.slice Ao124 t639.length co124)) (fun _ h_ => h_.1)))))) (Kd.R_lt (by exact uR ((Kd.R_mono (Kd.R_far (p := ⟨gb642, 2, none⟩) (Kd.R_far (p := ⟨gb642, 1, none⟩) (Kd.R_far (p := ⟨gb642, 0, none⟩) (Kd.R_types HO628.out BK642.out (by decide)) (fun _ hk => hk.2) (.int .i64 t637)) (fun _ hk => hk.2) (.int .i64 t638)) (fun _ hk => hk.2) (.slice Ao124 t639.length co124)) (fun _ h_ => h_.1)))))) (Kd.R_lt (by exact uR ((Kd.R_mono (Kd.R_far (p := ⟨gb642, 2, none⟩) (Kd.R_far (p := ⟨gb642, 1, none⟩) (Kd.R_far (p := ⟨gb642, 0, none⟩) (Kd.R_types HO632.out BK642.out (by decide)) (fun _ hk => hk.2) (.int .i64 t637)) (fun _ hk => hk.2) (.int .i64 t638)) (fun _ hk => hk.2) (.slice Ao124 t639.length co124)) (fun _ h_ => h_.1)))))) (Kd.R_lt (by exact uR ((Kd.R_mono (Kd.R_far (p := ⟨gb642, 2, none⟩) (Kd.R_far (p := ⟨gb642, 1, none⟩) (Kd.R_far (p := ⟨gb642, 0, none⟩) (Kd.R_types HO636.out BK642.out (by decide)) (fun _ hk => hk.2) (.int .i64 t637)) (fun _ hk => hk.2) (.int .i64 t638)) (fun _ hk => hk.2) (.slice Ao124 t639.length co124)) (fun _ h_ => h_.1)))))) (below_size (qT HB GE642))); have n8_ := Aside0.mk (blk_below (g := gb642) (o := .cells #[.int .i64 t637, .int .i64 t638, .slice Ao124 t639.length co124] 70 (0, 0)) (by (with_reducible repeat (first | refine blk_drewN ?_ _ | refine blk_drew ?_ | refine blk_alloc ?_ _)); refine blk_put (cs := #[.int .i64 t637, .int .i64 t638, .slice none 0 0]) ?_ 2 _ rfl; (with_reducible repeat (first | refine blk_drewN ?_ _ | refine blk_drew ?_ | refine blk_alloc ?_ _)); refine blk_put (cs := #[.int .i64 t637, .int .i64 0, .slice none 0 0]) ?_ 1 _ rfl; (with_reducible repeat (first | refine blk_drewN ?_ _ | refine blk_drew ?_ | refine blk_alloc ?_ _)); refine blk_put (cs := #[.int .i64 0, .int .i64 0, .slice none 0 0]) ?_ 0 _ rfl; (with_reducible repeat (first | refine blk_drewN ?_ _ | refine blk_drew ?_ | refine blk_alloc ?_ _)); exact BK642.out) hb); have n9_ := Aside0.mk (below_step (qT HB GE642) hb); clear HO616; clear HO618; clear HO626; clear HO628; clear HO632; clear HO636; clear HO641; clear BK642; clear HB; have HO616 := n0_; have HO618 := n1_; have HO626 := n2_; have HO628 := n3_; have HO632 := n4_; have HO636 := n5_; have HO641 := n6_; have HO645 := n7_; have BK642 := n8_; have HB := n9_; clear n0_ n1_ n2_ n3_ n4_ n5_ n6_ n7_ n8_ n9_; (try clear hb); (try clear hb2); (try clear hk); (try clear hi); (try clear ho0); have hcz126_0 : w125.cell? ⟨gb642, 0, none⟩ = some (.int .i64 t637) := (blk_cell BK642.out 0).trans rfl; have hcz126_1 : w125.cell? ⟨gb642, 1, none⟩ = some (.int .i64 t638) := (blk_cell BK642.out 1).trans rfl; have hcz126_2 : w125.cell? ⟨gb642, 2, none⟩ = some (.slice Ao124 t639.length co124) := (blk_cell BK642.out 2).trans rfl; have hfz126_0 := blk_frozen BK642.out 0; have hfz126_1 := blk_frozen BK642.out 1; have hfz126_2 := blk_frozen BK642.out 2) | ((with_reducible refine gate_callee (f := 55) rfl ?_); refine goesL_ (some 263) rfl rfl Try.func55 (by kernel_rfl) rfl #[.agg #[.int .i64 t637, .int .i64 t638, .slice Ao124 t639.length co124]] rfl qA ?_; (with_reducible refine (spec_NeededParts.calls kj45 t637 t638 _ _ t639 t647 t650 _ ?side1 ?side2 A105.out).mono ?_); (case side1 => exact uC (Kd.Q_reads' HO641.out).2.2); (case side2 => exact (Kd.Q_reads' HO641.out).2.1); rintro e w127 ⟨v648, rfl, ho0, hb⟩; refine ⟨_, rfl, ?_⟩; have n0_ := Aside0.mk (Kd.R_elder' (qR HO616) (Kd.Q_base ho0) hb); have n1_ := Aside0.mk (Kd.R_elder' (qR HO618) (Kd.Q_base ho0) hb); have n2_ := Aside0.mk (Kd.S_elder' (qS HO626) (Kd.Q_base ho0) hb); have n3_ := Aside0.mk (Kd.R_elder' (qR HO628) (Kd.Q_base ho0) hb); have n4_ := Aside0.mk (Kd.R_elder' (qR HO632) (Kd.Q_base ho0) hb); have n5_ := Aside0.mk (Kd.R_elder' (qR HO636) (Kd.Q_base ho0) hb); have n6_ := Aside0.mk (Kd.Q_below (by (with_reducible repeat (first | apply Kd.Q_alloc | apply Kd.Q_drewN | apply Kd.Q_drew)); exact HO641.out) hb); have n7_ := Aside0.mk (Kd.R_elder' (qR HO645) (Kd.Q_base ho0) hb); have n8_ := Aside0.mk (Kd.Q_lower (Kd.Q_new' (Kd.Q_new' (Kd.Q_new' (Kd.Q_new' (Kd.Q_new' (Kd.Q_new' ho0 (Kd.R_lt (qR HO616))) (Kd.R_lt (qR HO618))) (Kd.R_lt (qR HO628))) (Kd.R_lt (qR HO632))) (Kd.R_lt (qR HO636))) (Kd.R_lt (qR HO645))) (below_size (qT HB GE642))); have n9_ := Aside0.mk (blk_below (g := gb642) (o := .cells #[.int .i64 t637, .int .i64 t638, .slice Ao124 t639.length co124] 70 (0, 0)) (qK BK642) hb); have n10_ := Aside0.mk (below_step (qT HB GE642) hb); clear HO616; clear HO618; clear HO626; clear HO628; clear HO632; clear HO636; clear HO641; clear HO645; clear BK642; clear HB; have HO616 := n0_; have HO618 := n1_; have HO626 := n2_; have HO628 := n3_; have HO632 := n4_; have HO636 := n5_; have HO641 := n6_; have HO645 := n7_; have HO649 := n8_; have BK642 := n9_; have HB := n10_; clear n0_ n1_ n2_ n3_ n4_ n5_ n6_ n7_ n8_ n9_ n10_; (try clear hb); (try clear hb2); (try clear hk); (try clear hi); (try clear ho0); obtain ⟨Ao128, co128, eo128⟩ := Kd.R_slice HO632.out; subst eo128; obtain ⟨Ao129, co129, eo129⟩ := Kd.R_slice HO636.out; subst eo129) | (go_at_call 28; (with_reducible refine (laws_sameInts.calls kj45 _ _ t629 _ _ t633 true _ ?side1 ?side2 ?side3 ?side4 A109.out).mono ?_); (case side1 => exact uC (Kd.R_reads' HO632.out).2.2); (case side2 => exact (Kd.R_reads' HO632.out).2.1); (case side3 => exact uC (Kd.R_reads' HO636.out).2.2); (case side4 => exact (Kd.R_reads' HO636.out).2.1); rintro e w' ⟨rfl, ⟨nd, rfl⟩⟩; obtain ⟨Ao130, co130, eo130⟩ := Kd.R_slice HO645.out; subst eo130; obtain ⟨Ao131, co131, eo131, _⟩ := Kd.Q_slice HO649.out; subst eo131) | (go_at_call 28; (with_reducible refine (laws_sameInts.calls kj45 _ _ t643 _ _ t647 t652 _ ?side1 ?side2 ?side3 ?side4 A112.out).mono ?_); (case side1 => exact uC (Kd.R_reads' HO645.out).2.2); (case side2 => exact (Kd.R_reads' HO645.out).2.1); (case side3 => exact uC (Kd.Q_reads' HO649.out).2.2); (case side4 => exact (Kd.Q_reads' HO649.out).2.1); rintro e w' ⟨rfl, ⟨nd, rfl⟩⟩))
            go_ret
            exact ⟨qe, qT HB GE642⟩
           ·rw [if_neg c111] at H
            have c111b0 : (t646 == t650) = false := by simpa using c111
            (try (have c111b1 : decide (t646 = t650) = false := by simpa using c111))
            (try (have c111b2 : (t646 == t650) = false := by simpa using c111))
            (try (have c111b3 : ¬ (t646 = t650) := by simpa using c111))
            clear c111
            exact absurd H (by simp)
          ·replace c110 := Bool.eq_false_iff.mpr c110
           subst c110
           rw [if_neg (show ¬ (false = true) by decide)] at H
           exact absurd H (by simp)
         ·rw [if_neg c108] at H
          have c108b0 : (t630 == t634) = false := by simpa using c108
          (try (have c108b1 : decide (t630 = t634) = false := by simpa using c108))
          (try (have c108b2 : (t630 == t634) = false := by simpa using c108))
          (try (have c108b3 : ¬ (t630 = t634) := by simpa using c108))
          clear c108
          exact absurd H (by simp)
        ·rw [if_neg c107] at H
         have c107b0 : (t619 == t621) = false := beq_eq_false_iff_ne.mpr c107
         have c107b1 : (t619 != t621) = true := bne_iff_ne.mpr c107
         exact absurd H (by simp)
       ·rw [if_neg c106] at H
        have c106b0 : (t620 == t622) = false := by simpa using c106
        (try (have c106b1 : decide (t620 = t622) = false := by simpa using c106))
        (try (have c106b2 : (t620 == t622) = false := by simpa using c106))
        (try (have c106b3 : ¬ (t620 = t622) := by simpa using c106))
        clear c106
        exact absurd H (by simp)

/-- THE ONE PURE STATEMENT of laws_FnPurchases: yours. -/
def laws_FnPurchases.Pure : Prop := ∀ (l0 : List Int) (l1 : List Int), l0.length ≤ maxLen → l0.length * 1 ≤ 140737488351232 → (∀ x ∈ l0, (Lit.int .u8 x).wf = true) → l1.length ≤ maxLen → l1.length * 1 ≤ 140737488351232 → (∀ x ∈ l1, (Lit.int .u8 x).wf = true) → ∃ k, laws_FnPurchases.f k l0 l1 = some true
theorem laws_FnPurchases.walk (P : laws_FnPurchases.Pure) (a0 : Option Addr) (len0 cap0 : Nat) (z0 : List Int) (a1 : Option Addr) (len1 cap1 : Nat) (z1 : List Int) (w : World) (w0 : (a0 = none ∧ len0 = 0 ∧ cap0 = 0 ∧ z0 = []) ∨ ∃ x, a0 = some x ∧ len0 ≤ cap0 ∧ cap0 ≤ maxLen ∧ z0.length = cap0 ∧ (∀ i, i < z0.length → w.cell? (x.add i) = some (.int .u8 (z0.getD i 0))) ∧ ∀ n ∈ z0, (Lit.int .u8 n).wf = true) (y0 : len0 * 1 ≤ 140737488351232) (w1 : (a1 = none ∧ len1 = 0 ∧ cap1 = 0 ∧ z1 = []) ∨ ∃ x, a1 = some x ∧ len1 ≤ cap1 ∧ cap1 ≤ maxLen ∧ z1.length = cap1 ∧ (∀ i, i < z1.length → w.cell? (x.add i) = some (.int .u8 (z1.getD i 0))) ∧ ∀ n ∈ z1, (Lit.int .u8 n).wf = true) (y1 : len1 * 1 ≤ 140737488351232) :
  Calls Try.prog 7 #[.slice a0 len0 cap0, .slice a1 len1 cap1] w fun e w' => e = .returned (.bool true) ∧ Below w.heap.size w w' := by
 obtain ⟨l0, rfl, hr0, hm0, hw0, hc0⟩ := ReadsInt.ofRowC w0
 obtain ⟨l1, rfl, hr1, hm1, hw1, hc1⟩ := ReadsInt.ofRowC w1
 obtain ⟨k, h⟩ := P l0 l1 hm0 y0 hw0 hm1 y1 hw1
 refine (laws_FnPurchases.calls k _ _ l0 _ _ l1 w (Kd.C_of_reads (d := (0 : Int)) (h1 := fun _ => rfl) hr0) hc0 (Kd.C_of_reads (d := (0 : Int)) (h1 := fun _ => rfl) hr1) hc1 h).mono ?_
 rintro e w' ⟨rfl, hd⟩
 exact ⟨rfl, hd⟩

end Go.Proofs.Ytgblcbgkkfipoaa.XFnPurchases
