/-
  The plain law behind FnPurchases: purchases are enough, none is cheaper than the cheapest, and none has fewer kits than the fewest.
  Conditions: the law's arguments are two byte slices of any contents.
-/
import Derived.Test.YtgblcbgkkfipoaaQFnPurchases10
namespace Go.Proofs.Ytgblcbgkkfipoaa.Pure
open Go.RowKit Go.Proofs.YtgblcbgkkfipoaaW.PrintWords Go.Proofs.YtgblcbgkkfipoaaW.Evs Go.Proofs.Ytgblcbgkkfipoaa.XFnPurchases
theorem byte_of {x : Int} (h : (Lit.int .u8 x).wf = true) : 0 ≤ x ∧ x ≤ 255 := by
  simp [Lit.wf, IntKind.min, IntKind.max, IntKind.signed, IntKind.bits] at h
  omega
theorem FnPurchases : laws_FnPurchases.Pure := by
  intro l0 l1 h0 s0 w0 h1 s1 w1
  exact (law_ev l0 l1 (by omega) (by omega) (fun v hv => byte_of (w0 v hv)) (fun v hv => byte_of (w1 v hv))).rounds
end Go.Proofs.Ytgblcbgkkfipoaa.Pure
