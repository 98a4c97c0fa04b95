/-
  The plain law behind FnExactCheapestKits: what the program's function computes is what the reference computes, for every list of kits.
-/
import Derived.Test.YtbojcipcdefipaaGoodFnExactCheapestKits
import Derived.Test.YtbojcipcdefipaaQKits6
namespace Go.Proofs.Ytbojcipcdefipaa.Pure
open Go.RowKit Go.Proofs.YtbojcipcdefipaaW.PrintWords Go.Proofs.Ytbojcipcdefipaa.XKits
theorem FnExactCheapestKits : laws_FnExactCheapestKits.Pure := by
  intro l0 l1 l2 h0 h1 h2
  have h : l0.length ≤ maxLen ∧ _ := h0
  exact (cheap_law l0 l1 l2 h.1 (fun b hb => (h.2 b hb).1)).rounds
end Go.Proofs.Ytbojcipcdefipaa.Pure
