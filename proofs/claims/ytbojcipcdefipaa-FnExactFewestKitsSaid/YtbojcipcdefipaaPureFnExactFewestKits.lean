/-
  The plain law behind FnExactFewestKits: what the program's function computes is what the reference computes, for every list of kits.
-/
import Derived.Test.YtbojcipcdefipaaGoodFnExactFewestKits
import Derived.Test.YtbojcipcdefipaaQKits5
namespace Go.Proofs.Ytbojcipcdefipaa.Pure
open Go.RowKit Go.Proofs.YtbojcipcdefipaaW.PrintWords Go.Proofs.Ytbojcipcdefipaa.XKits
theorem FnExactFewestKits : laws_FnExactFewestKits.Pure := by
  intro l0 l1 h0 h1
  have h : l0.length ≤ maxLen ∧ _ := h0
  exact (few_law l0 l1 h.1 (fun b hb => (h.2 b hb).1)).rounds
end Go.Proofs.Ytbojcipcdefipaa.Pure
