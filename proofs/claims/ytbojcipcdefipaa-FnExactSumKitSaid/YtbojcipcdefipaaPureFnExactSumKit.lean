/-
  The plain law behind FnExactSumKit: what the program's function computes is what the reference computes, for every list of boards.
-/
import Derived.Test.YtbojcipcdefipaaGoodFnExactSumKit
import Derived.Test.YtbojcipcdefipaaQFnExactSumKit5
namespace Go.Proofs.Ytbojcipcdefipaa.Pure
open Go.RowKit Go.Proofs.YtbojcipcdefipaaW.PrintWords Go.Proofs.Ytbojcipcdefipaa.XFnExactSumKit
theorem FnExactSumKit : laws_FnExactSumKit.Pure := by
  intro l hg
  have h : l.length ≤ maxLen ∧ _ := hg
  exact (law_ev l h.1 (fun b hb => (h.2 b hb).2.2.1)).rounds
end Go.Proofs.Ytbojcipcdefipaa.Pure
