/-
  The plain law behind FnExactSharedKit: what the program's function computes is what the reference computes, for every list of boards.
-/
import Derived.Test.YtbojcipcdefipaaGoodFnExactSharedKit
import Derived.Test.YtbojcipcdefipaaQFnExactSharedKit5
namespace Go.Proofs.Ytbojcipcdefipaa.Pure
open Go.RowKit Go.Proofs.YtbojcipcdefipaaW.PrintWords Go.Proofs.Ytbojcipcdefipaa.XFnExactSharedKit
theorem FnExactSharedKit : laws_FnExactSharedKit.Pure := by
  intro l hg
  have h : l.length ≤ maxLen ∧ _ := hg
  exact (law_ev l h.1 (fun b hb => (h.2 b hb).2.2.1)).rounds
end Go.Proofs.Ytbojcipcdefipaa.Pure
