/-
  What this law's argument reads as: its kinds, and the numbers' bounds.
-/
import Derived.Test.YtbojcipcdefipaaXKitsx8
import Derived.Test.YtbojcipcdefipaaWOpens
namespace Go.Proofs.Ytbojcipcdefipaa.XKits
open Go.RowKit Go.Proofs.YtbojcipcdefipaaW Go.Proofs.YtbojcipcdefipaaW.PrintWords Go.Proofs.YtbojcipcdefipaaW.PrintLast Go.Proofs.YtbojcipcdefipaaW.PrintMore
set_option linter.unusedVariables false
def laws_FnExactCheapestKits.Pure : Prop := ∀ (l0 : List (List (Int))) (l1 : List (Int)) (l2 : List (Int)), (fun xs => xs.length ≤ maxLen ∧ ∀ y ∈ xs, (fun xs => xs.length ≤ maxLen ∧ ∀ y ∈ xs, (fun n : Int => (Lit.int .i64 n).wf = true) y) y) l0 → (fun xs => xs.length ≤ maxLen ∧ ∀ y ∈ xs, (fun n : Int => (Lit.int .i64 n).wf = true) y) l1 → (fun xs => xs.length ≤ maxLen ∧ ∀ y ∈ xs, (fun n : Int => (Lit.int .i64 n).wf = true) y) l2 → ∃ k, laws_FnExactCheapestKits.f k l0 l1 l2 = some true
end Go.Proofs.Ytbojcipcdefipaa.XKits
