/-
  What this law's argument reads as: its kinds, and the numbers' bounds.
-/
import Derived.Test.YtbojcipcdefipaaXFnExactSharedKitx7
import Derived.Test.YtbojcipcdefipaaWOpens
namespace Go.Proofs.Ytbojcipcdefipaa.XFnExactSharedKit
open Go.RowKit Go.Proofs.YtbojcipcdefipaaW Go.Proofs.YtbojcipcdefipaaW.PrintWords Go.Proofs.YtbojcipcdefipaaW.PrintLast Go.Proofs.YtbojcipcdefipaaW.PrintMore
set_option linter.unusedVariables false
def good108 (y : S108) : Prop := (fun n : Int => (Lit.int .i64 n).wf = true) y.f0 ∧ (fun n : Int => (Lit.int .i64 n).wf = true) y.f1
def good67 (y : S67) : Prop := (fun n : Int => (Lit.int .i64 n).wf = true) y.f0 ∧ (fun n : Int => (Lit.int .i64 n).wf = true) y.f1 ∧ (fun xs => xs.length ≤ maxLen ∧ ∀ y ∈ xs, good108 y) y.f2
theorem opens108 : Opn.Opens Try.prog 108 k108 good108 := Opn.opens_struct (mk := fun x => ⟨x.1, x.2⟩) Try.underlying108 (by kernel_rfl) (fun _ => rfl) (Opn.opensF_cons rfl (by kernel_rfl) (Opn.opens_int Try.underlying3) (Opn.opensF_one rfl (by kernel_rfl) (Opn.opens_int Try.underlying3)))
theorem opens67 : Opn.Opens Try.prog 67 k67 good67 := Opn.opens_struct (mk := fun x => ⟨x.1, x.2.1, x.2.2⟩) Try.underlying67 (by kernel_rfl) (fun _ => rfl) (Opn.opensF_cons rfl (by kernel_rfl) (Opn.opens_int Try.underlying3) (Opn.opensF_cons rfl (by kernel_rfl) (Opn.opens_int Try.underlying3) (Opn.opensF_one rfl (by kernel_rfl) (Opn.opens_slice Try.underlying65 (by kernel_rfl) opens108))))
def laws_FnExactSharedKit.Pure : Prop := ∀ (l0 : List (S67)), (fun xs => xs.length ≤ maxLen ∧ ∀ y ∈ xs, good67 y) l0 → ∃ k, laws_FnExactSharedKit.f k l0 = some true
end Go.Proofs.Ytbojcipcdefipaa.XFnExactSharedKit
