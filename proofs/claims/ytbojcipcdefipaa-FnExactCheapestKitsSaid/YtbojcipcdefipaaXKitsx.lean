/- Written by xprint.py, a program of this session, out of the translation: what Go functions compute, as Lean functions, proved over the program. -/
import Derived.Test.YtbojcipcdefipaaXKitsx0
import Derived.Test.YtbojcipcdefipaaXKitsx1
import Derived.Test.YtbojcipcdefipaaXKitsx2
import Derived.Test.YtbojcipcdefipaaXKitsx3
import Derived.Test.YtbojcipcdefipaaXKitsx4
import Derived.Test.YtbojcipcdefipaaXKitsx5
import Derived.Test.YtbojcipcdefipaaXKitsx6
import Derived.Test.YtbojcipcdefipaaXKitsx7
import Derived.Test.YtbojcipcdefipaaXKitsx8
namespace Go.Proofs.Ytbojcipcdefipaa.XKits
open Go.RowKit Go.Proofs.YtbojcipcdefipaaW.PrintWords Go.Proofs.YtbojcipcdefipaaW.PrintLast Go.Proofs.YtbojcipcdefipaaW.PrintMore
attribute [local go_sem] max2_int min2_int max_two min_two max_three min_three max_four min_four   -- for this text's walks alone
set_option linter.unusedVariables false
set_option linter.unusedSimpArgs false

end Go.Proofs.Ytbojcipcdefipaa.XKits
