/- Written for this session by a program (mprint.py). -/
import Derived.Test.YtgbodlghggkmoaaDoorG0
import Derived.Test.YtgbodlghggkmoaaDoorG1
import Derived.Test.YtgbodlghggkmoaaDoorG2
import Derived.Test.YtgbodlghggkmoaaDoorG3
import Derived.Test.YtgbodlghggkmoaaDoorG4
namespace Go.Proofs.YtgbodlghggkmoaaDoor.G
open Go.RowKit Go.Proofs.YtgbodlghggkmoaaDoorW.PrintWords Go.Proofs.YtgbodlghggkmoaaDoorW.PrintLast Go.Proofs.YtgbodlghggkmoaaDoorW.PrintMore
attribute [local go_sem] max2_int min2_int max_two min_two max_three min_three max_four min_four   -- for this text's walks alone
set_option linter.unusedVariables false
set_option linter.unusedSimpArgs false

end Go.Proofs.YtgbodlghggkmoaaDoor.G
