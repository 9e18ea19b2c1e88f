/- Imports of the given texts' walks. -/
import Derived.Lib.QuietBelow
import Derived.Deep.DeepCutAuto
import Derived.Deep.CutBlock
import Derived.Test.YtgbodlghggkmoaaDoorSrtF
