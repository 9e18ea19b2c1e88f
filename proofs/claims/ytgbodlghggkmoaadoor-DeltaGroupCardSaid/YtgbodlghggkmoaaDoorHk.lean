/- Small words for walks. -/
import Derived.Test.YtgbodlghggkmoaaDoorWMore
namespace Go.Proofs.YtgbodlghggkmoaaDoor.Hk
open Go Go.RowKit Go.Proofs.YtgbodlghggkmoaaDoorW.PrintWords
theorem ret_i {a b : Int} (h : a = b) : Ending.returned (.int .i64 a) = .returned (.int .i64 b) := by rw [h]
theorem ret_b {a b : Bool} (h : a = b) : Ending.returned (.bool a) = .returned (.bool b) := by rw [h]
theorem ret_s {a b : ByteArray} (h : a = b) : Ending.returned (.string a) = .returned (.string b) := by rw [h]
theorem ret_v {a b : Value} (h : a = b) : Ending.returned a = .returned b := by rw [h]
end Go.Proofs.YtgbodlghggkmoaaDoor.Hk
