/- Short forms for the printed walks: steps whose last argument is found by a fixed tactic. -/
import Derived.Test.YtgbodlghggkmoaaDoorWMore
import Derived.Test.YtgbodlghggkmoaaDoorWShare
import Derived.Test.YtgbodlghggkmoaaDoorWNEv
namespace Go.Proofs.YtgbodlghggkmoaaDoor.Cmp
open Go Go.RowKit Go.Proofs.YtgbodlghggkmoaaDoorW.PrintWords Go.Proofs.YtgbodlghggkmoaaDoorW.PrintLast
section
variable {α : Type} {d : Kd α} {e base n : Nat} {ok : Nat → Prop} {w w1 W : World} {A : Option Addr} {v : Value} {xs : List α} {B : Nat}
theorem vb (hb : Below w.heap.size w w1) (h : Kd.V d e W base ok v xs) (hw : Kd.V d e W base ok v xs → Kd.V d e w base ok v xs := by (intro h; (with_reducible repeat (first | apply Kd.V_alloc | apply Kd.V_drewN | apply Kd.V_drew)); exact h)) : Kd.V d e w1 base ok v xs := Kd.V_below (hw h) hb
theorem nb (hb : Below w.heap.size w w1) (h : Kd.N d e W base ok v xs) (hw : Kd.N d e W base ok v xs → Kd.N d e w base ok v xs := by (intro h; (with_reducible repeat (first | apply Kd.N_alloc | apply Kd.N_drewN | apply Kd.N_drew)); exact h)) : Kd.N d e w1 base ok v xs := Kd.N_below (hw h) hb
theorem bq {w0 : World} (h : Below B w0 W) (hw : Below B w0 W → Below B w0 w := by (intro h; repeat (first | (with_reducible first | exact h | apply below_alloc | apply pw_below_drewN | apply below_drew1) | exact h))) : Below B w0 w := hw h
theorem cb (h : Kd.C d W A n xs) (hw : Kd.C d W A n xs → Kd.C d w A n xs := by (intro h; repeat (first | exact h | (with_reducible refine Kd.C_alloc ?_ _) | (with_reducible refine Kd.C_drewN ?_ _) | (with_reducible refine Kd.C_drew ?_)))) : Kd.C d w A n xs := hw h
theorem au {a b : Array Value} (h : a = b := by ((try simp only [List.map_toArray, List.map_cons, List.map_nil]); first | done | rfl | (simp only [List.length_drop, List.length_take]; rfl))) : a = b := h
end
end Go.Proofs.YtgbodlghggkmoaaDoor.Cmp
