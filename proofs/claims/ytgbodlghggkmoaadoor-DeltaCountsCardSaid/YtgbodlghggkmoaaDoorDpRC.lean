/- DeltaCounts: the walk and the plain law, joined. -/
import Derived.Test.YtgbodlghggkmoaaDoorDpC
import Derived.Test.YtgbodlghggkmoaaDoorDpO
namespace Go.Proofs.YtgbodlghggkmoaaDoor.C
set_option linter.unusedVariables false
open Go Go.RowKit Go.Proofs.YtgbodlghggkmoaaDoorW.PrintWords Go.Proofs.YtgbodlghggkmoaaDoorW.PrintLast Go.Proofs.YtgbodlghggkmoaaDoorW.PrintMore Go.Proofs.YtgbodlghggkmoaaDoor.Or
theorem ReadsD.wide {w : World} {A : Option Addr} {c : Nat} {l : List Dlt} (h : ReadsD w A c l) : Wide l := ⟨h.at_.2.1, fun x hx => (h.good x hx).len⟩
theorem ReadsD.rg {w : World} {A : Option Addr} {c : Nat} {l : List Dlt} (h : ReadsD w A c l) : RgD l := fun x hx => (h.good x hx).w2
/-- What came in lies in blocks that stand. -/
theorem ReadsD.V {w : World} {A : Option Addr} {c : Nat} {l : List Dlt} (h : ReadsD w A c l) : Kd.V k28 28 w w.heap.size (fun _ => True) (.slice A l.length c) l := by
  refine ⟨A, c, rfl, h.cap, fun W hW => ?_⟩
  rcases Nat.lt_or_ge W.heap.size w.heap.size with hs | hs
  · have := hW W.heap.size trivial hs
    rw [Array.getElem?_eq_none (Nat.le_refl _), Array.getElem?_eq_getElem hs] at this
    cases this
  · have hb : Below w.heap.size w { W with os := w.os, tape := w.tape, output := w.output } := ⟨rfl, rfl, rfl, hs, fun k hk => hW k trivial hk⟩
    have hc := Kd.C_below h.at_ hb
    exact hc
theorem countsWalk (A0 : Option Addr) (c0 : Nat) (l0 : List Dlt) (a1 : Int) (w : World) (h0 : ReadsD w A0 c0 l0) :
    Calls Tryd.prog 4 #[.slice A0 l0.length c0, .int .i64 a1] w fun e w' => e = .returned (.bool true) ∧ Below w.heap.size w w' := by
  obtain ⟨n, h⟩ := counts_f l0 a1 h0.wide h0.rg
  exact erratalaw28_DeltaCounts.calls n (fun _ => True) A0 c0 l0 a1 true w h0.V (h n (Nat.le_refl _))
end Go.Proofs.YtgbodlghggkmoaaDoor.C
