/- DeltaGroup: the walk and the plain law, joined. -/
import Derived.Test.YtgbodlghggkmoaaDoorDpG
import Derived.Test.YtgbodlghggkmoaaDoorDpO
namespace Go.Proofs.YtgbodlghggkmoaaDoor.G
set_option linter.unusedVariables false
open Go Go.RowKit Go.Proofs.YtgbodlghggkmoaaDoorW.PrintWords Go.Proofs.YtgbodlghggkmoaaDoorW.PrintLast Go.Proofs.YtgbodlghggkmoaaDoorW.PrintMore Go.Proofs.YtgbodlghggkmoaaDoor.Or
theorem ReadsD.wide {w : World} {A : Option Addr} {c : Nat} {l : List Dlt} (h : ReadsD w A c l) : Wide l := ⟨h.at_.2.1, fun x hx => (h.good x hx).len⟩
theorem ReadsD.rg {w : World} {A : Option Addr} {c : Nat} {l : List Dlt} (h : ReadsD w A c l) : RgD l := fun x hx => (h.good x hx).w2
theorem groupWalk (A0 : Option Addr) (c0 : Nat) (l0 : List Dlt) (A1 : Option Addr) (c1 : Nat) (l1 : List Dlt) (A2 : Option Addr) (c2 : Nat) (l2 : List Dlt) (w : World) (h0 : ReadsD w A0 c0 l0) (h1 : ReadsD w A1 c1 l1) (h2 : ReadsD w A2 c2 l2) :
    Calls Tryd.prog 5 #[.slice A0 l0.length c0, .slice A1 l1.length c1, .slice A2 l2.length c2] w fun e w' => e = .returned (.bool true) ∧ Below w.heap.size w w' := by
  obtain ⟨n, h⟩ := group_f l0 l1 l2 h0.wide h1.wide h2.wide h0.rg h1.rg h2.rg
  exact erratalaw28_DeltaGroup.calls n A0 c0 l0 A1 c1 l1 A2 c2 l2 true w h0.at_ h0.cap h1.at_ h1.cap h2.at_ h2.cap (h n (Nat.le_refl _))
end Go.Proofs.YtgbodlghggkmoaaDoor.G
