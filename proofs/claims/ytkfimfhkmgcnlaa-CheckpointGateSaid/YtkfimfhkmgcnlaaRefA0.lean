/- The reference's Arrive. -/
import Derived.Test.YtkfimfhkmgcnlaaRefG
import Derived.Deep.LoopGhost
namespace Go.Proofs.Ytkfimfhkmgcnlaa.RefG
set_option linter.unusedVariables false
set_option linter.unusedSectionVars false
set_option linter.unusedSimpArgs false
open Go Go.RowKit Go.Proofs.Ytkfimfhkmgcnlaa.B Go.Proofs.Ytkfimfhkmgcnlaa.Gate

def BarPostR (w : World) (g b n : Nat) (num : Int) (L' : List Int) (mn kind : Int) (e : Ending) (w' : World) : Prop :=
  ∃ b', e = .returned (.int .i64 (barA n num L' kind)) ∧ RefAt w' g b' n (barN n L' mn) kind (barL n L') ∧ Chg (fun k => k = g ∨ k = b) w w' ∧ (b' = b ∨ w.heap.size ≤ b')
def ArrPostR (w : World) (g b n : Nat) (num kind0 : Int) (L : List Int) (i mk mn kind : Int) (e : Ending) (w' : World) : Prop :=
  (arrC n num kind0 L i mk mn kind ≠ 5 ∧ e = .returned (.int .i64 (arrC n num kind0 L i mk mn kind)) ∧ RefAt w' g b n num kind0 L ∧ Chg (fun k => k = g ∨ k = b) w w') ∨
  (arrC n num kind0 L i mk mn kind = 5 ∧ BarPostR w g b n num (addL L i) mn kind e w')

theorem RefAt.bar {w : World} {g b n : Nat} {num kind : Int} {L : List Int} (h : RefAt w g b n num kind L) (i : Nat) (hi : i < n) (mn k : Int) :
    RefAt (((w.setCell ⟨g, 1, none⟩ (.int .i64 mn)).setCell ⟨g, 2, none⟩ (.int .i64 k)).setCell ⟨b, i, none⟩ (.bool true)) g b n mn k (addL L i) ∧
    Chg (fun k => k = g ∨ k = b) w (((w.setCell ⟨g, 1, none⟩ (.int .i64 mn)).setCell ⟨g, 2, none⟩ (.int .i64 k)).setCell ⟨b, i, none⟩ (.bool true)) := by
  have hne := h.ne
  have c1 : Chg (fun k => k = g) w ((w.setCell ⟨g, 1, none⟩ (.int .i64 mn)).setCell ⟨g, 2, none⟩ (.int .i64 k)) := ((Chg.refl (fun k => k = g) w).setCell (p := ⟨g, 1, none⟩) (.inl rfl) _).setCell (p := ⟨g, 2, none⟩) (.inl rfl) _
  refine ⟨⟨?_, ?_⟩, ((Chg.refl _ w |>.setCell (p := ⟨g, 1, none⟩) (.inl (.inl rfl)) _).setCell (p := ⟨g, 2, none⟩) (.inl (.inl rfl)) _).setCell (p := ⟨b, i, none⟩) (.inl (.inr rfl)) _⟩
  · have := blk_far (blk_set (blk_set h.1 1 (.int .i64 mn)) 2 (.int .i64 k)) (p := ⟨b, i, none⟩) hne (.bool true)
    simpa using this
  · have := (h.2.kept c1 (fun e => hne e.symm)).set i true
    rwa [cm_set n L i hi] at this
end Go.Proofs.Ytkfimfhkmgcnlaa.RefG
