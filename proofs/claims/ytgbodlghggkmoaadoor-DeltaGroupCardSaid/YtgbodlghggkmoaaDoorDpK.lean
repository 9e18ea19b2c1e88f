/- delta.Consolidated, delta.Sub: what they return. -/
import Derived.Test.YtgbodlghggkmoaaDoorDpT
namespace Go.Proofs.YtgbodlghggkmoaaDoor.G
set_option linter.unusedVariables false
set_option linter.unusedSimpArgs false
open Go Go.RowKit Go.Proofs.YtgbodlghggkmoaaDoorW.PrintWords Go.Proofs.YtgbodlghggkmoaaDoorW.PrintLast Go.Proofs.YtgbodlghggkmoaaDoorW.PrintMore Go.Proofs.YtgbodlghggkmoaaDoor.Or
theorem sub_f {n m : Nat} {a b : List Dlt} (ha : Sml n a) (hb : Sml m b) (hn : n ≤ 1000000) (hm : m ≤ 1000000) : delta_Sub.f a b = some (consD (a ++ b.map (neg numD putD))) :=
  if_pos ⟨ha.ok hn, hb.ok hm, by have := ha.len; have := hb.len; omega⟩
theorem consolidated_l (l : List Dlt) (h : Canon kyD numD cK l) (hl : l.length ≤ 9223372036854775807) (d : Nat) : ∀ (i : Nat), i ≤ l.length → l.length - i = d →
    Ev (fun k => delta_Consolidated.l0 k l l (l.length : Int) i) true := by
  induction d with
  | zero =>
    intro i hi hd
    refine Ev.step (Ev.of 0 fun k _ => ?_)
    simp only [delta_Consolidated.l0]
    rw [if_neg (by omega)]
  | succ d ih =>
    intro i hi hd
    have h0 : i < l.length := by omega
    obtain ⟨n1, h1⟩ := (ih (i + 1) (by omega) (by omega)).get
    refine Ev.step (Ev.of (n1 + 5) fun k hk => ?_)
    simp only [delta_Consolidated.l0]
    rw [if_pos (by omega), if_pos (by omega), if_pos (by omega), rdD h0, if_neg (h.nz _ (List.getElem_mem h0)), wrap_nat h0 hl, h1 k (by omega)]
    by_cases hp : (i : Int) > 0
    · have e : wrap64 ((i : Int) - 1) = ((i - 1 : Nat) : Int) := by unfold wrap64; omega
      have hc := compare5 l[i - 1] l[i] (k := k) (by omega)
      rw [if_pos hp, e, if_pos (by omega), if_pos (by omega), rdD (show i - 1 < l.length by omega), hc]
      simp only [Option.bind_some]
      have := List.pairwise_iff_getElem.1 h.lt (i - 1) i (by omega) h0 (by omega)
      rw [if_neg (by show ¬ cK _ _ ≥ 0; omega)]
    · rw [if_neg hp]
theorem consolidated_f (l : List Dlt) (h : Canon kyD numD cK l) (hl : l.length ≤ 9223372036854775807) : Ev (fun k => delta_Consolidated.f k l) true := by
  exact (consolidated_l l h hl l.length 0 (by omega) (by omega)).congr fun k => rfl
end Go.Proofs.YtgbodlghggkmoaaDoor.G
