/- What the delta laws share: the plain law. -/
import Derived.Test.YtgbodlghggkmoaaDoorDpA
namespace Go.Proofs.YtgbodlghggkmoaaDoor.G
set_option linter.unusedVariables false
set_option linter.unusedSimpArgs false
open Go Go.RowKit Go.Proofs.YtgbodlghggkmoaaDoorW.PrintWords Go.Proofs.YtgbodlghggkmoaaDoorW.PrintLast Go.Proofs.YtgbodlghggkmoaaDoorW.PrintMore Go.Proofs.YtgbodlghggkmoaaDoor.Or
theorem add_f {n m : Nat} {a b : List Dlt} (ha : Sml n a) (hb : Sml m b) (hn : n ≤ 1000000) (hm : m ≤ 1000000) : delta_Add.f a b = some (consD (a ++ b)) :=
  if_pos ⟨ha.ok hn, hb.ok hm, by have := ha.len; have := hb.len; omega⟩
theorem upto_f {n : Nat} {a : List Dlt} (ha : Sml n a) (hn : n ≤ 1000000) (t : Int) : delta_Upto.f a t = some (consD (a.filter (fun x => !decide (x.f0 > t)))) := if_pos (ha.ok hn)
theorem after_f {n : Nat} {a : List Dlt} (ha : Sml n a) (hn : n ≤ 1000000) (t : Int) : delta_After.f a t = some (consD (a.filter (fun x => !decide (x.f0 ≤ t)))) := if_pos (ha.ok hn)
theorem cons_f {n : Nat} {a : List Dlt} (ha : Sml n a) (hn : n ≤ 1000000) : delta_Consolidate.f a = some (consD a) := if_pos (ha.ok hn)
def rowS : List Val := [⟨0, 7, ⟨#[]⟩⟩]
theorem smlS (n : Int) (hn : wrap64 n = n) : Sml 1 [(⟨3, rowS, n⟩ : Dlt)] := ⟨by simp, fun x hx => by rw [List.mem_singleton.1 hx]; simp [rowS], fun x hx => by rw [List.mem_singleton.1 hx]; exact hn⟩
theorem canonS (n : Int) (h0 : n ≠ 0) (hn : wrap64 n = n) : Canon kyD numD cK [(⟨3, rowS, n⟩ : Dlt)] :=
  ⟨List.pairwise_singleton _ _, fun x hx => by rw [List.mem_singleton.1 hx]; exact h0, fun x hx => by rw [List.mem_singleton.1 hx]; exact hn⟩
theorem wr1 : wrap64 1 = 1 := by unfold wrap64; omega
theorem wr2 : wrap64 2 = 2 := by unfold wrap64; omega
theorem wrm : wrap64 (-1) = -1 := by unfold wrap64; omega
theorem small_f : Ev (fun k => erratalaw28_small.f k) true := by
  have s1 := smlS 1 wr1
  have sm := smlS (-1) wrm
  have e1 : consD ([(⟨3, rowS, 1⟩ : Dlt)] ++ [⟨3, rowS, 1⟩]) = [⟨3, rowS, 2⟩] := by
    refine (eq_cons GD (s1.app s1).rg (canonS 2 (by decide) wr2) (fun k => ?_)).symm
    simp only [tot, List.cons_append, List.nil_append, kyD, numD]
    split <;> rfl
  have e2 : consD ([(⟨3, rowS, 1⟩ : Dlt)] ++ [⟨3, rowS, -1⟩]) = [] := by
    refine (eq_cons GD (s1.app sm).rg ⟨List.Pairwise.nil, fun x hx => (by cases hx), fun x hx => (by cases hx)⟩ (fun k => ?_)).symm
    simp only [tot, List.cons_append, List.nil_append, kyD, numD]
    split <;> rfl
  have e3 : consD ([] : List Dlt) = [] := (eq_cons GD (fun x hx => by cases hx) ⟨List.Pairwise.nil, fun x hx => (by cases hx), fun x hx => (by cases hx)⟩ (fun k => rfl)).symm
  have e4 : consD [(⟨3, rowS, 1⟩ : Dlt)] = [⟨3, rowS, 1⟩] := (eq_cons GD s1.rg (canonS 1 (by decide) wr1) (fun k => rfl)).symm
  have f1 : delta_Add.f [(⟨3, rowS, 1⟩ : Dlt)] [⟨3, rowS, 1⟩] = some [⟨3, rowS, 2⟩] := by rw [add_f s1 s1 (by decide) (by decide), e1]
  have f2 : delta_Add.f [(⟨3, rowS, 1⟩ : Dlt)] [⟨3, rowS, -1⟩] = some [] := by rw [add_f s1 sm (by decide) (by decide), e2]
  have f3 : delta_Upto.f [(⟨3, rowS, 1⟩ : Dlt)] 2 = some [] := by rw [upto_f s1 (by decide)]; exact congrArg some e3
  have f4 : delta_After.f [(⟨3, rowS, 1⟩ : Dlt)] 2 = some [⟨3, rowS, 1⟩] := by rw [after_f s1 (by decide)]; exact congrArg some e4
  obtain ⟨n1, h1⟩ := (find_f [(⟨3, rowS, 2⟩ : Dlt)] 3 rowS (by simp)).get
  have v1 : wrap64 (totD (3, rowS) [(⟨3, rowS, 2⟩ : Dlt)]) = 2 := by
    simp only [totD, tot, kyD, numD]
    rw [if_pos (GD.ord.self (3, rowS))]; exact wr2
  rw [v1] at h1
  obtain ⟨n2, h2⟩ := (refEqual_same [(⟨3, rowS, 1⟩ : Dlt)] [⟨3, rowS, 1⟩] (s1.wide (by decide)) rfl).get
  refine Ev.of (n1 + n2) fun k hk => ?_
  have h1 := h1 k (by omega)
  have h2 := h2 k (by omega)
  show erratalaw28_small.f k = some true
  unfold erratalaw28_small.f
  change ((some [(⟨3, rowS, 1⟩ : Dlt)]).bind _) = _
  simp only [rowS] at f1 f2 f3 f4 h1 h2 ⊢
  simp only [Option.bind_some, f1, List.length_singleton, h1, f2, f3, f4, h2, delta_Bytes.f, if_true, List.length_nil]
  rfl
end Go.Proofs.YtgbodlghggkmoaaDoor.G
