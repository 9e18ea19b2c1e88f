/- DeltaGroup: the plain law. -/
import Derived.Test.YtgbodlghggkmoaaDoorDpK
namespace Go.Proofs.YtgbodlghggkmoaaDoor.G
set_option linter.unusedVariables false
set_option linter.unusedSimpArgs false
open Go Go.RowKit Go.Proofs.YtgbodlghggkmoaaDoorW.PrintWords Go.Proofs.YtgbodlghggkmoaaDoorW.PrintLast Go.Proofs.YtgbodlghggkmoaaDoorW.PrintMore Go.Proofs.YtgbodlghggkmoaaDoor.Or
theorem count_l (l : List Dlt) (hl : l.length ≤ 9223372036854775807) (d : Nat) : ∀ (i : Nat) (n : Int), i ≤ l.length → l.length - i = d → wrap64 n = n →
    Ev (fun k => delta_Count.l0 k n l (l.length : Int) i) (wrap64 (n + cnt numD (l.drop i))) := by
  induction d with
  | zero =>
    intro i n hi hd hn
    refine Ev.step (Ev.of 0 fun k _ => ?_)
    simp only [delta_Count.l0]
    rw [if_neg (by omega), List.drop_eq_nil_of_le (by omega)]
    simp only [cnt, Int.add_zero, hn]
  | succ d ih =>
    intro i n hi hd hn
    have h0 : i < l.length := by omega
    obtain ⟨n1, h1⟩ := (ih (i + 1) (wrap64 (n + l[i].f2)) (by omega) (by omega) (wrap64_idem _)).get
    refine Ev.step (Ev.of n1 fun k hk => ?_)
    simp only [delta_Count.l0]
    rw [if_pos (by omega), if_pos (by omega), if_pos (by omega), rdD h0, wrap_nat h0 hl, h1 k (by omega), List.drop_eq_getElem_cons h0]
    simp only [cnt, numD]
    congr 1; unfold wrap64; omega
theorem count_f (l : List Dlt) (hl : l.length ≤ 9223372036854775807) : Ev (fun k => delta_Count.f k l) (wrap64 (cnt numD l)) := by
  have := count_l l hl l.length 0 0 (by omega) (by omega) (by unfold wrap64; omega)
  rw [Int.zero_add] at this
  exact this.congr fun k => rfl
theorem eqL_refl : ∀ l : List Dlt, eqL l l = true
  | [] => rfl
  | x :: l => by
    have h : cmpD x x = 0 := GD.ord.self _
    simp [eqL, eqD, h, eqL_refl l]
theorem group_end (a b : List Dlt) (ha : Sml 100 a) (hb : Sml 100 b) : Ev (fun k => (delta_Count.f k (consD (a ++ b))).bind fun t277 => ((delta_Count.f k a).bind fun t278 => ((delta_Count.f k b).bind fun t279 => (if t277 = (wrap64 (t278 + t279)) then ((delta_Consolidate.f a).bind fun t280 => ((delta_Same.f t280 a).bind fun t283 => (if t283 = true then ((delta_Consolidate.f (consD (a ++ b))).bind fun t284 => ((errataref28_Equal.f k t284 (consD (a ++ b))).bind fun t287 => (some t287))) else (some false)))) else (some false))))) true := by
  have sab := (ha.app hb).cons
  obtain ⟨n1, h1⟩ := (count_f (consD (a ++ b)) (by have := sab.len; omega)).get
  obtain ⟨n2, h2⟩ := (count_f a (by have := ha.len; omega)).get
  obtain ⟨n3, h3⟩ := (count_f b (by have := hb.len; omega)).get
  obtain ⟨n4, h4⟩ := (refEqual_same (consD (consD (a ++ b))) (consD (a ++ b)) (sab.cons.wide (by decide)) (law_idem GD (ha.app hb).rg)).get
  refine Ev.of (n1 + n2 + n3 + n4) fun k hk => ?_
  show (delta_Count.f k (consD (a ++ b))).bind _ = _
  rw [h1 k (by omega), Option.bind_some, h2 k (by omega), Option.bind_some, h3 k (by omega), Option.bind_some, if_pos (law_cnt GD a b), cons_f ha (by decide), Option.bind_some]
  have hs : delta_Same.f (consD a) a = some true := by
    unfold delta_Same.f
    rw [if_pos ⟨ha.cons.ok (by decide), ha.ok (by decide)⟩, show consD (consD a) = consD a from law_idem GD ha.rg, eqL_refl]
  rw [hs, Option.bind_some, if_pos rfl, cons_f sab (by decide), Option.bind_some, h4 k (by omega)]; rfl
theorem group_l0 (a b : List Dlt) (ha : Sml 100 a) (hb : Sml 100 b) (d : Nat) : ∀ i : Nat, i ≤ a.length → a.length - i = d → Ev (fun k => erratalaw28_DeltaGroup.l0 k a b true (consD (a ++ b)) true i) true := by
  induction d with
  | zero =>
    intro i hi hd
    obtain ⟨n, hn⟩ := (group_end a b ha hb).get
    refine Ev.step (Ev.of n fun k hk => ?_)
    simp only [erratalaw28_DeltaGroup.l0]
    rw [if_neg (by omega), if_pos trivial, if_pos trivial]
    exact hn k hk
  | succ d ih =>
    intro i hi hd
    have h0 : i < a.length := by omega
    have sab := (ha.app hb).cons
    obtain ⟨n, h⟩ := (ih (i + 1) (by omega) (by omega)).get
    obtain ⟨n1, h1⟩ := (find_f (consD (a ++ b)) a[i].f0 a[i].f1 (by have := sab.len; omega)).get
    obtain ⟨n2, h2⟩ := (find_f a a[i].f0 a[i].f1 (by have := ha.len; omega)).get
    obtain ⟨n3, h3⟩ := (find_f b a[i].f0 a[i].f1 (by have := hb.len; omega)).get
    refine Ev.step (Ev.of (n + n1 + n2 + n3) fun k hk => ?_)
    simp only [erratalaw28_DeltaGroup.l0]
    rw [if_pos (by omega), if_pos (by omega), rdD h0, h1 k (by omega), Option.bind_some, h2 k (by omega), Option.bind_some, h3 k (by omega), Option.bind_some, if_pos (law_find GD a b _), wrap_nat h0 (by have := ha.len; omega), h k (by omega)]
theorem group_j0 (a b c : List Dlt) (ha : Sml 100 a) (hb : Sml 100 b) (hc : Sml 100 c) : Ev (fun k => erratalaw28_DeltaGroup.j0 k a b c true false) true := by
  have sab := (ha.app hb).cons
  have sba := (hb.app ha).cons
  have sbc := (hb.app hc).cons
  obtain ⟨n0, h0⟩ := (group_l0 a b ha hb _ 0 (Nat.zero_le _) rfl).get
  obtain ⟨n1, h1⟩ := (consolidated_f _ (ha.app hb).canon (by have := sab.len; omega)).get
  obtain ⟨n2, h2⟩ := (refEqual_same (consD (a ++ b)) (consD (b ++ a)) (sab.wide (by decide)) (law_comm GD ha.rg hb.rg)).get
  obtain ⟨n3, h3⟩ := (refEqual_same (consD (consD (a ++ b) ++ c)) (consD (a ++ consD (b ++ c))) ((sab.app hc).cons.wide (by decide)) (law_assoc GD ha.rg hb.rg hc.rg)).get
  obtain ⟨n4, h4⟩ := (refEqual_same (consD (consD (a ++ b) ++ b.map (neg numD putD))) (consD a) ((sab.app hb.neg).cons.wide (by decide)) (law_add_sub GD ha.rg hb.rg)).get
  have e5 : consD (a ++ a.map (neg numD putD)) = [] := law_sub_self GD ha.rg
  refine Ev.step (Ev.step (Ev.of (n0 + n1 + n2 + n3 + n4) fun k hk => ?_))
  have g1 := h1 (k + 1) (by omega)
  have g2 := h2 (k + 1) (by omega)
  have g3 := h3 (k + 1) (by omega)
  have g4 := h4 (k + 1) (by omega)
  simp only [erratalaw28_DeltaGroup.j0, Bool.false_eq_true, if_false]
  rw [add_f ha hb (by decide) (by decide), Option.bind_some, g1, Option.bind_some, if_pos rfl]
  rw [add_f hb ha (by decide) (by decide), Option.bind_some, g2, Option.bind_some, if_pos rfl]
  rw [add_f sab hc (by decide) (by decide), Option.bind_some, add_f hb hc (by decide) (by decide), Option.bind_some, add_f ha sbc (by decide) (by decide), Option.bind_some, g3, Option.bind_some, if_pos rfl]
  rw [sub_f sab hb (by decide) (by decide), Option.bind_some, cons_f ha (by decide), Option.bind_some, g4, Option.bind_some, if_pos rfl]
  rw [sub_f ha ha (by decide) (by decide), Option.bind_some, e5]
  simp only [erratalaw28_DeltaGroup.j1]
  exact h0 k (by omega)
theorem group_f (a b c : List Dlt) (ha : Wide a) (hb : Wide b) (hc : Wide c) (ra : RgD a) (rb : RgD b) (rc : RgD c) : Ev (fun k => erratalaw28_DeltaGroup.f k a b c) true := by
  obtain ⟨n0, h0⟩ := (small_f).get
  obtain ⟨r1, En1, q1⟩ := few_f a 100 ha
  obtain ⟨n1, h1⟩ := En1.get
  obtain ⟨r2, En2, q2⟩ := few_f b 100 hb
  obtain ⟨n2, h2⟩ := En2.get
  obtain ⟨r3, En3, q3⟩ := few_f c 100 hc
  obtain ⟨n3, h3⟩ := En3.get
  have main : ∀ n4, (r1 = true → r2 = true → r3 = true → ∀ k, n4 ≤ k → erratalaw28_DeltaGroup.j0 k a b c true false = some true) → Ev (fun k => erratalaw28_DeltaGroup.f k a b c) true := by
    intro n4 h4
    refine Ev.of (n0 + n1 + n2 + n3 + n4 + 1) fun k hk => ?_
    obtain ⟨m, rfl⟩ : ∃ m, k = m + 1 := ⟨k - 1, by omega⟩
    show erratalaw28_DeltaGroup.f (m + 1) a b c = _
    unfold erratalaw28_DeltaGroup.f
    rw [h0 _ (by omega), Option.bind_some, h1 _ (by omega), Option.bind_some]
    cases r1 with
    | false => rfl
    | true =>
      rw [if_pos rfl, h2 _ (by omega), Option.bind_some]
      cases r2 with
      | false => rfl
      | true =>
        rw [if_pos rfl, h3 _ (by omega), Option.bind_some]
        cases r3 with
        | false => rfl
        | true => exact h4 rfl rfl rfl _ (by omega)
  by_cases hq : r1 = true ∧ r2 = true ∧ r3 = true
  · obtain ⟨rfl, rfl, rfl⟩ := hq
    obtain ⟨n4, h4⟩ := (group_j0 a b c ((q1 rfl).sml ra) ((q2 rfl).sml rb) ((q3 rfl).sml rc)).get
    exact main n4 (fun _ _ _ k hk => h4 k hk)
  · exact main 0 (fun e1 e2 e3 => absurd ⟨e1, e2, e3⟩ hq)
end Go.Proofs.YtgbodlghggkmoaaDoor.G
