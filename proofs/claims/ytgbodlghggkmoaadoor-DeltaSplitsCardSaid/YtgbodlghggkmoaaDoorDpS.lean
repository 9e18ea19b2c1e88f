/- DeltaSplits and what it shares: the plain law. -/
import Derived.Test.YtgbodlghggkmoaaDoorDpA
namespace Go.Proofs.YtgbodlghggkmoaaDoor.F
set_option linter.unusedVariables false
set_option linter.unusedSimpArgs false
open Go Go.RowKit Go.Proofs.YtgbodlghggkmoaaDoorW.PrintWords Go.Proofs.YtgbodlghggkmoaaDoorW.PrintLast Go.Proofs.YtgbodlghggkmoaaDoorW.PrintMore Go.Proofs.YtgbodlghggkmoaaDoor.Or
theorem add_f {n m : Nat} {a b : List Dlt} (ha : Sml n a) (hb : Sml m b) (hn : n ≤ 1000000) (hm : m ≤ 1000000) : delta_Add.f a b = some (consD (a ++ b)) :=
  if_pos ⟨ha.ok hn, hb.ok hm, by have := ha.len; have := hb.len; omega⟩
theorem sub_f {n m : Nat} {a b : List Dlt} (ha : Sml n a) (hb : Sml m b) (hn : n ≤ 1000000) (hm : m ≤ 1000000) : delta_Sub.f a b = some (consD (a ++ b.map (neg numD putD))) :=
  if_pos ⟨ha.ok hn, hb.ok hm, by have := ha.len; have := hb.len; omega⟩
theorem upto_f {n : Nat} {a : List Dlt} (ha : Sml n a) (hn : n ≤ 1000000) (t : Int) : delta_Upto.f a t = some (consD (a.filter (fun x => !decide (x.f0 > t)))) := if_pos (ha.ok hn)
theorem after_f {n : Nat} {a : List Dlt} (ha : Sml n a) (hn : n ≤ 1000000) (t : Int) : delta_After.f a t = some (consD (a.filter (fun x => !decide (x.f0 ≤ t)))) := if_pos (ha.ok hn)
theorem cons_f {n : Nat} {a : List Dlt} (ha : Sml n a) (hn : n ≤ 1000000) : delta_Consolidate.f a = some (consD a) := if_pos (ha.ok hn)
def rowS : List Val := [⟨0, 7, ⟨#[]⟩⟩]
theorem smlS (n : Int) (hn : wrap64 n = n) : Sml 1 [(⟨3, rowS, n⟩ : Dlt)] := ⟨by simp, fun x hx => by rw [List.mem_singleton.1 hx]; simp [rowS], fun x hx => by rw [List.mem_singleton.1 hx]; exact hn⟩
theorem canonS (n : Int) (h0 : n ≠ 0) (hn : wrap64 n = n) : Canon kyD numD cK [(⟨3, rowS, n⟩ : Dlt)] :=
  ⟨List.pairwise_singleton _ _, fun x hx => by rw [List.mem_singleton.1 hx]; exact h0, fun x hx => by rw [List.mem_singleton.1 hx]; exact hn⟩
theorem wr1 : wrap64 1 = 1 := by unfold wrap64; omega
theorem wr2 : wrap64 2 = 2 := by unfold wrap64; omega
theorem wrm : wrap64 (-1) = -1 := by unfold wrap64; omega
theorem small_f : Ev (fun k => erratalaw28_small.f k) true := by
  have s1 := smlS 1 wr1
  have sm := smlS (-1) wrm
  have e1 : consD ([(⟨3, rowS, 1⟩ : Dlt)] ++ [⟨3, rowS, 1⟩]) = [⟨3, rowS, 2⟩] := by
    refine (eq_cons GD (s1.app s1).rg (canonS 2 (by decide) wr2) (fun k => ?_)).symm
    simp only [tot, List.cons_append, List.nil_append, kyD, numD]
    split <;> rfl
  have e2 : consD ([(⟨3, rowS, 1⟩ : Dlt)] ++ [⟨3, rowS, -1⟩]) = [] := by
    refine (eq_cons GD (s1.app sm).rg ⟨List.Pairwise.nil, fun x hx => (by cases hx), fun x hx => (by cases hx)⟩ (fun k => ?_)).symm
    simp only [tot, List.cons_append, List.nil_append, kyD, numD]
    split <;> rfl
  have e3 : consD ([] : List Dlt) = [] := (eq_cons GD (fun x hx => by cases hx) ⟨List.Pairwise.nil, fun x hx => (by cases hx), fun x hx => (by cases hx)⟩ (fun k => rfl)).symm
  have e4 : consD [(⟨3, rowS, 1⟩ : Dlt)] = [⟨3, rowS, 1⟩] := (eq_cons GD s1.rg (canonS 1 (by decide) wr1) (fun k => rfl)).symm
  have f1 : delta_Add.f [(⟨3, rowS, 1⟩ : Dlt)] [⟨3, rowS, 1⟩] = some [⟨3, rowS, 2⟩] := by rw [add_f s1 s1 (by decide) (by decide), e1]
  have f2 : delta_Add.f [(⟨3, rowS, 1⟩ : Dlt)] [⟨3, rowS, -1⟩] = some [] := by rw [add_f s1 sm (by decide) (by decide), e2]
  have f3 : delta_Upto.f [(⟨3, rowS, 1⟩ : Dlt)] 2 = some [] := by rw [upto_f s1 (by decide)]; exact congrArg some e3
  have f4 : delta_After.f [(⟨3, rowS, 1⟩ : Dlt)] 2 = some [⟨3, rowS, 1⟩] := by rw [after_f s1 (by decide)]; exact congrArg some e4
  obtain ⟨n1, h1⟩ := (find_f [(⟨3, rowS, 2⟩ : Dlt)] 3 rowS (by simp)).get
  have v1 : wrap64 (totD (3, rowS) [(⟨3, rowS, 2⟩ : Dlt)]) = 2 := by
    simp only [totD, tot, kyD, numD]
    rw [if_pos (GD.ord.self (3, rowS))]; exact wr2
  rw [v1] at h1
  obtain ⟨n2, h2⟩ := (refEqual_same [(⟨3, rowS, 1⟩ : Dlt)] [⟨3, rowS, 1⟩] (s1.wide (by decide)) rfl).get
  refine Ev.of (n1 + n2) fun k hk => ?_
  have h1 := h1 k (by omega)
  have h2 := h2 k (by omega)
  show erratalaw28_small.f k = some true
  unfold erratalaw28_small.f
  change ((some [(⟨3, rowS, 1⟩ : Dlt)]).bind _) = _
  simp only [rowS] at f1 f2 f3 f4 h1 h2 ⊢
  simp only [Option.bind_some, f1, List.length_singleton, h1, f2, f3, f4, h2, delta_Bytes.f, if_true, List.length_nil]
  rfl
theorem loop0 (x0 x1 : List Dlt) (t u : Int) (b : Bool) (e l : List Dlt) (r : Bool) (he : ∀ x ∈ e, ¬ x.f0 > t) (hl : e.length ≤ 9223372036854775807) (hn : Ev (fun k => erratalaw28_DeltaSplits.l1 k x0 x1 t u b e l 0) r) (d : Nat) : ∀ i : Nat, i ≤ e.length → e.length - i = d → Ev (fun k => erratalaw28_DeltaSplits.l0 k x0 x1 t u b e l i) r := by
  induction d with
  | zero =>
    intro i hi hd
    obtain ⟨n, hn⟩ := (hn).get
    refine Ev.step (Ev.of n fun k hk => ?_)
    simp only [erratalaw28_DeltaSplits.l0]
    rw [if_neg (by omega), hn k hk]
  | succ d ih =>
    intro i hi hd
    have h0 : i < e.length := by omega
    obtain ⟨n, h⟩ := (ih (i + 1) (by omega) (by omega)).get
    refine Ev.step (Ev.of n fun k hk => ?_)
    simp only [erratalaw28_DeltaSplits.l0]
    rw [if_pos (by omega), if_pos (by omega), rdD h0, if_neg (he _ (List.getElem_mem h0)), wrap_nat h0 hl, h k hk]
theorem loop1 (x0 x1 : List Dlt) (t u : Int) (b : Bool) (e l : List Dlt) (r : Bool) (he : ∀ x ∈ l, ¬ x.f0 ≤ t) (hl : l.length ≤ 9223372036854775807)
    (hn : Ev (fun k => (delta_Consolidated.f k e).bind fun t192 => (if t192 = true then ((delta_Consolidated.f k l).bind fun t193 => (if t193 = true then ((delta_Add.f e l).bind fun t194 => ((delta_Consolidate.f x0).bind fun t197 => ((errataref28_Equal.f k t194 t197).bind fun t200 => (erratalaw28_DeltaSplits.j3 k x0 x1 t u b e l t200)))) else (erratalaw28_DeltaSplits.j3 k x0 x1 t u b e l false))) else (erratalaw28_DeltaSplits.j3 k x0 x1 t u b e l false))) r) (d : Nat) : ∀ i : Nat, i ≤ l.length → l.length - i = d → Ev (fun k => erratalaw28_DeltaSplits.l1 k x0 x1 t u b e l i) r := by
  induction d with
  | zero =>
    intro i hi hd
    obtain ⟨n, hn⟩ := (hn).get
    refine Ev.step (Ev.of n fun k hk => ?_)
    simp only [erratalaw28_DeltaSplits.l1]
    rw [if_neg (by omega)]
    exact hn k hk
  | succ d ih =>
    intro i hi hd
    have h0 : i < l.length := by omega
    obtain ⟨n, h⟩ := (ih (i + 1) (by omega) (by omega)).get
    refine Ev.step (Ev.of n fun k hk => ?_)
    simp only [erratalaw28_DeltaSplits.l1]
    rw [if_pos (by omega), if_pos (by omega), rdD h0, if_neg (he _ (List.getElem_mem h0)), wrap_nat h0 hl, h k hk]
theorem time_cons {p : Int → Bool} {a : List Dlt} : ∀ x ∈ consD (a.filter (fun x => p x.f0)), p x.f0 = true := by
  intro x hx
  obtain ⟨y, hy, e⟩ := cons_mem GD hx
  have e2 : y.f0 = x.f0 := congrArg Prod.fst e
  rw [← e2]; exact (List.mem_filter.1 hy).2
theorem time_late (t : Int) (a : List Dlt) : ∀ x ∈ consD (a.filter (fun x => !decide (x.f0 ≤ t))), ¬ x.f0 ≤ t := by
  intro x hx
  have := time_cons (p := fun z => !decide (z ≤ t)) x hx
  simp only [Bool.not_eq_true', decide_eq_false_iff_not] at this; exact this
theorem time_early (t : Int) (a : List Dlt) : ∀ x ∈ consD (a.filter (fun x => !decide (x.f0 > t))), ¬ x.f0 > t := by
  intro x hx
  have := time_cons (p := fun z => !decide (z > t)) x hx
  simp only [Bool.not_eq_true', decide_eq_false_iff_not] at this; exact this
theorem splits_j3 (a b : List Dlt) (t u : Int) (ha : Sml 100 a) (hb : Sml 100 b) : Ev (fun k => erratalaw28_DeltaSplits.j3 k a b t u true (consD (a.filter (fun x => !decide (x.f0 > t)))) (consD (a.filter (fun x => !decide (x.f0 ≤ t)))) true) true := by
  have f1 := add_f ha hb (by decide) (by decide)
  have c1 := (ha.app hb).cons
  have f2 := upto_f c1 (by decide) t
  have f3 := upto_f hb (by decide) t
  have su := (ha.filter (fun x => !decide (x.f0 > t))).cons
  have sl := (ha.filter (fun x => !decide (x.f0 ≤ t))).cons
  have bu := (hb.filter (fun x => !decide (x.f0 > t))).cons
  have bl := (hb.filter (fun x => !decide (x.f0 ≤ t))).cons
  have f4 := add_f su bu (by decide) (by decide)
  have f5 := sub_f ha hb (by decide) (by decide)
  have c2 := (ha.app hb.neg).cons
  have f6 := after_f c2 (by decide) t
  have f7 := after_f hb (by decide) t
  have f8 := sub_f sl bl (by decide) (by decide)
  have f9 := upto_f su (by decide) u
  have f10 := upto_f ha (by decide) (mn t u)
  obtain ⟨n1, h1⟩ := (refEqual_same _ _ ((c1.filter (fun x => !decide (x.f0 > t))).cons.wide (by decide)) (law_filter_add GD (fun k => !decide (k.1 > t)) ha.rg hb.rg)).get
  obtain ⟨n2, h2⟩ := (refEqual_same _ _ ((c2.filter (fun x => !decide (x.f0 ≤ t))).cons.wide (by decide)) (law_filter_sub GD (fun k => !decide (k.1 ≤ t)) ha.rg hb.rg)).get
  have e3 : consD ((consD (a.filter (fun x => !decide (x.f0 > t)))).filter (fun x => !decide (x.f0 > u))) = consD (a.filter (fun x => !decide (x.f0 > mn t u))) := by
    refine (law_filter_filter GD (fun k => !decide (k.1 > t)) (fun k => !decide (k.1 > u)) ha.rg).trans ?_
    congr 1
    refine List.filter_congr fun x _ => ?_
    rw [Bool.eq_iff_iff]
    simp
    unfold mn; omega
  obtain ⟨n3, h3⟩ := (refEqual_same _ _ ((su.filter (fun x => !decide (x.f0 > u))).cons.wide (by decide)) e3).get
  refine Ev.step (Ev.of (n1 + n2 + n3) fun k hk => ?_)
  simp only [erratalaw28_DeltaSplits.j3]
  rw [f1]; simp only [Option.bind_some]
  rw [f2]; simp only [Option.bind_some]
  rw [f3]; simp only [Option.bind_some]
  rw [f4]; simp only [Option.bind_some]
  erw [h1 k (by omega)]; simp only [Option.bind_some, if_true]
  rw [f5]; simp only [Option.bind_some]
  rw [f6]; simp only [Option.bind_some]
  rw [f7]; simp only [Option.bind_some]
  rw [f8]; simp only [Option.bind_some]
  erw [h2 k (by omega)]; simp only [Option.bind_some, if_true]
  rw [f9]; simp only [Option.bind_some]
  rw [f10]; simp only [Option.bind_some]
  rw [h3 k (by omega)]; rfl
theorem splits_f (a b : List Dlt) (t u : Int) (ha : Wide a) (hb : Wide b) (ra : RgD a) (rb : RgD b) : Ev (fun k => erratalaw28_DeltaSplits.f k a b t u) true := by
  obtain ⟨n0, h0⟩ := (small_f).get
  obtain ⟨r1, En1, q1⟩ := few_f a 100 ha
  obtain ⟨n1, h1⟩ := En1.get
  obtain ⟨r2, En2, q2⟩ := few_f b 100 hb
  obtain ⟨n2, h2⟩ := En2.get
  cases r1 with
  | false =>
    refine Ev.of (n0 + n1 + 1) fun k hk => ?_
    obtain ⟨m, rfl⟩ : ∃ m, k = m + 1 := ⟨k - 1, by omega⟩
    show erratalaw28_DeltaSplits.f (m + 1) a b t u = _
    unfold erratalaw28_DeltaSplits.f
    rw [h0 _ (by omega), Option.bind_some, h1 _ (by omega)]; rfl
  | true =>
    cases r2 with
    | false =>
      refine Ev.of (n0 + n1 + n2 + 1) fun k hk => ?_
      obtain ⟨m, rfl⟩ : ∃ m, k = m + 1 := ⟨k - 1, by omega⟩
      show erratalaw28_DeltaSplits.f (m + 1) a b t u = _
      unfold erratalaw28_DeltaSplits.f
      rw [h0 _ (by omega), Option.bind_some, h1 _ (by omega), Option.bind_some, if_pos rfl, h2 _ (by omega)]; rfl
    | true =>
      have sa := (q1 rfl).sml ra (n := 100)
      have sb := (q2 rfl).sml rb (n := 100)
      have su := (sa.filter (fun x => !decide (x.f0 > t))).cons
      have sl := (sa.filter (fun x => !decide (x.f0 ≤ t))).cons
      obtain ⟨n3, h3⟩ := (splits_j3 a b t u sa sb).get
      obtain ⟨n4, h4⟩ := (consolidated_f _ (sa.filter (fun x => !decide (x.f0 > t))).canon (by have := su.len; omega)).get
      obtain ⟨n5, h5⟩ := (consolidated_f _ (sa.filter (fun x => !decide (x.f0 ≤ t))).canon (by have := sl.len; omega)).get
      have e6 : consD (consD (a.filter (fun x => !decide (x.f0 > t))) ++ consD (a.filter (fun x => !decide (x.f0 ≤ t)))) = consD a := by
        have := law_both GD (fun k => !decide (k.1 > t)) ra
        refine Eq.trans ?_ this
        congr 3
        refine List.filter_congr fun x _ => ?_
        rw [Bool.eq_iff_iff]
        simp
      obtain ⟨n6, h6⟩ := (refEqual_same _ _ ((su.app sl).cons.wide (by decide)) e6).get
      have f1 := add_f su sl (by decide) (by decide)
      have f2 := cons_f sa (by decide)
      have L1 := loop1 a b t u true (consD (a.filter (fun x => !decide (x.f0 > t)))) (consD (a.filter (fun x => !decide (x.f0 ≤ t)))) true (time_late t a) (Nat.le_trans sl.len (by omega))
        (Ev.of (n3 + n4 + n5 + n6) fun k hk => by
          rw [h4 k (by omega)]; simp only [Option.bind_some, if_true]
          rw [h5 k (by omega)]; simp only [Option.bind_some, if_true]
          rw [f1]; simp only [Option.bind_some]
          rw [f2]; simp only [Option.bind_some]
          rw [h6 k (by omega)]; simp only [Option.bind_some]
          exact h3 k (by omega)) _ 0 (Nat.zero_le _) rfl
      obtain ⟨n7, h7⟩ := (loop0 a b t u true (consD (a.filter (fun x => !decide (x.f0 > t)))) (consD (a.filter (fun x => !decide (x.f0 ≤ t)))) true (time_early t a) (Nat.le_trans su.len (by omega)) L1 _ 0 (Nat.zero_le _) rfl).get
      refine Ev.of (n0 + n1 + n2 + n7 + 1) fun k hk => ?_
      obtain ⟨m, rfl⟩ : ∃ m, k = m + 1 := ⟨k - 1, by omega⟩
      show erratalaw28_DeltaSplits.f (m + 1) a b t u = _
      unfold erratalaw28_DeltaSplits.f
      rw [h0 _ (by omega), Option.bind_some, h1 _ (by omega), Option.bind_some, if_pos rfl, h2 _ (by omega), Option.bind_some]
      simp only [erratalaw28_DeltaSplits.j0, Bool.not_true, Bool.false_eq_true, if_false]
      rw [upto_f sa (by decide), Option.bind_some, after_f sa (by decide), Option.bind_some]
      exact h7 m (by omega)
end Go.Proofs.YtgbodlghggkmoaaDoor.F
