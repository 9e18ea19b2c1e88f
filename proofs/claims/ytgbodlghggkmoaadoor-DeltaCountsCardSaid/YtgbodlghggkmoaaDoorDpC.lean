/- DeltaCounts: the plain law. -/
import Derived.Test.YtgbodlghggkmoaaDoorDpT
import Derived.Lib.SlicesCompact
namespace Go.Proofs.YtgbodlghggkmoaaDoor.Or
open Go Go.RowKit
section
variable {E κ : Type} {key : E → κ} {num : E → Int} {put : E → Int → E} {c : κ → κ → Int}
theorem canon_tot (G : GE key num put c) : ∀ {l : List E}, Canon key num c l → ∀ x ∈ l, tot key num c (key x) l = num x
  | [], _, x, hx => by cases hx
  | y :: l, h, x, hx => by
    have hp := List.pairwise_cons.1 h.lt
    have ht : Canon key num c l := ⟨hp.2, fun z hz => h.nz z (List.mem_cons_of_mem _ hz), fun z hz => h.rg z (List.mem_cons_of_mem _ hz)⟩
    rcases List.mem_cons.1 hx with hx | hx
    · subst hx
      simp only [tot]
      rw [if_pos (G.ord.self _), tot_zero _ (fun z hz => ?_), Int.add_zero]
      have := hp.1 z hz
      have f := G.ord.flip (key x) (key z)
      omega
    · simp only [tot]
      have := hp.1 x hx
      rw [if_neg (by omega), canon_tot G ht x hx, Int.zero_add]
theorem neg_iff (G : GE key num put c) {a : List E} (ha : Rg num a) : (∃ x ∈ cons key num put c a, num x < 0) ↔ ∃ y ∈ a, wrap64 (tot key num c (key y) a) < 0 := by
  have hc := cons_canon G ha
  constructor
  · rintro ⟨x, hx, hn⟩
    obtain ⟨y, hy, e⟩ := cons_mem G hx
    refine ⟨y, hy, ?_⟩
    rw [e, ← cons_tot G, canon_tot G hc x hx, hc.rg x hx]; exact hn
  · rintro ⟨y, hy, hn⟩
    rw [← cons_tot G] at hn
    by_cases h : ∃ x ∈ cons key num put c a, c (key x) (key y) = 0
    · obtain ⟨x, hx, e⟩ := h
      have ek := G.ord.eq _ _ e
      rw [← ek, canon_tot G hc x hx, hc.rg x hx] at hn
      exact ⟨x, hx, hn⟩
    · exfalso
      rw [tot_zero _ (fun x hx e => h ⟨x, hx, e⟩)] at hn
      unfold wrap64 at hn; omega
end
end Go.Proofs.YtgbodlghggkmoaaDoor.Or
namespace Go.Proofs.YtgbodlghggkmoaaDoor.C
set_option linter.unusedVariables false
set_option linter.unusedSimpArgs false
open Go Go.RowKit Go.Proofs.YtgbodlghggkmoaaDoorW.PrintWords Go.Proofs.YtgbodlghggkmoaaDoorW.PrintLast Go.Proofs.YtgbodlghggkmoaaDoorW.PrintMore Go.Proofs.YtgbodlghggkmoaaDoor.Or
/-- The first m elements, compacted. -/
def cu (L : List Int) (m : Nat) : List Int := Lib.compactUpTo L.toArray m
theorem cu_succ (L : List Int) (m : Nat) (h : m < L.length) : cu L (m + 1) = cu L m ++ (if m = 0 ∨ L[m] ≠ L.getD (m - 1) 0 then [L[m]] else []) := by
  unfold cu
  rw [Lib.compactUpTo_succ]
  congr 1
  have h1 : L.toArray[m]! = L[m] := by rw [getElem!_pos _ m (by simpa using h)]; simp
  have h2 : L.toArray[m - 1]! = L.getD (m - 1) 0 := by
    rw [getElem!_pos _ (m - 1) (by simp; omega), List.getD_eq_getElem?_getD, List.getElem?_eq_getElem (by omega)]; simp
  unfold Lib.keeps
  rw [h1, h2]
  by_cases hk : m = 0 ∨ L[m] ≠ L.getD (m - 1) 0
  · rw [if_pos hk, if_pos (decide_eq_true hk)]
  · rw [if_neg hk, if_neg (by simpa using hk)]
theorem cu_last (L : List Int) : ∀ m, m < L.length → ∃ l, cu L (m + 1) = l ++ [L.getD m 0]
  | 0, h => ⟨[], by rw [cu_succ L 0 h, if_pos (.inl rfl)]; simp [cu, Lib.compactUpTo, List.getD_eq_getElem?_getD, h]⟩
  | m + 1, h => by
    obtain ⟨l, hl⟩ := cu_last L m (by omega)
    have e : L.getD (m + 1) 0 = L[m + 1] := by simp [List.getD_eq_getElem?_getD, h]
    rw [cu_succ L (m + 1) h, hl]
    by_cases hk : m + 1 = 0 ∨ L[m + 1] ≠ L.getD (m + 1 - 1) 0
    · rw [if_pos hk, e]; exact ⟨_, rfl⟩
    · rw [if_neg hk, List.append_nil]
      have : L[m + 1] = L.getD m 0 := by
        have := not_or.1 hk
        simpa using this.2
      exact ⟨l, by rw [e, this]⟩
theorem cu_prefix (L : List Int) {m : Nat} : ∀ {n : Nat}, m ≤ n → n ≤ L.length → cu L m <+: cu L n
  | 0, h, _ => by obtain rfl : m = 0 := by omega
                  exact List.prefix_refl _
  | n + 1, h, hn => by
    rcases Nat.eq_or_lt_of_le h with e | e
    · subst e; exact List.prefix_refl _
    · rw [cu_succ L n (by omega)]
      exact (cu_prefix L (Nat.le_of_lt_succ e) (by omega)).trans (List.prefix_append _ _)
theorem cu_get (L : List Int) {m n : Nat} (h : m < n) (hn : n ≤ L.length) : 0 < (cu L (m + 1)).length ∧ (cu L (m + 1)).length - 1 < (cu L n).length ∧ (cu L n)[(cu L (m + 1)).length - 1]? = some (L.getD m 0) := by
  obtain ⟨l, hl⟩ := cu_last L m (by omega)
  obtain ⟨r, hr⟩ := cu_prefix L (show m + 1 ≤ n from h) hn
  rw [← hr, hl]
  refine ⟨by simp, by simp, ?_⟩
  simp
theorem mx_pred {i : Nat} (h : 0 < i) (hi : i ≤ 1000000) : mx (wrap64 ((i : Int) - 1)) 0 = ((i - 1 : Nat) : Int) := by
  unfold mx wrap64; split <;> omega
theorem cu_step (L : List Int) (i : Nat) (hi : i < L.length) (h0 : 0 < i) : (cu L (i + 1)).length - 1 = ((cu L i).length - 1) + (if L.getD (i - 1) 0 ≠ L[i] then 1 else 0) := by
  obtain ⟨j, rfl⟩ : ∃ j, i = j + 1 := ⟨i - 1, by omega⟩
  have := (cu_get L (m := j) (n := L.length) (by omega) (Nat.le_refl _)).1
  rw [cu_succ L (j + 1) hi, List.length_append]
  by_cases h : L.getD (j + 1 - 1) 0 ≠ L[j + 1]
  · rw [if_pos h, if_pos (.inr (fun e => h e.symm))]; simp; omega
  · rw [if_neg h, if_neg (by rintro (h1 | h1)
                             · omega
                             · exact h (fun e => h1 e.symm))]; simp
theorem counts_j5 (a : List Dlt) (n : Int) (x : Bool) (p : Bool) (ha : Sml 100 a) (hx : x = a.any (fun y => decide (wrap64 (totD (kyD y) a) < 0))) (hp : p = true → 0 < n ∧ n < a.length) : Ev (fun k => erratalaw28_DeltaCounts.j5 k a n true (consD a) x a p) true := by
  have hm : delta_Multiset.f a = some (!x) := by
    have : delta_Multiset.f a = some (!(consD a).any (fun x => decide (x.f2 < 0))) := if_pos (ha.ok (by decide))
    rw [this, hx]
    congr 2
    rw [Bool.eq_iff_iff, List.any_eq_true, List.any_eq_true]
    have := neg_iff GD ha.rg
    constructor
    · rintro ⟨z, hz, h⟩
      obtain ⟨y, hy, h2⟩ := this.1 ⟨z, hz, of_decide_eq_true h⟩
      exact ⟨y, hy, decide_eq_true h2⟩
    · rintro ⟨z, hz, h⟩
      obtain ⟨y, hy, h2⟩ := this.2 ⟨z, hz, of_decide_eq_true h⟩
      exact ⟨y, hy, decide_eq_true h2⟩
  cases p with
  | false =>
    obtain ⟨m, h⟩ := (refEqual_same (consD a) (consD a) (ha.cons.wide (by decide)) rfl).get
    refine Ev.step (Ev.of m fun k hk => ?_)
    simp only [erratalaw28_DeltaCounts.j5, Bool.false_eq_true, if_false, if_true]
    rw [hm, Option.bind_some, if_pos (by simp), cons_f ha (by decide), Option.bind_some, h k (by omega)]; rfl
  | true =>
    obtain ⟨h0, h1⟩ := hp rfl
    have hl := ha.len
    have hperm : a.Perm (a.drop n.toNat ++ a.take n.toNat) := by
      have := List.perm_append_comm (l₁ := a.take n.toNat) (l₂ := a.drop n.toNat)
      rw [List.take_append_drop] at this; exact this
    have sr : Sml 100 (a.drop n.toNat ++ a.take n.toNat) := ⟨by rw [← hperm.length_eq]; exact ha.len, fun z hz => ha.row z (hperm.mem_iff.2 hz), fun z hz => ha.rg z (hperm.mem_iff.2 hz)⟩
    obtain ⟨m, h⟩ := (refEqual_same (consD (a.drop n.toNat ++ a.take n.toNat)) (consD a) (sr.cons.wide (by decide)) (law_perm GD ha.rg hperm)).get
    refine Ev.step (Ev.of m fun k hk => ?_)
    simp only [erratalaw28_DeltaCounts.j5, if_true, Option.bind_some, List.nil_append, List.length_nil]
    rw [if_pos (by omega), if_pos (by omega), if_pos (by rw [List.length_drop]; omega), if_pos (by rw [List.length_drop, List.length_take]; omega), hm, Option.bind_some, if_pos (by simp), cons_f sr (by decide), Option.bind_some, h k (by omega)]; rfl
theorem counts_l1 (a : List Dlt) (n : Int) (x : Bool) (ha : Sml 100 a) (hx : x = a.any (fun y => decide (wrap64 (totD (kyD y) a) < 0))) (d : Nat) : ∀ i : Nat, i ≤ (consD a).length → (consD a).length - i = d →
    Ev (fun k => erratalaw28_DeltaCounts.l1 k a n true (consD a) x (cu ((consD a).map (·.f0)) (consD a).length) (((cu ((consD a).map (·.f0)) i).length - 1 : Nat) : Int) i) true := by
  have hcl := ha.cons.len
  generalize hL : (consD a).map (·.f0) = L
  have hLl : L.length = (consD a).length := by rw [← hL, List.length_map]
  have hget : ∀ i (h : i < (consD a).length), ((consD a)[i]).f0 = L.getD i 0 := by
    intro i h; rw [← hL]; simp [List.getD_eq_getElem?_getD, h]
  induction d with
  | zero =>
    intro i hi hd
    have e : i = (consD a).length := by omega
    obtain ⟨m1, h1⟩ := (counts_j5 a n x false ha hx (fun h => by cases h)).get
    have j4 : ∀ k, m1 ≤ k → erratalaw28_DeltaCounts.j4 (k + 1) a n true (consD a) x false = some true ∨ (0 < n ∧ n < a.length) := by
      intro k hk
      simp only [erratalaw28_DeltaCounts.j4, Bool.false_eq_true, if_false]
      by_cases hn : n > 0
      · rw [if_pos hn]
        by_cases h2 : n < (a.length : Int)
        · exact .inr ⟨hn, h2⟩
        · rw [decide_eq_false h2]; exact .inl (h1 k hk)
      · rw [if_neg hn]; exact .inl (h1 k hk)
    have j4' : Ev (fun k => erratalaw28_DeltaCounts.j4 k a n true (consD a) x false) true := by
      by_cases hn : 0 < n ∧ n < a.length
      · obtain ⟨m2, h2⟩ := (counts_j5 a n x true ha hx (fun _ => hn)).get
        refine Ev.step (Ev.of m2 fun k hk => ?_)
        simp only [erratalaw28_DeltaCounts.j4, Bool.false_eq_true, if_false]
        rw [if_pos hn.1, decide_eq_true hn.2]; exact h2 k hk
      · exact Ev.step (Ev.of m1 fun k hk => (j4 k hk).resolve_right hn)
    obtain ⟨m, h⟩ := j4'.get
    refine Ev.step (Ev.of m fun k hk => ?_)
    simp only [erratalaw28_DeltaCounts.l1]
    rw [if_neg (by omega)]
    by_cases h0 : (consD a).length = 0
    · have hT : (cu L (consD a).length).length = 0 := by rw [h0]; rfl
      rw [hT, h0]
      simpa using h k hk
    · have hg := cu_get L (m := (consD a).length - 1) (n := (consD a).length) (by omega) (by omega)
      rw [show (consD a).length - 1 + 1 = (consD a).length by omega] at hg
      have hT := hg.1
      have e1 : (((consD a).length : Int) == 0) = false := beq_eq_false_iff_ne.2 (by omega)
      have e2 : (((cu L (consD a).length).length : Int) == 0) = false := beq_eq_false_iff_ne.2 (by omega)
      have hTl : (cu L (consD a).length).length ≤ L.length := by
        have := cu_prefix L (m := (consD a).length) (n := (consD a).length) (Nat.le_refl _) (by omega)
        unfold cu Lib.compactUpTo
        rw [List.length_map]
        exact Nat.le_trans (List.length_filter_le _ _) (by simp; omega)
      rw [e1, e2, if_neg (by simp), if_pos (by omega)]
      have e3 : ((((cu L i).length - 1 : Nat) : Int) != wrap64 (((cu L (consD a).length).length : Int) - 1)) = false := by
        rw [e]
        simp only [bne_eq_false_iff_eq]
        unfold wrap64; omega
      rw [e3]; exact h k hk
  | succ d ih =>
    intro i hi hd
    have h0 : i < (consD a).length := by omega
    obtain ⟨m, h⟩ := (ih (i + 1) (by omega) (by omega)).get
    have hg := cu_get L (m := i) (n := (consD a).length) h0 (by omega)
    have hj3 : Ev (fun k => erratalaw28_DeltaCounts.j3 k a n true (consD a) x (cu L (consD a).length) (((cu L (i + 1)).length - 1 : Nat) : Int) i) true := by
      refine Ev.step (Ev.of m fun k hk => ?_)
      simp only [erratalaw28_DeltaCounts.j3]
      have e1 : rd (cu L (consD a).length) ((((cu L (i + 1)).length - 1 : Nat)) : Int) = L.getD i 0 := by
        unfold rd
        rw [List.getD_eq_getElem?_getD, Int.toNat_natCast, hg.2.2]; rfl
      rw [if_neg (by omega), if_pos (by omega), if_pos (by omega), if_pos (by omega), if_pos (by omega), e1, rdD h0, if_pos (hget i h0).symm, wrap_nat h0 (by omega)]
      exact h k hk
    obtain ⟨m1, h1⟩ := hj3.get
    refine Ev.step (Ev.step (Ev.of (m + m1) fun k hk => ?_))
    simp only [erratalaw28_DeltaCounts.l1]
    rw [if_pos (by omega)]
    by_cases hz : 0 < i
    · have hs := cu_step L i (by omega) hz
      have hLi : L[i]'(by omega) = L.getD i 0 := by simp [List.getD_eq_getElem?_getD, hLl, h0]
      rw [if_pos (by omega), mx_pred hz (by omega), if_pos (by omega), if_pos (by omega), if_pos (by omega), rdD (show i - 1 < (consD a).length by omega), rdD h0, hget _ (by omega), hget i h0]
      simp only [erratalaw28_DeltaCounts.j2]
      by_cases hne : L.getD (i - 1) 0 ≠ L.getD i 0
      · rw [if_pos (by simpa using hne)]
        rw [hLi, if_pos hne] at hs
        have e2 : wrap64 ((((cu L i).length - 1 : Nat) : Int) + 1) = (((cu L (i + 1)).length - 1 : Nat) : Int) := by
          have : (cu L (i + 1)).length ≤ i + 1 := by
            unfold cu Lib.compactUpTo; rw [List.length_map]; exact Nat.le_trans (List.length_filter_le _ _) (by simp)
          rw [hs]; unfold wrap64; omega
        rw [e2]; exact h1 k (by omega)
      · rw [if_neg (by simpa using hne)]
        rw [hLi, if_neg hne] at hs
        have hs2 : (cu L i).length - 1 = (cu L (i + 1)).length - 1 := by omega
        rw [hs2]; exact h1 k (by omega)
    · obtain rfl : i = 0 := by omega
      have e3 : (cu L (0 + 1)).length - 1 = 0 := by
        rw [cu_succ L 0 (by omega), if_pos (.inl rfl)]; simp [cu, Lib.compactUpTo]
      have e4 : (cu L 0).length - 1 = 0 := by simp [cu, Lib.compactUpTo]
      rw [e3] at h1
      rw [if_neg (by omega), e4]
      simp only [erratalaw28_DeltaCounts.j2, Bool.false_eq_true, if_false]
      exact h1 k (by omega)
theorem counts_l0 (a : List Dlt) (n : Int) (ha : Sml 100 a) (d : Nat) : ∀ (i : Nat) (x : Bool), i ≤ a.length → a.length - i = d → (x || (a.drop i).any (fun y => decide (wrap64 (totD (kyD y) a) < 0))) = a.any (fun y => decide (wrap64 (totD (kyD y) a) < 0)) →
    Ev (fun k => erratalaw28_DeltaCounts.l0 k a n true (consD a) x i) true := by
  have hl := ha.len
  induction d with
  | zero =>
    intro i x hi hd hx
    rw [List.drop_eq_nil_of_le (by omega), List.any_nil, Bool.or_false] at hx
    obtain ⟨m, h⟩ := (counts_l1 a n x ha hx _ 0 (Nat.zero_le _) rfl).get
    refine Ev.step (Ev.of m fun k hk => ?_)
    simp only [erratalaw28_DeltaCounts.l0]
    have ht : delta_Times.f a = some (cu ((consD a).map (·.f0)) (consD a).length) := by
      have : delta_Times.f a = some (Lib.compact ((consD a).map (·.f0))) := if_pos (ha.ok (by decide))
      rw [this]; unfold Lib.compact cu; rw [List.length_map]
    rw [if_neg (by omega), ht, Option.bind_some]
    have := h k hk
    simpa [cu, Lib.compactUpTo] using this
  | succ d ih =>
    intro i x hi hd hx
    have h0 : i < a.length := by omega
    have hdr := List.drop_eq_getElem_cons h0
    cases x with
    | true =>
      obtain ⟨m, h⟩ := (ih (i + 1) true (by omega) (by omega) (by rw [← hx]; simp)).get
      refine Ev.step (Ev.of m fun k hk => ?_)
      simp only [erratalaw28_DeltaCounts.l0]
      rw [if_pos (by omega), if_pos trivial, wrap_nat h0 (by omega)]; exact h k hk
    | false =>
      obtain ⟨m1, h1⟩ := (find_f a a[i].f0 a[i].f1 (by omega)).get
      obtain ⟨m, h⟩ := (ih (i + 1) (decide (wrap64 (totD (a[i].f0, a[i].f1) a) < 0)) (by omega) (by omega) (by rw [← hx, hdr, List.any_cons, Bool.false_or])).get
      refine Ev.step (Ev.of (m + m1) fun k hk => ?_)
      simp only [erratalaw28_DeltaCounts.l0]
      rw [if_pos (by omega), if_neg (by simp), if_pos (by omega), rdD h0, h1 k (by omega), Option.bind_some, wrap_nat h0 (by omega)]; exact h k (by omega)
theorem counts_f (a : List Dlt) (n : Int) (ha : Wide a) (ra : RgD a) : Ev (fun k => erratalaw28_DeltaCounts.f k a n) true := by
  obtain ⟨n0, h0⟩ := small_f.get
  obtain ⟨r1, E1, q1⟩ := few_f a 100 ha
  obtain ⟨n1, h1⟩ := E1.get
  cases r1 with
  | false =>
    refine Ev.of (n0 + n1) fun k hk => ?_
    show erratalaw28_DeltaCounts.f k a n = _
    unfold erratalaw28_DeltaCounts.f
    rw [h0 _ (by omega), Option.bind_some, h1 _ (by omega)]; rfl
  | true =>
    have sa := (q1 rfl).sml ra (n := 100)
    obtain ⟨n2, h2⟩ := (counts_l0 a n sa _ 0 false (Nat.zero_le _) rfl (by simp)).get
    refine Ev.of (n0 + n1 + n2) fun k hk => ?_
    show erratalaw28_DeltaCounts.f k a n = _
    unfold erratalaw28_DeltaCounts.f
    rw [h0 _ (by omega), Option.bind_some, h1 _ (by omega), Option.bind_some, if_pos rfl, cons_f sa (by decide), Option.bind_some]
    exact h2 k (by omega)
end Go.Proofs.YtgbodlghggkmoaaDoor.C
