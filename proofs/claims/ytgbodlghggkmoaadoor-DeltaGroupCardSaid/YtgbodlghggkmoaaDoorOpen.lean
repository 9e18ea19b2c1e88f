/- What an argument of any type reads as: combinators over DataW.trod. -/
import Derived.Test.YtgbodlghggkmoaaDoorChecked
import Derived.OpenShut
import Derived.ChangeArms
import Derived.ChangeSame
import Derived.Deep.Slices
namespace Go.Proofs.YtgbodlghggkmoaaDoor.Opn
set_option linter.unusedVariables false
set_option linter.unusedSimpArgs false
open Go Go.ChangeShapes Go.WideShapes Go.Deep

/-- What reads as data at type t has cells of the form F. -/
structure Opens (P : Program) (t : TypeId) (F : World → List Value → Prop) : Prop where
  out : ∀ {H : Type} (enc : TypeId × Value → H) (w : World) (base : Nat) (spare : Nat → Bool) (held : Bool) (fuel : Nat) (cs : List Value) (x : DataW H × List MemPlace),
    DataW.trod enc P w base spare held fuel t cs = some x → F w cs
variable {P : Program} {t e : TypeId} {F : World → List Value → Prop}
theorem Opens.mono {F' : World → List Value → Prop} (h : Opens P t F) (hm : ∀ w cs, F w cs → F' w cs) : Opens P t F' := ⟨fun enc w base spare held fuel cs x hx => hm _ _ (h.out enc w base spare held fuel cs x hx)⟩
theorem Opens.int {k : IntKind} (ht : P.underlying t = some (.int k)) : Opens P t (fun _ cs => ∃ n, cs = [.int k n] ∧ (Lit.int k n).wf = true) := by
  constructor
  intro H enc w base spare held fuel cs x hx
  obtain ⟨n, rfl, _, hw⟩ := DataW.trod_int ht hx
  exact ⟨n, rfl, hw⟩
theorem Opens.bool (ht : P.underlying t = some .bool) : Opens P t (fun _ cs => ∃ b, cs = [.bool b]) := by
  constructor
  intro H enc w base spare held fuel cs x hx
  obtain ⟨b, rfl, _⟩ := DataW.trod_bool ht hx
  exact ⟨b, rfl⟩
theorem Opens.string (ht : P.underlying t = some .string) : Opens P t (fun _ cs => ∃ s : ByteArray, cs = [.string s] ∧ s.size ≤ maxLen) := by
  constructor
  intro H enc w base spare held fuel cs x hx
  obtain ⟨s, rfl, _, hw⟩ := DataW.trod_string ht hx
  exact ⟨s, rfl, hw⟩
theorem cells_at {w : World} {base : Nat} {a : Addr} {n : Nat} {cs : List Value} (h : w.cells? base a n = some cs) : cs.length = n ∧ ∀ j u, cs[j]? = some u → w.cell? (a.add j) = some u := by
  obtain ⟨_, hl, hat⟩ := World.cells?_some h
  refine ⟨hl, fun j u hu => ?_⟩
  have hj : j < n := by rw [← hl]; exact (List.getElem?_eq_some_iff.1 hu).1
  rw [hat j hj, hu]
theorem Opens.slice (ht : P.underlying t = some (.slice e)) {sz : Nat} (hs : P.cellsOf e = sz) (he : Opens P e F) :
    Opens P t (fun w cs => ∃ A n c, cs = [.slice A n c] ∧ n ≤ c ∧ c ≤ maxLen ∧ ∀ i, i < n → ∃ ad es, A = some ad ∧ es.length = sz ∧ (∀ j u, es[j]? = some u → w.cell? (ad.add (i * sz + j)) = some u) ∧ F w es) := by
  constructor
  intro H enc w base spare held fuel cs x hx
  rcases open_slice ht hx with ⟨rfl, _⟩ | ⟨a, len, cap, m, n, D, Pl, rfl, hb, hl, hm, hmm, _, hi⟩
  · exact ⟨none, 0, 0, rfl, by omega, by unfold maxLen; omega, fun i hi => absurd hi (by omega)⟩
  · refine ⟨some a, len, cap, rfl, hl, hm, fun i hil => ?_⟩
    obtain ⟨cs', hc, ht'⟩ := hi i (by subst hmm; split <;> omega)
    rw [hs] at hc
    obtain ⟨h1, h2⟩ := cells_at hc
    refine ⟨a, cs', rfl, h1, fun j u hu => ?_, he.out enc w base spare held _ _ _ ht'⟩
    rw [← h2 j u hu, ← add_add]
theorem Opens.struct {fs : Array Field} (ht : P.underlying t = some (.struct fs)) {N : Nat} (hN : P.cellsOf t = N) (G : Nat → World → List Value → Prop) (hG : ∀ i f, fs[i]? = some f → Opens P f.type (G i)) :
    Opens P t (fun w cs => cs.length = N ∧ ∀ i f, fs[i]? = some f → G i w ((cs.drop f.offset).take (P.cellsOf f.type))) := by
  constructor
  intro H enc w base spare held fuel cs x hx
  obtain ⟨xs, n, _, _, hl, hxl, hf⟩ := DataW.trod_struct ht hx
  refine ⟨hl.trans hN, fun i f hi => ?_⟩
  have hlt : i < fs.size := (Array.getElem?_eq_some_iff.1 hi).1
  have h1 := hf i f hi
  rw [List.getElem?_eq_getElem (by omega)] at h1
  exact (hG i f hi).out enc w base spare held n _ _ h1

theorem len2 {cs : List Value} (h : cs.length = 2) : ∃ v0 v1, cs = [v0, v1] := by
  match cs, h with
  | [v0, v1], _ => exact ⟨v0, v1, rfl⟩
theorem len3 {cs : List Value} (h : cs.length = 3) : ∃ v0 v1 v2, cs = [v0, v1, v2] := by
  match cs, h with
  | [v0, v1, v2], _ => exact ⟨v0, v1, v2, rfl⟩
theorem len4 {cs : List Value} (h : cs.length = 4) : ∃ v0 v1 v2 v3, cs = [v0, v1, v2, v3] := by
  match cs, h with
  | [v0, v1, v2, v3], _ => exact ⟨v0, v1, v2, v3, rfl⟩
theorem len6 {cs : List Value} (h : cs.length = 6) : ∃ v0 v1 v2 v3 v4 v5, cs = [v0, v1, v2, v3, v4, v5] := by
  match cs, h with
  | [v0, v1, v2, v3, v4, v5], _ => exact ⟨v0, v1, v2, v3, v4, v5, rfl⟩
theorem len7 {cs : List Value} (h : cs.length = 7) : ∃ v0 v1 v2 v3 v4 v5 v6, cs = [v0, v1, v2, v3, v4, v5, v6] := by
  match cs, h with
  | [v0, v1, v2, v3, v4, v5, v6], _ => exact ⟨v0, v1, v2, v3, v4, v5, v6, rfl⟩
theorem len8 {cs : List Value} (h : cs.length = 8) : ∃ v0 v1 v2 v3 v4 v5 v6 v7, cs = [v0, v1, v2, v3, v4, v5, v6, v7] := by
  match cs, h with
  | [v0, v1, v2, v3, v4, v5, v6, v7], _ => exact ⟨v0, v1, v2, v3, v4, v5, v6, v7, rfl⟩
theorem len9 {cs : List Value} (h : cs.length = 9) : ∃ v0 v1 v2 v3 v4 v5 v6 v7 v8, cs = [v0, v1, v2, v3, v4, v5, v6, v7, v8] := by
  match cs, h with
  | [v0, v1, v2, v3, v4, v5, v6, v7, v8], _ => exact ⟨v0, v1, v2, v3, v4, v5, v6, v7, v8, rfl⟩

/-- A slice whose elements are each of a Lean type: the list. -/
theorem list_of {α : Type} {sz : Nat} {w : World} {A : Option Addr} {n : Nat} {F : List Value → Prop} (K : α → List Value → Prop) (hF : ∀ cs, F cs → ∃ x, K x cs)
    (h : ∀ i, i < n → ∃ ad es, A = some ad ∧ es.length = sz ∧ (∀ j u, es[j]? = some u → w.cell? (ad.add (i * sz + j)) = some u) ∧ F es) :
    ∃ xs : List α, xs.length = n ∧ (0 < n → ∃ ad, A = some ad ∧ ∀ i x, xs[i]? = some x → ∃ es, K x es ∧ es.length = sz ∧ ∀ j u, es[j]? = some u → w.cell? (ad.add (i * sz + j)) = some u) := by
  induction n with
  | zero => exact ⟨[], rfl, fun h => absurd h (by omega)⟩
  | succ n ih =>
    obtain ⟨xs, hl, hx⟩ := ih (fun i hi => h i (by omega))
    obtain ⟨ad, es, hA, hes, hc, hFe⟩ := h n (by omega)
    obtain ⟨x, hk⟩ := hF es hFe
    refine ⟨xs ++ [x], by simp [hl], fun _ => ⟨ad, hA, fun i y hi => ?_⟩⟩
    rcases Nat.lt_or_ge i n with hin | hin
    · rw [List.getElem?_append_left (by omega)] at hi
      obtain ⟨ad', hA', h2⟩ := hx (by omega)
      rw [hA] at hA'; cases hA'
      exact h2 i y hi
    · rw [List.getElem?_append_right (by omega)] at hi
      have : i = n := by
        rcases Nat.lt_or_ge (i - xs.length) 1 with h3 | h3
        · omega
        · rw [List.getElem?_eq_none (by simpa using h3)] at hi; cases hi
      subst this
      rw [hl, Nat.sub_self] at hi
      obtain rfl : x = y := by simpa using hi
      exact ⟨es, hk, hes, hc⟩
end Go.Proofs.YtgbodlghggkmoaaDoor.Opn
