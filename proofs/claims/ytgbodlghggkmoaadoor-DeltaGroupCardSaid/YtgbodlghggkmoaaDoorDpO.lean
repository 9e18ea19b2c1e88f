/- Arguments of deltas, opened: what they read as. -/
import Derived.Test.YtgbodlghggkmoaaDoorG0
import Derived.Test.YtgbodlghggkmoaaDoorOpen
import Derived.DataShut
namespace Go.Proofs.YtgbodlghggkmoaaDoor.G
set_option linter.unusedVariables false
set_option linter.unusedSimpArgs false
open Go Go.RowKit Go.Proofs.YtgbodlghggkmoaaDoorW.PrintWords Go.Proofs.YtgbodlghggkmoaaDoorW.PrintLast Go.Proofs.YtgbodlghggkmoaaDoorW.PrintMore Go.Proofs.YtgbodlghggkmoaaDoor.Opn Go.ChangeShapes Go.WideShapes
theorem wf_wrap {n : Int} (h : (Lit.int .i64 n).wf = true) : wrap64 n = n := by
  have := (Lit.wf_int_iff .i64 n).1 h
  have h1 : IntKind.min .i64 = -9223372036854775808 := by decide
  have h2 : IntKind.max .i64 = 9223372036854775807 := by decide
  unfold wrap64; omega
/-- A slice of elements of a kind. -/
theorem op_list {P : Program} {t e : TypeId} {α : Type} {k : Kd α} {G : α → Prop} (ht : P.underlying t = some (.slice e)) (hs : P.cellsOf e = k.sz) (he : Opens P e (fun w cs => ∃ x, k.K w x cs ∧ G x)) :
    Opens P t (fun w cs => ∃ A c, ∃ xs : List α, cs = [.slice A xs.length c] ∧ xs.length ≤ c ∧ k.C w A xs.length xs ∧ ∀ x ∈ xs, G x) := by
  refine (Opens.slice ht hs he).mono ?_
  rintro w cs ⟨A, n, c, rfl, hn, hc, hi⟩
  obtain ⟨xs, hl, hx⟩ := list_of (sz := k.sz) (fun (x : α) cs => k.K w x cs ∧ G x) (fun cs h => h) hi
  subst hl
  refine ⟨A, c, xs, rfl, hn, ⟨rfl, by unfold maxLen at hc; omega, fun h0 => ?_⟩, ?_⟩
  · obtain ⟨ad, e, h⟩ := hx h0
    exact ⟨ad, e, fun j p hp => by obtain ⟨es, h1, h2, h3⟩ := h j p hp; exact ⟨es, h2, h1.1, h3⟩⟩
  · intro x hxm
    obtain ⟨j, hj⟩ := List.getElem?_of_mem hxm
    obtain ⟨ad, e, h⟩ := hx (by have := (List.getElem?_eq_some_iff.1 hj).1; omega)
    obtain ⟨es, h1, _⟩ := h j x hj
    exact h1.2
theorem opInt : Opens Tryd.prog 3 (fun _ cs => ∃ n, cs = [.int .i64 n] ∧ (Lit.int .i64 n).wf = true) := Opens.int Tryd.underlying3
theorem opStr : Opens Tryd.prog 9 (fun _ cs => ∃ s : ByteArray, cs = [.string s] ∧ s.size ≤ maxLen) := Opens.string Tryd.underlying9
/-- What is known of a value that comes in. -/
structure GoodV (v : S79) : Prop where
  w0 : wrap64 v.f0 = v.f0
  w1 : wrap64 v.f1 = v.f1
  w2 : v.f2.size ≤ maxLen
def valG : Nat → World → List Value → Prop
  | 2 => fun _ cs => ∃ s : ByteArray, cs = [.string s] ∧ s.size ≤ maxLen
  | _ => fun _ cs => ∃ n, cs = [.int .i64 n] ∧ (Lit.int .i64 n).wf = true
theorem opVal : Opens Tryd.prog 79 (fun w cs => ∃ x, k79.K w x cs ∧ GoodV x) := by
  refine (Opens.struct Tryd.underlying79 (N := 3) (by kernel_rfl) valG ?_).mono ?_
  · intro i f hi
    match i, hi with
    | 0, hi => cases hi; exact opInt
    | 1, hi => cases hi; exact opInt
    | 2, hi => cases hi; exact opStr
    | n + 3, hi => simp at hi
  · intro w cs ⟨hl, h⟩
    obtain ⟨v0, v1, v2, rfl⟩ := len3 hl
    obtain ⟨a, h0, g0⟩ := h 0 _ rfl
    obtain ⟨b, h1, g1⟩ := h 1 _ rfl
    obtain ⟨c, h2, g2⟩ := h 2 _ rfl
    have ci : Tryd.prog.cellsOf 3 = 1 := by kernel_rfl
    have cs : Tryd.prog.cellsOf 9 = 1 := by kernel_rfl
    simp [ci, cs] at h0 h1 h2
    subst h0 h1 h2
    exact ⟨⟨a, b, c⟩, k79_mk w ⟨a, b, c⟩, wf_wrap g0, wf_wrap g1, g2⟩
theorem opRow : Opens Tryd.prog 26 (fun w cs => ∃ A c, ∃ xs : List S79, cs = [.slice A xs.length c] ∧ xs.length ≤ c ∧ k79.C w A xs.length xs ∧ ∀ x ∈ xs, GoodV x) :=
  op_list Tryd.underlying26 (by kernel_rfl) opVal
/-- What is known of a delta that comes in. -/
structure GoodD (x : S28) : Prop where
  w0 : wrap64 x.f0 = x.f0
  w2 : wrap64 x.f2 = x.f2
  len : x.f1.length ≤ 9223372036854775807
  row : ∀ v ∈ x.f1, GoodV v
def dltG : Nat → World → List Value → Prop
  | 1 => fun w cs => ∃ A c, ∃ xs : List S79, cs = [.slice A xs.length c] ∧ xs.length ≤ c ∧ k79.C w A xs.length xs ∧ ∀ x ∈ xs, GoodV x
  | _ => fun _ cs => ∃ n, cs = [.int .i64 n] ∧ (Lit.int .i64 n).wf = true
theorem opDlt : Opens Tryd.prog 28 (fun w cs => ∃ x, k28.K w x cs ∧ GoodD x) := by
  refine (Opens.struct Tryd.underlying28 (N := 3) (by kernel_rfl) dltG ?_).mono ?_
  · intro i f hi
    match i, hi with
    | 0, hi => cases hi; exact opInt
    | 1, hi => cases hi; exact opRow
    | 2, hi => cases hi; exact opInt
    | n + 3, hi => simp at hi
  · intro w cs ⟨hl, h⟩
    obtain ⟨v0, v1, v2, rfl⟩ := len3 hl
    obtain ⟨a, h0, g0⟩ := h 0 _ rfl
    obtain ⟨A, c, xs, h1, hc, hC, g1⟩ := h 1 _ rfl
    obtain ⟨b, h2, g2⟩ := h 2 _ rfl
    have ci : Tryd.prog.cellsOf 3 = 1 := by kernel_rfl
    have cs : Tryd.prog.cellsOf 26 = 1 := by kernel_rfl
    simp [ci, cs] at h0 h1 h2
    subst h0 h1 h2
    exact ⟨⟨a, xs, b⟩, k28_mk w ⟨a, xs, b⟩ hc hC, wf_wrap g0, wf_wrap g2, hC.2.1, g1⟩
theorem opDlts : Opens Tryd.prog 22 (fun w cs => ∃ A c, ∃ xs : List S28, cs = [.slice A xs.length c] ∧ xs.length ≤ c ∧ k28.C w A xs.length xs ∧ ∀ x ∈ xs, GoodD x) :=
  op_list Tryd.underlying22 (by kernel_rfl) opDlt
/-- A list of deltas that came in, at A, with room c. -/
structure ReadsD (w : World) (A : Option Addr) (c : Nat) (l : List S28) : Prop where
  cap : l.length ≤ c
  at_ : k28.C w A l.length l
  good : ∀ x ∈ l, GoodD x
theorem openDlts {H : Type} {enc : TypeId × Value → H} {w : World} {base : Nat} {spare : Nat → Bool} {held : Bool} {fuel : Nat} {A : Option Addr} {n c : Nat} {x : DataW H × List MemPlace}
    (h : DataW.trod enc Tryd.prog w base spare held fuel 22 [.slice A n c] = some x) : ∃ l : List S28, l.length = n ∧ ReadsD w A c l := by
  obtain ⟨A', c', xs, he, h1, h2, h3⟩ := opDlts.out enc w base spare held fuel _ _ h
  simp at he
  obtain ⟨rfl, rfl, rfl⟩ := he
  exact ⟨xs, rfl, h1, h2, h3⟩
/-- A row that came in. -/
structure ReadsV (w : World) (A : Option Addr) (c : Nat) (l : List S79) : Prop where
  cap : l.length ≤ c
  at_ : k79.C w A l.length l
  good : ∀ x ∈ l, GoodV x
theorem openRow {H : Type} {enc : TypeId × Value → H} {w : World} {base : Nat} {spare : Nat → Bool} {held : Bool} {fuel : Nat} {A : Option Addr} {n c : Nat} {x : DataW H × List MemPlace}
    (h : DataW.trod enc Tryd.prog w base spare held fuel 26 [.slice A n c] = some x) : ∃ l : List S79, l.length = n ∧ ReadsV w A c l := by
  obtain ⟨A', c', xs, he, h1, h2, h3⟩ := opRow.out enc w base spare held fuel _ _ h
  simp at he
  obtain ⟨rfl, rfl, rfl⟩ := he
  exact ⟨xs, rfl, h1, h2, h3⟩
end Go.Proofs.YtgbodlghggkmoaaDoor.G
