/- CheckpointGate: an argument of calls, opened; the walk, whatever the input. -/
import Derived.Test.YtkfimfhkmgcnlaaGLaw
import Derived.Test.YtkfimfhkmgcnlaaOpen
namespace Go.Proofs.Ytkfimfhkmgcnlaa.GLaw
set_option linter.unusedVariables false
set_option linter.unusedSimpArgs false
open Go Go.RowKit Go.Proofs.Ytkfimfhkmgcnlaa.B Go.Proofs.Ytkfimfhkmgcnlaa.Gate Go.Proofs.Ytkfimfhkmgcnlaa.RefG Go.Proofs.Ytkfimfhkmgcnlaa.Opn

theorem opInt : Opens Try.prog 3 (fun _ cs => ∃ n, cs = [.int .i64 n] ∧ (Lit.int .i64 n).wf = true) := Opens.int Try.underlying3
theorem opAny (t : TypeId) : Opens Try.prog t (fun _ _ => True) := ⟨fun _ _ _ _ _ _ _ _ _ => trivial⟩
theorem opDeltas : Opens Try.prog 27 (fun _ cs => ∃ A n c, cs = [.slice A n c]) :=
  (Opens.slice Try.underlying27 (sz := 3) (by kernel_rfl) (opAny _)).mono (fun _ _ ⟨A, n, c, h, _⟩ => ⟨A, n, c, h⟩)
def msgG : Nat → World → List Value → Prop
  | 5 => fun _ cs => ∃ A n c, cs = [.slice A n c]
  | _ => fun _ cs => ∃ n, cs = [.int .i64 n] ∧ (Lit.int .i64 n).wf = true
theorem opMsg : Opens Try.prog 29 (fun _ cs => ∃ a b c d e A n k, cs = [.int .i64 a, .int .i64 b, .int .i64 c, .int .i64 d, .int .i64 e, .slice A n k]) := by
  refine (Opens.struct Try.underlying29 (N := 6) (by kernel_rfl) msgG ?_).mono ?_
  · intro i f hi
    match i, hi with
    | 0, hi => cases hi; exact opInt
    | 1, hi => cases hi; exact opInt
    | 2, hi => cases hi; exact opInt
    | 3, hi => cases hi; exact opInt
    | 4, hi => cases hi; exact opInt
    | 5, hi => cases hi; exact opDeltas
    | n + 6, hi => simp at hi
  · intro w cs ⟨hl, h⟩
    obtain ⟨v0, v1, v2, v3, v4, v5, rfl⟩ := len6 hl
    · skip
      obtain ⟨a, h0, _⟩ := h 0 _ rfl
      obtain ⟨b, h1, _⟩ := h 1 _ rfl
      obtain ⟨c, h2, _⟩ := h 2 _ rfl
      obtain ⟨d, h3, _⟩ := h 3 _ rfl
      obtain ⟨e, h4, _⟩ := h 4 _ rfl
      obtain ⟨A, n, k, h5⟩ := h 5 _ rfl
      have ci : Try.prog.cellsOf 3 = 1 := by kernel_rfl
      have cd : Try.prog.cellsOf 27 = 1 := by kernel_rfl
      simp [ci, cd] at h0 h1 h2 h3 h4 h5
      subst h0 h1 h2 h3 h4 h5
      exact ⟨a, b, c, d, e, A, n, k, rfl⟩
def actG : Nat → World → List Value → Prop
  | 3 => fun _ cs => ∃ a b c d e A n k, cs = [.int .i64 a, .int .i64 b, .int .i64 c, .int .i64 d, .int .i64 e, .slice A n k]
  | _ => fun _ cs => ∃ n, cs = [.int .i64 n] ∧ (Lit.int .i64 n).wf = true
theorem opAct : Opens Try.prog 38 (fun _ cs => ∃ x : ActV, cs = x.cells) := by
  refine (Opens.struct Try.underlying38 (N := 9) (by kernel_rfl) actG ?_).mono ?_
  · intro i f hi
    match i, hi with
    | 0, hi => cases hi; exact opInt
    | 1, hi => cases hi; exact opInt
    | 2, hi => cases hi; exact opInt
    | 3, hi => cases hi; exact opMsg
    | n + 4, hi => simp at hi
  · intro w cs ⟨hl, h⟩
    obtain ⟨v0, v1, v2, v3, v4, v5, v6, v7, v8, rfl⟩ := len9 hl
    · skip
      obtain ⟨o, h0, _⟩ := h 0 _ rfl
      obtain ⟨i, h1, _⟩ := h 1 _ rfl
      obtain ⟨q, h2, _⟩ := h 2 _ rfl
      obtain ⟨a, b, c, d, e, A, n, k, h3⟩ := h 3 _ rfl
      have ci : Try.prog.cellsOf 3 = 1 := by kernel_rfl
      have cm : Try.prog.cellsOf 29 = 6 := by kernel_rfl
      simp [ci, cm] at h0 h1 h2 h3
      obtain ⟨rfl, rfl, rfl, rfl, rfl, rfl⟩ := h3
      subst h0 h1 h2
      exact ⟨⟨o, i, q, a, b, c, d, e, A, n, k⟩, rfl⟩
theorem openActs {H : Type} {enc : TypeId × Value → H} {w : World} {base : Nat} {spare : Nat → Bool} {held : Bool} {fuel : Nat} {A : Option Addr} {n c : Nat} {x : DataW H × List MemPlace}
    (h : DataW.trod enc Try.prog w base spare held fuel 34 [.slice A n c] = some x) : ∃ xs : List ActV, xs.length = n ∧ ReadsAct w A xs := by
  obtain ⟨A', n', c', he, _, _, hi⟩ := Opens.slice Try.underlying34 (sz := 9) (by kernel_rfl) opAct |>.out enc w base spare held fuel _ _ h
  simp at he
  obtain ⟨rfl, rfl, rfl⟩ := he
  obtain ⟨xs, hl, hx⟩ := list_of (α := ActV) (fun x cs => cs = x.cells) (fun cs hc => hc) hi
  refine ⟨xs, hl, fun hp => ?_⟩
  obtain ⟨ad, rfl, h2⟩ := hx (by omega)
  refine ⟨ad, rfl, fun j hj t v ht => ?_⟩
  have e1 : xs[j]? = some (xs.getD j default) := by rw [List.getD_eq_getElem?_getD, List.getElem?_eq_getElem hj]; rfl
  obtain ⟨es, rfl, _, h3⟩ := h2 j _ e1
  exact h3 t v ht

set_option maxHeartbeats 1000000 in
set_option maxRecDepth 100000 in
theorem bads (n : Int) (m c : Nat) (A : Option Addr) (w : World) (hb : ¬ (n ≤ 6 ∧ m ≤ 60)) :
    Calls Try.prog 4 #[.int .i64 n, .slice A m c] w fun e w' => e = .returned (.bool true) ∧ Chg (fun _ => False) w w' := by
  have HB := Lib.hid hb; clear hb
  go_enter Try.func4, Try.ntmps4
  go_wp2_with fail
  refine (OnceW.small _).mono ?_
  rintro e w1 ⟨rfl, C1⟩
  have D1 := Lib.hid C1; clear C1
  go_wp2_with fail
  all_goals first
    | (go_ret; exact ⟨rfl, D1.out⟩)
    | (exfalso; have := HB.out; simp_all; done)
    | (exfalso; have := HB.out; simp_all; omega)
theorem walk (n : Int) (l : List ActV) (A : Option Addr) (c : Nat) (w : World) (rl : ReadsAct w A l) :
    Calls Try.prog 4 #[.int .i64 n, .slice A l.length c] w fun e w' => e = .returned (.bool true) ∧ Chg (fun _ => False) w w' := by
  by_cases h : n ≤ 6 ∧ l.length ≤ 60
  · exact good n l A c w h.1 h.2 rl
  · exact bads n _ c A w h
end Go.Proofs.Ytkfimfhkmgcnlaa.GLaw
