/- Comparisons in general: total orders by comparisons. -/
import Derived.Test.YtgbodlghggkmoaaDoorHk
import Derived.Lib.Bytealg
namespace Go.Proofs.YtgbodlghggkmoaaDoor.Or
set_option linter.unusedVariables false
set_option linter.unusedSimpArgs false
open Go Go.RowKit
/-- The first number that is not 0. -/
def orI (a b : Int) : Int := if a = 0 then b else a
def cmpI (a b : Int) : Int := if a < b then -1 else if a > b then 1 else 0
/-- A comparison by a total order. -/
structure TO {α : Type} (c : α → α → Int) : Prop where
  flip : ∀ a b, c b a = - c a b
  eq : ∀ a b, c a b = 0 → a = b
  tr : ∀ a b d, c a b < 0 → c b d < 0 → c a d < 0
namespace TO
variable {α β : Type} {c : α → α → Int}
theorem self (h : TO c) (a : α) : c a a = 0 := by have := h.flip a a; omega
theorem iff (h : TO c) {a b : α} : c a b = 0 ↔ a = b := ⟨h.eq a b, fun e => e ▸ h.self a⟩
theorem le_tr (h : TO c) {a b d : α} (h1 : c a b ≤ 0) (h2 : c b d ≤ 0) : c a d ≤ 0 := by
  rcases Int.lt_or_eq_of_le h1 with h1 | h1
  · rcases Int.lt_or_eq_of_le h2 with h2 | h2
    · exact Int.le_of_lt (h.tr _ _ _ h1 h2)
    · rw [← h.eq _ _ h2]; omega
  · rw [h.eq _ _ h1]; exact h2
theorem lt_le (h : TO c) {a b d : α} (h1 : c a b < 0) (h2 : c b d ≤ 0) : c a d < 0 := by
  rcases Int.lt_or_eq_of_le h2 with h2 | h2
  · exact h.tr _ _ _ h1 h2
  · rw [← h.eq _ _ h2]; exact h1
theorem le_lt (h : TO c) {a b d : α} (h1 : c a b ≤ 0) (h2 : c b d < 0) : c a d < 0 := by
  rcases Int.lt_or_eq_of_le h1 with h1 | h1
  · exact h.tr _ _ _ h1 h2
  · rw [h.eq _ _ h1]; exact h2
theorem int : TO cmpI := by
  refine ⟨fun a b => ?_, fun a b => ?_, fun a b d => ?_⟩ <;> unfold cmpI <;> (repeat' split) <;> omega
theorem pair {c1 : α → α → Int} {c2 : β → β → Int} (h1 : TO c1) (h2 : TO c2) : TO (fun a b : α × β => orI (c1 a.1 b.1) (c2 a.2 b.2)) := by
  refine ⟨fun a b => ?_, fun a b => ?_, fun a b d => ?_⟩
  · show orI _ _ = - orI _ _
    unfold orI
    rw [h1.flip a.1 b.1, h2.flip a.2 b.2]
    repeat' split
    all_goals omega
  · show orI _ _ = 0 → _
    unfold orI
    split
    · rename_i h0; intro h; exact Prod.ext (h1.eq _ _ h0) (h2.eq _ _ h)
    · intro h; contradiction
  · show orI _ _ < 0 → orI _ _ < 0 → orI _ _ < 0
    unfold orI
    by_cases e1 : c1 a.1 b.1 = 0
    · rw [if_pos e1, h1.eq _ _ e1]
      intro g1 g2
      by_cases e2 : c1 b.1 d.1 = 0
      · rw [if_pos e2] at g2 ⊢; exact h2.tr _ _ _ g1 g2
      · rw [if_neg e2] at g2 ⊢; exact g2
    · rw [if_neg e1]
      intro g1 g2
      by_cases e2 : c1 b.1 d.1 = 0
      · rw [if_pos e2] at g2; rw [← h1.eq _ _ e2, if_neg e1]; exact g1
      · rw [if_neg e2] at g2
        have := h1.tr _ _ _ g1 g2
        rw [if_neg (by omega)]; exact this
theorem via {c : α → α → Int} (h : TO c) (f : β → α) (hf : ∀ x y, f x = f y → x = y) : TO (fun a b => c (f a) (f b)) := ⟨fun a b => h.flip _ _, fun a b e => hf _ _ (h.eq _ _ e), fun a b d => h.tr _ _ _⟩
end TO
/-- Lists, the shorter one first. -/
def cmpL {α : Type} (c : α → α → Int) : List α → List α → Int
  | [], [] => 0
  | [], _ :: _ => -1
  | _ :: _, [] => 1
  | a :: l, b :: r => orI (c a b) (cmpL c l r)
theorem TO.list {α : Type} {c : α → α → Int} (h : TO c) : TO (cmpL c) := by
  refine ⟨?_, ?_, ?_⟩
  · intro a
    induction a with
    | nil => intro b; cases b <;> simp [cmpL]
    | cons x l ih =>
      intro b
      cases b with
      | nil => simp [cmpL]
      | cons y r =>
        simp only [cmpL]
        rw [ih r, h.flip x y]
        unfold orI
        repeat' split
        all_goals omega
  · intro a
    induction a with
    | nil => intro b; cases b <;> simp [cmpL]
    | cons x l ih =>
      intro b
      cases b with
      | nil => simp [cmpL]
      | cons y r =>
        simp only [cmpL]
        unfold orI
        split
        · rename_i h0; intro e; rw [ih r e, h.eq _ _ h0]
        · intro e; contradiction
  · intro a
    induction a with
    | nil =>
      intro b d
      cases b with
      | nil => simp [cmpL]
      | cons y r => cases d with
        | nil => simp [cmpL]
        | cons z s => simp [cmpL]
    | cons x l ih =>
      intro b d
      cases b with
      | nil => simp [cmpL]
      | cons y r =>
        cases d with
        | nil => simp [cmpL]
        | cons z s =>
          simp only [cmpL]
          unfold orI
          by_cases e1 : c x y = 0
          · rw [if_pos e1, h.eq _ _ e1]
            intro g1 g2
            by_cases e2 : c y z = 0
            · rw [if_pos e2] at g2 ⊢; exact ih _ _ g1 g2
            · rw [if_neg e2] at g2 ⊢; exact g2
          · rw [if_neg e1]
            intro g1 g2
            by_cases e2 : c y z = 0
            · rw [if_pos e2] at g2; rw [← h.eq _ _ e2, if_neg e1]; exact g1
            · rw [if_neg e2] at g2
              have := h.tr _ _ _ g1 g2
              rw [if_neg (by omega)]; exact this
theorem cmpB_eq : ∀ a b : List UInt8, Lib.compareBytes a b = cmpL (fun x y => cmpI (x.toNat : Int) (y.toNat : Int)) a b
  | [], [] => rfl
  | [], _ :: _ => rfl
  | _ :: _, [] => rfl
  | a :: l, b :: r => by
    simp only [Lib.compareBytes, cmpL, cmpB_eq l r, orI, cmpI, UInt8.lt_iff_toNat_lt]
    repeat' split
    all_goals omega
theorem TO.bytes : TO (fun a b : ByteArray => Lib.compareBytes a.data.toList b.data.toList) := by
  have h : TO (cmpL (fun x y : UInt8 => cmpI (x.toNat : Int) (y.toNat : Int))) := TO.list (TO.int.via (fun x : UInt8 => (x.toNat : Int)) (fun x y e => UInt8.toNat_inj.1 (by omega)))
  have e : Lib.compareBytes = cmpL (fun x y : UInt8 => cmpI (x.toNat : Int) (y.toNat : Int)) := by
    funext a b; exact cmpB_eq a b
  rw [e]
  exact h.via (fun a : ByteArray => a.data.toList) (fun a b e => by cases a; cases b; simpa [Array.toList_inj] using e)
end Go.Proofs.YtgbodlghggkmoaaDoor.Or
