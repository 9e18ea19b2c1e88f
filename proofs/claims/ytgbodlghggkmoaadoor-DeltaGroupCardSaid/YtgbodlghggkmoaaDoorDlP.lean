/- The laws of sums of numbers at keys, plainly: canonical forms of lists put together, parted and negated. -/
import Derived.Test.YtgbodlghggkmoaaDoorDlC
namespace Go.Proofs.YtgbodlghggkmoaaDoor.Or
set_option linter.unusedVariables false
set_option linter.unusedSimpArgs false
open Go Go.RowKit
section
variable {E κ : Type} {key : E → κ} {num : E → Int} {put : E → Int → E} {c : κ → κ → Int}
theorem tot_filter (G : GE key num put c) (p : κ → Bool) (k : κ) : ∀ l : List E, tot key num c k (l.filter (fun x => p (key x))) = if p k = true then tot key num c k l else 0
  | [] => by simp [tot]
  | x :: l => by
    have ih := tot_filter G p k l
    rw [List.filter_cons]
    by_cases h : c (key x) k = 0
    · have e := G.ord.eq _ _ h
      by_cases hp : p k = true
      · rw [if_pos (by rw [e]; exact hp)]
        simp only [tot, ih, if_pos hp]
      · rw [if_neg (by rw [e]; exact hp), ih, if_neg hp, if_neg hp]
    · by_cases hp : p (key x) = true
      · rw [if_pos hp]; simp only [tot, ih, if_neg h]; split <;> omega
      · rw [if_neg hp, ih]; simp only [tot, if_neg h]; split <;> omega
/-- An element with the number negated. -/
def neg (num : E → Int) (put : E → Int → E) (x : E) : E := put x (wrap64 (-num x))
theorem tot_neg (G : GE key num put c) (k : κ) : ∀ l : List E, wrap64 (tot key num c k (l.map (neg num put))) = wrap64 (-tot key num c k l)
  | [] => by simp [tot]
  | x :: l => by
    have ih := tot_neg G k l
    simp only [List.map_cons, tot, neg, G.kp, G.np] at ih ⊢
    split
    · unfold wrap64 at *; omega
    · unfold wrap64 at *; omega
/-- All numbers. -/
def cnt (num : E → Int) : List E → Int
  | [] => 0
  | x :: l => num x + cnt num l
theorem cnt_append : ∀ l r : List E, cnt num (l ++ r) = cnt num l + cnt num r
  | [], r => by simp [cnt]
  | x :: l, r => by simp only [List.cons_append, cnt, cnt_append l r]; omega
theorem cnt_perm {l r : List E} (h : l.Perm r) : cnt num l = cnt num r := by
  induction h with
  | nil => rfl
  | cons x _ ih => simp only [cnt, ih]
  | swap x y l => simp only [cnt]; omega
  | trans _ _ h1 h2 => exact h1.trans h2
theorem cnt_emit (d : E) : cnt num (emit num d) = num d := by
  unfold emit
  by_cases h : num d = 0
  · rw [if_pos h, h]; simp [cnt]
  · rw [if_neg h]; simp [cnt]
theorem cnt_grp (G : GE key num put c) : ∀ (l : List E) (d : E), wrap64 (cnt num (grp key num put c d l)) = wrap64 (cnt num (d :: l))
  | [], d => by simp only [grp, cnt_emit, cnt]; rw [Int.add_zero]
  | x :: l, d => by
    simp only [grp]
    by_cases h : c (key d) (key x) = 0
    · rw [if_pos h, cnt_grp G l]
      simp only [cnt, G.np]
      unfold wrap64; omega
    · rw [if_neg h, cnt_append, cnt_emit]
      have := cnt_grp G l x
      simp only [cnt] at this ⊢
      unfold wrap64 at *
      omega
theorem cnt_cons (G : GE key num put c) (l : List E) : wrap64 (cnt num (cons key num put c l)) = wrap64 (cnt num l) := by
  unfold cons
  have hp := cnt_perm (num := num) (List.mergeSort_perm l (leK key c))
  rw [← hp]
  cases l.mergeSort (leK key c) with
  | nil => rfl
  | cons x l => exact cnt_grp G l x
/-- All numbers are in range. -/
def Rg (num : E → Int) (l : List E) : Prop := ∀ x ∈ l, wrap64 (num x) = num x
theorem Rg.app {l r : List E} (h : Rg num l) (h' : Rg num r) : Rg num (l ++ r) := fun x hx => (List.mem_append.1 hx).elim (h x) (h' x)
theorem Rg.filter {l : List E} (p : E → Bool) (h : Rg num l) : Rg num (l.filter p) := fun x hx => h x (List.mem_filter.1 hx).1
theorem Rg.neg (G : GE key num put c) (l : List E) : Rg num (l.map (neg num put)) := by
  intro x hx
  obtain ⟨y, _, rfl⟩ := List.mem_map.1 hx
  show wrap64 (num (put y _)) = num (put y _)
  rw [G.np]; exact wrap64_idem _
theorem Rg.cons (G : GE key num put c) {l : List E} (h : Rg num l) : Rg num (cons key num put c l) := (cons_canon G h).rg
theorem law_both (G : GE key num put c) {l : List E} (p : κ → Bool) (h : Rg num l) : (cons key num put c) ((cons key num put c) (l.filter (fun x => p (key x))) ++ (cons key num put c) (l.filter (fun x => !p (key x)))) = (cons key num put c) l := by
  refine cons_eq G (Rg.app (Rg.cons G (h.filter _)) (Rg.cons G (h.filter _))) h (fun k => ?_)
  have e1 := cons_tot G k (l.filter (fun x => p (key x)))
  have e2 := cons_tot G k (l.filter (fun x => !p (key x)))
  rw [tot_filter G p] at e1
  rw [tot_filter G (fun z => !p z)] at e2
  rw [tot_append]
  cases hp : p k <;> simp only [hp, Bool.not_false, Bool.not_true, if_true, Bool.false_eq_true, if_false] at e1 e2 <;> unfold wrap64 at * <;> omega
theorem law_filter_add (G : GE key num put c) {a b : List E} (p : κ → Bool) (ha : Rg num a) (hb : Rg num b) : (cons key num put c) (((cons key num put c) (a ++ b)).filter (fun x => p (key x))) = (cons key num put c) ((cons key num put c) (a.filter (fun x => p (key x))) ++ (cons key num put c) (b.filter (fun x => p (key x)))) := by
  refine cons_eq G ((Rg.cons G (ha.app hb)).filter _) (Rg.app (Rg.cons G (ha.filter _)) (Rg.cons G (hb.filter _))) (fun k => ?_)
  have e0 := cons_tot G k (a ++ b)
  have e1 := cons_tot G k (a.filter (fun x => p (key x)))
  have e2 := cons_tot G k (b.filter (fun x => p (key x)))
  rw [tot_append] at e0
  rw [tot_filter G p] at e1 e2
  rw [tot_filter G p, tot_append]
  cases hp : p k <;> simp only [hp, if_true, Bool.false_eq_true, if_false] at e1 e2 ⊢ <;> unfold wrap64 at * <;> omega
theorem law_filter_sub (G : GE key num put c) {a b : List E} (p : κ → Bool) (ha : Rg num a) (hb : Rg num b) : (cons key num put c) (((cons key num put c) (a ++ b.map (neg num put))).filter (fun x => p (key x))) = (cons key num put c) ((cons key num put c) (a.filter (fun x => p (key x))) ++ ((cons key num put c) (b.filter (fun x => p (key x)))).map (neg num put)) := by
  refine cons_eq G ((Rg.cons G (ha.app (Rg.neg G b))).filter _) (Rg.app (Rg.cons G (ha.filter _)) (Rg.neg G _)) (fun k => ?_)
  have e0 := cons_tot G k (a ++ b.map (neg num put))
  have e1 := cons_tot G k (a.filter (fun x => p (key x)))
  have e2 := cons_tot G k (b.filter (fun x => p (key x)))
  have e3 := tot_neg G k b
  have e4 := tot_neg G k ((cons key num put c) (b.filter (fun x => p (key x))))
  rw [tot_append] at e0
  rw [tot_filter G p] at e1 e2
  rw [tot_filter G p, tot_append]
  cases hp : p k <;> simp only [hp, if_true, Bool.false_eq_true, if_false] at e1 e2 ⊢ <;> unfold wrap64 at * <;> omega
theorem law_filter_filter (G : GE key num put c) {a : List E} (p q : κ → Bool) (ha : Rg num a) : (cons key num put c) (((cons key num put c) (a.filter (fun x => p (key x)))).filter (fun x => q (key x))) = (cons key num put c) (a.filter (fun x => p (key x) && q (key x))) := by
  refine cons_eq G ((Rg.cons G (ha.filter _)).filter _) (ha.filter _) (fun k => ?_)
  have e1 := cons_tot G k (a.filter (fun x => p (key x)))
  rw [tot_filter G p] at e1
  rw [tot_filter G q, tot_filter G (fun z => p z && q z)]
  cases hp : p k <;> cases hq : q k <;> simp only [hp, Bool.and_true, Bool.and_false, if_true, Bool.false_eq_true, if_false] at e1 ⊢ <;> unfold wrap64 at * <;> omega
theorem law_comm (G : GE key num put c) {a b : List E} (ha : Rg num a) (hb : Rg num b) : (cons key num put c) (a ++ b) = (cons key num put c) (b ++ a) :=
  cons_eq G (ha.app hb) (hb.app ha) (fun k => by rw [tot_append, tot_append, Int.add_comm])
theorem law_assoc (G : GE key num put c) {a b d : List E} (ha : Rg num a) (hb : Rg num b) (hd : Rg num d) : (cons key num put c) ((cons key num put c) (a ++ b) ++ d) = (cons key num put c) (a ++ (cons key num put c) (b ++ d)) := by
  refine cons_eq G ((Rg.cons G (ha.app hb)).app hd) (ha.app (Rg.cons G (hb.app hd))) (fun k => ?_)
  have e0 := cons_tot G k (a ++ b)
  have e1 := cons_tot G k (b ++ d)
  rw [tot_append] at e0 e1 ⊢
  rw [tot_append]
  unfold wrap64 at *; omega
theorem law_add_sub (G : GE key num put c) {a b : List E} (ha : Rg num a) (hb : Rg num b) : (cons key num put c) ((cons key num put c) (a ++ b) ++ b.map (neg num put)) = (cons key num put c) a := by
  refine cons_eq G ((Rg.cons G (ha.app hb)).app (Rg.neg G b)) ha (fun k => ?_)
  have e0 := cons_tot G k (a ++ b)
  have e1 := tot_neg G k b
  rw [tot_append] at e0 ⊢
  unfold wrap64 at *; omega
theorem law_sub_self (G : GE key num put c) {a : List E} (ha : Rg num a) : (cons key num put c) (a ++ a.map (neg num put)) = [] := by
  have e : (cons key num put c) ([] : List E) = [] := by unfold cons; rw [List.mergeSort_nil]; rfl
  rw [← e]
  refine cons_eq G (ha.app (Rg.neg G a)) (fun x hx => by cases hx) (fun k => ?_)
  have e1 := tot_neg G k a
  rw [tot_append]
  simp only [tot]
  unfold wrap64 at *; omega
theorem law_idem (G : GE key num put c) {a : List E} (ha : Rg num a) : (cons key num put c) ((cons key num put c) a) = (cons key num put c) a :=
  cons_eq G (Rg.cons G ha) ha (fun k => cons_tot G k a)
theorem law_find (G : GE key num put c) (a b : List E) (k : κ) : wrap64 (tot key num c k ((cons key num put c) (a ++ b))) = wrap64 (wrap64 (tot key num c k a) + wrap64 (tot key num c k b)) := by
  rw [cons_tot G, tot_append]; unfold wrap64; omega
theorem law_cnt (G : GE key num put c) (a b : List E) : wrap64 (cnt num ((cons key num put c) (a ++ b))) = wrap64 (wrap64 (cnt num a) + wrap64 (cnt num b)) := by
  rw [cnt_cons G, cnt_append]; unfold wrap64; omega
theorem law_perm (G : GE key num put c) {a b : List E} (ha : Rg num a) (h : a.Perm b) : (cons key num put c) b = (cons key num put c) a :=
  cons_eq G (fun x hx => ha x (h.mem_iff.2 hx)) ha (fun k => by rw [tot_perm k h])
end
end Go.Proofs.YtgbodlghggkmoaaDoor.Or
