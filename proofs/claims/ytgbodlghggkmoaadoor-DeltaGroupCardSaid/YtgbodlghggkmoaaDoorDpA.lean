/- The printed functions of the delta laws, plainly: what each returns. -/
import Derived.Test.YtgbodlghggkmoaaDoorG
import Derived.Test.YtgbodlghggkmoaaDoorDlP
import Derived.Lib.Bytealg
namespace Go.Proofs.YtgbodlghggkmoaaDoor.G
set_option linter.unusedVariables false
set_option linter.unusedSimpArgs false
open Go Go.RowKit Go.Proofs.YtgbodlghggkmoaaDoorW.PrintWords Go.Proofs.YtgbodlghggkmoaaDoorW.PrintLast Go.Proofs.YtgbodlghggkmoaaDoorW.PrintMore Go.Proofs.YtgbodlghggkmoaaDoor.Or
abbrev Dlt := S28
abbrev Val := S79
/-- With rounds enough. -/
def Ev {α : Type} (g : Nat → Option α) (r : α) : Prop := ∃ n, ∀ k, n ≤ k → g k = some r
theorem Ev.of {α : Type} {g : Nat → Option α} {r : α} (n : Nat) (h : ∀ k, n ≤ k → g k = some r) : Ev g r := ⟨n, h⟩
theorem Ev.get {α : Type} {g : Nat → Option α} {r : α} (h : Ev g r) : ∃ n, ∀ k, n ≤ k → g k = some r := h
theorem Ev.const {α : Type} {x : Option α} {r : α} (h : x = some r) : Ev (fun _ => x) r := ⟨0, fun _ _ => h⟩
theorem Ev.step {α : Type} {g : Nat → Option α} {r : α} (h : Ev (fun k => g (k + 1)) r) : Ev g r := by
  obtain ⟨n, h⟩ := h
  refine ⟨n + 1, fun k hk => ?_⟩
  obtain ⟨m, rfl⟩ : ∃ m, k = m + 1 := ⟨k - 1, by omega⟩
  exact h m (by omega)
theorem Ev.bind {α β : Type} {g : Nat → Option α} {f : Nat → α → Option β} {x : α} {r : β} (h : Ev g x) (h' : Ev (fun k => f k x) r) : Ev (fun k => (g k).bind (f k)) r := by
  obtain ⟨n, h⟩ := h
  obtain ⟨m, h'⟩ := h'
  exact ⟨n + m, fun k hk => by show (g k).bind (f k) = _; rw [h k (by omega)]; exact h' k (by omega)⟩
theorem Ev.congr {α : Type} {g g' : Nat → Option α} {r : α} (h : Ev g r) (e : ∀ k, g' k = g k) : Ev g' r := by
  obtain ⟨n, h⟩ := h
  exact ⟨n, fun k hk => (e k).trans (h k hk)⟩
theorem wrap_nat {i n : Nat} (h : i < n) (hn : n ≤ 9223372036854775807) : wrap64 ((i : Int) + 1) = ((i + 1 : Nat) : Int) := by unfold wrap64; omega
theorem rdD {l : List Dlt} {i : Nat} (h : i < l.length) : rd_T28 l (i : Int) = l[i] := by simp [rd_T28, List.getD_eq_getElem?_getD, h]
theorem rdV {l : List Val} {i : Nat} (h : i < l.length) : rd_T79 l (i : Int) = l[i] := by simp [rd_T79, List.getD_eq_getElem?_getD, h]
theorem less_cmp : ∀ a b : List UInt8, Op.bytesLess a b = decide (Lib.compareBytes a b < 0)
  | [], [] => by simp [Op.bytesLess, Lib.compareBytes]
  | [], _ :: _ => by simp [Op.bytesLess, Lib.compareBytes]
  | _ :: _, [] => by simp [Op.bytesLess, Lib.compareBytes]
  | a :: l, b :: r => by
    have ih := less_cmp l r
    by_cases h1 : a < b
    · simp [Op.bytesLess, Lib.compareBytes, ih, h1]
    · by_cases h2 : b < a
      · have hne : ¬ a = b := by intro e; subst e; exact h1 h2
        simp [Op.bytesLess, Lib.compareBytes, ih, h1, h2, hne]
      · have he : a = b := by
          rw [UInt8.lt_iff_toNat_lt] at h1 h2
          exact UInt8.toNat_inj.1 (by omega)
        subst he
        simp [Op.bytesLess, Lib.compareBytes, ih]
theorem cmpB_zero {a b : List UInt8} (h : Lib.compareBytes a b = 0) : a = b := by
  have := (TO.bytes).eq ⟨a.toArray⟩ ⟨b.toArray⟩ (by simpa using h)
  simpa using congrArg (fun x : ByteArray => x.data.toList) this
theorem cmpB_range (a b : List UInt8) : Lib.compareBytes a b = -1 ∨ Lib.compareBytes a b = 0 ∨ Lib.compareBytes a b = 1 := by
  induction a generalizing b with
  | nil => cases b <;> simp [Lib.compareBytes]
  | cons x l ih =>
    cases b with
    | nil => simp [Lib.compareBytes]
    | cons y r => simp only [Lib.compareBytes]; split; · simp
                  split; · simp
                  exact ih r
theorem refCompare_f (a b : Val) : errataref03_Compare.f a.f0 a.f1 a.f2 b.f0 b.f1 b.f2 = some (cmpV a b) := by
  unfold errataref03_Compare.f cmpV orI cmpI
  simp only [ByteArray.toList_eq, less_cmp]
  have hr := cmpB_range a.f2.data.toList b.f2.data.toList
  by_cases h1 : a.f0 < b.f0
  · simp [h1]
  · by_cases h2 : b.f0 < a.f0
    · simp [h1, h2]
    · by_cases h3 : a.f1 < b.f1
      · simp [h1, h2, h3]
      · by_cases h4 : b.f1 < a.f1
        · simp [h1, h2, h3, h4]
        · simp only [h1, h2, h3, h4, if_false, if_true, gt_iff_lt, ↓reduceIte]
          rcases hr with hr | hr | hr
          · simp [hr]
          · have e := cmpB_zero hr
            have hs : Lib.compareBytes b.f2.data.toList b.f2.data.toList = 0 := (TO.bytes).self b.f2
            rw [e, hs]; simp
          · have hne : (a.f2.data.toList == b.f2.data.toList) = false := by
              rw [beq_eq_false_iff_ne]
              intro e; rw [e] at hr
              have hs : Lib.compareBytes b.f2.data.toList b.f2.data.toList = 0 := (TO.bytes).self b.f2
              omega
            rw [hne, hr]; simp
theorem refRows_l (a b : List Val) (ha : a.length ≤ 9223372036854775807) (hb : b.length ≤ 9223372036854775807) (d : Nat) : ∀ i : Nat, i ≤ a.length → i ≤ b.length → a.length - i = d →
    ∀ k, 2 * d + 2 ≤ k → errataref03_CompareRows.l0 k a b i = some (cmpR (a.drop i) (b.drop i)) := by
  induction d with
  | zero =>
    intro i hi hi' hd k hk
    obtain ⟨k, rfl⟩ : ∃ m, k = m + 2 := ⟨k - 2, by omega⟩
    have e : i = a.length := by omega
    subst e
    rw [show k + 2 = (k + 1) + 1 from rfl]
    simp only [errataref03_CompareRows.l0]
    rw [if_neg (by omega)]
    simp only [errataref03_CompareRows.j1, Bool.false_eq_true, if_false]
    rw [List.drop_length]
    rcases Nat.lt_or_ge a.length b.length with h | h
    · rw [if_pos (by omega), List.drop_eq_getElem_cons h]; rfl
    · have : b.drop a.length = [] := List.drop_eq_nil_of_le h
      rw [if_neg (by omega), if_neg (by omega), this]; rfl
  | succ d ih =>
    intro i hi hi' hd k hk
    obtain ⟨k, rfl⟩ : ∃ m, k = m + 2 := ⟨k - 2, by omega⟩
    have h0 : i < a.length := by omega
    rw [show k + 2 = (k + 1) + 1 from rfl]
    simp only [errataref03_CompareRows.l0]
    rw [if_pos (by omega)]
    simp only [errataref03_CompareRows.j1]
    rcases Nat.lt_or_ge i b.length with h1 | h1
    · rw [if_pos (decide_eq_true (by omega)), if_pos (by omega), if_pos (by omega), if_pos (by omega), rdV h0, rdV h1, refCompare_f]
      simp only [Option.bind_some]
      rw [List.drop_eq_getElem_cons h0, List.drop_eq_getElem_cons h1]
      simp only [cmpR, cmpL, orI]
      split
      · rw [wrap_nat h0 ha]; exact ih (i + 1) (by omega) (by omega) (by omega) k (by omega)
      · rfl
    · have e : b.drop i = [] := List.drop_eq_nil_of_le h1
      rw [if_neg (by simp; omega), if_neg (by omega), if_pos (by omega), e, List.drop_eq_getElem_cons h0]; rfl
theorem refRows_f (a b : List Val) (ha : a.length ≤ 9223372036854775807) (hb : b.length ≤ 9223372036854775807) : Ev (fun k => errataref03_CompareRows.f k a b) (cmpR a b) :=
  ⟨2 * a.length + 2, fun k hk => by unfold errataref03_CompareRows.f; exact refRows_l a b ha hb a.length 0 (by omega) (by omega) (by omega) k hk⟩
theorem refCmp_f (x y : Dlt) (hx : x.f1.length ≤ 9223372036854775807) (hy : y.f1.length ≤ 9223372036854775807) : Ev (fun k => errataref28_Compare.f k x.f0 x.f1 x.f2 y.f0 y.f1 y.f2) (cmpD x y) := by
  obtain ⟨n, h⟩ := (refRows_f x.f1 y.f1 hx hy).get
  refine ⟨n, fun k hk => ?_⟩
  show errataref28_Compare.f k x.f0 x.f1 x.f2 y.f0 y.f1 y.f2 = _
  unfold errataref28_Compare.f
  rw [h k hk]
  simp only [cmpD, cK, orI, cmpI, Option.bind_some]
  by_cases h1 : x.f0 < y.f0
  · simp [h1]
  · by_cases h2 : x.f0 > y.f0
    · simp [h1, h2]
    · simp [h1, h2]
/-- Lists that the functions take without a fault. -/
def Wide (l : List Dlt) : Prop := l.length ≤ 9223372036854775807 ∧ ∀ x ∈ l, x.f1.length ≤ 9223372036854775807
theorem OkD.wide {l : List Dlt} (h : OkD l) : Wide l := ⟨by have := h.1; omega, fun x hx => by have := (h.2 x hx).1; omega⟩
theorem cmpD_eq {x y : Dlt} : cmpD x y = 0 ∧ x.f2 = y.f2 ↔ x = y := by
  constructor
  · intro ⟨h, h'⟩; exact GD.ext x y (GD.ord.eq _ _ h) h'
  · rintro rfl; exact ⟨GD.ord.self _, rfl⟩
theorem refEqual_l (a b : List Dlt) (ha : Wide a) (hb : Wide b) (he : a.length = b.length) (d : Nat) : ∀ i : Nat, i ≤ a.length → a.length - i = d → ∃ r, Ev (fun k => errataref28_Equal.l0 k a b i) r ∧ (r = true ↔ a.drop i = b.drop i) := by
  induction d with
  | zero =>
    intro i hi hd
    refine ⟨true, Ev.step (Ev.of 0 fun k _ => ?_), ?_⟩
    · simp only [errataref28_Equal.l0]
      rw [if_neg (by omega)]
    · rw [List.drop_eq_nil_of_le (by omega), List.drop_eq_nil_of_le (by omega)]; simp
  | succ d ih =>
    intro i hi hd
    have h0 : i < a.length := by omega
    have h1 : i < b.length := by omega
    obtain ⟨r, hE, hr⟩ := ih (i + 1) (by omega) (by omega)
    obtain ⟨n, h⟩ := hE.get
    obtain ⟨m, h'⟩ := (refCmp_f a[i] b[i] (ha.2 _ (List.getElem_mem h0)) (hb.2 _ (List.getElem_mem h1))).get
    have e := cmpD_eq (x := a[i]) (y := b[i])
    by_cases h2 : cmpD a[i] b[i] = 0 ∧ a[i].f2 = b[i].f2
    · refine ⟨r, Ev.step (Ev.of (n + m) fun k hk => ?_), ?_⟩
      · simp only [errataref28_Equal.l0]
        rw [if_pos (by omega), if_pos (by omega), if_pos (by omega), rdD h0, rdD h1, h' k (by omega), Option.bind_some, if_pos h2.1, if_pos h2.2, wrap_nat h0 ha.1, h k (by omega)]
      · have ea := List.drop_eq_getElem_cons h0
        have eb := List.drop_eq_getElem_cons h1
        rw [hr, ea, eb, e.1 h2, List.cons.injEq]; exact ⟨fun h => ⟨rfl, h⟩, fun h => h.2⟩
    · refine ⟨false, Ev.step (Ev.of (n + m) fun k hk => ?_), ?_⟩
      · simp only [errataref28_Equal.l0]
        rw [if_pos (by omega), if_pos (by omega), if_pos (by omega), rdD h0, rdD h1, h' k (by omega), Option.bind_some]
        by_cases h3 : cmpD a[i] b[i] = 0
        · rw [if_pos h3, if_neg (fun h4 => h2 ⟨h3, h4⟩)]
        · rw [if_neg h3]
      · have ea := List.drop_eq_getElem_cons h0
        have eb := List.drop_eq_getElem_cons h1
        rw [ea, eb]
        constructor
        · intro h; cases h
        · intro h; exact absurd (e.2 (List.cons.inj h).1) h2
theorem refEqual_f (a b : List Dlt) (ha : Wide a) (hb : Wide b) : ∃ r, Ev (fun k => errataref28_Equal.f k a b) r ∧ (r = true ↔ a = b) := by
  by_cases he : a.length = b.length
  · obtain ⟨r, hE, hr⟩ := refEqual_l a b ha hb he a.length 0 (by omega) (by omega)
    refine ⟨r, hE.congr fun k => ?_, by simpa using hr⟩
    unfold errataref28_Equal.f
    rw [if_pos (by omega)]; rfl
  · refine ⟨false, Ev.of 0 fun k _ => ?_, ?_⟩
    · show errataref28_Equal.f k a b = _
      unfold errataref28_Equal.f
      rw [if_neg (by omega)]
    · constructor
      · intro h; cases h
      · intro q; exact absurd (by rw [q]) he
theorem refEqual_same (a b : List Dlt) (ha : Wide a) (e : a = b) : Ev (fun k => errataref28_Equal.f k a b) true := by
  subst e
  obtain ⟨r, hE, hr⟩ := refEqual_f a a ha ha
  rw [hr.2 rfl] at hE; exact hE
theorem compare5 (x y : Dlt) {k : Nat} (hk : 5 ≤ k) : delta_compare.f k x.f0 x.f1 x.f2 y.f0 y.f1 y.f2 = some (cmpD x y) := by
  have h := delta_compare_f x y
  have mono : ∀ m, delta_compare.f (5 + m) x.f0 x.f1 x.f2 y.f0 y.f1 y.f2 = some (cmpD x y) := by
    intro m
    induction m with
    | zero => exact h
    | succ m ih => exact delta_compare.mono _ _ _ _ _ _ _ _ ih
  have := mono (k - 5)
  rwa [show 5 + (k - 5) = k by omega] at this
theorem find_l (l : List Dlt) (t : Int) (r : List Val) (hl : l.length ≤ 9223372036854775807) (d : Nat) : ∀ (i : Nat) (n : Int), i ≤ l.length → l.length - i = d → wrap64 n = n →
    Ev (fun k => delta_Find.l0 k t r n l (l.length : Int) i) (wrap64 (n + totD (t, r) (l.drop i))) := by
  induction d with
  | zero =>
    intro i n hi hd hn
    refine Ev.step (Ev.of 0 fun k _ => ?_)
    simp only [delta_Find.l0]
    rw [if_neg (by omega), List.drop_eq_nil_of_le (by omega)]
    simp only [totD, tot, Int.add_zero, hn]
  | succ d ih =>
    intro i n hi hd hn
    have h0 : i < l.length := by omega
    obtain ⟨n1, h1⟩ := (ih (i + 1) (wrap64 (n + l[i].f2)) (by omega) (by omega) (wrap64_idem _)).get
    obtain ⟨n2, h2⟩ := (ih (i + 1) n (by omega) (by omega) hn).get
    refine Ev.step (Ev.of (n1 + n2 + 5) fun k hk => ?_)
    simp only [delta_Find.l0]
    have hc := compare5 l[i] ⟨t, r, 0⟩ (k := k) (by omega)
    rw [if_pos (by omega), if_pos (by omega), if_pos (by omega), rdD h0, hc]
    simp only [Option.bind_some]
    rw [wrap_nat h0 hl, h1 k (by omega), h2 k (by omega), List.drop_eq_getElem_cons h0]
    simp only [totD, tot]
    have : cmpD l[i] ⟨t, r, 0⟩ = cK (kyD l[i]) (t, r) := rfl
    rw [this]
    by_cases h : cK (kyD l[i]) (t, r) = 0
    · rw [if_pos h, if_pos h]; congr 1; simp only [numD]; unfold wrap64; omega
    · rw [if_neg h, if_neg h, Int.zero_add]
theorem find_f (l : List Dlt) (t : Int) (r : List Val) (hl : l.length ≤ 9223372036854775807) : Ev (fun k => delta_Find.f k l t r) (wrap64 (totD (t, r) l)) := by
  have := find_l l t r hl l.length 0 0 (by omega) (by omega) (by unfold wrap64; omega)
  rw [Int.zero_add] at this
  exact this.congr fun k => rfl
theorem right_f (a b : Int) (c : ByteArray) : ∃ r, errataref03_Right.f a b c = some r := by
  unfold errataref03_Right.f
  (repeat' split) <;> exact ⟨_, rfl⟩
theorem all_l (l : List Val) (hl : l.length ≤ 9223372036854775807) (d : Nat) : ∀ (i : Nat), i ≤ l.length → l.length - i = d → ∃ r, Ev (fun k => errataref03_All.l0 k l i) r := by
  induction d with
  | zero =>
    intro i hi hd
    refine ⟨true, Ev.step (Ev.of 0 fun k _ => ?_)⟩
    simp only [errataref03_All.l0]
    rw [if_neg (by omega)]
  | succ d ih =>
    intro i hi hd
    have h0 : i < l.length := by omega
    obtain ⟨r1, E1⟩ := ih (i + 1) (by omega) (by omega)
    obtain ⟨n1, h1⟩ := E1.get
    obtain ⟨b, hb⟩ := right_f l[i].f0 l[i].f1 l[i].f2
    refine ⟨if b = true then r1 else false, Ev.step (Ev.of n1 fun k hk => ?_)⟩
    simp only [errataref03_All.l0]
    rw [if_pos (by omega), if_pos (by omega), rdV h0, hb, wrap_nat h0 hl, h1 k (by omega)]
    cases b <;> rfl
theorem rightRow_f (l : List Val) (hl : l.length ≤ 9223372036854775807) : ∃ r, Ev (fun k => errataref03_RightRow.f k l) r := by
  obtain ⟨r, E⟩ := all_l l hl l.length 0 (by omega) (by omega)
  obtain ⟨n, h⟩ := E.get
  by_cases hc : (l.length : Int) ≤ 12
  · refine ⟨r, n, fun k hk => ?_⟩
    show errataref03_RightRow.f k l = _
    unfold errataref03_RightRow.f errataref03_All.f
    rw [if_pos hc]
    have : errataref03_All.l0 k l 0 = some r := h k hk
    rw [this]; rfl
  · refine ⟨false, 0, fun k _ => ?_⟩
    show errataref03_RightRow.f k l = _
    unfold errataref03_RightRow.f
    rw [if_neg hc]
/-- What few says of the elements from i on. -/
def Fit (n : Int) (l : List Dlt) : Prop := (l.length : Int) ≤ n ∧ ∀ x ∈ l, x.f1.length ≤ 10
theorem few_in (l : List Dlt) (n : Int) (i : Nat) (hi : i < l.length) (hr : l[i].f1.length ≤ 9223372036854775807) (r : Bool) (hnext : Ev (fun k => erratalaw28_few.l0 k l n ((i + 1 : Nat) : Int)) r) (hl : l.length ≤ 9223372036854775807) (d : Nat) : ∀ (j : Nat), j ≤ l[i].f1.length → l[i].f1.length - j = d →
    ∃ r', Ev (fun k => erratalaw28_few.l1 k l n i j) r' ∧ (r' = true → r = true ∧ l[i].f1.length ≤ 10) := by
  induction d with
  | zero =>
    intro j hj hd
    obtain ⟨n1, h1⟩ := (hnext).get
    obtain ⟨b, E2⟩ := rightRow_f l[i].f1 hr
    obtain ⟨n2, h2⟩ := E2.get
    by_cases hc : (l[i].f1.length : Int) > 10
    · refine ⟨false, Ev.step (Ev.of 0 fun k hk => ?_), fun h => by cases h⟩
      simp only [erratalaw28_few.l1]
      rw [if_pos (by omega), if_pos (by omega), rdD hi, if_neg (by omega), if_pos hc]
    · refine ⟨if b = true then r else false, Ev.step (Ev.of (n1 + n2) fun k hk => ?_), fun h => ?_⟩
      · simp only [erratalaw28_few.l1]
        rw [if_pos (by omega), if_pos (by omega), rdD hi, if_neg (by omega), if_neg hc, h2 k (by omega), wrap_nat hi hl, h1 k (by omega)]
        cases b <;> rfl
      · cases b with
        | false => cases h
        | true => exact ⟨h, by omega⟩
  | succ d ih =>
    intro j hj hd
    have h0 : j < l[i].f1.length := by omega
    obtain ⟨r', E1, hr'⟩ := ih (j + 1) (by omega) (by omega)
    obtain ⟨n1, h1⟩ := E1.get
    by_cases hs : ((rd_T79 l[i].f1 j).f2.size : Int) > 200
    · refine ⟨false, Ev.step (Ev.of n1 fun k hk => ?_), fun h => by cases h⟩
      simp only [erratalaw28_few.l1]
      rw [if_pos (by omega), if_pos (by omega), rdD hi, if_pos (by omega), if_pos (by omega), if_pos hs]
    · refine ⟨r', Ev.step (Ev.of n1 fun k hk => ?_), hr'⟩
      simp only [erratalaw28_few.l1]
      rw [if_pos (by omega), if_pos (by omega), rdD hi, if_pos (by omega), if_pos (by omega), if_neg hs, wrap_nat h0 hr, h1 k (by omega)]
theorem few_l (l : List Dlt) (n : Int) (hl : Wide l) (d : Nat) : ∀ (i : Nat), i ≤ l.length → l.length - i = d → ∃ r, Ev (fun k => erratalaw28_few.l0 k l n i) r ∧ (r = true → (l.length : Int) ≤ n ∧ ∀ j (h : j < l.length), i ≤ j → l[j].f1.length ≤ 10) := by
  induction d with
  | zero =>
    intro i hi hd
    refine ⟨decide ((l.length : Int) ≤ n), Ev.step (Ev.step (Ev.of 0 fun k _ => ?_)), fun h => ⟨of_decide_eq_true h, fun j h1 h2 => by omega⟩⟩
    simp only [erratalaw28_few.l0, erratalaw28_few.j1]
    rw [if_neg (by omega), if_neg (by simp)]
  | succ d ih =>
    intro i hi hd
    have h0 : i < l.length := by omega
    by_cases hc : (i : Int) ≤ n
    · obtain ⟨r1, hE, hr1⟩ := ih (i + 1) (by omega) (by omega)
      obtain ⟨r', E1, hr'⟩ := few_in l n i h0 (hl.2 _ (List.getElem_mem h0)) r1 hE hl.1 l[i].f1.length 0 (by omega) (by omega)
      obtain ⟨n1, h1⟩ := E1.get
      refine ⟨r', Ev.step (Ev.step (Ev.of n1 fun k hk => ?_)), fun h => ?_⟩
      · simp only [erratalaw28_few.l0, erratalaw28_few.j1]
        rw [if_pos (by omega), if_pos (decide_eq_true hc)]
        exact h1 k hk
      · obtain ⟨e1, e2⟩ := hr' h
        obtain ⟨e3, e4⟩ := hr1 e1
        refine ⟨e3, fun j hj hij => ?_⟩
        rcases Nat.eq_or_lt_of_le hij with e | e
        · subst e; exact e2
        · exact e4 j hj e
    · refine ⟨decide ((l.length : Int) ≤ n), Ev.step (Ev.step (Ev.of 0 fun k _ => ?_)), fun h => ?_⟩
      · simp only [erratalaw28_few.l0, erratalaw28_few.j1]
        rw [if_pos (by omega), if_neg (by simp; omega)]
      · exfalso; have := of_decide_eq_true h; omega
theorem few_f (l : List Dlt) (n : Int) (hl : Wide l) : ∃ r, Ev (fun k => erratalaw28_few.f k l n) r ∧ (r = true → Fit n l) := by
  obtain ⟨r, hE, h⟩ := few_l l n hl l.length 0 (by omega) (by omega)
  refine ⟨r, by simpa [erratalaw28_few.f] using hE, fun hr => ?_⟩
  obtain ⟨h1, h2⟩ := h hr
  refine ⟨h1, fun x hx => ?_⟩
  obtain ⟨j, hj, rfl⟩ := List.mem_iff_getElem.1 hx
  exact h2 j hj (by omega)
/-- The numbers are in range. -/
abbrev RgD (l : List Dlt) : Prop := Rg numD l
theorem Fit.ok {n : Int} {l : List Dlt} (h : Fit n l) (hn : n ≤ 1099511627776) (hr : RgD l) : OkD l := ⟨by have := h.1; omega, fun x hx => ⟨by have := h.2 x hx; omega, hr x hx⟩⟩
/-- A list of at most n elements with rows of at most 10 values, all in range. -/
structure Sml (n : Nat) (l : List Dlt) : Prop where
  len : l.length ≤ n
  row : ∀ x ∈ l, x.f1.length ≤ 10
  rg : RgD l
theorem Sml.ok {n : Nat} {l : List Dlt} (h : Sml n l) (hn : n ≤ 1000000) : OkD l := ⟨by have := h.len; omega, fun x hx => ⟨by have := h.row x hx; omega, h.rg x hx⟩⟩
theorem Sml.wide {n : Nat} {l : List Dlt} (h : Sml n l) (hn : n ≤ 1000000) : Wide l := (h.ok hn).wide
theorem Sml.app {n m : Nat} {l r : List Dlt} (h : Sml n l) (h' : Sml m r) : Sml (n + m) (l ++ r) := ⟨by rw [List.length_append]; have := h.len; have := h'.len; omega, fun x hx => (List.mem_append.1 hx).elim (h.row x) (h'.row x), h.rg.app h'.rg⟩
theorem Sml.filter {n : Nat} {l : List Dlt} (h : Sml n l) (p : Dlt → Bool) : Sml n (l.filter p) := ⟨Nat.le_trans (List.length_filter_le _ _) h.len, fun x hx => h.row x (List.mem_filter.1 hx).1, h.rg.filter p⟩
theorem Sml.cons {n : Nat} {l : List Dlt} (h : Sml n l) : Sml n (consD l) := by
  refine ⟨Nat.le_trans (cons_length l) h.len, fun x hx => ?_, Rg.cons GD h.rg⟩
  obtain ⟨y, hy, e⟩ := cons_mem GD hx
  have e2 : y.f1 = x.f1 := congrArg Prod.snd e
  rw [← e2]; exact h.row y hy
theorem Sml.neg {n : Nat} {l : List Dlt} (h : Sml n l) : Sml n (l.map (neg numD putD)) := by
  refine ⟨by rw [List.length_map]; exact h.len, fun x hx => ?_, Rg.neg GD l⟩
  obtain ⟨y, hy, rfl⟩ := List.mem_map.1 hx
  exact h.row y hy
theorem Sml.canon {n : Nat} {l : List Dlt} (h : Sml n l) : Canon kyD numD cK (consD l) := cons_canon GD h.rg
theorem Fit.sml {n : Nat} {l : List Dlt} (h : Fit n l) (hr : RgD l) : Sml n l := ⟨by have := h.1; omega, h.2, hr⟩
end Go.Proofs.YtgbodlghggkmoaaDoor.G
