/- The plain law of the library's stable sort: what its steps do to a row, for whatever strict weak order. -/
import Derived.Sort.LotA
import Derived.Sort.WalkA
namespace Go.Proofs.YtgbodlghggkmoaaDoor.SrtP
set_option linter.unusedSectionVars false
set_option linter.unusedVariables false
set_option linter.unusedSimpArgs false
open Go Go.Sort
variable {α : Type} [Inhabited α] {lt : α → α → Bool}

def eqv (lt : α → α → Bool) (z x : α) : Bool := !lt z x && !lt x z
def seg (d : Array α) (a b : Nat) : List α := (List.range (b - a)).map (fun i => d[a + i]!)

theorem seg_length (d : Array α) (a b : Nat) : (seg d a b).length = b - a := by simp [seg]
theorem seg_append (d : Array α) {a m b : Nat} (h1 : a ≤ m) (h2 : m ≤ b) : seg d a b = seg d a m ++ seg d m b := by
  unfold seg
  rw [show b - a = (m - a) + (b - m) by omega, List.range_add, List.map_append, List.map_map]
  congr 1
  apply List.map_congr_left
  intro i _
  simp only [Function.comp]
  rw [show a + (m - a + i) = m + i by omega]
theorem seg_congr {d d' : Array α} {a b : Nat} (h : ∀ i, a ≤ i → i < b → d'[i]! = d[i]!) : seg d' a b = seg d a b := by
  unfold seg
  apply List.map_congr_left
  intro i hi
  simp at hi
  exact h _ (by omega) (by omega)
theorem seg_nil (d : Array α) {a b : Nat} (h : b ≤ a) : seg d a b = [] := by
  unfold seg; rw [show b - a = 0 by omega]; rfl
theorem seg_one (d : Array α) (a : Nat) : seg d a (a + 1) = [d[a]!] := by
  unfold seg; rw [show a + 1 - a = 1 by omega]; rfl
theorem seg_mem {d : Array α} {a b : Nat} {x : α} : x ∈ seg d a b ↔ ∃ i, a ≤ i ∧ i < b ∧ d[i]! = x := by
  unfold seg
  simp only [List.mem_map, List.mem_range]
  constructor
  · rintro ⟨i, hi, rfl⟩; exact ⟨a + i, by omega, by omega, rfl⟩
  · rintro ⟨i, h1, h2, rfl⟩; exact ⟨i - a, by omega, by rw [show a + (i - a) = i by omega]⟩
theorem seg_all (d : Array α) : seg d 0 d.size = d.toList := by
  unfold seg
  apply List.ext_getElem
  · simp
  · intro i h1 h2
    simp at h1
    simp [h1]

theorem eqv_symm (z x : α) : eqv lt z x = eqv lt x z := by unfold eqv; rw [Bool.and_comm]
theorem eqv_self (hS : SWO lt) (x : α) : eqv lt x x = true := by simp [eqv, hS.irrefl]
theorem eqv_lt (hS : SWO lt) {x y z : α} (h : lt y x = true) : ¬ (eqv lt z x = true ∧ eqv lt z y = true) := by
  intro ⟨h1, h2⟩
  simp only [eqv, Bool.and_eq_true, Bool.not_eq_true'] at h1 h2
  have := hS.ntrans y z x h2.2 h1.1
  rw [h] at this; cases this

/-- d' is d with the places of [a, b) permuted, such that equal ones keep their order. -/
structure St (lt : α → α → Bool) (a b : Nat) (d d' : Array α) : Prop where
  size : d'.size = d.size
  out : ∀ i, i < a ∨ b ≤ i → d'[i]! = d[i]!
  filt : ∀ z, (seg d' a b).filter (eqv lt z) = (seg d a b).filter (eqv lt z)
theorem St.refl (a b : Nat) (d : Array α) : St lt a b d d := ⟨rfl, fun _ _ => rfl, fun _ => rfl⟩
theorem St.trans {a b : Nat} {d d1 d2 : Array α} (h : St lt a b d d1) (k : St lt a b d1 d2) : St lt a b d d2 :=
  ⟨k.size.trans h.size, fun i hi => (k.out i hi).trans (h.out i hi), fun z => (k.filt z).trans (h.filt z)⟩
theorem St.mono {a b a' b' : Nat} {d d1 : Array α} (h : St lt a b d d1) (h1 : a' ≤ a) (h2 : a ≤ b) (h3 : b ≤ b') : St lt a' b' d d1 := by
  refine ⟨h.size, fun i hi => h.out i (by omega), fun z => ?_⟩
  rw [seg_append d1 h1 (by omega : a ≤ b'), seg_append d1 h2 h3, seg_append d h1 (by omega : a ≤ b'), seg_append d h2 h3]
  simp only [List.filter_append, h.filt z]
  rw [seg_congr (d := d) (d' := d1) (fun i _ h => h_out i (.inl h)), seg_congr (d := d) (d' := d1) (fun i h _ => h_out i (.inr h))]
where h_out := h.out
theorem St.mem (hS : SWO lt) {a b : Nat} {d d1 : Array α} (h : St lt a b d d1) {x : α} (hx : x ∈ seg d1 a b) : x ∈ seg d a b := by
  have : x ∈ (seg d1 a b).filter (eqv lt x) := List.mem_filter.2 ⟨hx, eqv_self hS x⟩
  rw [h.filt] at this
  exact (List.mem_filter.1 this).1
theorem St.all (hS : SWO lt) {a b : Nat} {d d1 : Array α} (h : St lt a b d d1) {p : α → Prop} (hp : ∀ i, a ≤ i → i < b → p d[i]!) : ∀ i, a ≤ i → i < b → p d1[i]! := by
  intro i h1 h2
  obtain ⟨j, j1, j2, e⟩ := seg_mem.1 (h.mem hS (seg_mem.2 ⟨i, h1, h2, rfl⟩))
  rw [← e]; exact hp j j1 j2

theorem st_swp (hS : SWO lt) {d : Array α} {j : Nat} (hj : j + 1 < d.size) (hl : lt d[j + 1]! d[j]! = true) : St lt j (j + 2) d (swp d (j + 1) j) := by
  have g := swp_get d hj (show j < d.size by omega)
  refine ⟨swp_size _ _ _, fun i hi => by rw [g]; rw [if_neg (by omega), if_neg (by omega)], fun z => ?_⟩
  rw [seg_append _ (show j ≤ j + 1 by omega) (show j + 1 ≤ j + 2 by omega), seg_append d (show j ≤ j + 1 by omega) (show j + 1 ≤ j + 2 by omega)]
  rw [seg_one, seg_one, seg_one, seg_one, g, g, if_pos rfl, if_neg (by omega), if_pos rfl]
  have := eqv_lt hS (z := z) hl
  by_cases h1 : eqv lt z d[j]! = true
  · have h2 : eqv lt z d[j + 1]! = false := by
      cases h : eqv lt z d[j + 1]!
      · rfl
      · exact absurd ⟨h1, h⟩ this
    simp [List.filter_cons, h1, h2]
  · have h1' : eqv lt z d[j]! = false := by simpa using h1
    simp [List.filter_cons, h1']
theorem st_inner (hS : SWO lt) (a : Nat) : ∀ (j : Nat) (d : Array α) (i : Nat), j ≤ i → i < d.size → a ≤ i → St lt a (i + 1) d (insInner lt a j d)
  | 0, d, i, _, _, _ => St.refl _ _ _
  | j + 1, d, i, hji, hi, ha => by
    unfold insInner
    split
    · rename_i h
      simp at h
      have h1 := st_swp hS (d := d) (j := j) (by omega) h.2
      exact (h1.mono (a' := a) (b' := i + 1) (by omega) (by omega) (by omega)).trans (st_inner hS a j _ i (by omega) (by rw [swp_size]; exact hi) ha)
    · exact St.refl _ _ _
theorem size_inner (a : Nat) : ∀ (j : Nat) (d : Array α), (insInner lt a j d).size = d.size
  | 0, d => rfl
  | j + 1, d => by
    unfold insInner
    split
    · rw [size_inner a j, swp_size]
    · rfl
theorem st_outer (hS : SWO lt) (a b : Nat) : ∀ (n i : Nat) (d : Array α), b - i = n → a ≤ i → a ≤ b → b ≤ d.size → St lt a b d (insOuter lt a b i d) := by
  intro n
  induction n with
  | zero =>
    intro i d hn _ _ _
    rw [insOuter_stop _ _ _ _ _ (by omega)]; exact St.refl _ _ _
  | succ n ih =>
    intro i d hn ha hab hb
    rw [insOuter_go _ _ _ _ _ (by omega)]
    exact ((st_inner hS a i d i (by omega) (by omega) ha).mono (Nat.le_refl _) (by omega) (by omega)).trans (ih (i + 1) _ (by omega) (by omega) hab (by rw [size_inner]; exact hb))

/-- d' is d, [a, b) of it sorted in a stable manner. -/
structure Srt (lt : α → α → Bool) (a b : Nat) (d d' : Array α) : Prop where
  st : St lt a b d d'
  so : SortedIn lt a b d'
theorem srt_ins (hS : SWO lt) {a b : Nat} {d : Array α} (hab : a ≤ b) (hb : b ≤ d.size) : Srt lt a b d (insertionSort lt d a b) :=
  ⟨st_outer hS a b (b - (a + 1)) (a + 1) d rfl (by omega) hab hb, (insertionSort_holds hS d a b hab hb).2⟩

/-- d' is d with [a, m) and [m, b) exchanged. -/
structure Rot (a m b : Nat) (d d' : Array α) : Prop where
  size : d'.size = d.size
  out : ∀ i, i < a ∨ b ≤ i → d'[i]! = d[i]!
  fst : ∀ i, i < b - m → d'[a + i]! = d[m + i]!
  snd : ∀ i, i < m - a → d'[a + (b - m) + i]! = d[a + i]!
theorem Rot.seg {a m b : Nat} {d d' : Array α} (h : Rot a m b d d') (h1 : a ≤ m) (h2 : m ≤ b) : seg d' a b = SrtP.seg d m b ++ SrtP.seg d a m := by
  rw [seg_append d' (show a ≤ a + (b - m) by omega) (show a + (b - m) ≤ b by omega)]
  congr 1
  · unfold SrtP.seg
    rw [show a + (b - m) - a = b - m by omega]
    apply List.map_congr_left
    intro i hi
    simp at hi
    exact h.fst i (by omega)
  · unfold SrtP.seg
    rw [show b - (a + (b - m)) = m - a by omega]
    apply List.map_congr_left
    intro i hi
    simp at hi
    exact h.snd i (by omega)
theorem filter_swap (hS : SWO lt) (z : α) {X Y : List α} (h : ∀ x ∈ X, ∀ y ∈ Y, lt y x = true) : (Y ++ X).filter (eqv lt z) = (X ++ Y).filter (eqv lt z) := by
  simp only [List.filter_append]
  cases hx : X.filter (eqv lt z) with
  | nil => simp
  | cons x r =>
    have h1 : x ∈ X.filter (eqv lt z) := by rw [hx]; simp
    have hy : Y.filter (eqv lt z) = [] := by
      rw [List.filter_eq_nil_iff]
      intro y hy h2
      have h1 := List.mem_filter.1 h1
      exact eqv_lt hS (z := z) (h x h1.1 y hy) ⟨h1.2, h2⟩
    simp [hy]
theorem Rot.st (hS : SWO lt) {a m b : Nat} {d d' : Array α} (h : Rot a m b d d') (h1 : a ≤ m) (h2 : m ≤ b) (hl : ∀ x y, a ≤ x → x < m → m ≤ y → y < b → lt d[y]! d[x]! = true) : St lt a b d d' := by
  refine ⟨h.size, h.out, fun z => ?_⟩
  rw [h.seg h1 h2, seg_append d h1 h2]
  refine filter_swap hS z (fun x hx y hy => ?_)
  obtain ⟨i, i1, i2, rfl⟩ := seg_mem.1 hx
  obtain ⟨j, j1, j2, rfl⟩ := seg_mem.1 hy
  exact hl i j i1 i2 j1 j2
/-- Where what stands at i came from. -/
theorem Rot.from {a m b : Nat} {d d' : Array α} (h : Rot a m b d d') (h1 : a ≤ m) (h2 : m ≤ b) (i : Nat) (hi : a ≤ i) (hb : i < b) :
    (i < a + (b - m) ∧ d'[i]! = d[m + (i - a)]!) ∨ (a + (b - m) ≤ i ∧ d'[i]! = d[a + (i - (a + (b - m)))]!) := by
  rcases Nat.lt_or_ge i (a + (b - m)) with h3 | h3
  · left
    have := h.fst (i - a) (by omega)
    rw [show a + (i - a) = i by omega] at this
    exact ⟨h3, this⟩
  · right
    have := h.snd (i - (a + (b - m))) (by omega)
    rw [show a + (b - m) + (i - (a + (b - m))) = i by omega] at this
    exact ⟨h3, this⟩

theorem le_trans' (hS : SWO lt) {x y z : α} (h1 : lt y x = false) (h2 : lt z y = false) : lt z x = false := hS.ntrans z y x h2 h1
/-- One element before a sorted row. -/
theorem merge1 (hS : SWO lt) {a b i : Nat} {d d' : Array α} (hi : a + 1 ≤ i) (hib : i ≤ b) (hs : SortedIn lt (a + 1) b d) (hl : ∀ p, a + 1 ≤ p → p < i → lt d[p]! d[a]! = true) (hr : ∀ p, i ≤ p → p < b → lt d[p]! d[a]! = false)
    (hrot : Rot a (a + 1) i d d') : Srt lt a b d d' := by
  have hst : St lt a i d d' := hrot.st hS (by omega) hi (fun x y x1 x2 y1 y2 => by rw [show x = a by omega]; exact hl y y1 y2)
  refine ⟨hst.mono (Nat.le_refl _) (by omega) hib, fun p q hp hpq hq => ?_⟩
  rcases Nat.lt_or_ge q i with hqi | hqi
  · rcases hrot.from (by omega) hi q (by omega) hqi with ⟨h1, e1⟩ | ⟨h1, e1⟩
    · rcases hrot.from (by omega) hi p hp (by omega) with ⟨h2, e2⟩ | ⟨h2, e2⟩
      · rw [e1, e2]; exact hs _ _ (by omega) (by omega) (by omega)
      · omega
    · rcases hrot.from (by omega) hi p hp (by omega) with ⟨h2, e2⟩ | ⟨h2, e2⟩
      · rw [e1, e2, show a + (q - (a + (i - (a + 1)))) = a by omega]
        exact hS.asymmA (hl _ (by omega) (by omega))
      · omega
  · rw [hrot.out q (by omega)]
    rcases Nat.lt_or_ge p i with hpi | hpi
    · rcases hrot.from (by omega) hi p hp hpi with ⟨h2, e2⟩ | ⟨h2, e2⟩
      · rw [e2]; exact hs _ _ (by omega) (by omega) hq
      · rw [e2, show a + (p - (a + (i - (a + 1)))) = a by omega]; exact hr q hqi hq
    · rw [hrot.out p (by omega)]; exact hs p q (by omega) hpq hq
/-- One element behind a sorted row. -/
theorem merge2 (hS : SWO lt) {a m i : Nat} {d d' : Array α} (hi : a ≤ i) (him : i ≤ m) (hs : SortedIn lt a m d) (hl : ∀ p, a ≤ p → p < i → lt d[m]! d[p]! = false) (hr : ∀ p, i ≤ p → p < m → lt d[m]! d[p]! = true)
    (hrot : Rot i m (m + 1) d d') : Srt lt a (m + 1) d d' := by
  have hst : St lt i (m + 1) d d' := hrot.st hS him (by omega) (fun x y x1 x2 y1 y2 => by rw [show y = m by omega]; exact hr x x1 x2)
  refine ⟨hst.mono hi (by omega) (Nat.le_refl _), fun p q hp hpq hq => ?_⟩
  rcases Nat.lt_or_ge q i with hqi | hqi
  · rw [hrot.out q (by omega), hrot.out p (by omega)]; exact hs p q hp hpq (by omega)
  · rcases hrot.from him (by omega) q hqi hq with ⟨h1, e1⟩ | ⟨h1, e1⟩
    · rw [e1, show m + (q - i) = m by omega]
      rw [hrot.out p (by omega)]
      exact hl p hp (by omega)
    · rw [e1]
      rcases Nat.lt_or_ge p i with hpi | hpi
      · rw [hrot.out p (by omega)]; exact hs _ _ hp (by omega) (by omega)
      · rcases hrot.from him (by omega) p hpi (by omega) with ⟨h2, e2⟩ | ⟨h2, e2⟩
        · rw [e2, show m + (p - i) = m by omega]; exact hS.asymmA (hr _ (by omega) (by omega))
        · rw [e2]; exact hs _ _ (by omega) (by omega) (by omega)
theorem m3_left {a m b s mid e : Nat} {d d1 : Array α} (h1 : a ≤ s) (h2 : s ≤ m) (h3 : m ≤ e) (h4 : e ≤ b) (hmid : mid = s + (e - m)) (hA : SortedIn lt a m d) (hB : SortedIn lt m b d) (hrot : Rot s m e d d1) : SortedIn lt a s d1 ∧ SortedIn lt s mid d1 := by
  have fr := hrot.from h2 h3
  refine ⟨fun p q hp hpq hq => ?_, fun p q hp hpq hq => ?_⟩
  · rw [hrot.out p (by omega), hrot.out q (by omega)]; exact hA p q hp hpq (by omega)
  · rcases fr p hp (by omega) with ⟨z1, e1⟩ | ⟨z1, e1⟩
    · rcases fr q (by omega) (by omega) with ⟨z2, e2⟩ | ⟨z2, e2⟩
      · rw [e1, e2]; exact hB _ _ (by omega) (by omega) (by omega)
      · omega
    · omega
theorem m3_right {a m b s mid e : Nat} {d d1 d2 : Array α} (h1 : a ≤ s) (h2 : s ≤ m) (h3 : m ≤ e) (h4 : e ≤ b) (hmid : mid = s + (e - m)) (hA : SortedIn lt a m d) (hB : SortedIn lt m b d) (hrot : Rot s m e d d1) (l2 : Srt lt a mid d1 d2) : SortedIn lt mid e d2 ∧ SortedIn lt e b d2 := by
  have fr := hrot.from h2 h3
  refine ⟨fun p q hp hpq hq => ?_, fun p q hp hpq hq => ?_⟩
  · rw [l2.st.out p (by omega), l2.st.out q (by omega)]
    rcases fr p (by omega) (by omega) with ⟨z1, e1⟩ | ⟨z1, e1⟩
    · omega
    · rcases fr q (by omega) (by omega) with ⟨z2, e2⟩ | ⟨z2, e2⟩
      · omega
      · rw [e1, e2]; exact hA _ _ (by omega) (by omega) (by omega)
  · rw [l2.st.out p (by omega), l2.st.out q (by omega), hrot.out p (by omega), hrot.out q (by omega)]
    exact hB p q (by omega) hpq hq
/-- The general step of SymMerge. -/
theorem merge3 (hS : SWO lt) {a m b s mid e : Nat} {d d1 d2 d3 : Array α} (h1 : a ≤ s) (h2 : s ≤ m) (h3 : m ≤ e) (h4 : e ≤ b) (hmid : mid = s + (e - m)) (hA : SortedIn lt a m d) (hB : SortedIn lt m b d)
    (hlt : ∀ x y, s ≤ x → x < m → m ≤ y → y < e → lt d[y]! d[x]! = true) (hge : ∀ x y, a ≤ x → x < s → e ≤ y → y < b → lt d[y]! d[x]! = false)
    (hrot : Rot s m e d d1) (hL : SortedIn lt a s d1 → SortedIn lt s mid d1 → Srt lt a mid d1 d2) (hR : SortedIn lt mid e d2 → SortedIn lt e b d2 → Srt lt mid b d2 d3) : Srt lt a b d d3 := by
  have r0 := hrot.st hS h2 h3 hlt
  have fr := hrot.from h2 h3
  have q1 : SortedIn lt a s d1 := fun p q hp hpq hq => by
    rw [hrot.out p (by omega), hrot.out q (by omega)]; exact hA p q hp hpq (by omega)
  have q2 : SortedIn lt s mid d1 := fun p q hp hpq hq => by
    rcases fr p hp (by omega) with ⟨z1, e1⟩ | ⟨z1, e1⟩
    · rcases fr q (by omega) (by omega) with ⟨z2, e2⟩ | ⟨z2, e2⟩
      · rw [e1, e2]; exact hB _ _ (by omega) (by omega) (by omega)
      · omega
    · omega
  have l2 := hL q1 q2
  have q3 : SortedIn lt mid e d2 := fun p q hp hpq hq => by
    rw [l2.st.out p (by omega), l2.st.out q (by omega)]
    rcases fr p (by omega) (by omega) with ⟨z1, e1⟩ | ⟨z1, e1⟩
    · omega
    · rcases fr q (by omega) (by omega) with ⟨z2, e2⟩ | ⟨z2, e2⟩
      · omega
      · rw [e1, e2]; exact hA _ _ (by omega) (by omega) (by omega)
  have q4 : SortedIn lt e b d2 := fun p q hp hpq hq => by
    rw [l2.st.out p (by omega), l2.st.out q (by omega), hrot.out p (by omega), hrot.out q (by omega)]
    exact hB p q (by omega) hpq hq
  have r2 := hR q3 q4
  -- every one on the left is at most every one on the right
  have cross : ∀ p q, a ≤ p → p < mid → mid ≤ q → q < b → lt d1[q]! d1[p]! = false := fun p q hp hp2 hq hq2 => by
    rcases Nat.lt_or_ge q e with hqe | hqe
    · rcases fr q (by omega) hqe with ⟨z2, e2⟩ | ⟨z2, e2⟩
      · omega
      · rw [e2]
        rcases Nat.lt_or_ge p s with hps | hps
        · rw [hrot.out p (by omega)]; exact hA _ _ hp (by omega) (by omega)
        · rcases fr p hps (by omega) with ⟨z1, e1⟩ | ⟨z1, e1⟩
          · rw [e1]; exact hS.asymmA (hlt _ _ (by omega) (by omega) (by omega) (by omega))
          · omega
    · rw [hrot.out q (by omega)]
      rcases Nat.lt_or_ge p s with hps | hps
      · rw [hrot.out p (by omega)]; exact hge _ _ hp hps hqe hq2
      · rcases fr p hps (by omega) with ⟨z1, e1⟩ | ⟨z1, e1⟩
        · rw [e1]; exact hB _ _ (by omega) (by omega) hq2
        · omega
  have ham : a ≤ mid := by omega
  have hmb : mid ≤ b := by omega
  refine ⟨(r0.mono h1 (by omega) h4).trans ((l2.st.mono (Nat.le_refl _) ham hmb).trans (r2.st.mono ham hmb (Nat.le_refl _))), fun p q hp hpq hq => ?_⟩
  rcases Nat.lt_or_ge q mid with hqm | hqm
  · rw [r2.st.out p (by omega), r2.st.out q (by omega)]; exact l2.so p q hp hpq hqm
  · rcases Nat.lt_or_ge p mid with hpm | hpm
    · have c2 : ∀ p, a ≤ p → p < mid → ∀ q, mid ≤ q → q < b → lt d2[q]! d2[p]! = false := by
        refine l2.st.all hS (p := fun x => ∀ q, mid ≤ q → q < b → lt d2[q]! x = false) (fun p hp hp2 q hq hq2 => ?_)
        rw [l2.st.out q (by omega)]; exact cross p q hp hp2 hq hq2
      have c3 : ∀ q, mid ≤ q → q < b → ∀ p, a ≤ p → p < mid → lt d3[q]! d2[p]! = false :=
        r2.st.all hS (p := fun x => ∀ p, a ≤ p → p < mid → lt x d2[p]! = false) (fun q hq hq2 p hp hp2 => c2 p hp hp2 q hq hq2)
      rw [r2.st.out p (by omega)]
      exact c3 q hqm hq p hp hpm
    · exact r2.so p q hpm hpq hq
theorem sorted_one (a b : Nat) (h : b ≤ a + 1) (d : Array α) : SortedIn lt a b d := fun i j h1 h2 h3 => by omega
theorem Rot.same {a m b : Nat} (d : Array α) (h : m ≤ a ∨ b ≤ m) (ha : a ≤ m) (hb : m ≤ b) : Rot a m b d d := by
  refine ⟨rfl, fun _ _ => rfl, fun i hi => ?_, fun i hi => ?_⟩
  · have : m = a := by omega
    rw [this]
  · have : m = b := by omega
    rw [this, Nat.sub_self, Nat.add_zero]
theorem Srt.same {a m b : Nat} {d : Array α} (h : m ≤ a ∨ b ≤ m) (h1 : a ≤ m) (h2 : m ≤ b) (hA : SortedIn lt a m d) (hB : SortedIn lt m b d) : Srt lt a b d d :=
  ⟨St.refl _ _ _, fun i j hi hij hj => by
    rcases h with h | h
    · exact hB i j (by omega) hij hj
    · exact hA i j hi hij (by omega)⟩
end Go.Proofs.YtgbodlghggkmoaaDoor.SrtP
