/- The canonical form of a list of numbers at keys. -/
import Derived.Test.YtgbodlghggkmoaaDoorDlO
namespace Go.Proofs.YtgbodlghggkmoaaDoor.Or
set_option linter.unusedVariables false
set_option linter.unusedSimpArgs false
open Go Go.RowKit
/-- An element: its key, its number, and itself at another number. -/
structure GE {E κ : Type} (key : E → κ) (num : E → Int) (put : E → Int → E) (c : κ → κ → Int) : Prop where
  ord : TO c
  ext : ∀ a b, key a = key b → num a = num b → a = b
  kp : ∀ a n, key (put a n) = key a
  np : ∀ a n, num (put a n) = n
section
variable {E κ : Type} (key : E → κ) (num : E → Int) (put : E → Int → E) (c : κ → κ → Int)
def emit (d : E) : List E := if num d = 0 then [] else [d]
def grp : E → List E → List E
  | d, [] => emit num d
  | d, x :: l => if c (key d) (key x) = 0 then grp (put d (wrap64 (num d + num x))) l else emit num d ++ grp x l
def groups : List E → List E
  | [] => []
  | x :: l => grp key num put c x l
def leK (a b : E) : Bool := decide (c (key a) (key b) ≤ 0)
def cons (l : List E) : List E := groups key num put c (l.mergeSort (leK key c))
def tot (k : κ) : List E → Int
  | [] => 0
  | x :: l => (if c (key x) k = 0 then num x else 0) + tot k l
structure Canon (l : List E) : Prop where
  lt : l.Pairwise (fun a b => c (key a) (key b) < 0)
  nz : ∀ x ∈ l, num x ≠ 0
  rg : ∀ x ∈ l, wrap64 (num x) = num x
end
variable {E κ : Type} {key : E → κ} {num : E → Int} {put : E → Int → E} {c : κ → κ → Int}
theorem tot_append (k : κ) : ∀ l r : List E, tot key num c k (l ++ r) = tot key num c k l + tot key num c k r
  | [], r => by simp [tot]
  | x :: l, r => by simp only [List.cons_append, tot, tot_append k l r]; omega
theorem tot_perm (k : κ) {l r : List E} (h : l.Perm r) : tot key num c k l = tot key num c k r := by
  induction h with
  | nil => rfl
  | cons x _ ih => simp only [tot, ih]
  | swap x y l => simp only [tot]; omega
  | trans _ _ h1 h2 => exact h1.trans h2
theorem tot_zero (k : κ) : ∀ {l : List E}, (∀ x ∈ l, c (key x) k ≠ 0) → tot key num c k l = 0
  | [], _ => rfl
  | x :: l, h => by
    simp only [tot]
    rw [if_neg (h x List.mem_cons_self), tot_zero k (fun y hy => h y (List.mem_cons_of_mem _ hy))]; rfl
theorem tot_flat (k : κ) : ∀ {l r : List E}, l.map key = r.map key → l.map num = r.map num → tot key num c k l = tot key num c k r
  | [], [], _, _ => rfl
  | [], _ :: _, h, _ => by cases h
  | _ :: _, [], h, _ => by cases h
  | x :: l, y :: r, h, h' => by
    simp only [List.map_cons, List.cons.injEq] at h h'
    simp only [tot, h.1, h'.1, tot_flat k h.2 h'.2]
theorem wrap64_wrap (a b : Int) : wrap64 (wrap64 a + b) = wrap64 (a + b) := by unfold wrap64; omega
theorem wrap64_wrap' (a b : Int) : wrap64 (a + wrap64 b) = wrap64 (a + b) := by unfold wrap64; omega
theorem wrap64_cancel {n a b : Int} (h : wrap64 (n + a) = wrap64 (n + b)) : wrap64 a = wrap64 b := by unfold wrap64 at *; omega
theorem wrap64_idem (a : Int) : wrap64 (wrap64 a) = wrap64 a := by unfold wrap64; omega

theorem tot_emit (k : κ) (d : E) : tot key num c k (emit num d) = if c (key d) k = 0 then num d else 0 := by
  unfold emit
  by_cases h : num d = 0
  · rw [if_pos h, h]; simp [tot]
  · rw [if_neg h]; simp [tot]
theorem tot_grp (G : GE key num put c) (k : κ) : ∀ (l : List E) (d : E), wrap64 (tot key num c k (grp key num put c d l)) = wrap64 (tot key num c k (d :: l))
  | [], d => by simp only [grp, tot_emit, tot]; rw [Int.add_zero]
  | x :: l, d => by
    simp only [grp]
    by_cases h : c (key d) (key x) = 0
    · rw [if_pos h, tot_grp G k l]
      have e := G.ord.eq _ _ h
      simp only [tot, G.kp, G.np, e]
      by_cases h2 : c (key x) k = 0
      · simp only [if_pos h2]
        unfold wrap64; omega
      · simp only [if_neg h2]
        congr 1; omega
    · rw [if_neg h, tot_append, tot_emit]
      have := tot_grp G k l x
      simp only [tot] at this ⊢
      unfold wrap64 at *
      omega
theorem tot_groups (G : GE key num put c) (k : κ) (l : List E) : wrap64 (tot key num c k (groups key num put c l)) = wrap64 (tot key num c k l) := by
  cases l with
  | nil => rfl
  | cons x l => exact tot_grp G k l x
theorem mem_grp (G : GE key num put c) {x : E} : ∀ (l : List E) (d : E), x ∈ grp key num put c d l → ∃ y ∈ d :: l, key y = key x
  | [], d, h => by
    simp only [grp, emit] at h
    split at h
    · cases h
    · simp only [List.mem_singleton] at h; subst h; exact ⟨_, List.mem_cons_self, rfl⟩
  | y :: l, d, h => by
    simp only [grp] at h
    split at h
    · obtain ⟨z, hz, e⟩ := mem_grp G l _ h
      rcases List.mem_cons.1 hz with hz | hz
      · subst hz; rw [G.kp] at e; exact ⟨d, List.mem_cons_self, e⟩
      · exact ⟨z, List.mem_cons_of_mem _ (List.mem_cons_of_mem _ hz), e⟩
    · rcases List.mem_append.1 h with h | h
      · unfold emit at h
        split at h
        · cases h
        · simp only [List.mem_singleton] at h; subst h; exact ⟨_, List.mem_cons_self, rfl⟩
      · obtain ⟨z, hz, e⟩ := mem_grp G l y h
        exact ⟨z, List.mem_cons_of_mem _ hz, e⟩
theorem mem_groups (G : GE key num put c) {x : E} {l : List E} (h : x ∈ groups key num put c l) : ∃ y ∈ l, key y = key x := by
  cases l with
  | nil => cases h
  | cons y l => exact mem_grp G l y h
theorem canon_emit (d : E) (h : wrap64 (num d) = num d) : Canon key num c (emit num d) := by
  unfold emit
  by_cases h0 : num d = 0
  · rw [if_pos h0]; exact ⟨List.Pairwise.nil, fun x hx => (by cases hx), fun x hx => (by cases hx)⟩
  · rw [if_neg h0]
    exact ⟨List.pairwise_singleton _ _, fun x hx => by rw [List.mem_singleton.1 hx]; exact h0, fun x hx => by rw [List.mem_singleton.1 hx]; exact h⟩
theorem canon_grp (G : GE key num put c) : ∀ (l : List E) (d : E), (d :: l).Pairwise (fun a b => c (key a) (key b) ≤ 0) → (∀ x ∈ d :: l, wrap64 (num x) = num x) → Canon key num c (grp key num put c d l)
  | [], d, _, h => by simp only [grp]; exact canon_emit d (h d List.mem_cons_self)
  | x :: l, d, hp, h => by
    simp only [grp]
    rw [List.pairwise_cons, List.pairwise_cons] at hp
    by_cases h0 : c (key d) (key x) = 0
    · rw [if_pos h0]
      refine canon_grp G l _ ?_ ?_
      · rw [List.pairwise_cons]
        exact ⟨fun y hy => by rw [G.kp]; exact hp.1 y (List.mem_cons_of_mem _ hy), hp.2.2⟩
      · intro y hy
        rcases List.mem_cons.1 hy with hy | hy
        · subst hy; rw [G.np]; exact wrap64_idem _
        · exact h y (List.mem_cons_of_mem _ (List.mem_cons_of_mem _ hy))
    · rw [if_neg h0]
      have i1 := canon_emit (key := key) (c := c) d (h d List.mem_cons_self)
      have i2 := canon_grp G l x (List.pairwise_cons.2 hp.2) (fun y hy => h y (List.mem_cons_of_mem _ hy))
      refine ⟨List.pairwise_append.2 ⟨i1.lt, i2.lt, fun a ha b hb => ?_⟩, fun y hy => ?_, fun y hy => ?_⟩
      · have ea : key a = key d := by
          unfold emit at ha
          split at ha
          · cases ha
          · rw [List.mem_singleton.1 ha]
        obtain ⟨z, hz, ez⟩ := mem_grp G l x hb
        have h1 : c (key d) (key x) < 0 := by have := hp.1 x List.mem_cons_self; omega
        have h2 : c (key x) (key z) ≤ 0 := by
          rcases List.mem_cons.1 hz with hz | hz
          · subst hz; rw [G.ord.self]; omega
          · exact hp.2.1 z hz
        rw [ea, ← ez]
        exact G.ord.lt_le h1 h2
      · rcases List.mem_append.1 hy with hy | hy
        · exact i1.nz y hy
        · exact i2.nz y hy
      · rcases List.mem_append.1 hy with hy | hy
        · exact i1.rg y hy
        · exact i2.rg y hy
theorem canon_groups (G : GE key num put c) {l : List E} (hp : l.Pairwise (fun a b => c (key a) (key b) ≤ 0)) (h : ∀ x ∈ l, wrap64 (num x) = num x) : Canon key num c (groups key num put c l) := by
  cases l with
  | nil => exact ⟨List.Pairwise.nil, fun x hx => (by cases hx), fun x hx => (by cases hx)⟩
  | cons x l => exact canon_grp G l x hp h
theorem canon_head (G : GE key num put c) {x : E} {l : List E} (h : Canon key num c (x :: l)) : tot key num c (key x) (x :: l) = num x := by
  simp only [tot]
  rw [if_pos (G.ord.self _), tot_zero]
  · omega
  · intro y hy
    have := (List.pairwise_cons.1 h.lt).1 y hy
    rw [G.ord.flip (key x) (key y)]; omega
theorem Canon.tail {x : E} {l : List E} (h : Canon key num c (x :: l)) : Canon key num c l := ⟨(List.pairwise_cons.1 h.lt).2, fun y hy => h.nz y (List.mem_cons_of_mem _ hy), fun y hy => h.rg y (List.mem_cons_of_mem _ hy)⟩
theorem canon_below (G : GE key num put c) {x : κ} {y : E} {l : List E} (h : Canon key num c (y :: l)) (hx : c x (key y) < 0) : tot key num c x (y :: l) = 0 := by
  apply tot_zero
  intro z hz
  have : c x (key z) < 0 := by
    rcases List.mem_cons.1 hz with hz | hz
    · subst hz; exact hx
    · exact G.ord.tr _ _ _ hx ((List.pairwise_cons.1 h.lt).1 z hz)
  rw [G.ord.flip x (key z)]; omega
theorem wrap64_0 : wrap64 0 = 0 := by unfold wrap64; omega
theorem canon_eq (G : GE key num put c) : ∀ {l r : List E}, Canon key num c l → Canon key num c r → (∀ k, wrap64 (tot key num c k l) = wrap64 (tot key num c k r)) → l = r
  | [], [], _, _, _ => rfl
  | [], y :: r, _, hr, h => by
    have := h (key y)
    rw [canon_head G hr, hr.rg y List.mem_cons_self] at this
    exact absurd (this.symm.trans wrap64_0) (hr.nz y List.mem_cons_self)
  | x :: l, [], hl, _, h => by
    have := h (key x)
    rw [canon_head G hl, hl.rg x List.mem_cons_self] at this
    exact absurd (this.trans wrap64_0) (hl.nz x List.mem_cons_self)
  | x :: l, y :: r, hl, hr, h => by
    have e : c (key x) (key y) = 0 := by
      rcases Int.lt_trichotomy (c (key x) (key y)) 0 with h1 | h1 | h1
      · have := h (key x)
        rw [canon_head G hl, canon_below G hr h1, hl.rg x List.mem_cons_self] at this
        exact absurd (this.trans wrap64_0) (hl.nz x List.mem_cons_self)
      · exact h1
      · have := h (key y)
        rw [canon_head G hr, canon_below G hl (by rw [G.ord.flip (key x) (key y)]; omega), hr.rg y List.mem_cons_self] at this
        exact absurd (this.symm.trans wrap64_0) (hr.nz y List.mem_cons_self)
    have ek := G.ord.eq _ _ e
    have en : num x = num y := by
      have := h (key x)
      rw [canon_head G hl, hl.rg x List.mem_cons_self, ek, canon_head G hr, hr.rg y List.mem_cons_self] at this
      exact this
    obtain rfl := G.ext x y ek en
    rw [canon_eq G hl.tail hr.tail (fun k => ?_)]
    exact wrap64_cancel (h k)

theorem leK_trans (G : GE key num put c) (a b d : E) (h1 : leK key c a b = true) (h2 : leK key c b d = true) : leK key c a d = true :=
  decide_eq_true (G.ord.le_tr (of_decide_eq_true h1) (of_decide_eq_true h2))
theorem leK_total (G : GE key num put c) (a b : E) : (leK key c a b || leK key c b a) = true := by
  have := G.ord.flip (key a) (key b)
  unfold leK
  by_cases h : c (key a) (key b) ≤ 0
  · rw [decide_eq_true h]; rfl
  · rw [decide_eq_true (show c (key b) (key a) ≤ 0 by omega), Bool.or_true]
theorem srt_pair (G : GE key num put c) (l : List E) : (l.mergeSort (leK key c)).Pairwise (fun a b => c (key a) (key b) ≤ 0) :=
  (List.pairwise_mergeSort (leK_trans G) (leK_total G) l).imp (fun h => of_decide_eq_true h)
theorem cons_canon (G : GE key num put c) {l : List E} (h : ∀ x ∈ l, wrap64 (num x) = num x) : Canon key num c (cons key num put c l) :=
  canon_groups G (srt_pair G l) (fun x hx => h x ((List.mergeSort_perm l _).mem_iff.1 hx))
theorem cons_tot (G : GE key num put c) (k : κ) (l : List E) : wrap64 (tot key num c k (cons key num put c l)) = wrap64 (tot key num c k l) := by
  unfold cons
  rw [tot_groups G, tot_perm k (List.mergeSort_perm l _)]
theorem eq_cons (G : GE key num put c) {l r : List E} (h : ∀ x ∈ l, wrap64 (num x) = num x) (hr : Canon key num c r) (ht : ∀ k, wrap64 (tot key num c k r) = wrap64 (tot key num c k l)) : r = cons key num put c l :=
  canon_eq G hr (cons_canon G h) (fun k => (ht k).trans (cons_tot G k l).symm)
theorem cons_eq (G : GE key num put c) {l r : List E} (h : ∀ x ∈ l, wrap64 (num x) = num x) (hr : ∀ x ∈ r, wrap64 (num x) = num x) (ht : ∀ k, wrap64 (tot key num c k l) = wrap64 (tot key num c k r)) : cons key num put c l = cons key num put c r :=
  canon_eq G (cons_canon G h) (cons_canon G hr) (fun k => (cons_tot G k l).trans ((ht k).trans (cons_tot G k r).symm))
theorem cons_mem (G : GE key num put c) {x : E} {l : List E} (h : x ∈ cons key num put c l) : ∃ y ∈ l, key y = key x := by
  obtain ⟨y, hy, e⟩ := mem_groups G h
  exact ⟨y, (List.mergeSort_perm l _).mem_iff.1 hy, e⟩
theorem grp_length : ∀ (l : List E) (d : E), (grp key num put c d l).length ≤ l.length + 1
  | [], d => by simp only [grp, emit]; split <;> simp
  | x :: l, d => by
    simp only [grp]
    split
    · have := grp_length l (put d (wrap64 (num d + num x))); simp only [List.length_cons]; omega
    · have := grp_length l x
      simp only [List.length_append, List.length_cons]
      have : (emit num d).length ≤ 1 := by unfold emit; split <;> simp
      omega
theorem groups_length (l : List E) : (groups key num put c l).length ≤ l.length := by
  cases l with
  | nil => simp [groups]
  | cons x l => exact grp_length l x
theorem cons_length (l : List E) : (cons key num put c l).length ≤ l.length := by
  have := groups_length (key := key) (num := num) (put := put) (c := c) (l.mergeSort (leK key c))
  rw [List.length_mergeSort] at this
  exact this
end Go.Proofs.YtgbodlghggkmoaaDoor.Or
