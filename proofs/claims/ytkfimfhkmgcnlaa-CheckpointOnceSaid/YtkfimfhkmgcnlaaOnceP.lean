/- CheckpointOnce: the plain law: what the gate answers to an instance whose channels hold some messages, and then the barrier. -/
import Derived.Test.YtkfimfhkmgcnlaaGate2
namespace Go.Proofs.Ytkfimfhkmgcnlaa.OnceP
set_option linter.unusedSectionVars false
open Go.Proofs.Ytkfimfhkmgcnlaa.Gate

def cnt (xs : List Int) : Nat := xs.countP (fun x => decide (x < 0))
/-- How many numbers below i are c modulo n. -/
def K (n c i : Nat) : Nat := (i + (n - 1 - c)) / n

theorem K_succ {n c i : Nat} (hc : c < n) : K n c (i + 1) = K n c i + if i % n = c then 1 else 0 := by
  unfold K
  have hn : 0 < n := by omega
  obtain ⟨q, r, hr, rfl⟩ : ∃ q r, r < n ∧ i = n * q + r := ⟨i / n, i % n, Nat.mod_lt _ hn, (Nat.div_add_mod i n).symm⟩
  have h1 : (n * q + r) % n = r := by rw [Nat.mul_add_mod, Nat.mod_eq_of_lt hr]
  rw [h1]
  have e1 : n * q + r + 1 + (n - 1 - c) = n * q + (r + 1 + (n - 1 - c)) := by omega
  have e2 : n * q + r + (n - 1 - c) = n * q + (r + (n - 1 - c)) := by omega
  rw [e1, e2, Nat.mul_add_div hn, Nat.mul_add_div hn]
  by_cases h : r = c
  · subst h
    rw [if_pos rfl, show r + 1 + (n - 1 - r) = n by omega, Nat.div_self hn, Nat.div_eq_of_lt (by omega)]
  · rw [if_neg h]
    rcases Nat.lt_or_ge r c with h2 | h2
    · rw [Nat.div_eq_of_lt (by omega), Nat.div_eq_of_lt (by omega)]
    · have a : (r + 1 + (n - 1 - c)) / n = 1 := by
        rw [Nat.div_eq_iff hn]; omega
      have b : (r + (n - 1 - c)) / n = 1 := by
        rw [Nat.div_eq_iff hn]; omega
      omega
theorem K_end {n c len : Nat} (hn : 0 < n) : K n c (len + 6 * n) = K n c len + 6 := by
  unfold K
  rw [show len + 6 * n + (n - 1 - c) = len + (n - 1 - c) + n * 6 by omega, Nat.add_mul_div_left _ _ hn]

theorem cnt_le (xs : List Int) : cnt xs ≤ xs.length := List.countP_le_length
theorem cnt_set (xs : List Int) (c : Nat) (x : Int) (hc : c < xs.length) : cnt (xs.set c x) + (if xs.getD c 0 < 0 then 1 else 0) = cnt xs + if x < 0 then 1 else 0 := by
  unfold cnt
  induction xs generalizing c with
  | nil => simp at hc
  | cons a r ih =>
    cases c with
    | zero => simp [List.countP_cons]; split <;> split <;> omega
    | succ c => have := ih c (by simpa using hc); simp [List.countP_cons] at this ⊢; omega
theorem cnt_lt (xs : List Int) (c : Nat) (hc : c < xs.length) (h : 0 ≤ xs.getD c 0) : cnt xs < xs.length := by
  have := cnt_set xs c (-1) hc
  have h2 := cnt_le (xs.set c (-1))
  simp at h2
  rw [if_neg (by omega), if_pos (by omega)] at this
  omega
theorem cnt_pos (xs : List Int) (c : Nat) (hc : c < xs.length) (h : xs.getD c 0 < 0) : 0 < cnt xs := by
  have := cnt_set xs c 0 hc
  rw [if_pos h, if_neg (by omega)] at this
  omega
theorem getD_set (xs : List Int) (c d : Nat) (x : Int) (hc : c < xs.length) : (xs.set c x).getD d 0 = if c = d then x else xs.getD d 0 := by
  simp [List.getD_eq_getElem?_getD, List.getElem?_set, hc]
  split <;> simp

structure Inv (n len k : Nat) (kind : Int) (xs : List Int) (num kind0 : Int) (L : List Int) (came snaps : Int) : Prop where
  hlen : xs.length = n
  rng : ∀ c, c < n → -1 ≤ xs.getD c 0 ∧ xs.getD c 0 ≤ 4
  hcame : came = cnt xs
  idle : (cnt xs = 0 ∨ cnt xs = n) → num = 0 ∧ L = []
  busy : 0 < cnt xs → cnt xs < n → num = 3 ∧ kind0 = kind ∧ L.length = cnt xs ∧ ∀ c : Nat, c < n → ((c : Int) ∈ L ↔ xs.getD c 0 < 0)
  hsn : snaps = if kind = 0 then (if cnt xs = n then 1 else 0) else (if 0 < cnt xs then 1 else 0)
  late : ∀ c, c < n → len ≤ k → xs.getD c 0 ≤ 4 - ((K n c k : Int) - K n c len) ∨ xs.getD c 0 = -1

def wantF (kind v came n : Int) : Int :=
  if v = 0 then (if kind = 0 ∧ came = n ∨ kind = 1 ∧ came = 1 then 4 else 3)
  else if v < 0 ∧ kind = 0 ∧ came < n then 0
  else if 0 < v ∧ kind = 1 ∧ 0 < came then 2 else 1

theorem msg_ans {n c v kind num kind0 came : Int} {L : List Int} (h0 : 0 ≤ c) (h1 : c < n) (hkd : kind = 0 ∨ kind = 1) (hv : v ≠ 0)
    (h : (num = 0 ∧ L = [] ∧ (came = 0 ∧ 0 < v ∨ came = n ∧ v < 0)) ∨ (num = 3 ∧ kind0 = kind ∧ 0 < came ∧ came < n ∧ (c ∈ L ↔ v < 0))) :
    arrC n num kind0 L c 2 1 kind = wantF kind v came n := by
  unfold arrC wantF
  rw [if_neg (by omega), if_neg hv]
  rcases h with ⟨rfl, rfl, h⟩ | ⟨rfl, rfl, h2, h3, h4⟩
  · rw [if_neg (by omega), if_neg (by omega), if_pos (by omega), if_neg (by omega), if_neg (by omega)]
  · by_cases hn : v < 0
    · have hm := h4.2 hn
      rcases hkd with rfl | rfl
      · rw [if_pos ⟨by omega, by omega, hm⟩, if_pos (by omega)]
      · rw [if_neg (by simp), if_neg (by simp [hm]), if_pos (by omega), if_neg (by omega), if_neg (by omega)]
    · have hm : c ∉ L := fun h => hn (h4.1 h)
      rcases hkd with rfl | rfl
      · rw [if_neg (by simp [hm]), if_neg (by simp), if_pos (by omega), if_neg (by omega), if_neg (by omega)]
      · rw [if_neg (by simp), if_pos (by simp [hm]), if_neg (by omega), if_pos (by omega)]

section
variable {n len k : Nat} {kind num kind0 came snaps : Int} {xs L : List Int} (h : Inv n len k kind xs num kind0 L came snaps) (hn : 0 < n) (hkd : kind = 0 ∨ kind = 1) {c : Nat} (hc : c < n) (hck : len ≤ k → c = k % n)
include h hn hkd hc hck

theorem late_step : ∀ d, d < n → len ≤ k + 1 → (xs.set c (max (-1) (xs.getD c 0 - 1))).getD d 0 ≤ 4 - ((K n d (k + 1) : Int) - K n d len) ∨ (xs.set c (max (-1) (xs.getD c 0 - 1))).getD d 0 = -1 := by
  intro d hd hl
  have hr := h.rng d hd
  rw [getD_set _ _ _ _ (by rw [h.hlen]; exact hc)]
  rcases Nat.lt_or_ge k len with h1 | h1
  · obtain rfl : len = k + 1 := by omega
    left
    have := h.rng c hc
    split <;> omega
  · have h2 := h.late d hd h1
    have h3 := hck h1
    rw [K_succ hd]
    by_cases e : c = d
    · subst e
      rw [if_pos rfl, if_pos h3.symm]
      omega
    · rw [if_neg e, if_neg (fun e2 => e (h3.trans e2))]
      simpa using h2

theorem step_msg (hv : xs.getD c 0 ≠ 0) : arrC n num kind0 L c 2 1 kind = wantF kind (xs.getD c 0) came n ∧ wantF kind (xs.getD c 0) came n ≠ 5 ∧
    Inv n len (k + 1) kind (xs.set c (max (-1) (xs.getD c 0 - 1))) num kind0 L came snaps := by
  have hl := h.hlen
  have hcl : c < xs.length := by rw [hl]; exact hc
  have e := cnt_set xs c (max (-1) (xs.getD c 0 - 1)) hcl
  have ec : cnt (xs.set c (max (-1) (xs.getD c 0 - 1))) = cnt xs := by
    have : (max (-1) (xs.getD c 0 - 1) < 0) ↔ xs.getD c 0 < 0 := by omega
    by_cases h1 : xs.getD c 0 < 0
    · rw [if_pos h1, if_pos (this.2 h1)] at e; omega
    · rw [if_neg h1, if_neg (fun h2 => h1 (this.1 h2))] at e; omega
  have hcle := cnt_le xs
  have hcm := h.hcame
  refine ⟨?_, ?_, ⟨by simpa using hl, fun d hd => ?_, by rw [ec]; exact h.hcame, by rw [ec]; exact h.idle, fun h1 h2 => ?_, by rw [ec]; exact h.hsn, late_step h hn hkd hc hck⟩⟩
  · refine msg_ans (by omega) (by omega) hkd hv ?_
    rcases Nat.eq_zero_or_pos (cnt xs) with h0 | h0
    · have h2 := h.idle (.inl h0)
      refine .inl ⟨h2.1, h2.2, .inl ⟨by omega, ?_⟩⟩
      have hv2 : ¬ xs.getD c 0 < 0 := fun h1 => by have := cnt_pos xs c hcl h1; omega
      omega
    · by_cases hN : cnt xs = n
      · have h2 := h.idle (.inr hN)
        refine .inl ⟨h2.1, h2.2, .inr ⟨by omega, ?_⟩⟩
        rcases Classical.em (xs.getD c 0 < 0) with h1 | h1
        · exact h1
        · have := cnt_lt xs c hcl (by omega); omega
      · have hb := h.busy h0 (by omega)
        exact .inr ⟨hb.1, hb.2.1, by omega, by omega, hb.2.2.2 c hc⟩
  · unfold wantF; split
    · split <;> omega
    · split
      · omega
      · split <;> omega
  · have := h.rng d hd
    have := h.rng c hc
    rw [getD_set _ _ _ _ hcl]; split <;> omega
  · rw [ec] at h1 h2 ⊢
    obtain ⟨b1, b2, b3, b4⟩ := h.busy h1 h2
    refine ⟨b1, b2, b3, fun d hd => ?_⟩
    rw [getD_set _ _ _ _ hcl, b4 d hd]
    split
    · rename_i e; subst e; omega
    · rfl

theorem step_bar (hv : xs.getD c 0 = 0) : arrC n num kind0 L c 1 3 kind = 5 ∧ barA n num (addL L c) kind = wantF kind 0 (came + 1) n ∧
    Inv n len (k + 1) kind (xs.set c (max (-1) (xs.getD c 0 - 1))) (barN n (addL L c) 3) kind (barL n (addL L c)) (came + 1) (if wantF kind 0 (came + 1) n = 4 then snaps + 1 else snaps) := by
  have hl := h.hlen
  have hcl : c < xs.length := by rw [hl]; exact hc
  have hlt := cnt_lt xs c hcl (by omega)
  have e := cnt_set xs c (max (-1) (xs.getD c 0 - 1)) hcl
  have ec : cnt (xs.set c (max (-1) (xs.getD c 0 - 1))) = cnt xs + 1 := by
    rw [if_neg (by omega), if_pos (by omega)] at e; omega
  have hcm := h.hcame
  have hnot : (c : Int) ∉ L := by
    rcases Nat.eq_zero_or_pos (cnt xs) with h0 | h0
    · rw [(h.idle (.inl h0)).2]; simp
    · intro hm; have := ((h.busy h0 (by omega)).2.2.2 c hc).1 hm; omega
  have hlen : (addL L c).length = cnt xs + 1 := by
    unfold addL
    rw [if_neg hnot]
    rcases Nat.eq_zero_or_pos (cnt xs) with h0 | h0
    · rw [(h.idle (.inl h0)).2]; simp [h0]
    · simp [(h.busy h0 (by omega)).2.2.1]
  have hmem : ∀ d : Nat, d < n → cnt xs < n → ((d : Int) ∈ addL L c ↔ (xs.set c (max (-1) (xs.getD c 0 - 1))).getD d 0 < 0) := by
    intro d hd _
    rw [getD_set _ _ _ _ hcl]
    unfold addL
    rw [if_neg hnot]
    rcases Nat.eq_zero_or_pos (cnt xs) with h0 | h0
    · rw [(h.idle (.inl h0)).2]
      have : ¬ xs.getD d 0 < 0 := fun h1 => by have := cnt_pos xs d (by omega) h1; omega
      by_cases e : c = d
      · subst e; rw [if_pos rfl]; exact ⟨fun _ => by omega, fun _ => by simp⟩
      · rw [if_neg e]; simp only [List.nil_append, List.mem_singleton]; constructor
        · intro h; omega
        · intro h; exact absurd h this
    · have hm := (h.busy h0 (by omega)).2.2.2 d hd
      by_cases e : c = d
      · subst e; rw [if_pos rfl]; exact ⟨fun _ => by omega, fun _ => by simp⟩
      · rw [if_neg e]; simp only [List.mem_append, List.mem_singleton, hm]; constructor
        · rintro (h | h)
          · exact h
          · omega
        · exact .inl
  have hbz : 0 < num ↔ 0 < cnt xs := by
    rcases Nat.eq_zero_or_pos (cnt xs) with h0 | h0
    · rw [(h.idle (.inl h0)).1]; omega
    · rw [(h.busy h0 (by omega)).1]; omega
  refine ⟨?_, ?_, ⟨by simpa using hl, fun d hd => ?_, by omega, ?_, ?_, ?_, late_step h hn hkd hc hck⟩⟩
  · unfold arrC
    rw [if_neg (by omega), if_neg (fun h => hnot h.2.2), if_neg (by omega), if_neg (by omega), if_neg]
    rintro (h1 | ⟨h1, h2⟩)
    · omega
    · have hb := h.busy (by omega) (by omega)
      rcases h2 with h2 | h2 | h2
      · omega
      · exact h2 hb.2.1.symm
      · exact hnot h2
  · unfold barA wantF
    have : ((addL L c).length : Int) = came + 1 := by omega
    rw [this, if_pos rfl]
    have : (kind = 1 ∧ ¬ 0 < num) ↔ (kind = 1 ∧ came + 1 = 1) := by omega
    simp only [this]
  · have := h.rng d hd
    rw [getD_set _ _ _ _ hcl]; split <;> omega
  · intro hh
    unfold barN barL
    rw [ec] at hh
    rw [if_pos (by omega), if_pos (by omega)]
    exact ⟨rfl, rfl⟩
  · intro h1 h2
    unfold barN barL
    rw [ec] at h1 h2
    rw [if_neg (by omega), if_neg (by omega), ec]
    exact ⟨rfl, rfl, hlen, fun d hd => hmem d hd (by omega)⟩
  · have hs := h.hsn
    rw [ec, hs]
    have : (wantF kind 0 (came + 1) n = 4) ↔ (kind = 0 ∧ came + 1 = n ∨ kind = 1 ∧ came + 1 = 1) := by
      unfold wantF; rw [if_pos rfl]; split <;> simp_all
    by_cases hw : wantF kind 0 (came + 1) n = 4
    · rw [if_pos hw]
      have := this.1 hw
      split <;> split <;> omega
    · rw [if_neg hw]
      have h3 : ¬ (kind = 0 ∧ came + 1 = n ∨ kind = 1 ∧ came + 1 = 1) := fun h => hw (this.2 h)
      split <;> split <;> (try split) <;> omega
end

theorem inv_busy {n len k : Nat} {kind num kind0 came snaps : Int} {xs L : List Int} (h : Inv n len k kind xs num kind0 L came snaps) : decide (0 < num) = (decide (0 < came) && decide (came < n)) := by
  have hc := h.hcame
  have hcle := cnt_le xs
  have hl := h.hlen
  rcases Nat.eq_zero_or_pos (cnt xs) with h0 | h0
  · have := (h.idle (.inl h0)).1; simp [this]; omega
  · by_cases hN : cnt xs = n
    · have := (h.idle (.inr hN)).1; simp [this]; omega
    · have := (h.busy h0 (by omega)).1; simp [this]; omega
theorem inv_start {n len : Nat} {kind kind0 : Int} {xs : List Int} (hn : 0 < n) (hl : xs.length = n) (hr : ∀ c, c < n → 0 ≤ xs.getD c 0 ∧ xs.getD c 0 ≤ 4) : Inv n len 0 kind xs 0 kind0 [] 0 0 := by
  have h0 : cnt xs = 0 := by
    rcases Nat.eq_zero_or_pos (cnt xs) with h | h
    · exact h
    · unfold cnt at h
      obtain ⟨x, hx, hlt⟩ := List.countP_pos_iff.1 h
      obtain ⟨i, hi, rfl⟩ := List.getElem_of_mem hx
      have := hr i (by omega)
      simp [List.getD_eq_getElem?_getD, List.getElem?_eq_getElem hi] at this hlt
      omega
  refine ⟨hl, fun c hc => ⟨by have := (hr c hc).1; omega, (hr c hc).2⟩, by omega, fun _ => ⟨rfl, rfl⟩, fun h => by omega, ?_, fun c hc hl0 => ?_⟩
  · rw [h0]; split
    · rw [if_neg (by omega)]
    · rw [if_neg (by omega)]
  · obtain rfl : len = 0 := by omega
    left; have := (hr c hc).2; omega
theorem inv_end {n len : Nat} {kind num kind0 came snaps : Int} {xs L : List Int} (h : Inv n len (len + 6 * n) kind xs num kind0 L came snaps) (hn : 0 < n) (hkd : kind = 0 ∨ kind = 1) : came = n ∧ snaps = 1 ∧ num = 0 := by
  have hall : cnt xs = n := by
    rw [← h.hlen]
    unfold cnt
    rw [List.countP_eq_length]
    intro x hx
    obtain ⟨i, hi, rfl⟩ := List.getElem_of_mem hx
    have := h.late i (by rw [← h.hlen]; exact hi) (by omega)
    rw [K_end hn] at this
    simp [List.getD_eq_getElem?_getD, List.getElem?_eq_getElem hi] at this ⊢
    omega
  refine ⟨by rw [h.hcame, hall], ?_, (h.idle (.inr hall)).1⟩
  rw [h.hsn, hall]
  rcases hkd with rfl | rfl <;> simp [hn]
end Go.Proofs.Ytkfimfhkmgcnlaa.OnceP
