/- The reference's gate. -/
import Derived.Test.YtkfimfhkmgcnlaaGate2
import Derived.Deep.DeepCutAuto
import Derived.Deep.CutBlock
namespace Go.Proofs.Ytkfimfhkmgcnlaa.RefG
set_option linter.unusedVariables false
set_option linter.unusedSimpArgs false
open Go Go.RowKit Go.Proofs.Ytkfimfhkmgcnlaa.B Go.Proofs.Ytkfimfhkmgcnlaa.Gate

/-- Block g is a row of bools. -/
def RowB (w : World) (g : Nat) (xs : List Bool) : Prop := w.heap[g]? = some (.cells (xs.map Value.bool).toArray 4 (0, 0))
theorem RowB.kept {S : Nat → Prop} {w w1 : World} {g : Nat} {xs : List Bool} (h : RowB w g xs) (hc : Chg S w w1) (hn : ¬ S g) : RowB w1 g xs := hc.blk h hn
theorem RowB.cell {w : World} {g : Nat} {xs : List Bool} (h : RowB w g xs) {i : Nat} (hi : i < xs.length) : w.cell? ⟨g, i, none⟩ = some (.bool (xs.getD i false)) := by
  rw [blk_cell h]; simp [List.getElem?_map, List.getElem?_eq_getElem hi, List.getD_eq_getElem?_getD]
theorem RowB.free {w : World} {g : Nat} {xs : List Bool} (h : RowB w g xs) (i : Nat) : w.frozen? ⟨g, i, none⟩ = false := blk_free h i
theorem RowB.set {w : World} {g : Nat} {xs : List Bool} (h : RowB w g xs) (i : Nat) (x : Bool) : RowB (w.setCell ⟨g, i, none⟩ (.bool x)) g (xs.set i x) := by
  have := blk_set h i (.bool x)
  unfold RowB
  rw [this, List.map_set]
  simp
theorem RowB.new (w : World) (n : Nat) : RowB (w.alloc (.cells (madeCells #[.bool false] n) 4)) w.heap.size (List.replicate n false) := by
  unfold RowB
  rw [blk_new]
  congr 2
  apply Array.ext'
  simp only [madeCells, List.map_replicate]
  apply List.ext_getElem
  · simp
  · intro i h1 h2; simp [Nat.mod_one]
theorem infoB : (Try.prog.info? 4).map (fun i => (i.zero, i.size, i.bytes)) = some (some (.bool false), 1, 1) := by kernel_rfl
theorem makeB (m : Nat) (hm : m ≤ 1000000) (w : World) : (Instr.makeSlice 40 (.int .i64 (m : Int)) (.int .i64 (m : Int))).run Try.prog w = .ok (.slice (some ⟨w.heap.size, 0, none⟩) m m) (w.alloc (.cells (madeCells #[.bool false] m) 4)) :=
  run_make_row' 40 4 (.bool false) 1 Try.underlying40 infoB rfl .i64 .i64 m (by omega) (by omega) w

/-- On which of n channels the barrier has come. -/
def cm (n : Nat) (L : List Int) : List Bool := (List.range n).map fun j : Nat => decide ((j : Int) ∈ L)
theorem cm_length (n : Nat) (L : List Int) : (cm n L).length = n := by simp [cm]
theorem cm_get {n : Nat} {L : List Int} {i : Nat} (h : i < n) : (cm n L).getD i false = decide ((i : Int) ∈ L) := by
  simp [cm, List.getD_eq_getElem?_getD, h]
theorem cm_nil (n : Nat) : cm n [] = List.replicate n false := by
  apply List.ext_getElem
  · simp [cm]
  · intro i h1 h2; simp [cm]
theorem cm_set (n : Nat) (L : List Int) (i : Nat) (hi : i < n) : (cm n L).set i true = cm n (addL L i) := by
  apply List.ext_getElem
  · simp [cm]
  · intro j h1 h2
    simp only [cm, List.getElem_set, List.getElem_map, List.getElem_range, addL]
    by_cases hm : (i : Int) ∈ L
    · rw [if_pos hm]
      split
      · rename_i e; subst e; simp [hm]
      · rfl
    · rw [if_neg hm]
      split
      · rename_i e; subst e; simp
      · rename_i e
        have : (j : Int) ≠ i := by omega
        simp [this]
def Well (n : Nat) (L : List Int) : Prop := L.Nodup ∧ ∀ x ∈ L, 0 ≤ x ∧ x < n
theorem Well.add {n : Nat} {L : List Int} (h : Well n L) {i : Nat} (hi : i < n) : Well n (addL L i) := by
  unfold addL
  split
  · exact h
  · rename_i hm
    refine ⟨List.nodup_append.2 ⟨h.1, by simp, fun a ha d hd e1 => ?_⟩, fun x hx => ?_⟩
    · simp at hd; subst hd; subst e1; exact hm ha
    · rcases List.mem_append.1 hx with hx | hx
      · exact h.2 x hx
      · simp at hx; omega
theorem Well.bar {n : Nat} {L : List Int} (h : Well n L) : Well n (barL n L) := by
  unfold barL; split
  · exact ⟨by simp, by simp⟩
  · exact h
theorem Well.all {n : Nat} {L : List Int} (h : Well n L) : (cm n L).all id = decide ((L.length : Int) = n) := by
  have key : (∀ j, j < n → (j : Int) ∈ L) ↔ L.length = n := by
    have hsub : L ⊆ (List.range n).map (fun j : Nat => (j : Int)) := fun x hx => by
      have := h.2 x hx
      exact List.mem_map.2 ⟨x.toNat, by simp; omega, by omega⟩
    have hnd : ((List.range n).map (fun j : Nat => (j : Int))).Nodup := by
      refine List.Pairwise.map _ (fun a b hab => ?_) List.nodup_range
      omega
    have hle : L.length ≤ n := by
      have := List.Nodup.length_le_of_subset h.1 hsub; simpa using this
    constructor
    · intro hall
      have hsub2 : (List.range n).map (fun j : Nat => (j : Int)) ⊆ L := fun x hx => by
        obtain ⟨j, hj, rfl⟩ := List.mem_map.1 hx
        exact hall j (by simpa using hj)
      have := List.Nodup.length_le_of_subset hnd hsub2
      simp at this; omega
    · intro hlen j hj
      rcases Classical.em ((j : Int) ∈ L) with hm | hm
      · exact hm
      · have := List.Nodup.length_le_of_subset (l₁ := (j : Int) :: L) (List.nodup_cons.2 ⟨hm, h.1⟩) (fun x hx => by
          rcases List.mem_cons.1 hx with rfl | hx
          · exact List.mem_map.2 ⟨j, List.mem_range.2 hj, rfl⟩
          · exact hsub hx)
        simp at this; omega
  rw [Bool.eq_iff_iff]
  simp only [List.all_eq_true, id, decide_eq_true_eq, cm, List.mem_map, List.mem_range]
  constructor
  · intro hall
    have := key.1 (fun j hj => by simpa using hall _ ⟨j, hj, rfl⟩)
    omega
  · rintro hlen x ⟨j, hj, rfl⟩
    simpa using key.2 (by omega) j hj

/-- At block g lies a gate of the reference, with n channels, its row at block b. -/
def RefAt (w : World) (g b : Nat) (n : Nat) (num kind : Int) (L : List Int) : Prop :=
  w.heap[g]? = some (.cells #[.slice (some ⟨b, 0, none⟩) n n, .int .i64 num, .int .i64 kind] 42 (0, 0)) ∧ RowB w b (cm n L)
theorem RefAt.kept {S : Nat → Prop} {w w1 : World} {g b n : Nat} {num kind : Int} {L : List Int} (h : RefAt w g b n num kind L) (hc : Chg S w w1) (h1 : ¬ S g) (h2 : ¬ S b) : RefAt w1 g b n num kind L :=
  ⟨hc.blk h.1 h1, h.2.kept hc h2⟩
theorem RefAt.lt1 {w : World} {g b n : Nat} {num kind : Int} {L : List Int} (h : RefAt w g b n num kind L) : g < w.heap.size := blk_lt h.1
theorem RefAt.lt2 {w : World} {g b n : Nat} {num kind : Int} {L : List Int} (h : RefAt w g b n num kind L) : b < w.heap.size := blk_lt h.2
theorem RefAt.ne {w : World} {g b n : Nat} {num kind : Int} {L : List Int} (h : RefAt w g b n num kind L) : g ≠ b := ne_blk h.1 h.2 (by simp)

def NewPost (n : Nat) (w : World) (e : Ending) (w' : World) : Prop :=
  ∃ g b, e = .returned (.pointer (some ⟨g, 0, none⟩)) ∧ RefAt w' g b n 0 0 [] ∧ Chg (fun _ => False) w w' ∧ w.heap.size ≤ g ∧ w.heap.size ≤ b
set_option maxRecDepth 100000 in
theorem new0 (n : Nat) (hn : n ≤ 6) (w : World) : Calls Try.prog 16 #[.int .i64 n] w (NewPost n w) := by
  rcases Nat.eq_zero_or_pos n with rfl | hp
  · have hmk := makeB 0 (by omega)
    simp only [Int.ofNat_zero, Int.natCast_zero] at hmk ⊢
    go_enter Try.func16, Try.ntmps16
    go_wp2
    go_ret
    refine ⟨(w.alloc (.cells (madeCells #[.bool false] 0) 4)).heap.size, w.heap.size, by simp, ⟨blk_new _ _, ?_⟩, ((Chg.refl _ _).alloc _).alloc _, by simp, by omega⟩
    exact (RowB.new w 0).kept (S := fun _ => False) ((Chg.refl _ _).alloc _) (fun h => h)
  · have hmk := makeB n (by omega)
    have hn0 : 0 < (n : Int) := by omega
    go_enter Try.func16, Try.ntmps16
    go_wp2
    go_ret
    refine ⟨(w.alloc (.cells (madeCells #[.bool false] n) 4)).heap.size, w.heap.size, by simp, ⟨blk_new _ _, ?_⟩, ((Chg.refl _ _).alloc _).alloc _, by simp, by omega⟩
    rw [cm_nil]
    exact (RowB.new w _).kept (S := fun _ => False) ((Chg.refl _ _).alloc _) (fun h => h)
theorem new (n : Int) (hn : n ≤ 6) (w : World) : Calls Try.prog 16 #[.int .i64 n] w (NewPost (max 0 n).toNat w) := by
  by_cases h : 0 ≤ n
  · obtain ⟨m, rfl⟩ := Int.eq_ofNat_of_zero_le h
    rw [Int.max_eq_right h]
    exact new0 m (by omega) w
  · rw [Int.max_eq_left (by omega)]
    have hmk := makeB 0 (by omega)
    simp only [Int.ofNat_zero, Int.natCast_zero] at hmk
    have hneg : n < 0 := by omega
    clear h hn
    go_enter Try.func16, Try.ntmps16
    go_wp2
    go_ret
    refine ⟨(w.alloc (.cells (madeCells #[.bool false] 0) 4)).heap.size, w.heap.size, by simp, ⟨blk_new _ _, ?_⟩, ((Chg.refl _ _).alloc _).alloc _, by simp, by omega⟩
    exact (RowB.new w 0).kept (S := fun _ => False) ((Chg.refl _ _).alloc _) (fun h => h)

def CancelPost (w : World) (g b n : Nat) (kind : Int) (e : Ending) (w' : World) : Prop :=
  ∃ b', e = .returned (.tuple #[]) ∧ RefAt w' g b' n 0 kind [] ∧ Chg (fun k => k = g) w w' ∧ w.heap.size ≤ b'
theorem cancel {w : World} {g b n : Nat} {num kind : Int} {L : List Int} (h : RefAt w g b n num kind L) (hn : n ≤ 6) :
    Calls Try.prog 18 #[.pointer (some ⟨g, 0, none⟩)] w (CancelPost w g b n kind) := by
  have c0 := blk_cell h.1 0; have c1 := blk_cell h.1 1; have f0 := blk_free h.1 0; have f1 := blk_free h.1 1
  have hlt := h.lt1
  simp at c0 c1
  have hmk := makeB n (by omega)
  go_enter Try.func18, Try.ntmps18
  go_wp2
  go_end0
  refine ⟨w.heap.size, rfl, ⟨by simpa using blk_alloc (blk_set (blk_set h.1 1 (.int .i64 0)) 0 (.slice (some ⟨w.heap.size, 0, none⟩) n n)) (.cells (madeCells #[.bool false] n) 4), ?_⟩, ?_, Nat.le_refl _⟩
  · have := RowB.new ((w.setCell ⟨g, 1, none⟩ (.int .i64 0)).setCell ⟨g, 0, none⟩ (.slice (some ⟨w.heap.size, 0, none⟩) n n)) n
    rw [cm_nil]
    simpa [size_set] using this
  · exact (((Chg.refl (fun k => k = g) w).setCell (p := ⟨g, 1, none⟩) (.inl rfl) _).setCell (p := ⟨g, 0, none⟩) (.inl rfl) _).alloc _
end Go.Proofs.Ytkfimfhkmgcnlaa.RefG
