/- The gate's methods: what each returns, and what becomes of the gate. -/
import Derived.Test.YtkfimfhkmgcnlaaChecked
import Derived.Test.YtkfimfhkmgcnlaaBase
namespace Go.Proofs.Ytkfimfhkmgcnlaa.Gate
set_option linter.unusedVariables false
set_option linter.unusedSimpArgs false
open Go Go.RowKit Go.MapKept Go.ChangeMaps Go.Proofs.Ytkfimfhkmgcnlaa.B

/-- At block g lies a gate of n channels, its map at block b. -/
def GateAt (w : World) (g b : Nat) (n num kind : Int) (L : List Int) : Prop :=
  w.heap[g]? = some (.cells #[.int .i64 n, .map (some b), .int .i64 num, .int .i64 kind] 88 (0, 0)) ∧ SetMap w b L

theorem GateAt.kept {S : Nat → Prop} {w w1 : World} {g b : Nat} {n num kind : Int} {L : List Int} (h : GateAt w g b n num kind L) (hc : Chg S w w1) (h1 : ¬ S g) (h2 : ¬ S b) : GateAt w1 g b n num kind L :=
  ⟨hc.blk h.1 h1, h.2.kept hc h2⟩

theorem GateAt.cells {w : World} {g b : Nat} {n num kind : Int} {L : List Int} (h : GateAt w g b n num kind L) :
    w.cell? ⟨g, 0, none⟩ = some (.int .i64 n) ∧ w.cell? ⟨g, 1, none⟩ = some (.map (some b)) ∧ w.cell? ⟨g, 2, none⟩ = some (.int .i64 num) ∧ w.cell? ⟨g, 3, none⟩ = some (.int .i64 kind) ∧ (∀ j, w.frozen? ⟨g, j, none⟩ = false) ∧ g < w.heap.size := by
  refine ⟨?_, ?_, ?_, ?_, fun j => ?_, (Array.getElem?_eq_some_iff.1 h.1).1⟩ <;> simp [World.cell?, World.frozen?, h.1]

theorem busy {w : World} {g b : Nat} {n num kind : Int} {L : List Int} (h : GateAt w g b n num kind L) :
    Calls Try.prog 14 #[.pointer (some ⟨g, 0, none⟩)] w fun e w' => e = .returned (.bool (decide (0 < num))) ∧ w = w' := by
  obtain ⟨c0, c1, c2, c3, cf, hlt⟩ := h.cells
  clear h c0 c1 c3 cf hlt
  go_enter Try.func14, Try.ntmps14
  go_wp2
  go_ret
  exact ⟨rfl, rfl⟩

theorem number {w : World} {g b : Nat} {n num kind : Int} {L : List Int} (h : GateAt w g b n num kind L) :
    Calls Try.prog 15 #[.pointer (some ⟨g, 0, none⟩)] w fun e w' => e = .returned (.int .i64 num) ∧ w = w' := by
  obtain ⟨c0, c1, c2, c3, cf, hlt⟩ := h.cells
  clear h c0 c1 c3 cf hlt
  go_enter Try.func15, Try.ntmps15
  go_wp2
  go_ret
  exact ⟨rfl, rfl⟩

def NewPost (n : Int) (w : World) (e : Ending) (w' : World) : Prop :=
  ∃ g b, e = .returned (.pointer (some ⟨g, 0, none⟩)) ∧ GateAt w' g b (max n 0) 0 0 [] ∧ Chg (fun _ => False) w w' ∧ w.heap.size ≤ g ∧ w.heap.size ≤ b
theorem new (n : Int) (w : World) :
    Calls Try.prog 9 #[.int .i64 n] w (NewPost n w) := by
  have hmm := @run_makeMap Try.prog
  go_enter Try.func9, Try.ntmps9
  go_wp2
  all_goals
    go_ret
    refine ⟨(w.alloc (.map #[] 0)).heap.size, w.heap.size, by simp, ⟨?_, ?_⟩, ((Chg.refl _ _).alloc _).alloc _, by simp, by omega⟩
  · rw [show max n 0 = 0 by omega]; exact (MapKept.heap_alloc _ _).1
  · exact (SetMap.made w).kept (S := fun _ => False) ((Chg.refl _ _).alloc _) (by simp)
  · rw [show max n 0 = n by omega]; exact (MapKept.heap_alloc _ _).1
  · exact (SetMap.made w).kept (S := fun _ => False) ((Chg.refl _ _).alloc _) (by simp)

def CancelPost (w : World) (g b : Nat) (n kind : Int) (e : Ending) (w' : World) : Prop :=
  ∃ b', e = .returned (.tuple #[]) ∧ GateAt w' g b' n 0 kind [] ∧ Chg (fun k => k = g) w w' ∧ w.heap.size ≤ b'
theorem cancel {w : World} {g b : Nat} {n num kind : Int} {L : List Int} (h : GateAt w g b n num kind L) :
    Calls Try.prog 17 #[.pointer (some ⟨g, 0, none⟩)] w (CancelPost w g b n kind) := by
  obtain ⟨c0, c1, c2, c3, cf, hlt⟩ := h.cells
  have hmm := @run_makeMap Try.prog
  have cf1 := cf 1
  have cf2 := cf 2
  clear cf
  go_enter Try.func17, Try.ntmps17
  go_wp2
  go_end0
  refine ⟨w.heap.size, rfl, ⟨by simpa using blk_alloc (blk_set (blk_set h.1 2 (.int .i64 0)) 1 (.map (some w.heap.size))) (.map #[] 0), ?_⟩,
    ?_, Nat.le_refl _⟩
  rotate_left
  · exact (((Chg.refl (fun k => k = g) w).setCell (p := ⟨g, 2, none⟩) (.inl rfl) _).setCell (p := ⟨g, 1, none⟩) (.inl rfl) _).alloc _
  have := SetMap.made ((w.setCell ⟨g, 2, none⟩ (.int .i64 0)).setCell ⟨g, 1, none⟩ (.map (some w.heap.size)))
  simpa using this

theorem GateAt.drewN {w : World} {g b : Nat} {n num kind : Int} {L : List Int} (h : GateAt w g b n num kind L) (m : Nat) : GateAt (w.drewN m) g b n num kind L := h

/-- What a gate makes of a barrier (L': the channels on which it has come, this one among them): the answer, and what of the gate is then. -/
def barA (n num : Int) (L' : List Int) (kind : Int) : Int := if kind = 0 ∧ (L'.length : Int) = n ∨ kind = 1 ∧ ¬ 0 < num then 4 else 3
def barN (n : Int) (L' : List Int) (mn : Int) : Int := if (L'.length : Int) = n then 0 else mn
def barL (n : Int) (L' : List Int) : List Int := if (L'.length : Int) = n then [] else L'
def addL (L : List Int) (i : Int) : List Int := if i ∈ L then L else L ++ [i]
def BarPost (w : World) (g b : Nat) (n num : Int) (L' : List Int) (mn kind : Int) (e : Ending) (w' : World) : Prop :=
  ∃ b', e = .returned (.int .i64 (barA n num L' kind)) ∧ GateAt w' g b' n (barN n L' mn) kind (barL n L') ∧ Chg (fun k => k = g ∨ k = b) w w' ∧ (b' = b ∨ w.heap.size ≤ b')
theorem ret_int {a b : Int} (h : a = b) : Ending.returned (.int .i64 a) = .returned (.int .i64 b) := by rw [h]

theorem zero4 (w : World) : (zeroValue 4).run Try.prog w = .ok (.bool false) w := by kernel_rfl

set_option maxRecDepth 100000 in
theorem barrier {w : World} {g b : Nat} {n num kind0 : Int} {L : List Int} (h : GateAt w g b n num kind0 L) (i mn kind : Int) :
    Calls Try.prog 49 #[.pointer (some ⟨g, 0, none⟩), .int .i64 i, .int .i64 mn, .int .i64 kind] w (BarPost w g b n num (addL L i) mn kind) := by
  obtain ⟨c0, c1, c2, c3, cf, hlt⟩ := h.cells
  have cf2 := cf 2
  have cf3 := cf 3
  have hgb : g ≠ b := by rintro rfl; obtain ⟨es, c, hh, _⟩ := h.2; rw [h.1] at hh; cases hh
  have HB := Lib.hid (busy h)
  have hs2 : SetMap ((w.setCell ⟨g, 2, none⟩ (.int .i64 mn)).setCell ⟨g, 3, none⟩ (.int .i64 kind)) b L :=
    h.2.kept (S := fun k => k = g) (((Chg.refl (fun k => k = g) w).setCell (p := ⟨g, 2, none⟩) (.inl rfl) _).setCell (p := ⟨g, 3, none⟩) (.inl rfl) _) (fun e => hgb e.symm)
  obtain ⟨v0, st, W1, W2, hr1, hr2, hc1, hc2, hset⟩ := hs2.entry' (P := Try.prog) (t := 86) Try.underlying86 Try.underlying3 (zero4 _) i
  have hg2 := hc2.blk (blk_set (blk_set h.1 2 (.int .i64 mn)) 3 (.int .i64 kind)) hgb
  have d0 : W2.cell? ⟨g, 0, none⟩ = some (.int .i64 n) := by rw [blk_cell hg2]; rfl
  have d1 : W2.cell? ⟨g, 1, none⟩ = some (.map (some b)) := by rw [blk_cell hg2]; rfl
  have hGk : GateAt W2 g b n mn kind (addL L i) := ⟨hg2, hset⟩
  have hlen : ∀ (ty : TypeId) (m : Nat), (Builtin.len_ #[86] ty #[.map (some b)]).run Try.prog (W2.drewN m) = .ok (.int .i64 ((addL L i).length : Int)) (W2.drewN m) :=
    fun ty m => SetMap.len (w := W2.drewN m) hset Try.underlying86 ty
  have hC := hc2.mono (S' := fun k => k = g ∨ k = b) (fun k hk => .inr hk)
  have hC2 := ((((Chg.refl (fun k => k = g ∨ k = b) w).setCell (p := ⟨g, 2, none⟩) (.inl (.inl rfl)) (.int .i64 mn)).setCell (p := ⟨g, 3, none⟩) (.inl (.inl rfl)) (.int .i64 kind))).trans hC
  generalize addL L i = L' at hGk hlen ⊢
  have hcan := fun m => cancel (hGk.drewN m)
  have Hk := Lib.hid hGk
  have Hc := Lib.hid hC2
  have Hcan := Lib.hid hcan
  clear cf h hs2 hc1 hset hc2 hg2 hGk hC hC2 hcan
  by_cases hall : (L'.length : Int) = n
  · have hall' : ((L'.length : Int) == n) = true := by simpa using hall
    have HA := Lib.hid hall
    clear hall
    go_enter Try.func49, Try.ntmps49
    go_wp2_with (first | (go_at_call 14; refine HB.out.mono ?_; rintro e w' ⟨rfl, rfl⟩))
    go_quiet (fail)
    go_wp2_with (first | (go_at_call 17; refine (Hcan.out _).mono ?_; rintro e w' ⟨b', rfl, q1, q2, q3⟩; have Q1 := Lib.hid q1; have Q2 := Lib.hid q2; clear q1 q2))
    all_goals
      go_ret
      refine ⟨b', ret_int (by unfold barA; have := HA.out; split <;> first | rfl | (exfalso; simp_all; done) | (exfalso; simp_all; omega)), by simpa [barN, barL, HA.out] using Q1.out, (Hc.out.drewN nq).trans (Q2.out.mono (fun k hk => .inl hk)), .inr (Nat.le_trans Hc.out.size q3)⟩
  · have hall' : ((L'.length : Int) == n) = false := by simpa using hall
    have HA := Lib.hid hall
    clear hall
    go_enter Try.func49, Try.ntmps49
    go_wp2_with (first | (go_at_call 14; refine HB.out.mono ?_; rintro e w' ⟨rfl, rfl⟩))
    go_quiet (fail)
    go_wp2_with (fail)
    all_goals
      go_ret
      refine ⟨b, ret_int (by unfold barA; have := HA.out; split <;> first | rfl | (exfalso; simp_all; done) | (exfalso; simp_all; omega)), by simpa [barN, barL, HA.out] using Hk.out.drewN nq, Hc.out.drewN nq, .inl rfl⟩
end Go.Proofs.Ytkfimfhkmgcnlaa.Gate
