/- The gate's Arrive. -/
import Derived.Test.YtkfimfhkmgcnlaaGate
namespace Go.Proofs.Ytkfimfhkmgcnlaa.Gate
set_option linter.unusedVariables false
set_option linter.unusedSimpArgs false
open Go Go.RowKit Go.MapKept Go.ChangeMaps Go.Proofs.Ytkfimfhkmgcnlaa.B

/-- What a gate answers; 5: a barrier that is to be noted. -/
def arrC (n num kind0 : Int) (L : List Int) (i mk mn kind : Int) : Int :=
  if i < 0 ∨ n ≤ i ∨ kind ≠ 0 ∧ kind ≠ 1 then -1
  else if 0 < num ∧ kind0 ≠ 1 ∧ i ∈ L then 0
  else if mk ≠ 1 ∧ 0 < num ∧ kind0 = 1 ∧ i ∉ L then 2
  else if mk ≠ 1 then 1
  else if mn < 1 ∨ 0 < num ∧ (mn ≠ num ∨ kind ≠ kind0 ∨ i ∈ L) then -1
  else 5
def ArrPost (w : World) (g b : Nat) (n num kind0 : Int) (L : List Int) (i mk mn kind : Int) (e : Ending) (w' : World) : Prop :=
  (arrC n num kind0 L i mk mn kind ≠ 5 ∧ e = .returned (.int .i64 (arrC n num kind0 L i mk mn kind)) ∧ GateAt w' g b n num kind0 L ∧ Chg (fun k => k = g ∨ k = b) w w') ∨
  (arrC n num kind0 L i mk mn kind = 5 ∧ BarPost w g b n num (addL L i) mn kind e w')

section
variable {w : World} {g b : Nat} {n num kind0 : Int} {L : List Int} (h : GateAt w g b n num kind0 L) (i mk nd ni bk mn kind : Int) (A : Option Addr) (dn dc : Nat)
include h
set_option maxRecDepth 100000 in
set_option maxHeartbeats 1000000 in
theorem arrive_bad (h1 : i < 0 ∨ n ≤ i ∨ kind ≠ 0 ∧ kind ≠ 1) : Calls Try.prog 13 #[.pointer (some ⟨g, 0, none⟩), .int .i64 i, .agg #[.int .i64 mk, .int .i64 nd, .int .i64 ni, .int .i64 bk, .int .i64 mn, .slice A dn dc], .int .i64 kind] w
      (ArrPost w g b n num kind0 L i mk mn kind) := by
  have hC : arrC n num kind0 L i mk mn kind = -1 := by unfold arrC; grind
  have HC := Lib.hid hC
  clear hC
  obtain ⟨c0, c1, c2, c3, cf, hlt⟩ := h.cells
  have hlk : ∀ (o : Obj) (m : Nat), (Instr.lookup 86 (.map (some b)) (.int .i64 i) false).run Try.prog ((w.alloc o).drewN m) = .ok (.bool (decide (i ∈ L))) ((w.alloc o).drewN m) :=
    fun o m => SetMap.lookup (w := (w.alloc o).drewN m) (h.2.kept (S := fun _ => False) (((Chg.refl _ _).alloc o).drewN m) (by simp)) Try.underlying86 Try.underlying3 (zero4 _) i
  have hlk0 : ∀ (o : Obj), (Instr.lookup 86 (.map (some b)) (.int .i64 i) false).run Try.prog (w.alloc o) = .ok (.bool (decide (i ∈ L))) (w.alloc o) := fun o => hlk o 0
  have hG : ∀ (o : Obj) (m : Nat), GateAt ((w.alloc o).drewN m) g b n num kind0 L := fun o m => h.kept (S := fun _ => False) (((Chg.refl _ _).alloc o).drewN m) (by simp) (by simp)
  have hG0 : ∀ (o : Obj), GateAt (w.alloc o) g b n num kind0 L := fun o => hG o 0
  have hB := fun o m => busy (hG o m)
  have hB0 := fun o => busy (hG0 o)
  have HB := Lib.hid hB
  have HB0 := Lib.hid hB0
  clear hB hB0
  have HG := Lib.hid hG
  have HR := Lib.hid (fun o m => barrier (hG o m) i mn kind)
  clear h cf hG hG0
  rcases h1 with h1 | h1 | ⟨h1, h2⟩
  rotate_right
  · have h3 : (kind != 0) = true := by simpa using h1
    have h4 : (kind != 1) = true := by simpa using h2
    clear h1 h2
    go_enter Try.func13, Try.ntmps13
    go_wp2_with (first | (go_at_call 14; refine (HB0.out _).mono ?_; rintro e w' ⟨rfl, rfl⟩))
    all_goals
      go_ret
      refine Or.inl ⟨by rw [HC.out]; decide, ret_int HC.out.symm, ?_, ?_⟩
      · first | exact HG.out _ 0 | exact HG.out _ _
      · first | exact (Chg.refl _ _).alloc _ | exact ((Chg.refl _ _).alloc _).drewN _
  all_goals
    go_enter Try.func13, Try.ntmps13
    go_wp2_with (first | (go_at_call 14; refine (HB0.out _).mono ?_; rintro e w' ⟨rfl, rfl⟩))
    all_goals
      go_ret
      refine Or.inl ⟨by rw [HC.out]; decide, ret_int HC.out.symm, ?_, ?_⟩
      · first | exact HG.out _ 0 | exact HG.out _ _
      · first | exact (Chg.refl _ _).alloc _ | exact ((Chg.refl _ _).alloc _).drewN _

set_option maxRecDepth 100000 in
set_option maxHeartbeats 1000000 in
theorem arrive_0 (hkd : kind = 0 ∨ kind = 1) (h1 : 0 ≤ i) (h2 : i < n) (hb : ¬ 0 < num) (hm : mk ≠ 1) : Calls Try.prog 13 #[.pointer (some ⟨g, 0, none⟩), .int .i64 i, .agg #[.int .i64 mk, .int .i64 nd, .int .i64 ni, .int .i64 bk, .int .i64 mn, .slice A dn dc], .int .i64 kind] w
      (ArrPost w g b n num kind0 L i mk mn kind) := by
  have hC : arrC n num kind0 L i mk mn kind = 1 := by unfold arrC; grind
  have HC := Lib.hid hC
  clear hC
  have hb' : num ≤ 0 := by omega
  have eb : decide (0 < num) = false := by simp; omega
  have hm' : (mk != 1) = true := by simpa using hm
  clear hm
  obtain ⟨c0, c1, c2, c3, cf, hlt⟩ := h.cells
  have hlk : ∀ (o : Obj) (m : Nat), (Instr.lookup 86 (.map (some b)) (.int .i64 i) false).run Try.prog ((w.alloc o).drewN m) = .ok (.bool (decide (i ∈ L))) ((w.alloc o).drewN m) :=
    fun o m => SetMap.lookup (w := (w.alloc o).drewN m) (h.2.kept (S := fun _ => False) (((Chg.refl _ _).alloc o).drewN m) (by simp)) Try.underlying86 Try.underlying3 (zero4 _) i
  have hlk0 : ∀ (o : Obj), (Instr.lookup 86 (.map (some b)) (.int .i64 i) false).run Try.prog (w.alloc o) = .ok (.bool (decide (i ∈ L))) (w.alloc o) := fun o => hlk o 0
  have hG : ∀ (o : Obj) (m : Nat), GateAt ((w.alloc o).drewN m) g b n num kind0 L := fun o m => h.kept (S := fun _ => False) (((Chg.refl _ _).alloc o).drewN m) (by simp) (by simp)
  have hG0 : ∀ (o : Obj), GateAt (w.alloc o) g b n num kind0 L := fun o => hG o 0
  have hB := fun o m => busy (hG o m)
  have hB0 := fun o => busy (hG0 o)
  rw [eb] at hB hB0; clear eb
  have HB := Lib.hid hB
  have HB0 := Lib.hid hB0
  clear hB hB0
  have HG := Lib.hid hG
  have HR := Lib.hid (fun o m => barrier (hG o m) i mn kind)
  clear h cf hG hG0
  rcases hkd with rfl | rfl
  all_goals
    go_enter Try.func13, Try.ntmps13
    go_wp2_with (first | (go_at_call 14; refine (HB0.out _).mono ?_; rintro e w' ⟨rfl, rfl⟩))
    all_goals
      go_ret
      refine Or.inl ⟨by rw [HC.out]; decide, ret_int HC.out.symm, ?_, ?_⟩
      · first | exact HG.out _ 0 | exact HG.out _ _
      · first | exact (Chg.refl _ _).alloc _ | exact ((Chg.refl _ _).alloc _).drewN _

set_option maxRecDepth 100000 in
set_option maxHeartbeats 1000000 in
theorem arrive_1 (hkd : kind = 0 ∨ kind = 1) (h1 : 0 ≤ i) (h2 : i < n) (hb : ¬ 0 < num) (hm : mk = 1) (hn : mn < 1) : Calls Try.prog 13 #[.pointer (some ⟨g, 0, none⟩), .int .i64 i, .agg #[.int .i64 mk, .int .i64 nd, .int .i64 ni, .int .i64 bk, .int .i64 mn, .slice A dn dc], .int .i64 kind] w
      (ArrPost w g b n num kind0 L i mk mn kind) := by
  have hC : arrC n num kind0 L i mk mn kind = -1 := by unfold arrC; grind
  have HC := Lib.hid hC
  clear hC
  have hb' : num ≤ 0 := by omega
  have eb : decide (0 < num) = false := by simp; omega
  have hm' : (mk != 1) = false := by simpa using hm
  clear hm
  have hn' : decide (mn < 1) = true := by simpa using hn
  obtain ⟨c0, c1, c2, c3, cf, hlt⟩ := h.cells
  have hlk : ∀ (o : Obj) (m : Nat), (Instr.lookup 86 (.map (some b)) (.int .i64 i) false).run Try.prog ((w.alloc o).drewN m) = .ok (.bool (decide (i ∈ L))) ((w.alloc o).drewN m) :=
    fun o m => SetMap.lookup (w := (w.alloc o).drewN m) (h.2.kept (S := fun _ => False) (((Chg.refl _ _).alloc o).drewN m) (by simp)) Try.underlying86 Try.underlying3 (zero4 _) i
  have hlk0 : ∀ (o : Obj), (Instr.lookup 86 (.map (some b)) (.int .i64 i) false).run Try.prog (w.alloc o) = .ok (.bool (decide (i ∈ L))) (w.alloc o) := fun o => hlk o 0
  have hG : ∀ (o : Obj) (m : Nat), GateAt ((w.alloc o).drewN m) g b n num kind0 L := fun o m => h.kept (S := fun _ => False) (((Chg.refl _ _).alloc o).drewN m) (by simp) (by simp)
  have hG0 : ∀ (o : Obj), GateAt (w.alloc o) g b n num kind0 L := fun o => hG o 0
  have hB := fun o m => busy (hG o m)
  have hB0 := fun o => busy (hG0 o)
  rw [eb] at hB hB0; clear eb
  have HB := Lib.hid hB
  have HB0 := Lib.hid hB0
  clear hB hB0
  have HG := Lib.hid hG
  have HR := Lib.hid (fun o m => barrier (hG o m) i mn kind)
  clear h cf hG hG0
  rcases hkd with rfl | rfl
  all_goals
    go_enter Try.func13, Try.ntmps13
    go_wp2_with (first | (go_at_call 14; refine (HB0.out _).mono ?_; rintro e w' ⟨rfl, rfl⟩))
    go_quiet ((go_at_call 14; exact Calls.quiet_of_same ((HB.out _ _).mono fun _ _ h => ⟨h.1, h.2.symm⟩)))
    go_wp2_with (fail)
    all_goals
      go_ret
      refine Or.inl ⟨by rw [HC.out]; decide, ret_int HC.out.symm, ?_, ?_⟩
      · first | exact HG.out _ 0 | exact HG.out _ _
      · first | exact (Chg.refl _ _).alloc _ | exact ((Chg.refl _ _).alloc _).drewN _

set_option maxRecDepth 100000 in
set_option maxHeartbeats 1000000 in
theorem arrive_2 (hkd : kind = 0 ∨ kind = 1) (h1 : 0 ≤ i) (h2 : i < n) (hb : ¬ 0 < num) (hm : mk = 1) (hn : ¬ mn < 1) : Calls Try.prog 13 #[.pointer (some ⟨g, 0, none⟩), .int .i64 i, .agg #[.int .i64 mk, .int .i64 nd, .int .i64 ni, .int .i64 bk, .int .i64 mn, .slice A dn dc], .int .i64 kind] w
      (ArrPost w g b n num kind0 L i mk mn kind) := by
  have hC : arrC n num kind0 L i mk mn kind = 5 := by unfold arrC; grind
  have HC := Lib.hid hC
  clear hC
  have hb' : num ≤ 0 := by omega
  have eb : decide (0 < num) = false := by simp; omega
  have hm' : (mk != 1) = false := by simpa using hm
  clear hm
  have hn' : decide (mn < 1) = false := by simpa using hn
  clear hn
  obtain ⟨c0, c1, c2, c3, cf, hlt⟩ := h.cells
  have hlk : ∀ (o : Obj) (m : Nat), (Instr.lookup 86 (.map (some b)) (.int .i64 i) false).run Try.prog ((w.alloc o).drewN m) = .ok (.bool (decide (i ∈ L))) ((w.alloc o).drewN m) :=
    fun o m => SetMap.lookup (w := (w.alloc o).drewN m) (h.2.kept (S := fun _ => False) (((Chg.refl _ _).alloc o).drewN m) (by simp)) Try.underlying86 Try.underlying3 (zero4 _) i
  have hlk0 : ∀ (o : Obj), (Instr.lookup 86 (.map (some b)) (.int .i64 i) false).run Try.prog (w.alloc o) = .ok (.bool (decide (i ∈ L))) (w.alloc o) := fun o => hlk o 0
  have hG : ∀ (o : Obj) (m : Nat), GateAt ((w.alloc o).drewN m) g b n num kind0 L := fun o m => h.kept (S := fun _ => False) (((Chg.refl _ _).alloc o).drewN m) (by simp) (by simp)
  have hG0 : ∀ (o : Obj), GateAt (w.alloc o) g b n num kind0 L := fun o => hG o 0
  have hB := fun o m => busy (hG o m)
  have hB0 := fun o => busy (hG0 o)
  rw [eb] at hB hB0; clear eb
  have HB := Lib.hid hB
  have HB0 := Lib.hid hB0
  clear hB hB0
  have HG := Lib.hid hG
  have HR := Lib.hid (fun o m => barrier (hG o m) i mn kind)
  clear h cf hG hG0
  rcases hkd with rfl | rfl
  all_goals
    go_enter Try.func13, Try.ntmps13
    go_wp2_with (first | (go_at_call 14; refine (HB0.out _).mono ?_; rintro e w' ⟨rfl, rfl⟩))
    go_quiet ((go_at_call 14; exact Calls.quiet_of_same ((HB.out _ _).mono fun _ _ h => ⟨h.1, h.2.symm⟩)))
    go_wp2_with (first | (go_at_call 49; refine (HR.out _ _).mono ?_; rintro e w' ⟨b', rfl, q1, q2, q3⟩; have Q1 := Lib.hid q1; have Q2 := Lib.hid q2; clear q1 q2))
    all_goals
      go_ret
      exact Or.inr ⟨HC.out, b', rfl, Q1.out, (((Chg.refl _ _).alloc _).drewN _).trans Q2.out, q3.imp id (fun h => by simp at h; omega)⟩

set_option maxRecDepth 100000 in
set_option maxHeartbeats 1000000 in
theorem arrive_3 (hkd : kind = 0 ∨ kind = 1) (h1 : 0 ≤ i) (h2 : i < n) (hb : 0 < num) (hk : kind0 ≠ 1) (hL : i ∈ L) : Calls Try.prog 13 #[.pointer (some ⟨g, 0, none⟩), .int .i64 i, .agg #[.int .i64 mk, .int .i64 nd, .int .i64 ni, .int .i64 bk, .int .i64 mn, .slice A dn dc], .int .i64 kind] w
      (ArrPost w g b n num kind0 L i mk mn kind) := by
  have hC : arrC n num kind0 L i mk mn kind = 0 := by unfold arrC; grind
  have HC := Lib.hid hC
  clear hC
  have eb : decide (0 < num) = true := by simpa using hb
  have hk' : (kind0 == 1) = false := by simpa using hk
  clear hk
  have hL' : decide (i ∈ L) = true := by simpa using hL
  clear hL
  obtain ⟨c0, c1, c2, c3, cf, hlt⟩ := h.cells
  have hlk : ∀ (o : Obj) (m : Nat), (Instr.lookup 86 (.map (some b)) (.int .i64 i) false).run Try.prog ((w.alloc o).drewN m) = .ok (.bool (decide (i ∈ L))) ((w.alloc o).drewN m) :=
    fun o m => SetMap.lookup (w := (w.alloc o).drewN m) (h.2.kept (S := fun _ => False) (((Chg.refl _ _).alloc o).drewN m) (by simp)) Try.underlying86 Try.underlying3 (zero4 _) i
  have hlk0 : ∀ (o : Obj), (Instr.lookup 86 (.map (some b)) (.int .i64 i) false).run Try.prog (w.alloc o) = .ok (.bool (decide (i ∈ L))) (w.alloc o) := fun o => hlk o 0
  have hG : ∀ (o : Obj) (m : Nat), GateAt ((w.alloc o).drewN m) g b n num kind0 L := fun o m => h.kept (S := fun _ => False) (((Chg.refl _ _).alloc o).drewN m) (by simp) (by simp)
  have hG0 : ∀ (o : Obj), GateAt (w.alloc o) g b n num kind0 L := fun o => hG o 0
  have hB := fun o m => busy (hG o m)
  have hB0 := fun o => busy (hG0 o)
  rw [eb] at hB hB0; clear eb
  have HB := Lib.hid hB
  have HB0 := Lib.hid hB0
  clear hB hB0
  have HG := Lib.hid hG
  have HR := Lib.hid (fun o m => barrier (hG o m) i mn kind)
  clear h cf hG hG0
  rcases hkd with rfl | rfl
  all_goals
    go_enter Try.func13, Try.ntmps13
    go_wp2_with (first | (go_at_call 14; refine (HB0.out _).mono ?_; rintro e w' ⟨rfl, rfl⟩))
    all_goals
      go_ret
      refine Or.inl ⟨by rw [HC.out]; decide, ret_int HC.out.symm, ?_, ?_⟩
      · first | exact HG.out _ 0 | exact HG.out _ _
      · first | exact (Chg.refl _ _).alloc _ | exact ((Chg.refl _ _).alloc _).drewN _

set_option maxRecDepth 100000 in
set_option maxHeartbeats 1000000 in
theorem arrive_4 (hkd : kind = 0 ∨ kind = 1) (h1 : 0 ≤ i) (h2 : i < n) (hb : 0 < num) (hk : kind0 ≠ 1) (hL : i ∉ L) (hm : mk ≠ 1) : Calls Try.prog 13 #[.pointer (some ⟨g, 0, none⟩), .int .i64 i, .agg #[.int .i64 mk, .int .i64 nd, .int .i64 ni, .int .i64 bk, .int .i64 mn, .slice A dn dc], .int .i64 kind] w
      (ArrPost w g b n num kind0 L i mk mn kind) := by
  have hC : arrC n num kind0 L i mk mn kind = 1 := by unfold arrC; grind
  have HC := Lib.hid hC
  clear hC
  have eb : decide (0 < num) = true := by simpa using hb
  have hk' : (kind0 == 1) = false := by simpa using hk
  clear hk
  have hL' : decide (i ∈ L) = false := by simpa using hL
  clear hL
  have hm' : (mk != 1) = true := by simpa using hm
  clear hm
  obtain ⟨c0, c1, c2, c3, cf, hlt⟩ := h.cells
  have hlk : ∀ (o : Obj) (m : Nat), (Instr.lookup 86 (.map (some b)) (.int .i64 i) false).run Try.prog ((w.alloc o).drewN m) = .ok (.bool (decide (i ∈ L))) ((w.alloc o).drewN m) :=
    fun o m => SetMap.lookup (w := (w.alloc o).drewN m) (h.2.kept (S := fun _ => False) (((Chg.refl _ _).alloc o).drewN m) (by simp)) Try.underlying86 Try.underlying3 (zero4 _) i
  have hlk0 : ∀ (o : Obj), (Instr.lookup 86 (.map (some b)) (.int .i64 i) false).run Try.prog (w.alloc o) = .ok (.bool (decide (i ∈ L))) (w.alloc o) := fun o => hlk o 0
  have hG : ∀ (o : Obj) (m : Nat), GateAt ((w.alloc o).drewN m) g b n num kind0 L := fun o m => h.kept (S := fun _ => False) (((Chg.refl _ _).alloc o).drewN m) (by simp) (by simp)
  have hG0 : ∀ (o : Obj), GateAt (w.alloc o) g b n num kind0 L := fun o => hG o 0
  have hB := fun o m => busy (hG o m)
  have hB0 := fun o => busy (hG0 o)
  rw [eb] at hB hB0; clear eb
  have HB := Lib.hid hB
  have HB0 := Lib.hid hB0
  clear hB hB0
  have HG := Lib.hid hG
  have HR := Lib.hid (fun o m => barrier (hG o m) i mn kind)
  clear h cf hG hG0
  rcases hkd with rfl | rfl
  all_goals
    go_enter Try.func13, Try.ntmps13
    go_wp2_with (first | (go_at_call 14; refine (HB0.out _).mono ?_; rintro e w' ⟨rfl, rfl⟩))
    all_goals
      go_ret
      refine Or.inl ⟨by rw [HC.out]; decide, ret_int HC.out.symm, ?_, ?_⟩
      · first | exact HG.out _ 0 | exact HG.out _ _
      · first | exact (Chg.refl _ _).alloc _ | exact ((Chg.refl _ _).alloc _).drewN _

set_option maxRecDepth 100000 in
set_option maxHeartbeats 1000000 in
theorem arrive_5 (hkd : kind = 0 ∨ kind = 1) (h1 : 0 ≤ i) (h2 : i < n) (hb : 0 < num) (hk : kind0 ≠ 1) (hL : i ∉ L) (hm : mk = 1) (hn : mn < 1) : Calls Try.prog 13 #[.pointer (some ⟨g, 0, none⟩), .int .i64 i, .agg #[.int .i64 mk, .int .i64 nd, .int .i64 ni, .int .i64 bk, .int .i64 mn, .slice A dn dc], .int .i64 kind] w
      (ArrPost w g b n num kind0 L i mk mn kind) := by
  have hC : arrC n num kind0 L i mk mn kind = -1 := by unfold arrC; grind
  have HC := Lib.hid hC
  clear hC
  have eb : decide (0 < num) = true := by simpa using hb
  have hk' : (kind0 == 1) = false := by simpa using hk
  clear hk
  have hL' : decide (i ∈ L) = false := by simpa using hL
  clear hL
  have hm' : (mk != 1) = false := by simpa using hm
  clear hm
  have hn' : decide (mn < 1) = true := by simpa using hn
  obtain ⟨c0, c1, c2, c3, cf, hlt⟩ := h.cells
  have hlk : ∀ (o : Obj) (m : Nat), (Instr.lookup 86 (.map (some b)) (.int .i64 i) false).run Try.prog ((w.alloc o).drewN m) = .ok (.bool (decide (i ∈ L))) ((w.alloc o).drewN m) :=
    fun o m => SetMap.lookup (w := (w.alloc o).drewN m) (h.2.kept (S := fun _ => False) (((Chg.refl _ _).alloc o).drewN m) (by simp)) Try.underlying86 Try.underlying3 (zero4 _) i
  have hlk0 : ∀ (o : Obj), (Instr.lookup 86 (.map (some b)) (.int .i64 i) false).run Try.prog (w.alloc o) = .ok (.bool (decide (i ∈ L))) (w.alloc o) := fun o => hlk o 0
  have hG : ∀ (o : Obj) (m : Nat), GateAt ((w.alloc o).drewN m) g b n num kind0 L := fun o m => h.kept (S := fun _ => False) (((Chg.refl _ _).alloc o).drewN m) (by simp) (by simp)
  have hG0 : ∀ (o : Obj), GateAt (w.alloc o) g b n num kind0 L := fun o => hG o 0
  have hB := fun o m => busy (hG o m)
  have hB0 := fun o => busy (hG0 o)
  rw [eb] at hB hB0; clear eb
  have HB := Lib.hid hB
  have HB0 := Lib.hid hB0
  clear hB hB0
  have HG := Lib.hid hG
  have HR := Lib.hid (fun o m => barrier (hG o m) i mn kind)
  clear h cf hG hG0
  rcases hkd with rfl | rfl
  all_goals
    go_enter Try.func13, Try.ntmps13
    go_wp2_with (first | (go_at_call 14; refine (HB0.out _).mono ?_; rintro e w' ⟨rfl, rfl⟩))
    go_quiet ((go_at_call 14; exact Calls.quiet_of_same ((HB.out _ _).mono fun _ _ h => ⟨h.1, h.2.symm⟩)))
    go_wp2_with (fail)
    all_goals
      go_ret
      refine Or.inl ⟨by rw [HC.out]; decide, ret_int HC.out.symm, ?_, ?_⟩
      · first | exact HG.out _ 0 | exact HG.out _ _
      · first | exact (Chg.refl _ _).alloc _ | exact ((Chg.refl _ _).alloc _).drewN _

set_option maxRecDepth 100000 in
set_option maxHeartbeats 1000000 in
theorem arrive_6 (hkd : kind = 0 ∨ kind = 1) (h1 : 0 ≤ i) (h2 : i < n) (hb : 0 < num) (hk : kind0 ≠ 1) (hL : i ∉ L) (hm : mk = 1) (hn : ¬ mn < 1) (he : mn ≠ num) : Calls Try.prog 13 #[.pointer (some ⟨g, 0, none⟩), .int .i64 i, .agg #[.int .i64 mk, .int .i64 nd, .int .i64 ni, .int .i64 bk, .int .i64 mn, .slice A dn dc], .int .i64 kind] w
      (ArrPost w g b n num kind0 L i mk mn kind) := by
  have hC : arrC n num kind0 L i mk mn kind = -1 := by unfold arrC; grind
  have HC := Lib.hid hC
  clear hC
  have eb : decide (0 < num) = true := by simpa using hb
  have hk' : (kind0 == 1) = false := by simpa using hk
  clear hk
  have hL' : decide (i ∈ L) = false := by simpa using hL
  clear hL
  have hm' : (mk != 1) = false := by simpa using hm
  clear hm
  have hn' : decide (mn < 1) = false := by simpa using hn
  clear hn
  have he' : (mn != num) = true := by simpa using he
  clear he
  obtain ⟨c0, c1, c2, c3, cf, hlt⟩ := h.cells
  have hlk : ∀ (o : Obj) (m : Nat), (Instr.lookup 86 (.map (some b)) (.int .i64 i) false).run Try.prog ((w.alloc o).drewN m) = .ok (.bool (decide (i ∈ L))) ((w.alloc o).drewN m) :=
    fun o m => SetMap.lookup (w := (w.alloc o).drewN m) (h.2.kept (S := fun _ => False) (((Chg.refl _ _).alloc o).drewN m) (by simp)) Try.underlying86 Try.underlying3 (zero4 _) i
  have hlk0 : ∀ (o : Obj), (Instr.lookup 86 (.map (some b)) (.int .i64 i) false).run Try.prog (w.alloc o) = .ok (.bool (decide (i ∈ L))) (w.alloc o) := fun o => hlk o 0
  have hG : ∀ (o : Obj) (m : Nat), GateAt ((w.alloc o).drewN m) g b n num kind0 L := fun o m => h.kept (S := fun _ => False) (((Chg.refl _ _).alloc o).drewN m) (by simp) (by simp)
  have hG0 : ∀ (o : Obj), GateAt (w.alloc o) g b n num kind0 L := fun o => hG o 0
  have hB := fun o m => busy (hG o m)
  have hB0 := fun o => busy (hG0 o)
  rw [eb] at hB hB0; clear eb
  have HB := Lib.hid hB
  have HB0 := Lib.hid hB0
  clear hB hB0
  have HG := Lib.hid hG
  have HR := Lib.hid (fun o m => barrier (hG o m) i mn kind)
  clear h cf hG hG0
  rcases hkd with rfl | rfl
  all_goals
    go_enter Try.func13, Try.ntmps13
    go_wp2_with (first | (go_at_call 14; refine (HB0.out _).mono ?_; rintro e w' ⟨rfl, rfl⟩))
    go_quiet ((go_at_call 14; exact Calls.quiet_of_same ((HB.out _ _).mono fun _ _ h => ⟨h.1, h.2.symm⟩)))
    go_wp2_with (fail)
    all_goals
      go_ret
      refine Or.inl ⟨by rw [HC.out]; decide, ret_int HC.out.symm, ?_, ?_⟩
      · first | exact HG.out _ 0 | exact HG.out _ _
      · first | exact (Chg.refl _ _).alloc _ | exact ((Chg.refl _ _).alloc _).drewN _

set_option maxRecDepth 100000 in
set_option maxHeartbeats 1000000 in
theorem arrive_7 (hkd : kind = 0 ∨ kind = 1) (h1 : 0 ≤ i) (h2 : i < n) (hb : 0 < num) (hk : kind0 ≠ 1) (hL : i ∉ L) (hm : mk = 1) (hn : ¬ mn < 1) (he : mn = num) (hq : kind ≠ kind0) : Calls Try.prog 13 #[.pointer (some ⟨g, 0, none⟩), .int .i64 i, .agg #[.int .i64 mk, .int .i64 nd, .int .i64 ni, .int .i64 bk, .int .i64 mn, .slice A dn dc], .int .i64 kind] w
      (ArrPost w g b n num kind0 L i mk mn kind) := by
  have hC : arrC n num kind0 L i mk mn kind = -1 := by unfold arrC; grind
  have HC := Lib.hid hC
  clear hC
  have eb : decide (0 < num) = true := by simpa using hb
  have hk' : (kind0 == 1) = false := by simpa using hk
  clear hk
  have hL' : decide (i ∈ L) = false := by simpa using hL
  clear hL
  have hm' : (mk != 1) = false := by simpa using hm
  clear hm
  have hn' : decide (mn < 1) = false := by simpa using hn
  clear hn
  have he' : (mn != num) = false := by simpa using he
  clear he
  have hq' : (kind != kind0) = true := by simpa using hq
  clear hq
  obtain ⟨c0, c1, c2, c3, cf, hlt⟩ := h.cells
  have hlk : ∀ (o : Obj) (m : Nat), (Instr.lookup 86 (.map (some b)) (.int .i64 i) false).run Try.prog ((w.alloc o).drewN m) = .ok (.bool (decide (i ∈ L))) ((w.alloc o).drewN m) :=
    fun o m => SetMap.lookup (w := (w.alloc o).drewN m) (h.2.kept (S := fun _ => False) (((Chg.refl _ _).alloc o).drewN m) (by simp)) Try.underlying86 Try.underlying3 (zero4 _) i
  have hlk0 : ∀ (o : Obj), (Instr.lookup 86 (.map (some b)) (.int .i64 i) false).run Try.prog (w.alloc o) = .ok (.bool (decide (i ∈ L))) (w.alloc o) := fun o => hlk o 0
  have hG : ∀ (o : Obj) (m : Nat), GateAt ((w.alloc o).drewN m) g b n num kind0 L := fun o m => h.kept (S := fun _ => False) (((Chg.refl _ _).alloc o).drewN m) (by simp) (by simp)
  have hG0 : ∀ (o : Obj), GateAt (w.alloc o) g b n num kind0 L := fun o => hG o 0
  have hB := fun o m => busy (hG o m)
  have hB0 := fun o => busy (hG0 o)
  rw [eb] at hB hB0; clear eb
  have HB := Lib.hid hB
  have HB0 := Lib.hid hB0
  clear hB hB0
  have HG := Lib.hid hG
  have HR := Lib.hid (fun o m => barrier (hG o m) i mn kind)
  clear h cf hG hG0
  rcases hkd with rfl | rfl
  all_goals
    go_enter Try.func13, Try.ntmps13
    go_wp2_with (first | (go_at_call 14; refine (HB0.out _).mono ?_; rintro e w' ⟨rfl, rfl⟩))
    go_quiet ((go_at_call 14; exact Calls.quiet_of_same ((HB.out _ _).mono fun _ _ h => ⟨h.1, h.2.symm⟩)))
    go_wp2_with (fail)
    all_goals
      go_ret
      refine Or.inl ⟨by rw [HC.out]; decide, ret_int HC.out.symm, ?_, ?_⟩
      · first | exact HG.out _ 0 | exact HG.out _ _
      · first | exact (Chg.refl _ _).alloc _ | exact ((Chg.refl _ _).alloc _).drewN _

set_option maxRecDepth 100000 in
set_option maxHeartbeats 1000000 in
theorem arrive_8 (hkd : kind = 0 ∨ kind = 1) (h1 : 0 ≤ i) (h2 : i < n) (hb : 0 < num) (hk : kind0 ≠ 1) (hL : i ∉ L) (hm : mk = 1) (hn : ¬ mn < 1) (he : mn = num) (hq : kind = kind0) : Calls Try.prog 13 #[.pointer (some ⟨g, 0, none⟩), .int .i64 i, .agg #[.int .i64 mk, .int .i64 nd, .int .i64 ni, .int .i64 bk, .int .i64 mn, .slice A dn dc], .int .i64 kind] w
      (ArrPost w g b n num kind0 L i mk mn kind) := by
  have hC : arrC n num kind0 L i mk mn kind = 5 := by unfold arrC; grind
  have HC := Lib.hid hC
  clear hC
  have eb : decide (0 < num) = true := by simpa using hb
  have hk' : (kind0 == 1) = false := by simpa using hk
  clear hk
  have hL' : decide (i ∈ L) = false := by simpa using hL
  clear hL
  have hm' : (mk != 1) = false := by simpa using hm
  clear hm
  have hn' : decide (mn < 1) = false := by simpa using hn
  clear hn
  have he' : (mn != num) = false := by simpa using he
  clear he
  have hq' : (kind != kind0) = false := by simpa using hq
  clear hq
  obtain ⟨c0, c1, c2, c3, cf, hlt⟩ := h.cells
  have hlk : ∀ (o : Obj) (m : Nat), (Instr.lookup 86 (.map (some b)) (.int .i64 i) false).run Try.prog ((w.alloc o).drewN m) = .ok (.bool (decide (i ∈ L))) ((w.alloc o).drewN m) :=
    fun o m => SetMap.lookup (w := (w.alloc o).drewN m) (h.2.kept (S := fun _ => False) (((Chg.refl _ _).alloc o).drewN m) (by simp)) Try.underlying86 Try.underlying3 (zero4 _) i
  have hlk0 : ∀ (o : Obj), (Instr.lookup 86 (.map (some b)) (.int .i64 i) false).run Try.prog (w.alloc o) = .ok (.bool (decide (i ∈ L))) (w.alloc o) := fun o => hlk o 0
  have hG : ∀ (o : Obj) (m : Nat), GateAt ((w.alloc o).drewN m) g b n num kind0 L := fun o m => h.kept (S := fun _ => False) (((Chg.refl _ _).alloc o).drewN m) (by simp) (by simp)
  have hG0 : ∀ (o : Obj), GateAt (w.alloc o) g b n num kind0 L := fun o => hG o 0
  have hB := fun o m => busy (hG o m)
  have hB0 := fun o => busy (hG0 o)
  rw [eb] at hB hB0; clear eb
  have HB := Lib.hid hB
  have HB0 := Lib.hid hB0
  clear hB hB0
  have HG := Lib.hid hG
  have HR := Lib.hid (fun o m => barrier (hG o m) i mn kind)
  clear h cf hG hG0
  rcases hkd with rfl | rfl
  all_goals
    go_enter Try.func13, Try.ntmps13
    go_wp2_with (first | (go_at_call 14; refine (HB0.out _).mono ?_; rintro e w' ⟨rfl, rfl⟩))
    go_quiet ((go_at_call 14; exact Calls.quiet_of_same ((HB.out _ _).mono fun _ _ h => ⟨h.1, h.2.symm⟩)))
    go_wp2_with (first | (go_at_call 49; refine (HR.out _ _).mono ?_; rintro e w' ⟨b', rfl, q1, q2, q3⟩; have Q1 := Lib.hid q1; have Q2 := Lib.hid q2; clear q1 q2))
    all_goals
      go_ret
      exact Or.inr ⟨HC.out, b', rfl, Q1.out, (((Chg.refl _ _).alloc _).drewN _).trans Q2.out, q3.imp id (fun h => by simp at h; omega)⟩

set_option maxRecDepth 100000 in
set_option maxHeartbeats 1000000 in
theorem arrive_9 (hkd : kind = 0 ∨ kind = 1) (h1 : 0 ≤ i) (h2 : i < n) (hb : 0 < num) (hk : kind0 = 1) (hL : i ∉ L) (hm : mk ≠ 1) : Calls Try.prog 13 #[.pointer (some ⟨g, 0, none⟩), .int .i64 i, .agg #[.int .i64 mk, .int .i64 nd, .int .i64 ni, .int .i64 bk, .int .i64 mn, .slice A dn dc], .int .i64 kind] w
      (ArrPost w g b n num kind0 L i mk mn kind) := by
  have hC : arrC n num kind0 L i mk mn kind = 2 := by unfold arrC; grind
  have HC := Lib.hid hC
  clear hC
  have eb : decide (0 < num) = true := by simpa using hb
  have hk' : (kind0 == 1) = true := by simpa using hk
  clear hk
  have hL' : decide (i ∈ L) = false := by simpa using hL
  clear hL
  have hm' : (mk != 1) = true := by simpa using hm
  clear hm
  obtain ⟨c0, c1, c2, c3, cf, hlt⟩ := h.cells
  have hlk : ∀ (o : Obj) (m : Nat), (Instr.lookup 86 (.map (some b)) (.int .i64 i) false).run Try.prog ((w.alloc o).drewN m) = .ok (.bool (decide (i ∈ L))) ((w.alloc o).drewN m) :=
    fun o m => SetMap.lookup (w := (w.alloc o).drewN m) (h.2.kept (S := fun _ => False) (((Chg.refl _ _).alloc o).drewN m) (by simp)) Try.underlying86 Try.underlying3 (zero4 _) i
  have hlk0 : ∀ (o : Obj), (Instr.lookup 86 (.map (some b)) (.int .i64 i) false).run Try.prog (w.alloc o) = .ok (.bool (decide (i ∈ L))) (w.alloc o) := fun o => hlk o 0
  have hG : ∀ (o : Obj) (m : Nat), GateAt ((w.alloc o).drewN m) g b n num kind0 L := fun o m => h.kept (S := fun _ => False) (((Chg.refl _ _).alloc o).drewN m) (by simp) (by simp)
  have hG0 : ∀ (o : Obj), GateAt (w.alloc o) g b n num kind0 L := fun o => hG o 0
  have hB := fun o m => busy (hG o m)
  have hB0 := fun o => busy (hG0 o)
  rw [eb] at hB hB0; clear eb
  have HB := Lib.hid hB
  have HB0 := Lib.hid hB0
  clear hB hB0
  have HG := Lib.hid hG
  have HR := Lib.hid (fun o m => barrier (hG o m) i mn kind)
  clear h cf hG hG0
  rcases hkd with rfl | rfl
  all_goals
    go_enter Try.func13, Try.ntmps13
    go_wp2_with (first | (go_at_call 14; refine (HB0.out _).mono ?_; rintro e w' ⟨rfl, rfl⟩))
    all_goals
      go_ret
      refine Or.inl ⟨by rw [HC.out]; decide, ret_int HC.out.symm, ?_, ?_⟩
      · first | exact HG.out _ 0 | exact HG.out _ _
      · first | exact (Chg.refl _ _).alloc _ | exact ((Chg.refl _ _).alloc _).drewN _

set_option maxRecDepth 100000 in
set_option maxHeartbeats 1000000 in
theorem arrive_10 (hkd : kind = 0 ∨ kind = 1) (h1 : 0 ≤ i) (h2 : i < n) (hb : 0 < num) (hk : kind0 = 1) (hL : i ∈ L) (hm : mk ≠ 1) : Calls Try.prog 13 #[.pointer (some ⟨g, 0, none⟩), .int .i64 i, .agg #[.int .i64 mk, .int .i64 nd, .int .i64 ni, .int .i64 bk, .int .i64 mn, .slice A dn dc], .int .i64 kind] w
      (ArrPost w g b n num kind0 L i mk mn kind) := by
  have hC : arrC n num kind0 L i mk mn kind = 1 := by unfold arrC; grind
  have HC := Lib.hid hC
  clear hC
  have eb : decide (0 < num) = true := by simpa using hb
  have hk' : (kind0 == 1) = true := by simpa using hk
  clear hk
  have hL' : decide (i ∈ L) = true := by simpa using hL
  clear hL
  have hm' : (mk != 1) = true := by simpa using hm
  clear hm
  obtain ⟨c0, c1, c2, c3, cf, hlt⟩ := h.cells
  have hlk : ∀ (o : Obj) (m : Nat), (Instr.lookup 86 (.map (some b)) (.int .i64 i) false).run Try.prog ((w.alloc o).drewN m) = .ok (.bool (decide (i ∈ L))) ((w.alloc o).drewN m) :=
    fun o m => SetMap.lookup (w := (w.alloc o).drewN m) (h.2.kept (S := fun _ => False) (((Chg.refl _ _).alloc o).drewN m) (by simp)) Try.underlying86 Try.underlying3 (zero4 _) i
  have hlk0 : ∀ (o : Obj), (Instr.lookup 86 (.map (some b)) (.int .i64 i) false).run Try.prog (w.alloc o) = .ok (.bool (decide (i ∈ L))) (w.alloc o) := fun o => hlk o 0
  have hG : ∀ (o : Obj) (m : Nat), GateAt ((w.alloc o).drewN m) g b n num kind0 L := fun o m => h.kept (S := fun _ => False) (((Chg.refl _ _).alloc o).drewN m) (by simp) (by simp)
  have hG0 : ∀ (o : Obj), GateAt (w.alloc o) g b n num kind0 L := fun o => hG o 0
  have hB := fun o m => busy (hG o m)
  have hB0 := fun o => busy (hG0 o)
  rw [eb] at hB hB0; clear eb
  have HB := Lib.hid hB
  have HB0 := Lib.hid hB0
  clear hB hB0
  have HG := Lib.hid hG
  have HR := Lib.hid (fun o m => barrier (hG o m) i mn kind)
  clear h cf hG hG0
  rcases hkd with rfl | rfl
  all_goals
    go_enter Try.func13, Try.ntmps13
    go_wp2_with (first | (go_at_call 14; refine (HB0.out _).mono ?_; rintro e w' ⟨rfl, rfl⟩))
    all_goals
      go_ret
      refine Or.inl ⟨by rw [HC.out]; decide, ret_int HC.out.symm, ?_, ?_⟩
      · first | exact HG.out _ 0 | exact HG.out _ _
      · first | exact (Chg.refl _ _).alloc _ | exact ((Chg.refl _ _).alloc _).drewN _

set_option maxRecDepth 100000 in
set_option maxHeartbeats 1000000 in
theorem arrive_11 (hkd : kind = 0 ∨ kind = 1) (h1 : 0 ≤ i) (h2 : i < n) (hb : 0 < num) (hk : kind0 = 1) (hm : mk = 1) (hn : mn < 1) : Calls Try.prog 13 #[.pointer (some ⟨g, 0, none⟩), .int .i64 i, .agg #[.int .i64 mk, .int .i64 nd, .int .i64 ni, .int .i64 bk, .int .i64 mn, .slice A dn dc], .int .i64 kind] w
      (ArrPost w g b n num kind0 L i mk mn kind) := by
  have hC : arrC n num kind0 L i mk mn kind = -1 := by unfold arrC; grind
  have HC := Lib.hid hC
  clear hC
  have eb : decide (0 < num) = true := by simpa using hb
  have hk' : (kind0 == 1) = true := by simpa using hk
  clear hk
  have hm' : (mk != 1) = false := by simpa using hm
  clear hm
  have hn' : decide (mn < 1) = true := by simpa using hn
  obtain ⟨c0, c1, c2, c3, cf, hlt⟩ := h.cells
  have hlk : ∀ (o : Obj) (m : Nat), (Instr.lookup 86 (.map (some b)) (.int .i64 i) false).run Try.prog ((w.alloc o).drewN m) = .ok (.bool (decide (i ∈ L))) ((w.alloc o).drewN m) :=
    fun o m => SetMap.lookup (w := (w.alloc o).drewN m) (h.2.kept (S := fun _ => False) (((Chg.refl _ _).alloc o).drewN m) (by simp)) Try.underlying86 Try.underlying3 (zero4 _) i
  have hlk0 : ∀ (o : Obj), (Instr.lookup 86 (.map (some b)) (.int .i64 i) false).run Try.prog (w.alloc o) = .ok (.bool (decide (i ∈ L))) (w.alloc o) := fun o => hlk o 0
  have hG : ∀ (o : Obj) (m : Nat), GateAt ((w.alloc o).drewN m) g b n num kind0 L := fun o m => h.kept (S := fun _ => False) (((Chg.refl _ _).alloc o).drewN m) (by simp) (by simp)
  have hG0 : ∀ (o : Obj), GateAt (w.alloc o) g b n num kind0 L := fun o => hG o 0
  have hB := fun o m => busy (hG o m)
  have hB0 := fun o => busy (hG0 o)
  rw [eb] at hB hB0; clear eb
  have HB := Lib.hid hB
  have HB0 := Lib.hid hB0
  clear hB hB0
  have HG := Lib.hid hG
  have HR := Lib.hid (fun o m => barrier (hG o m) i mn kind)
  clear h cf hG hG0
  rcases hkd with rfl | rfl
  all_goals
    go_enter Try.func13, Try.ntmps13
    go_wp2_with (first | (go_at_call 14; refine (HB0.out _).mono ?_; rintro e w' ⟨rfl, rfl⟩))
    go_quiet ((go_at_call 14; exact Calls.quiet_of_same ((HB.out _ _).mono fun _ _ h => ⟨h.1, h.2.symm⟩)))
    go_wp2_with (fail)
    all_goals
      go_ret
      refine Or.inl ⟨by rw [HC.out]; decide, ret_int HC.out.symm, ?_, ?_⟩
      · first | exact HG.out _ 0 | exact HG.out _ _
      · first | exact (Chg.refl _ _).alloc _ | exact ((Chg.refl _ _).alloc _).drewN _

set_option maxRecDepth 100000 in
set_option maxHeartbeats 1000000 in
theorem arrive_12 (hkd : kind = 0 ∨ kind = 1) (h1 : 0 ≤ i) (h2 : i < n) (hb : 0 < num) (hk : kind0 = 1) (hm : mk = 1) (hn : ¬ mn < 1) (he : mn ≠ num) : Calls Try.prog 13 #[.pointer (some ⟨g, 0, none⟩), .int .i64 i, .agg #[.int .i64 mk, .int .i64 nd, .int .i64 ni, .int .i64 bk, .int .i64 mn, .slice A dn dc], .int .i64 kind] w
      (ArrPost w g b n num kind0 L i mk mn kind) := by
  have hC : arrC n num kind0 L i mk mn kind = -1 := by unfold arrC; grind
  have HC := Lib.hid hC
  clear hC
  have eb : decide (0 < num) = true := by simpa using hb
  have hk' : (kind0 == 1) = true := by simpa using hk
  clear hk
  have hm' : (mk != 1) = false := by simpa using hm
  clear hm
  have hn' : decide (mn < 1) = false := by simpa using hn
  clear hn
  have he' : (mn != num) = true := by simpa using he
  clear he
  obtain ⟨c0, c1, c2, c3, cf, hlt⟩ := h.cells
  have hlk : ∀ (o : Obj) (m : Nat), (Instr.lookup 86 (.map (some b)) (.int .i64 i) false).run Try.prog ((w.alloc o).drewN m) = .ok (.bool (decide (i ∈ L))) ((w.alloc o).drewN m) :=
    fun o m => SetMap.lookup (w := (w.alloc o).drewN m) (h.2.kept (S := fun _ => False) (((Chg.refl _ _).alloc o).drewN m) (by simp)) Try.underlying86 Try.underlying3 (zero4 _) i
  have hlk0 : ∀ (o : Obj), (Instr.lookup 86 (.map (some b)) (.int .i64 i) false).run Try.prog (w.alloc o) = .ok (.bool (decide (i ∈ L))) (w.alloc o) := fun o => hlk o 0
  have hG : ∀ (o : Obj) (m : Nat), GateAt ((w.alloc o).drewN m) g b n num kind0 L := fun o m => h.kept (S := fun _ => False) (((Chg.refl _ _).alloc o).drewN m) (by simp) (by simp)
  have hG0 : ∀ (o : Obj), GateAt (w.alloc o) g b n num kind0 L := fun o => hG o 0
  have hB := fun o m => busy (hG o m)
  have hB0 := fun o => busy (hG0 o)
  rw [eb] at hB hB0; clear eb
  have HB := Lib.hid hB
  have HB0 := Lib.hid hB0
  clear hB hB0
  have HG := Lib.hid hG
  have HR := Lib.hid (fun o m => barrier (hG o m) i mn kind)
  clear h cf hG hG0
  rcases hkd with rfl | rfl
  all_goals
    go_enter Try.func13, Try.ntmps13
    go_wp2_with (first | (go_at_call 14; refine (HB0.out _).mono ?_; rintro e w' ⟨rfl, rfl⟩))
    go_quiet ((go_at_call 14; exact Calls.quiet_of_same ((HB.out _ _).mono fun _ _ h => ⟨h.1, h.2.symm⟩)))
    go_wp2_with (fail)
    all_goals
      go_ret
      refine Or.inl ⟨by rw [HC.out]; decide, ret_int HC.out.symm, ?_, ?_⟩
      · first | exact HG.out _ 0 | exact HG.out _ _
      · first | exact (Chg.refl _ _).alloc _ | exact ((Chg.refl _ _).alloc _).drewN _

set_option maxRecDepth 100000 in
set_option maxHeartbeats 1000000 in
theorem arrive_13 (hkd : kind = 0 ∨ kind = 1) (h1 : 0 ≤ i) (h2 : i < n) (hb : 0 < num) (hk : kind0 = 1) (hm : mk = 1) (hn : ¬ mn < 1) (he : mn = num) (hq : kind ≠ kind0) : Calls Try.prog 13 #[.pointer (some ⟨g, 0, none⟩), .int .i64 i, .agg #[.int .i64 mk, .int .i64 nd, .int .i64 ni, .int .i64 bk, .int .i64 mn, .slice A dn dc], .int .i64 kind] w
      (ArrPost w g b n num kind0 L i mk mn kind) := by
  have hC : arrC n num kind0 L i mk mn kind = -1 := by unfold arrC; grind
  have HC := Lib.hid hC
  clear hC
  have eb : decide (0 < num) = true := by simpa using hb
  have hk' : (kind0 == 1) = true := by simpa using hk
  clear hk
  have hm' : (mk != 1) = false := by simpa using hm
  clear hm
  have hn' : decide (mn < 1) = false := by simpa using hn
  clear hn
  have he' : (mn != num) = false := by simpa using he
  clear he
  have hq' : (kind != kind0) = true := by simpa using hq
  clear hq
  obtain ⟨c0, c1, c2, c3, cf, hlt⟩ := h.cells
  have hlk : ∀ (o : Obj) (m : Nat), (Instr.lookup 86 (.map (some b)) (.int .i64 i) false).run Try.prog ((w.alloc o).drewN m) = .ok (.bool (decide (i ∈ L))) ((w.alloc o).drewN m) :=
    fun o m => SetMap.lookup (w := (w.alloc o).drewN m) (h.2.kept (S := fun _ => False) (((Chg.refl _ _).alloc o).drewN m) (by simp)) Try.underlying86 Try.underlying3 (zero4 _) i
  have hlk0 : ∀ (o : Obj), (Instr.lookup 86 (.map (some b)) (.int .i64 i) false).run Try.prog (w.alloc o) = .ok (.bool (decide (i ∈ L))) (w.alloc o) := fun o => hlk o 0
  have hG : ∀ (o : Obj) (m : Nat), GateAt ((w.alloc o).drewN m) g b n num kind0 L := fun o m => h.kept (S := fun _ => False) (((Chg.refl _ _).alloc o).drewN m) (by simp) (by simp)
  have hG0 : ∀ (o : Obj), GateAt (w.alloc o) g b n num kind0 L := fun o => hG o 0
  have hB := fun o m => busy (hG o m)
  have hB0 := fun o => busy (hG0 o)
  rw [eb] at hB hB0; clear eb
  have HB := Lib.hid hB
  have HB0 := Lib.hid hB0
  clear hB hB0
  have HG := Lib.hid hG
  have HR := Lib.hid (fun o m => barrier (hG o m) i mn kind)
  clear h cf hG hG0
  rcases hkd with rfl | rfl
  all_goals
    go_enter Try.func13, Try.ntmps13
    go_wp2_with (first | (go_at_call 14; refine (HB0.out _).mono ?_; rintro e w' ⟨rfl, rfl⟩))
    go_quiet ((go_at_call 14; exact Calls.quiet_of_same ((HB.out _ _).mono fun _ _ h => ⟨h.1, h.2.symm⟩)))
    go_wp2_with (fail)
    all_goals
      go_ret
      refine Or.inl ⟨by rw [HC.out]; decide, ret_int HC.out.symm, ?_, ?_⟩
      · first | exact HG.out _ 0 | exact HG.out _ _
      · first | exact (Chg.refl _ _).alloc _ | exact ((Chg.refl _ _).alloc _).drewN _

set_option maxRecDepth 100000 in
set_option maxHeartbeats 1000000 in
theorem arrive_14 (hkd : kind = 0 ∨ kind = 1) (h1 : 0 ≤ i) (h2 : i < n) (hb : 0 < num) (hk : kind0 = 1) (hm : mk = 1) (hn : ¬ mn < 1) (he : mn = num) (hq : kind = kind0) (hL : i ∈ L) : Calls Try.prog 13 #[.pointer (some ⟨g, 0, none⟩), .int .i64 i, .agg #[.int .i64 mk, .int .i64 nd, .int .i64 ni, .int .i64 bk, .int .i64 mn, .slice A dn dc], .int .i64 kind] w
      (ArrPost w g b n num kind0 L i mk mn kind) := by
  have hC : arrC n num kind0 L i mk mn kind = -1 := by unfold arrC; grind
  have HC := Lib.hid hC
  clear hC
  have eb : decide (0 < num) = true := by simpa using hb
  have hk' : (kind0 == 1) = true := by simpa using hk
  clear hk
  have hm' : (mk != 1) = false := by simpa using hm
  clear hm
  have hn' : decide (mn < 1) = false := by simpa using hn
  clear hn
  have he' : (mn != num) = false := by simpa using he
  clear he
  have hq' : (kind != kind0) = false := by simpa using hq
  clear hq
  have hL' : decide (i ∈ L) = true := by simpa using hL
  clear hL
  obtain ⟨c0, c1, c2, c3, cf, hlt⟩ := h.cells
  have hlk : ∀ (o : Obj) (m : Nat), (Instr.lookup 86 (.map (some b)) (.int .i64 i) false).run Try.prog ((w.alloc o).drewN m) = .ok (.bool (decide (i ∈ L))) ((w.alloc o).drewN m) :=
    fun o m => SetMap.lookup (w := (w.alloc o).drewN m) (h.2.kept (S := fun _ => False) (((Chg.refl _ _).alloc o).drewN m) (by simp)) Try.underlying86 Try.underlying3 (zero4 _) i
  have hlk0 : ∀ (o : Obj), (Instr.lookup 86 (.map (some b)) (.int .i64 i) false).run Try.prog (w.alloc o) = .ok (.bool (decide (i ∈ L))) (w.alloc o) := fun o => hlk o 0
  have hG : ∀ (o : Obj) (m : Nat), GateAt ((w.alloc o).drewN m) g b n num kind0 L := fun o m => h.kept (S := fun _ => False) (((Chg.refl _ _).alloc o).drewN m) (by simp) (by simp)
  have hG0 : ∀ (o : Obj), GateAt (w.alloc o) g b n num kind0 L := fun o => hG o 0
  have hB := fun o m => busy (hG o m)
  have hB0 := fun o => busy (hG0 o)
  rw [eb] at hB hB0; clear eb
  have HB := Lib.hid hB
  have HB0 := Lib.hid hB0
  clear hB hB0
  have HG := Lib.hid hG
  have HR := Lib.hid (fun o m => barrier (hG o m) i mn kind)
  clear h cf hG hG0
  rcases hkd with rfl | rfl
  all_goals
    go_enter Try.func13, Try.ntmps13
    go_wp2_with (first | (go_at_call 14; refine (HB0.out _).mono ?_; rintro e w' ⟨rfl, rfl⟩))
    go_quiet ((go_at_call 14; exact Calls.quiet_of_same ((HB.out _ _).mono fun _ _ h => ⟨h.1, h.2.symm⟩)))
    go_wp2_with (fail)
    all_goals
      go_ret
      refine Or.inl ⟨by rw [HC.out]; decide, ret_int HC.out.symm, ?_, ?_⟩
      · first | exact HG.out _ 0 | exact HG.out _ _
      · first | exact (Chg.refl _ _).alloc _ | exact ((Chg.refl _ _).alloc _).drewN _

set_option maxRecDepth 100000 in
set_option maxHeartbeats 1000000 in
theorem arrive_15 (hkd : kind = 0 ∨ kind = 1) (h1 : 0 ≤ i) (h2 : i < n) (hb : 0 < num) (hk : kind0 = 1) (hm : mk = 1) (hn : ¬ mn < 1) (he : mn = num) (hq : kind = kind0) (hL : i ∉ L) : Calls Try.prog 13 #[.pointer (some ⟨g, 0, none⟩), .int .i64 i, .agg #[.int .i64 mk, .int .i64 nd, .int .i64 ni, .int .i64 bk, .int .i64 mn, .slice A dn dc], .int .i64 kind] w
      (ArrPost w g b n num kind0 L i mk mn kind) := by
  have hC : arrC n num kind0 L i mk mn kind = 5 := by unfold arrC; grind
  have HC := Lib.hid hC
  clear hC
  have eb : decide (0 < num) = true := by simpa using hb
  have hk' : (kind0 == 1) = true := by simpa using hk
  clear hk
  have hm' : (mk != 1) = false := by simpa using hm
  clear hm
  have hn' : decide (mn < 1) = false := by simpa using hn
  clear hn
  have he' : (mn != num) = false := by simpa using he
  clear he
  have hq' : (kind != kind0) = false := by simpa using hq
  clear hq
  have hL' : decide (i ∈ L) = false := by simpa using hL
  clear hL
  obtain ⟨c0, c1, c2, c3, cf, hlt⟩ := h.cells
  have hlk : ∀ (o : Obj) (m : Nat), (Instr.lookup 86 (.map (some b)) (.int .i64 i) false).run Try.prog ((w.alloc o).drewN m) = .ok (.bool (decide (i ∈ L))) ((w.alloc o).drewN m) :=
    fun o m => SetMap.lookup (w := (w.alloc o).drewN m) (h.2.kept (S := fun _ => False) (((Chg.refl _ _).alloc o).drewN m) (by simp)) Try.underlying86 Try.underlying3 (zero4 _) i
  have hlk0 : ∀ (o : Obj), (Instr.lookup 86 (.map (some b)) (.int .i64 i) false).run Try.prog (w.alloc o) = .ok (.bool (decide (i ∈ L))) (w.alloc o) := fun o => hlk o 0
  have hG : ∀ (o : Obj) (m : Nat), GateAt ((w.alloc o).drewN m) g b n num kind0 L := fun o m => h.kept (S := fun _ => False) (((Chg.refl _ _).alloc o).drewN m) (by simp) (by simp)
  have hG0 : ∀ (o : Obj), GateAt (w.alloc o) g b n num kind0 L := fun o => hG o 0
  have hB := fun o m => busy (hG o m)
  have hB0 := fun o => busy (hG0 o)
  rw [eb] at hB hB0; clear eb
  have HB := Lib.hid hB
  have HB0 := Lib.hid hB0
  clear hB hB0
  have HG := Lib.hid hG
  have HR := Lib.hid (fun o m => barrier (hG o m) i mn kind)
  clear h cf hG hG0
  rcases hkd with rfl | rfl
  all_goals
    go_enter Try.func13, Try.ntmps13
    go_wp2_with (first | (go_at_call 14; refine (HB0.out _).mono ?_; rintro e w' ⟨rfl, rfl⟩))
    go_quiet ((go_at_call 14; exact Calls.quiet_of_same ((HB.out _ _).mono fun _ _ h => ⟨h.1, h.2.symm⟩)))
    go_wp2_with (first | (go_at_call 49; refine (HR.out _ _).mono ?_; rintro e w' ⟨b', rfl, q1, q2, q3⟩; have Q1 := Lib.hid q1; have Q2 := Lib.hid q2; clear q1 q2))
    all_goals
      go_ret
      exact Or.inr ⟨HC.out, b', rfl, Q1.out, (((Chg.refl _ _).alloc _).drewN _).trans Q2.out, q3.imp id (fun h => by simp at h; omega)⟩

theorem arrive : Calls Try.prog 13 #[.pointer (some ⟨g, 0, none⟩), .int .i64 i, .agg #[.int .i64 mk, .int .i64 nd, .int .i64 ni, .int .i64 bk, .int .i64 mn, .slice A dn dc], .int .i64 kind] w
      (ArrPost w g b n num kind0 L i mk mn kind) := by
  by_cases hbad : i < 0 ∨ n ≤ i ∨ kind ≠ 0 ∧ kind ≠ 1
  · exact arrive_bad h i mk nd ni bk mn kind A dn dc hbad
  have h1 : 0 ≤ i := by omega
  have h2 : i < n := by omega
  have hkd : kind = 0 ∨ kind = 1 := by omega
  by_cases hm : mk = 1 <;> by_cases hb : 0 < num <;> by_cases hk : kind0 = 1 <;> by_cases hL : i ∈ L <;> by_cases hn : mn < 1 <;> by_cases he : mn = num <;> by_cases hq : kind = kind0 <;>
    first
      | exact arrive_0 h i mk nd ni bk mn kind A dn dc hkd h1 h2 hb hm
      | exact arrive_1 h i mk nd ni bk mn kind A dn dc hkd h1 h2 hb hm hn
      | exact arrive_2 h i mk nd ni bk mn kind A dn dc hkd h1 h2 hb hm hn
      | exact arrive_3 h i mk nd ni bk mn kind A dn dc hkd h1 h2 hb hk hL
      | exact arrive_4 h i mk nd ni bk mn kind A dn dc hkd h1 h2 hb hk hL hm
      | exact arrive_5 h i mk nd ni bk mn kind A dn dc hkd h1 h2 hb hk hL hm hn
      | exact arrive_6 h i mk nd ni bk mn kind A dn dc hkd h1 h2 hb hk hL hm hn he
      | exact arrive_7 h i mk nd ni bk mn kind A dn dc hkd h1 h2 hb hk hL hm hn he hq
      | exact arrive_8 h i mk nd ni bk mn kind A dn dc hkd h1 h2 hb hk hL hm hn he hq
      | exact arrive_9 h i mk nd ni bk mn kind A dn dc hkd h1 h2 hb hk hL hm
      | exact arrive_10 h i mk nd ni bk mn kind A dn dc hkd h1 h2 hb hk hL hm
      | exact arrive_11 h i mk nd ni bk mn kind A dn dc hkd h1 h2 hb hk hm hn
      | exact arrive_12 h i mk nd ni bk mn kind A dn dc hkd h1 h2 hb hk hm hn he
      | exact arrive_13 h i mk nd ni bk mn kind A dn dc hkd h1 h2 hb hk hm hn he hq
      | exact arrive_14 h i mk nd ni bk mn kind A dn dc hkd h1 h2 hb hk hm hn he hq hL
      | exact arrive_15 h i mk nd ni bk mn kind A dn dc hkd h1 h2 hb hk hm hn he hq hL
end
end Go.Proofs.Ytkfimfhkmgcnlaa.Gate
