/- The gate: contracts in the form in which laws use them. -/
import Derived.Test.YtkfimfhkmgcnlaaGate2
namespace Go.Proofs.Ytkfimfhkmgcnlaa.Gate
set_option linter.unusedVariables false
open Go Go.RowKit Go.Proofs.Ytkfimfhkmgcnlaa.B

theorem arr_msg {w : World} {g b : Nat} {n num kind0 : Int} {L : List Int} (h : GateAt w g b n num kind0 L) (i mk nd ni bk mn kind : Int) (A : Option Addr) (dn dc : Nat) (v : Int) (hC : arrC n num kind0 L i mk mn kind = v) (hv : v ≠ 5) :
    Calls Try.prog 13 #[.pointer (some ⟨g, 0, none⟩), .int .i64 i, .agg #[.int .i64 mk, .int .i64 nd, .int .i64 ni, .int .i64 bk, .int .i64 mn, .slice A dn dc], .int .i64 kind] w
      fun e w' => e = .returned (.int .i64 v) ∧ GateAt w' g b n num kind0 L ∧ Chg (fun k => k = g ∨ k = b) w w' := by
  refine (arrive h i mk nd ni bk mn kind A dn dc).mono ?_
  rintro e w' (⟨h1, h2, h3, h4⟩ | ⟨h1, _⟩)
  · rw [hC] at h2; exact ⟨h2, h3, h4⟩
  · exact absurd (hC.symm.trans h1) hv
theorem arr_bar {w : World} {g b : Nat} {n num kind0 : Int} {L : List Int} (h : GateAt w g b n num kind0 L) (i nd ni bk mn kind : Int) (A : Option Addr) (dn dc : Nat) (a num' : Int) (L' : List Int) (hC : arrC n num kind0 L i 1 mn kind = 5)
    (hA : barA n num (addL L i) kind = a) (hN : barN n (addL L i) mn = num') (hL : barL n (addL L i) = L') :
    Calls Try.prog 13 #[.pointer (some ⟨g, 0, none⟩), .int .i64 i, .agg #[.int .i64 1, .int .i64 nd, .int .i64 ni, .int .i64 bk, .int .i64 mn, .slice A dn dc], .int .i64 kind] w
      fun e w' => ∃ b', e = .returned (.int .i64 a) ∧ GateAt w' g b' n num' kind L' ∧ Chg (fun k => k = g ∨ k = b) w w' ∧ (b' = b ∨ w.heap.size ≤ b') := by
  refine (arrive h i 1 nd ni bk mn kind A dn dc).mono ?_
  rintro e w' (⟨h1, _⟩ | ⟨_, b', h2, h3, h4, h5⟩)
  · exact absurd hC h1
  · rw [hA] at h2; rw [hN, hL] at h3; exact ⟨b', h2, h3, h4, h5⟩

theorem GateAt.lt1 {w : World} {g b : Nat} {n num kind0 : Int} {L : List Int} (h : GateAt w g b n num kind0 L) : g < w.heap.size := blk_lt h.1
theorem GateAt.lt2 {w : World} {g b : Nat} {n num kind0 : Int} {L : List Int} (h : GateAt w g b n num kind0 L) : b < w.heap.size := h.2.lt
theorem busyT {w : World} {g b : Nat} {n num kind : Int} {L : List Int} (h : GateAt w g b n num kind L) (c : Bool) (hc : decide (0 < num) = c) :
    Calls Try.prog 14 #[.pointer (some ⟨g, 0, none⟩)] w fun e w' => e = .returned (.bool c) ∧ w = w' := by subst hc; exact busy h

/-- Two gates of their own. -/
structure Two (w0 w : World) (g1 b1 g2 b2 : Nat) (n1 k1 n2 k2 : Int) (L1 L2 : List Int) : Prop where
  G1 : GateAt w g1 b1 2 n1 k1 L1
  G2 : GateAt w g2 b2 2 n2 k2 L2
  C : Chg (fun _ => False) w0 w
  l1 : w0.heap.size ≤ g1
  l2 : w0.heap.size ≤ b1
  l3 : w0.heap.size ≤ g2
  l4 : w0.heap.size ≤ b2
  a1 : g1 ≠ g2
  a2 : g1 ≠ b2
  a3 : b1 ≠ g2
  a4 : b1 ≠ b2
theorem Two.free {w0 w w' : World} {g1 b1 g2 b2 : Nat} {n1 k1 n2 k2 : Int} {L1 L2 : List Int} (h : Two w0 w g1 b1 g2 b2 n1 k1 n2 k2 L1 L2) (hc : Chg (fun _ => False) w w') : Two w0 w' g1 b1 g2 b2 n1 k1 n2 k2 L1 L2 :=
  ⟨h.G1.kept hc (fun h => h) (fun h => h), h.G2.kept hc (fun h => h) (fun h => h), h.C.trans hc, h.l1, h.l2, h.l3, h.l4, h.a1, h.a2, h.a3, h.a4⟩
theorem Two.one {w0 w w' : World} {g1 b1 g2 b2 b' : Nat} {n1 k1 n2 k2 n1' k1' : Int} {L1 L2 L1' : List Int} (h : Two w0 w g1 b1 g2 b2 n1 k1 n2 k2 L1 L2) (hG : GateAt w' g1 b' 2 n1' k1' L1') (hc : Chg (fun k => k = g1 ∨ k = b1) w w') (hb : b' = b1 ∨ w.heap.size ≤ b') : Two w0 w' g1 b' g2 b2 n1' k1' n2 k2 L1' L2 := by
  have x1 := h.G2.lt1; have x2 := h.G2.lt2; have := h.C.size; have := h.l2
  refine ⟨hG, h.G2.kept hc ?_ ?_, h.C.trans' hc ?_, h.l1, by omega, h.l3, h.l4, h.a1, h.a2, ?_, ?_⟩
  · rintro (h1 | h1); exact h.a1 h1.symm; exact h.a3 h1.symm
  · rintro (h1 | h1); exact h.a2 h1.symm; exact h.a4 h1.symm
  · have := h.l1; rintro i (h1 | h1) <;> exact .inr (by omega)
  · have := h.a3; omega
  · have := h.a4; omega
theorem Two.two {w0 w w' : World} {g1 b1 g2 b2 b' : Nat} {n1 k1 n2 k2 n2' k2' : Int} {L1 L2 L2' : List Int} (h : Two w0 w g1 b1 g2 b2 n1 k1 n2 k2 L1 L2) (hG : GateAt w' g2 b' 2 n2' k2' L2') (hc : Chg (fun k => k = g2 ∨ k = b2) w w') (hb : b' = b2 ∨ w.heap.size ≤ b') : Two w0 w' g1 b1 g2 b' n1 k1 n2' k2' L1 L2' := by
  have x1 := h.G1.lt1; have x2 := h.G1.lt2; have := h.C.size; have := h.l4
  refine ⟨h.G1.kept hc ?_ ?_, hG, h.C.trans' hc ?_, h.l1, h.l2, h.l3, by omega, h.a1, ?_, h.a3, ?_⟩
  · rintro (h1 | h1); exact h.a1 h1; exact h.a2 h1
  · rintro (h1 | h1); exact h.a3 h1; exact h.a4 h1
  · have := h.l3; rintro i (h1 | h1) <;> exact .inr (by omega)
  · have := h.a2; omega
  · have := h.a4; omega

theorem chg_set6 (w : World) (gm : Nat) (v0 v1 v2 v3 v4 v5 : Value) : Chg (fun k => k = gm) w ((((((w.setCell ⟨gm, 0, none⟩ v0).setCell ⟨gm, 1, none⟩ v1).setCell ⟨gm, 2, none⟩ v2).setCell ⟨gm, 3, none⟩ v3).setCell ⟨gm, 4, none⟩ v4).setCell ⟨gm, 5, none⟩ v5) :=
  ((((((Chg.refl (fun k => k = gm) w).setCell (p := ⟨gm, 0, none⟩) (.inl rfl) _).setCell (p := ⟨gm, 1, none⟩) (.inl rfl) _).setCell (p := ⟨gm, 2, none⟩) (.inl rfl) _).setCell (p := ⟨gm, 3, none⟩) (.inl rfl) _).setCell (p := ⟨gm, 4, none⟩) (.inl rfl) _).setCell (p := ⟨gm, 5, none⟩) (.inl rfl) _
end Go.Proofs.Ytkfimfhkmgcnlaa.Gate
