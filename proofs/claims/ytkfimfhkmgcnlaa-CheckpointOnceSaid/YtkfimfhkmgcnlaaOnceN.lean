/- CheckpointOnce: the walk, whatever the input. -/
import Derived.Test.YtkfimfhkmgcnlaaOnceM
namespace Go.Proofs.Ytkfimfhkmgcnlaa.OnceL
set_option linter.unusedVariables false
set_option linter.unusedSimpArgs false
open Go Go.RowKit Go.Proofs.Ytkfimfhkmgcnlaa.B Go.Proofs.Ytkfimfhkmgcnlaa.Gate Go.Proofs.Ytkfimfhkmgcnlaa.OnceW Go.Proofs.Ytkfimfhkmgcnlaa.OnceP

set_option maxHeartbeats 4000000 in
set_option maxRecDepth 100000 in
theorem bads (n kind : Int) (n0 n1 : Nat) (A0 A1 : Option Addr) (c0 c1 : Nat) (w : World) (hb : ¬ (1 ≤ n ∧ n ≤ 6 ∧ (kind = 0 ∨ kind = 1) ∧ n1 ≤ 100 ∧ (n0 : Int) = n)) :
    Calls Try.prog 3 #[.int .i64 n, .int .i64 kind, .slice A0 n0 c0, .slice A1 n1 c1] w fun e w' => e = .returned (.bool true) ∧ Chg (fun _ => False) w w' := by
  have HB := Lib.hid hb; clear hb
  go_enter Try.func3, Try.ntmps3
  go_wp2_with fail
  refine (small _).mono ?_
  rintro e w1 ⟨rfl, C1⟩
  have D1 := Lib.hid C1; clear C1
  go_wp2_with fail
  all_goals first
    | (go_ret; exact ⟨rfl, D1.out⟩)
    | (exfalso; have := HB.out; simp_all; done)
    | (exfalso; have := HB.out; simp_all; omega)
theorem walk (n kind : Int) (bs ls : List Int) (A0 A1 : Option Addr) (c0 c1 : Nat) (w : World) (rb : ReadsI w A0 bs) (rl : ReadsI w A1 ls) :
    Calls Try.prog 3 #[.int .i64 n, .int .i64 kind, .slice A0 bs.length c0, .slice A1 ls.length c1] w fun e w' => e = .returned (.bool true) ∧ Chg (fun _ => False) w w' := by
  by_cases h : 1 ≤ n ∧ n ≤ 6 ∧ (kind = 0 ∨ kind = 1) ∧ ls.length ≤ 100 ∧ (bs.length : Int) = n
  · obtain ⟨h1, h2, h3, h4, h5⟩ := h
    subst h5
    rcases h3 with rfl | rfl
    · exact good0 bs.length bs ls A0 A1 c0 c1 w (by omega) (by omega) h4 rfl rb rl
    · exact good1 bs.length bs ls A0 A1 c0 c1 w (by omega) (by omega) h4 rfl rb rl
  · exact bads n kind _ _ A0 A1 c0 c1 w h
end Go.Proofs.Ytkfimfhkmgcnlaa.OnceL
