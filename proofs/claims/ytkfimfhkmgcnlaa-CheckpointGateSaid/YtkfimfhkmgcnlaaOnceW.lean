/- CheckpointOnce: the small functions. -/
import Derived.Test.YtkfimfhkmgcnlaaGate3
namespace Go.Proofs.Ytkfimfhkmgcnlaa.OnceW
set_option linter.unusedVariables false
set_option linter.unusedSimpArgs false
open Go Go.RowKit Go.Proofs.Ytkfimfhkmgcnlaa.B Go.Proofs.Ytkfimfhkmgcnlaa.Gate

theorem mark (n : Int) (w : World) : Calls Try.prog 11 #[.int .i64 n] w fun e w' => e = .returned (.agg #[.int .i64 2, .int .i64 0, .int .i64 0, .int .i64 0, .int .i64 n, .slice none 0 0]) ∧ Chg (fun _ => False) w w' := by
  go_enter Try.func11, Try.ntmps11
  go_wp2
  exact bodyPost_ret (v := .agg #[.int .i64 2, .int .i64 0, .int .i64 0, .int .i64 0, .int .i64 n, .slice none 0 0]) (by simp [results, Try.results11, go_sem]) rfl ⟨rfl, (Chg.refl _ _).alloc _⟩

theorem bar (n : Int) (w : World) : Calls Try.prog 12 #[.int .i64 n] w fun e w' => e = .returned (.agg #[.int .i64 1, .int .i64 0, .int .i64 0, .int .i64 0, .int .i64 n, .slice none 0 0]) ∧ Chg (fun _ => False) w w' := by
  go_enter Try.func12, Try.ntmps12
  go_wp2
  exact bodyPost_ret (v := .agg #[.int .i64 1, .int .i64 0, .int .i64 0, .int .i64 0, .int .i64 n, .slice none 0 0]) (by simp [results, Try.results12, go_sem]) rfl ⟨rfl, (Chg.refl _ _).alloc _⟩

theorem tmod_emod (a m : Int) (hm : 0 < m) (hm2 : m ≤ 1000000) : (a.tmod m < 0 → wrap64 (a.tmod m + m) = a % m) ∧ (¬ a.tmod m < 0 → a.tmod m = a % m) := by
  have h := Int.tmod_eq_emod (a := a) (b := m)
  have h1 := Int.emod_nonneg a (show m ≠ 0 by omega)
  have h2 := Int.emod_lt_of_pos a hm
  constructor
  · intro hn
    split at h
    · omega
    · rw [h]; unfold wrap64; omega
  · intro hn
    split at h
    · omega
    · omega
theorem ret_at (tm : Array Value) (d : List Deferred) (i : Nat) (v : Value) (h : tm.getD i undef = v) : Ending.returned (({ tmps := tm, defers := d } : Act).tmps.getD i undef) = .returned v := by rw [← h]
theorem mod (a m : Int) (w : World) (hm : 0 < m) (hm2 : m ≤ 1000000) : Calls Try.prog 10 #[.int .i64 a, .int .i64 m] w fun e w' => e = .returned (.int .i64 (a % m)) ∧ w = w' := by
  have hm0 : (m == 0) = false := by simp; omega
  have h1 : 1 ≤ m := by omega
  have HT := Lib.hid (tmod_emod a m hm hm2)
  by_cases hn : Int.tmod a m < 0
  · go_enter Try.func10, Try.ntmps10
    go_wp2
    go_ret
    exact ⟨ret_int (HT.out.1 hn), rfl⟩
  · go_enter Try.func10, Try.ntmps10
    go_wp2
    go_ret
    exact ⟨ret_int (HT.out.2 (by omega)), rfl⟩

set_option maxHeartbeats 4000000 in
set_option maxRecDepth 100000 in
theorem small (w : World) : Calls Try.prog 8 #[] w fun e w' => e = .returned (.bool true) ∧ Chg (fun _ => False) w w' := by
  go_enter Try.func8, Try.ntmps8
  go_wp2_with fail
  refine (new _ _).mono ?_
  rintro e w1 ⟨g1, b1, rfl, G1, C1, hg1, hb1⟩
  have K1 := Lib.hid G1; have D1 := Lib.hid C1; clear G1 C1
  go_wp2_with fail
  refine (new _ _).mono ?_
  rintro e w2 ⟨g2, b2, rfl, G2, C2, hg2, hb2⟩
  have hT : Two w w2 g1 b1 g2 b2 0 0 0 0 [] [] := by
    have x1 := K1.out.lt1; have x2 := K1.out.lt2; have := D1.out.size
    exact ⟨K1.out.kept C2 (fun h => h) (fun h => h), G2, D1.out.trans C2, by omega, by omega, by omega, by omega, by omega, by omega, by omega, by omega⟩
  have T := Lib.hid hT; clear hT K1 D1 G2 C2 hg1 hb1 hg2 hb2
  go_wp2_with fail
  refine (bar _ _).mono ?_
  rintro e w3 ⟨rfl, C3⟩
  have T1 := Lib.hid (T.out.free C3); clear C3 T
  go_wp2_with fail
  refine (arr_bar T1.out.G1 _ _ _ _ _ _ _ _ _ 3 1 [0] (by decide) (by decide) (by decide) (by decide)).mono ?_
  rintro e w4 ⟨b', rfl, G, C, hb⟩
  have T := Lib.hid (T1.out.one G C hb); clear T1 G C hb
  go_wp2_with fail
  refine (mark _ _).mono ?_
  rintro e w3 ⟨rfl, C3⟩
  have T1 := Lib.hid (T.out.free C3); clear C3 T
  go_wp2_with fail
  refine (arr_msg T1.out.G1 _ _ _ _ _ _ _ _ _ _ 0 (by decide) (by decide)).mono ?_
  rintro e w4 ⟨rfl, G, C⟩
  have T := Lib.hid (T1.out.one G C (.inl rfl)); clear T1 G C
  go_wp2_with fail
  refine (mark _ _).mono ?_
  rintro e w3 ⟨rfl, C3⟩
  have T1 := Lib.hid (T.out.free C3); clear C3 T
  go_wp2_with fail
  refine (arr_msg T1.out.G1 _ _ _ _ _ _ _ _ _ _ 1 (by decide) (by decide)).mono ?_
  rintro e w4 ⟨rfl, G, C⟩
  have T := Lib.hid (T1.out.one G C (.inl rfl)); clear T1 G C
  go_wp2_with fail
  refine (bar _ _).mono ?_
  rintro e w3 ⟨rfl, C3⟩
  have T1 := Lib.hid (T.out.free C3); clear C3 T
  go_wp2_with fail
  refine (arr_bar T1.out.G1 _ _ _ _ _ _ _ _ _ 4 0 [] (by decide) (by decide) (by decide) (by decide)).mono ?_
  rintro e w4 ⟨b', rfl, G, C, hb⟩
  have T := Lib.hid (T1.out.one G C hb); clear T1 G C hb
  go_wp2_with fail
  refine (bar _ _).mono ?_
  rintro e w3 ⟨rfl, C3⟩
  have T1 := Lib.hid (T.out.free C3); clear C3 T
  go_wp2_with fail
  refine (arr_bar T1.out.G2 _ _ _ _ _ _ _ _ _ 4 1 [0] (by decide) (by decide) (by decide) (by decide)).mono ?_
  rintro e w4 ⟨b', rfl, G, C, hb⟩
  have T := Lib.hid (T1.out.two G C hb); clear T1 G C hb
  go_wp2_with fail
  refine (mark _ _).mono ?_
  rintro e w3 ⟨rfl, C3⟩
  have T1 := Lib.hid (T.out.free C3); clear C3 T
  go_wp2_with fail
  refine (arr_msg T1.out.G2 _ _ _ _ _ _ _ _ _ _ 1 (by decide) (by decide)).mono ?_
  rintro e w4 ⟨rfl, G, C⟩
  have T := Lib.hid (T1.out.two G C (.inl rfl)); clear T1 G C
  go_wp2_with fail
  refine (mark _ _).mono ?_
  rintro e w3 ⟨rfl, C3⟩
  have T1 := Lib.hid (T.out.free C3); clear C3 T
  go_wp2_with fail
  refine (arr_msg T1.out.G2 _ _ _ _ _ _ _ _ _ _ 2 (by decide) (by decide)).mono ?_
  rintro e w4 ⟨rfl, G, C⟩
  have T := Lib.hid (T1.out.two G C (.inl rfl)); clear T1 G C
  go_wp2_with fail
  refine (bar _ _).mono ?_
  rintro e w3 ⟨rfl, C3⟩
  have T1 := Lib.hid (T.out.free C3); clear C3 T
  go_wp2_with fail
  refine (arr_bar T1.out.G2 _ _ _ _ _ _ _ _ _ 3 0 [] (by decide) (by decide) (by decide) (by decide)).mono ?_
  rintro e w4 ⟨b', rfl, G, C, hb⟩
  have T := Lib.hid (T1.out.two G C hb); clear T1 G C hb
  go_wp2_with fail
  refine (busyT T.out.G1 false (by decide)).mono ?_
  rintro e w5 ⟨rfl, rfl⟩
  go_wp2_with fail
  refine (busyT T.out.G2 false (by decide)).mono ?_
  rintro e w5 ⟨rfl, rfl⟩
  go_wp2_with fail
  go_ret
  exact ⟨rfl, T.out.C⟩
end Go.Proofs.Ytkfimfhkmgcnlaa.OnceW
