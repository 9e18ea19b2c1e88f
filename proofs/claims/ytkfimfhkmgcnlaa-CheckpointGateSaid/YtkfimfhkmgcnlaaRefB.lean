/- The reference's Arrive, other ways. -/
import Derived.Test.YtkfimfhkmgcnlaaRefAA
import Derived.Test.YtkfimfhkmgcnlaaRefAB
import Derived.Test.YtkfimfhkmgcnlaaRefAC
namespace Go.Proofs.Ytkfimfhkmgcnlaa.RefG
set_option linter.unusedVariables false
set_option linter.unusedSimpArgs false
set_option linter.unusedSectionVars false
open Go Go.RowKit Go.Proofs.Ytkfimfhkmgcnlaa.B Go.Proofs.Ytkfimfhkmgcnlaa.Gate

set_option maxRecDepth 100000 in
set_option maxHeartbeats 1000000 in
theorem arrive_bad {w : World} {g b n : Nat} {num kind0 : Int} {L : List Int} (h : RefAt w g b n num kind0 L) (i mk nd ni bk mn kind : Int) (A : Option Addr) (dn dc : Nat) (h1 : i < 0 ∨ n ≤ i ∨ kind ≠ 0 ∧ kind ≠ 1) : Calls Try.prog 20 #[.pointer (some ⟨g, 0, none⟩), .int .i64 i, .agg #[.int .i64 mk, .int .i64 nd, .int .i64 ni, .int .i64 bk, .int .i64 mn, .slice A dn dc], .int .i64 kind] w
      (ArrPostR w g b n num kind0 L i mk mn kind) := by
  have hC : arrC n num kind0 L i mk mn kind = -1 := by unfold arrC; grind
  have HC := Lib.hid hC
  clear hC
  have c0 := blk_cell h.1 0
  have hg := h.lt1
  simp only [List.size_toArray, List.getElem?_toArray, List.getElem?_cons_zero] at c0
  have HG := Lib.hid (show ∀ (o : Obj), RefAt (w.alloc o) g b n num kind0 L from fun o => h.kept (S := fun _ => False) ((Chg.refl _ _).alloc o) (fun h => h) (fun h => h))
  clear h
  rcases h1 with h1 | h1 | ⟨h1, h2⟩
  rotate_right
  · have h3 : (kind != 0) = true := by simpa using h1
    have h4 : (kind != 1) = true := by simpa using h2
    clear h1 h2
    go_enter Try.func20, Try.ntmps20
    go_wp2
    all_goals
      go_ret
      exact Or.inl ⟨by rw [HC.out]; decide, ret_int HC.out.symm, HG.out _, (Chg.refl _ _).alloc _⟩
  all_goals
    go_enter Try.func20, Try.ntmps20
    go_wp2
    all_goals
      go_ret
      exact Or.inl ⟨by rw [HC.out]; decide, ret_int HC.out.symm, HG.out _, (Chg.refl _ _).alloc _⟩

theorem arrive {w : World} {g b n : Nat} {num kind0 : Int} {L : List Int} (h : RefAt w g b n num kind0 L) (hn6 : n ≤ 6) (hW : Well n L) (hnum : 0 ≤ num) (hk0 : kind0 = 0 ∨ kind0 = 1) (i mk nd ni bk mn kind : Int) (A : Option Addr) (dn dc : Nat) :
    Calls Try.prog 20 #[.pointer (some ⟨g, 0, none⟩), .int .i64 i, .agg #[.int .i64 mk, .int .i64 nd, .int .i64 ni, .int .i64 bk, .int .i64 mn, .slice A dn dc], .int .i64 kind] w
      (ArrPostR w g b n num kind0 L i mk mn kind) := by
  by_cases hbad : i < 0 ∨ n ≤ i ∨ kind ≠ 0 ∧ kind ≠ 1
  · exact arrive_bad h i mk nd ni bk mn kind A dn dc hbad
  have h1 : 0 ≤ i := by omega
  obtain ⟨i, rfl⟩ := Int.eq_ofNat_of_zero_le h1
  have h2 : i < n := by omega
  have hkd : kind = 0 ∨ kind = 1 := by omega
  by_cases hm : mk = 1 <;> by_cases hb : 0 < num <;> rcases hk0 with hk | hk <;> by_cases hL : (i : Int) ∈ L <;> by_cases hn : mn < 1 <;> by_cases he : mn = num <;> by_cases hq : kind = kind0 <;>
    first
      | exact arrive_0 h hn6 hW hnum i mk nd ni bk mn kind A dn dc hkd h2 hb hm
      | exact arrive_1 h hn6 hW hnum i mk nd ni bk mn kind A dn dc hkd h2 hb hm hn
      | exact arrive_2 h hn6 hW hnum i mk nd ni bk mn kind A dn dc hkd h2 hb hm hn
      | exact arrive_3 h hn6 hW hnum i mk nd ni bk mn kind A dn dc hkd h2 hb hk hL
      | exact arrive_4 h hn6 hW hnum i mk nd ni bk mn kind A dn dc hkd h2 hb hk hL hm
      | exact arrive_5 h hn6 hW hnum i mk nd ni bk mn kind A dn dc hkd h2 hb hk hL hm hn
      | exact arrive_6 h hn6 hW hnum i mk nd ni bk mn kind A dn dc hkd h2 hb hk hL hm hn he
      | exact arrive_7 h hn6 hW hnum i mk nd ni bk mn kind A dn dc hkd h2 hb hk hL hm hn he hq
      | exact arrive_8 h hn6 hW hnum i mk nd ni bk mn kind A dn dc hkd h2 hb hk hL hm hn he hq
      | exact arrive_9 h hn6 hW hnum i mk nd ni bk mn kind A dn dc hkd h2 hb hk hL hm
      | exact arrive_10 h hn6 hW hnum i mk nd ni bk mn kind A dn dc hkd h2 hb hk hL hm
      | exact arrive_11 h hn6 hW hnum i mk nd ni bk mn kind A dn dc hkd h2 hb hk hm hn
      | exact arrive_12 h hn6 hW hnum i mk nd ni bk mn kind A dn dc hkd h2 hb hk hm hn he
      | exact arrive_13 h hn6 hW hnum i mk nd ni bk mn kind A dn dc hkd h2 hb hk hm hn he hq
      | exact arrive_14 h hn6 hW hnum i mk nd ni bk mn kind A dn dc hkd h2 hb hk hm hn he hq hL
      | exact arrive_15 h hn6 hW hnum i mk nd ni bk mn kind A dn dc hkd h2 hb hk hm hn he hq hL
end Go.Proofs.Ytkfimfhkmgcnlaa.RefG
